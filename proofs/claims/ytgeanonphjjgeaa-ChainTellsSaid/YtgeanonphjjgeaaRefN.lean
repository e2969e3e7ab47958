/-
  THE WALKS of the reference's Newest, Walk and Value. Conditions: as the theorems' premises say.
-/
import Derived.Test.YtgeanonphjjgeaaRefF
namespace Go.Proofs.Ytgeanonphjjgeaa
open Go.RowKit

theorem findN_pre (sN : Int) (l : List Lk) (r : List (Lk × Bool)) : findN sN (l.map (fun x => (x, true)) ++ r) = match l.find? (fun y => decide (y.seq ≤ sN)) with | some y => (y, 0) | none => findN sN r := by
  induction l with
  | nil => rfl
  | cons y l ih =>
    simp only [List.map_cons, List.cons_append, findN, if_true, List.find?_cons]
    by_cases h : y.seq ≤ sN
    · simp [h]
    · simp [h, ih]
theorem walkN_neg (most : Int) (hm : most < 0) (r : List (Lk × Bool)) : ∀ (l acc : List Lk), walkN most (l.map (fun x => (x, true)) ++ r) acc = walkN most r (acc ++ l) := by
  intro l
  induction l with
  | nil => intro acc; simp
  | cons y l ih =>
    intro acc
    simp only [List.map_cons, List.cons_append, walkN, if_true]
    rw [if_neg (by omega), ih]
    simp
theorem walkN_pos (most : Nat) (r : List (Lk × Bool)) : ∀ (l acc : List Lk), acc.length < most → walkN (most : Int) (l.map (fun x => (x, true)) ++ r) acc = if most ≤ acc.length + l.length then ((acc ++ l).take most, 0) else walkN most r (acc ++ l) := by
  intro l
  induction l with
  | nil =>
    intro acc h
    rw [if_neg (by simp; omega)]
    simp
  | cons y l ih =>
    intro acc h
    simp only [List.map_cons, List.cons_append, walkN, if_true]
    by_cases he : acc.length + 1 = most
    · rw [if_pos (by simp; omega), if_pos (by simp; omega)]
      have e : acc ++ y :: l = (acc ++ [y]) ++ l := by simp
      rw [e, List.take_append_of_le_length (by simp; omega), List.take_of_length_le (by simp; omega)]
    · rw [if_neg (by simp; omega), ih _ (by simp; omega)]
      have e : (acc ++ [y]).length + l.length = acc.length + (y :: l).length := by simp; omega
      rw [e]
      simp
/-- a row cut short -/
theorem own_short {w : World} {base : Nat} {e : TypeId} {size n k c : Nat} {A : Option Addr} {xs : List Value} (h : w.ownsRow base e size (.slice A n c) n xs) (hk : k ≤ n) : w.ownsRow base e size (.slice A k c) k (xs.take (k * size)) := by
  have hks : k * size ≤ n * size := Nat.mul_le_mul_right _ hk
  refine ⟨by rw [List.length_take, h.1]; omega, ?_⟩
  rcases h.2 with ⟨hv, rfl⟩ | ⟨g, cap, cur, hv, hb, hh, hnc, hm, hs, ht⟩
  · cases hv
    exact .inl ⟨by rw [show k = 0 by omega], by omega⟩
  · cases hv
    exact .inr ⟨g, _, cur, rfl, hb, hh, by omega, hm, hs, by rw [← ht, List.take_take]; congr 1; omega⟩
theorem walkCells_take (l : List Lk) (k : Nat) : (walkCells l).take (k * 8) = walkCells (l.take k) := by
  induction l generalizing k with
  | nil => simp
  | cons y l ih =>
    cases k with
    | zero => simp
    | succ k =>
      have hy : y.cs.length = 8 := rfl
      simp only [walkCells, List.flatMap_cons, List.take_succ_cons] at ih ⊢
      rw [List.take_append, List.take_of_length_le (by omega), hy, show (k + 1) * 8 - 8 = k * 8 by omega, ih]
theorem own_cap {w : World} {base : Nat} {e : TypeId} {size n c : Nat} {A : Option Addr} {xs : List Value} (h : w.ownsRow base e size (.slice A n c) n xs) : n ≤ c ∧ c ≤ maxLen := by
  rcases h.2 with ⟨hv, rfl⟩ | ⟨g, cap, cur, hv, hb, hh, hnc, hm, hs, ht⟩
  · cases hv; exact ⟨Nat.le_refl _, Nat.zero_le _⟩
  · cases hv; exact ⟨hnc, hm⟩
/-- the cells of a row's k-th link -/
theorem cells_at {w : World} {B : Nat} {A : Option Addr} {xs : List Lk} (h : Reads w B 8 A xs.length (walkCells xs)) {k : Nat} (hk : k < xs.length) :
    ∃ ad x, A = some ad ∧ ad.block < B ∧ xs[k]? = some x ∧ x ∈ xs ∧
      w.cell? (ad.add (k * 8)) = some (.int .u32 x.seg) ∧ w.cell? ⟨(ad.add (k * 8)).block, (ad.add (k * 8)).off + 1, none⟩ = some (.int .u32 x.off) ∧
      w.cell? ⟨(ad.add (k * 8)).block, (ad.add (k * 8)).off + 2, none⟩ = some (.int .u64 x.seq) ∧ w.cell? ⟨(ad.add (k * 8)).block, (ad.add (k * 8)).off + 3, none⟩ = some (.int .i64 x.kind) ∧
      w.cell? ⟨(ad.add (k * 8)).block, (ad.add (k * 8)).off + 4, none⟩ = some (.slice x.kA x.kn x.kc) ∧ w.cell? ⟨(ad.add (k * 8)).block, (ad.add (k * 8)).off + 5, none⟩ = some (.slice x.vA x.vn x.vc) ∧
      w.cell? ⟨(ad.add (k * 8)).block, (ad.add (k * 8)).off + 6, none⟩ = some (.int .u32 x.ps) ∧ w.cell? ⟨(ad.add (k * 8)).block, (ad.add (k * 8)).off + 7, none⟩ = some (.int .u32 x.po) := by
  obtain ⟨ad, rfl, hb, hc⟩ := h.addr (by rw [h.1]; omega)
  have hx : xs[k]? = some xs[k] := List.getElem?_eq_getElem hk
  have key : ∀ j, j < 8 → ∀ u, (xs[k]).cs[j]? = some u → w.cell? ((ad.add (k * 8)).add j) = some u := by
    intro j hj u hu
    rw [add_add_]
    exact hc _ u (by rw [show walkCells xs = xs.flatMap Lk.cs from rfl, flat_at hx j hj]; exact hu)
  have far : ∀ j, 0 < j → (ad.add (k * 8)).add j = ⟨(ad.add (k * 8)).block, (ad.add (k * 8)).off + j, none⟩ := by
    intro j hj
    generalize ad.add (k * 8) = a
    unfold Addr.add
    rw [if_neg (by omega)]
  refine ⟨ad, xs[k], rfl, hb, hx, List.getElem_mem hk, ?_, ?_, ?_, ?_, ?_, ?_, ?_, ?_⟩
  · have := key 0 (by omega) _ rfl
    simpa [Addr.add] using this
  all_goals first
    | (have := key 1 (by omega) _ rfl; rw [far 1 (by omega)] at this; exact this)
    | (have := key 2 (by omega) _ rfl; rw [far 2 (by omega)] at this; exact this)
    | (have := key 3 (by omega) _ rfl; rw [far 3 (by omega)] at this; exact this)
    | (have := key 4 (by omega) _ rfl; rw [far 4 (by omega)] at this; exact this)
    | (have := key 5 (by omega) _ rfl; rw [far 5 (by omega)] at this; exact this)
    | (have := key 6 (by omega) _ rfl; rw [far 6 (by omega)] at this; exact this)
    | (have := key 7 (by omega) _ rfl; rw [far 7 (by omega)] at this; exact this)

theorem newestOf {xs : List Lk} {kb : List UInt8} {s o sN : Int} {l : List Lk} {b : Bool} (hm : mayKeyB kb.length = true)
    (h : (b = false ∧ chainL xs kb s o 1099511627777 = l.map (fun x => (x, true))) ∨ (b = true ∧ ∃ z, chainL xs kb s o 1099511627777 = l.map (fun x => (x, true)) ++ [(z, false)])) :
    newestRes xs s o kb sN = match l.find? (fun y => decide (y.seq ≤ sN)) with | some y => (y, 0) | none => (Lk.zero, if b then 36 else 6) := by
  unfold newestRes
  rw [if_pos hm]
  rcases h with ⟨rfl, h⟩ | ⟨rfl, z, h⟩
  · have := findN_pre sN l []
    rw [List.append_nil] at this
    rw [h, this]
    rfl
  · rw [h, findN_pre]
    rfl
theorem walkOf {xs : List Lk} {kb : List UInt8} {s o most : Int} {l : List Lk} {b : Bool} (hm : mayKeyB kb.length = true)
    (h : (b = false ∧ chainL xs kb s o 1099511627777 = l.map (fun x => (x, true))) ∨ (b = true ∧ ∃ z, chainL xs kb s o 1099511627777 = l.map (fun x => (x, true)) ++ [(z, false)])) :
    walkRes xs s o kb most = if 0 ≤ most ∧ most ≤ (l.length : Int) then (l.take most.toNat, 0) else if b then ([], 36) else (l, 0) := by
  unfold walkRes
  rw [if_pos hm]
  by_cases h0 : most = 0
  · subst h0
    rw [if_pos rfl, if_pos (by omega)]
    rfl
  · rw [if_neg h0]
    obtain ⟨r, hr, hb⟩ : ∃ r, chainL xs kb s o 1099511627777 = l.map (fun x => (x, true)) ++ r ∧ walkN most r l = if b then ([], 36) else (l, 0) := by
      rcases h with ⟨rfl, h⟩ | ⟨rfl, z, h⟩
      · exact ⟨[], by rw [h, List.append_nil], rfl⟩
      · exact ⟨_, h, rfl⟩
    rw [hr]
    by_cases hn : most < 0
    · rw [walkN_neg most hn, if_neg (by omega)]
      exact hb
    · obtain ⟨m, rfl⟩ : ∃ m : Nat, (m : Int) = most := ⟨most.toNat, by omega⟩
      rw [walkN_pos m r l [] (by simp; omega)]
      by_cases hl : m ≤ l.length
      · rw [if_pos (by simpa using hl), if_pos (by omega)]
        simp
      · rw [if_neg (by simpa using hl), if_neg (by omega)]
        simpa using hb

set_option maxHeartbeats 400000 in
theorem refNewest_any (s o sN : Int) (A kA : Option Addr) (xs : List Lk) (B c kn kc : Nat) (kb : List UInt8) (hx : xs.length ≤ 1000000) (w : World) (hB : B ≤ w.heap.size) (hr : RowAt w B A xs) (hkb : Bs w B kA kn kb) (hu : ∀ x ∈ xs, 0 ≤ x.seq) (hn : kn ≤ 9223372036854775807) :
    Calls Try.prog 9 #[.slice A xs.length c, .agg #[.int .u32 s, .int .u32 o], .slice kA kn kc, .int .u64 sN] w fun e w' =>
      e = .returned (.tuple #[linkV (newestRes xs s o kb sN).1, .int .i64 (newestRes xs s o kb sN).2]) ∧ Below w.heap.size w w' := by
  have hl := hkb.len
  cases hk : mayKeyB kn with
  | false =>
    have HK := hide hk
    have hres : newestRes xs s o kb sN = (Lk.zero, 30) := by unfold newestRes; rw [hl, if_neg (by simp [hk])]
    rw [hres]
    clear hk hres
    go_enter Try.func9, Try.ntmps9
    go_wp2_with fail
    refine (refMayKey_any kA kn kc _ hn).mono ?_
    rintro e w1 ⟨rfl, rfl⟩
    rw [unhide HK]
    go_wp2_with fail
    refine bodyPost_ret (results_row_tmp (ty := 36) rfl _ _ (w.heap.size + 1) 36 _ _ rfl (Blk.new1 w 36 _ _) Try.underlying36 rfl (by kernel_rfl)) rfl ⟨rfl, bel2 w _ _⟩
  | true =>
    have HK := hide hk
    have hk2 : mayKeyB kb.length = true := by rw [hl]; exact hk
    have HK2 := hide hk2
    clear hk hk2
    go_enter Try.func9, Try.ntmps9
    go_wp2_with fail
    refine (refMayKey_any kA kn kc _ hn).mono ?_
    rintro e w1 ⟨rfl, rfl⟩
    rw [unhide HK]
    go_wp2_with fail
    have b2 := bel2 w (.cells #[.int .u32 s, .int .u32 o] 27) (.cells #[.int .u32 0, .int .u32 0, .int .u64 0, .int .i64 0, .slice none 0 0, .slice none 0 0, .int .u32 0, .int .u32 0] 36)
    refine (refLinks_any s o A kA xs B c kn kc kb hx _ (by have := b2.size; omega) (hr.below (b2.mono hB)) (hkb.below (b2.mono hB)) hu).mono ?_
    rintro e w1 ⟨v, l, b, rfl, hown, hb1, hlen, hch⟩
    have hres := newestOf (sN := sN) HK2.out hch
    obtain ⟨A1, cap, rfl⟩ := own_slice hown
    have hrd : Reads w1 w1.heap.size 8 A1 l.length (walkCells l) := Reads.of_own hown
    have BR : Blk w1 (w.heap.size + 1) 36 #[.int .u32 0, .int .u32 0, .int .u64 0, .int .i64 0, .slice none 0 0, .slice none 0 0, .int .u32 0, .int .u32 0] := (Blk.new1 w 36 _ _).below hb1 (by simp)
    have bA := belFrom b2 hb1
    have HRES := hide hres
    clear hres hch hb1 b2 hown
    obtain ⟨c1, f1, s1⟩ := BR.facts
    go_wp2_with fail
    go_loop [12] (fun i => ∃ k : Nat, k ≤ l.length ∧ i = .int .i64 k ∧ Hid ((l.take k).find? (fun y => decide (y.seq ≤ sN)) = none)) (fun i => l.length - (intOf i).toNat)
    case atStart => exact ⟨0, Nat.zero_le _, rfl, by simp [Hid]⟩
    case round =>
      obtain ⟨k, hk, rfl, hf⟩ := hrel
      by_cases hlt : k < l.length
      · obtain ⟨ad, x, rfl, hbk, hxk, hm, h0, h1, h2, h3, h4, h5, h6, h7⟩ := cells_at hrd hlt
        have HX := hide hxk
        clear hxk
        cases hs : decide (x.seq ≤ sN) with
        | true =>
          have hfind := find_hit (p := fun y => decide (y.seq ≤ sN)) hf.out HX.out hs
          have HF := hide hfind
          clear hfind
          go_wp2_with fail
          refine bodyPost_ret (results_row_tmp (ty := 36) rfl _ _ (w.heap.size + 1) 36 _ _ rfl (BR.set8 _ _ _ _ _ _ _ _) Try.underlying36 rfl (by kernel_rfl)) rfl ⟨?_, bset8 bA (by omega) _ _ _ _ _ _ _ _⟩
          rw [HRES.out, HF.out]
          rfl
        | false =>
          have hmiss := find_miss (p := fun y => decide (y.seq ≤ sN)) hf.out HX.out hs
          have HM := hide hmiss
          clear hmiss
          go_wp2_with fail
          go_round
          case rel => exact ⟨k + 1, by omega, by go_num, HM.out⟩
          case measure => simp [intOf]; omega
      · have hfind : l.find? (fun y => decide (y.seq ≤ sN)) = none := by
          have := hf.out
          rw [List.take_of_length_le (by omega)] at this
          exact this
        have HF := hide hfind
        clear hfind
        cases b with
        | true =>
          go_wp2_with fail
          refine bodyPost_ret (results_row_tmp (ty := 36) rfl _ _ (w.heap.size + 1) 36 _ _ rfl (BR.set8 _ _ _ _ _ _ _ _) Try.underlying36 rfl (by kernel_rfl)) rfl ⟨?_, bset8 bA (by omega) _ _ _ _ _ _ _ _⟩
          rw [HRES.out, HF.out]
          rfl
        | false =>
          go_wp2_with fail
          refine bodyPost_ret (results_row_tmp (ty := 36) rfl _ _ (w.heap.size + 1) 36 _ _ rfl (BR.set8 _ _ _ _ _ _ _ _) Try.underlying36 rfl (by kernel_rfl)) rfl ⟨?_, bset8 bA (by omega) _ _ _ _ _ _ _ _⟩
          rw [HRES.out, HF.out]
          rfl

/-- what the reference's Walk hands back -/
def refWalkPost (w : World) (y : List Lk × Int) (e : Ending) (w' : World) : Prop := ∃ v, e = .returned (.tuple #[v, .int .i64 y.2]) ∧ w'.ownsRow w.heap.size 36 8 v y.1.length (walkCells y.1) ∧ Below w.heap.size w w'

set_option maxHeartbeats 400000 in
theorem refWalk_any (s o most : Int) (A kA : Option Addr) (xs : List Lk) (B c kn kc : Nat) (kb : List UInt8) (hx : xs.length ≤ 1000000) (w : World) (hB : B ≤ w.heap.size) (hr : RowAt w B A xs) (hkb : Bs w B kA kn kb) (hu : ∀ x ∈ xs, 0 ≤ x.seq) (hn : kn ≤ 9223372036854775807) :
    Calls Try.prog 11 #[.slice A xs.length c, .agg #[.int .u32 s, .int .u32 o], .slice kA kn kc, .int .i64 most] w (refWalkPost w (walkRes xs s o kb most)) := by
  have hl := hkb.len
  cases hk : mayKeyB kn with
  | false =>
    have HK := hide hk
    have hres : walkRes xs s o kb most = ([], 30) := by unfold walkRes; rw [hl, if_neg (by simp [hk])]
    rw [hres]
    clear hk hres
    go_enter Try.func11, Try.ntmps11
    go_wp2_with fail
    refine (refMayKey_any kA kn kc _ hn).mono ?_
    rintro e w1 ⟨rfl, rfl⟩
    rw [unhide HK]
    go_wp2_with fail
    go_ret2
    exact ⟨_, rfl, ⟨rfl, .inl ⟨rfl, rfl⟩⟩, bel1 w _⟩
  | true =>
    have HK := hide hk
    have hk2 : mayKeyB kb.length = true := by rw [hl]; exact hk
    have HK2 := hide hk2
    clear hk hk2
    go_enter Try.func11, Try.ntmps11
    go_wp2_with fail
    refine (refMayKey_any kA kn kc _ hn).mono ?_
    rintro e w1 ⟨rfl, rfl⟩
    rw [unhide HK]
    go_wp2_with fail
    have b2 := bel1 w (.cells #[.int .u32 s, .int .u32 o] 27)
    refine (refLinks_any s o A kA xs B c kn kc kb hx _ (by have := b2.size; omega) (hr.below (b2.mono hB)) (hkb.below (b2.mono hB)) hu).mono ?_
    rintro e w1 ⟨v, l, b, rfl, hown, hb1, hlen, hch⟩
    have hres := walkOf (most := most) HK2.out hch
    obtain ⟨A1, cap, rfl⟩ := own_slice hown
    obtain ⟨hcap1, hcap2⟩ := own_cap hown
    have bA := belFrom b2 hb1
    have HOWN := hide (own_mono hown (base' := w.heap.size) (by simp))
    have HRES := hide hres
    obtain ⟨n, hnl⟩ : ∃ n, n = l.length := ⟨_, rfl⟩
    have HNL := hide hnl
    rw [← hnl] at hcap1 hlen ⊢
    unfold maxLen at hcap2
    clear hres hch hb1 b2 hown hnl
    by_cases hm : 0 ≤ most ∧ most ≤ (n : Int)
    · obtain ⟨m, rfl⟩ : ∃ m : Nat, (m : Int) = most := ⟨most.toNat, by omega⟩
      obtain ⟨hm0, hmn⟩ := hm
      have hg1 : m ≤ n := by omega
      have hg2 : m ≤ cap := by omega
      go_wp2_with fail
      go_ret2
      refine ⟨.slice A1 m cap, ?_, ?_, bA⟩
      · rw [HRES.out, if_pos (by rw [← HNL.out]; omega)]
        rfl
      · rw [HRES.out, if_pos (by rw [← HNL.out]; omega)]
        have := own_short (k := m) HOWN.out (by rw [← HNL.out]; exact hg1)
        rw [walkCells_take] at this
        simpa [Nat.min_eq_left, ← HNL.out, hg1] using this
    · have hres2 : walkRes xs s o kb most = if b then ([], 36) else (l, 0) := by
        rw [HRES.out, if_neg (by rw [← HNL.out]; exact hm)]
      have HR2 := hide hres2
      clear hres2 HRES
      by_cases h0 : 0 ≤ most
      · have hlt : (n : Int) < most := by omega
        cases b with
        | true =>
          go_wp2_with fail
          go_ret2
          refine ⟨_, by rw [HR2.out]; rfl, by rw [HR2.out]; exact ⟨rfl, .inl ⟨rfl, rfl⟩⟩, bA⟩
        | false =>
          go_wp2_with fail
          go_ret2
          refine ⟨_, by rw [HR2.out]; rfl, by rw [HR2.out]; rw [HNL.out]; exact HOWN.out, bA⟩
      · have hlt : most < 0 := by omega
        cases b with
        | true =>
          go_wp2_with fail
          go_ret2
          refine ⟨_, by rw [HR2.out]; rfl, by rw [HR2.out]; exact ⟨rfl, .inl ⟨rfl, rfl⟩⟩, bA⟩
        | false =>
          go_wp2_with fail
          go_ret2
          refine ⟨_, by rw [HR2.out]; rfl, by rw [HR2.out]; rw [HNL.out]; exact HOWN.out, bA⟩

set_option maxHeartbeats 400000 in
theorem refValue_any (s o sN : Int) (A kA : Option Addr) (xs : List Lk) (B c kn kc : Nat) (kb : List UInt8) (hx : xs.length ≤ 1000000) (w : World) (hB : B ≤ w.heap.size) (hr : RowAt w B A xs) (hkb : Bs w B kA kn kb) (hu : ∀ x ∈ xs, 0 ≤ x.seq) (hn : kn ≤ 9223372036854775807) :
    Calls Try.prog 13 #[.slice A xs.length c, .agg #[.int .u32 s, .int .u32 o], .slice kA kn kc, .int .u64 sN] w fun e w' =>
      ∃ A' n' c', e = .returned (.tuple #[.slice A' n' c', .int .i64 (valueRes xs s o kb sN).2]) ∧ Bs w' B A' n' (valueRes xs s o kb sN).1 ∧ Below w.heap.size w w' := by
  have hfin : Hid (valueRes xs s o kb sN = if (newestRes xs s o kb sN).2 = 0 then (if (newestRes xs s o kb sN).1.kind = 2 then ([], 6) else ((newestRes xs s o kb sN).1.vb, 0)) else ([], (newestRes xs s o kb sN).2)) := rfl
  have hmem := newestRes_mem (xs := xs) (s := s) (o := o) (kb := kb) (sN := sN)
  have hcon := refNewest_any s o sN A kA xs B c kn kc kb hx (w.alloc (.cells #[.int .u32 s, .int .u32 o] 27)) (by simp; omega) (hr.below ((bel1 w _).mono hB)) (hkb.below ((bel1 w _).mono hB)) hu hn
  generalize newestRes xs s o kb sN = y at *
  obtain ⟨x, er⟩ := y
  have Hcon := hide hcon
  have Hmem := hide hmem
  clear hcon hmem
  by_cases he : er = 0
  · subst he
    have hx' := (unhide Hmem) rfl
    by_cases hk : x.kind = 2
    · have HK := hide hk
      have hkb2 : (x.kind == 2) = true := by simpa using hk
      clear hk
      go_enter Try.func13, Try.ntmps13
      go_wp2_with fail
      refine (unhide Hcon).mono ?_
      rintro e w1 ⟨rfl, hb⟩
      simp only [linkV, Lk.cs]
      go_wp2_with fail
      go_ret2
      refine ⟨none, 0, 0, ?_, ?_, balloc (belFrom (bel1 w _) hb) _⟩
      · rw [hfin.out]; simp [unhide HK]
      · rw [hfin.out]; simp [unhide HK]; exact Reads.none_
    · have HK := hide hk
      have hkb2 : (x.kind == 2) = false := by simpa using hk
      clear hk
      go_enter Try.func13, Try.ntmps13
      go_wp2_with fail
      refine (unhide Hcon).mono ?_
      rintro e w1 ⟨rfl, hb⟩
      simp only [linkV, Lk.cs]
      have hbw := belFrom (bel1 w _) hb
      have hval := ((hr.vals x hx').below (hbw.mono hB))
      go_wp2_with fail
      go_ret2
      refine ⟨x.vA, x.vn, x.vc, ?_, ?_, balloc hbw _⟩
      · rw [hfin.out]; simp [unhide HK]
      · rw [hfin.out]; simp [unhide HK]; exact hval.alloc (by have := hbw.size; omega) _
  · have HE := hide he
    have he2 : (er != 0) = true := by simpa using he
    clear he
    go_enter Try.func13, Try.ntmps13
    go_wp2_with fail
    refine (unhide Hcon).mono ?_
    rintro e w1 ⟨rfl, hb⟩
    simp only [linkV, Lk.cs]
    go_wp2_with fail
    go_ret2
    refine ⟨none, 0, 0, ?_, ?_, balloc (belFrom (bel1 w _) hb) _⟩
    · rw [hfin.out]; simp [unhide HE]
    · rw [hfin.out]; simp [unhide HE]; exact Reads.none_
end Go.Proofs.Ytgeanonphjjgeaa
