/-
  THE WALK of ChainRounds: chains that lead round end.
-/
import Derived.Test.YtgeanonphjjgeaaWakes
import Derived.StillTailTactics
namespace Go.Proofs.Ytgeanonphjjgeaa
open Go.RowKit Go.Shelf

/-- no chain of a row in which every link leads on comes to its end -/
theorem chain_breaks {xs : List Lk} {kb : List UInt8} (hp : ∀ x ∈ xs, noneB x.ps x.po = false) : ∀ (f : Nat) (s o below : Int), below.toNat < f → noneB s o = false →
    ∃ pre x, chainL xs kb s o below = pre ++ [(x, false)] ∧ ∀ y ∈ pre, y.2 = true ∧ y.1 ∈ xs ∧ 1 ≤ y.1.seq := by
  intro f
  induction f with
  | zero => intro s o below h; omega
  | succ f ih =>
    intro s o below hb hn
    rw [chainL_cons hn]
    cases h2 : (linkRes xs s o kb below).2 with
    | false =>
      refine ⟨[], (linkRes xs s o kb below).1, ?_, fun y hy => by cases hy⟩
      simp only [Bool.false_eq_true, if_false, List.nil_append]
      rw [← h2]
    | true =>
      have hm := linkRes_mem h2
      have hs := linkRes_seq h2
      obtain ⟨pre, x, he, hall⟩ := ih (linkRes xs s o kb below).1.ps (linkRes xs s o kb below).1.po (linkRes xs s o kb below).1.seq (by omega) (hp _ hm)
      refine ⟨linkRes xs s o kb below :: pre, x, by simp only [if_true, he, List.cons_append], fun y hy => ?_⟩
      rcases List.mem_cons.1 hy with rfl | hy
      · exact ⟨h2, hm, hs.1⟩
      · exact hall y hy
theorem findN_zero {pre : List (Lk × Bool)} {x : Lk} (h : ∀ y ∈ pre, y.2 = true ∧ 1 ≤ y.1.seq) : findN 0 (pre ++ [(x, false)]) = (Lk.zero, 36) := by
  induction pre with
  | nil => rfl
  | cons y pre ih =>
    obtain ⟨y, b⟩ := y
    have hy := h _ (List.mem_cons_self ..)
    simp only at hy
    rw [List.cons_append, findN, if_pos hy.1, if_neg (by omega)]
    exact ih (fun z hz => h z (List.mem_cons_of_mem _ hz))
theorem walkN_all {pre : List (Lk × Bool)} {x : Lk} (h : ∀ y ∈ pre, y.2 = true) : ∀ acc, walkN (-1) (pre ++ [(x, false)]) acc = ([], 36) := by
  induction pre with
  | nil => intro acc; rfl
  | cons y pre ih =>
    intro acc
    obtain ⟨y, b⟩ := y
    have hy := h _ (List.mem_cons_self ..)
    simp only at hy
    rw [List.cons_append, walkN, if_pos hy, if_neg (by omega)]
    exact ih (fun z hz => h z (List.mem_cons_of_mem _ hz)) _

/-- the links that ChainRounds lays: numbered locs, each leading to the next -/
structure RndAt (l : List UInt8) (i : Nat) (x : Lk) : Prop where
  seg : x.seg = 1
  off : x.off = 16 + (i : Int)
  seq : 1 ≤ x.seq ∧ x.seq ≤ 30
  kind : x.kind = 1
  kb : x.kb = [107]
  kn : x.kn = 1
  vn : x.vA = none ∧ x.vn = 0 ∧ x.vb = []
  ps : x.ps = 1
def RndOk (l : List UInt8) (xs : List Lk) : Prop := ∀ i x, xs[i]? = some x → RndAt l i x

theorem rnd_first {l : List UInt8} {xs : List Lk} (h : RndOk l xs) {x : Lk} (h0 : xs[0]? = some x) : findAt xs 1 16 = some x := by
  cases xs with
  | nil => simp at h0
  | cons y xs =>
    simp at h0
    subst h0
    have hy := h 0 y rfl
    simp [findAt, atLoc, hy.seg, hy.off]
theorem rnd_none {l : List UInt8} {xs : List Lk} (h : RndOk l xs) : ∀ x ∈ xs, noneB x.ps x.po = false := by
  intro x hx
  obtain ⟨i, hi⟩ := List.mem_iff_getElem?.1 hx
  simp [noneB, (h i x hi).ps]
theorem rnd_0 {l : List UInt8} {xs : List Lk} (h : RndOk l xs) : newestRes xs 1 16 [107] 0 = (Lk.zero, 36) := by
  obtain ⟨pre, x, he, hall⟩ := chain_breaks (kb := [107]) (rnd_none h) _ 1 16 1099511627777 (Nat.lt_succ_self _) (by decide)
  rw [newestRes, if_pos (by decide), he]
  exact findN_zero (fun y hy => ⟨(hall y hy).1, (hall y hy).2.2⟩)
theorem rnd_w {l : List UInt8} {xs : List Lk} (h : RndOk l xs) : walkRes xs 1 16 [107] (-1) = ([], 36) := by
  obtain ⟨pre, x, he, hall⟩ := chain_breaks (kb := [107]) (rnd_none h) _ 1 16 1099511627777 (Nat.lt_succ_self _) (by decide)
  rw [walkRes, if_pos (by decide), if_neg (by omega), he]
  exact walkN_all (fun y hy => (hall y hy).1) _
theorem rnd_m {l : List UInt8} {xs : List Lk} (h : RndOk l xs) {x : Lk} (h0 : xs[0]? = some x) : newestRes xs 1 16 [107] 1099511627776 = (x, 0) := by
  have hx := h 0 x h0
  have hf := rnd_first h h0
  have hs := hx.seq
  rw [newestRes, if_pos (by decide), chainL_cons (by decide)]
  have e : linkRes xs 1 16 [107] 1099511627777 = (x, true) := by
    have hm : mayB 1 16 = true := by decide
    have hh : holdsB [107] 1099511627777 x = true := by
      simp [holdsB, hx.kb, hx.kind]
      omega
    simp [linkRes, hm, hf, hh]
  rw [e]
  simp only [findN, if_true]
  rw [if_pos (by omega)]

theorem flat_set {xs : List Lk} {i : Nat} {x : Lk} (h : xs[i]? = some x) (a b : Int) :
    ((walkCells xs).set (i * 8 + 6) (.int .u32 a)).set (i * 8 + 7) (.int .u32 b) = walkCells (xs.set i { x with ps := a, po := b }) := by
  induction xs generalizing i with
  | nil => simp at h
  | cons y xs ih =>
    cases i with
    | zero =>
      simp at h
      subst h
      simp [walkCells, Lk.cs]
    | succ i =>
      simp at h
      have hi := ih h
      have hl : y.cs.length = 8 := rfl
      have e6 : (i + 1) * 8 + 6 = y.cs.length + (i * 8 + 6) := by omega
      have e7 : (i + 1) * 8 + 7 = y.cs.length + (i * 8 + 7) := by omega
      simp only [walkCells, List.flatMap_cons, List.set_cons_succ] at hi ⊢
      rw [e6, e7, List.set_append_right _ _ (by omega), List.set_append_right _ _ (by omega)]
      simp only [Nat.add_sub_cancel_left]
      rw [hi]

/-- the row of ChainRounds, in whatever world behind -/
structure RnW (w W : World) (g k cap : Nat) (xs : List Lk) : Prop where
  own : W.ownsRow w.heap.size 35 8 (.slice (some ⟨g, 0, none⟩) k cap) k (walkCells xs)
  keys : ∀ x ∈ xs, ∃ g, x.kA = some ⟨g, 0, none⟩ ∧ Mk W g 5 #[.int .u8 107]
  below : Below w.heap.size w W
  len : xs.length = k
theorem RnW.step {w W W' : World} {g k cap : Nat} {xs : List Lk} (h : RnW w W g k cap xs) (hb : Below W.heap.size W W') : RnW w W' g k cap xs := by
  refine ⟨h.own.kept (only_of_below hb none) (.inr (by simp [Value.ownBlock])), fun x hx => ?_, belFrom h.below hb, h.len⟩
  obtain ⟨g', h1, h2⟩ := h.keys x hx
  exact ⟨g', h1, h2.below hb h2.lt⟩
theorem RnW.row {w W : World} {g k cap : Nat} {l : List UInt8} {xs : List Lk} (h : RnW w W g k cap xs) (hok : RndOk l xs) : RowAt W W.heap.size (some ⟨g, 0, none⟩) xs := by
  refine ⟨?_, fun x hx => ?_, fun x hx => ?_⟩
  · have := Reads.of_own h.own
    rw [h.len]
    exact this
  · obtain ⟨i, hi⟩ := List.mem_iff_getElem?.1 hx
    have hx' := hok i x hi
    obtain ⟨g', h1, h2⟩ := h.keys x hx
    rw [h1, hx'.kn, hx'.kb]
    exact (bs_one (b := 107) h2).more (by have := h2.lt; omega)
  · obtain ⟨i, hi⟩ := List.mem_iff_getElem?.1 hx
    have hx' := hok i x hi
    rw [hx'.vn.1, hx'.vn.2.1, hx'.vn.2.2]
    exact Reads.none_
theorem RnW.first {w W : World} {g k cap : Nat} {l : List UInt8} {xs : List Lk} (h : RnW w W g k cap xs) (hok : RndOk l xs) (hk : 0 < k) : W.cell? ⟨g, 0, none⟩ = some (.int .u32 1) ∧ W.cell? ⟨g, 1, none⟩ = some (.int .u32 16) ∧ g < W.heap.size := by
  have hl := h.len
  obtain ⟨x0, hx0⟩ : ∃ x0, xs[0]? = some x0 := ⟨xs[0]'(by omega), List.getElem?_eq_getElem _⟩
  have h0 := hok 0 x0 hx0
  refine ⟨?_, ?_, (own_lt h.own rfl).2⟩
  · rw [h.own.cellAt 0 (by omega)]
    have := flat_at hx0 0 (by omega)
    rw [← h0.seg]; exact this
  · rw [h.own.cellAt 1 (by omega)]
    have := flat_at hx0 1 (by omega)
    have h1 := h0.off
    simp at h1
    rw [← h1]; exact this
theorem RnW.newest {w W : World} {g k cap : Nat} {l : List UInt8} {xs : List Lk} (h : RnW w W g k cap xs) (hok : RndOk l xs) (hk : k ≤ 20) (s o sN : Int) (a : Nat) (ha : W.heap.size = a) :
    Calls Try.prog 8 #[.iface 23 (.slice (some ⟨g, 0, none⟩) k cap), .agg #[.int .u32 s, .int .u32 o], .slice (some ⟨a, 0, none⟩) 1 1, .int .u64 sN] (W.alloc (.cells #[.int .u8 107] 5 (1, 2))) fun e w' =>
      e = .returned (.tuple #[linkV (newestRes xs s o [107] sN).1, .int .i64 (newestRes xs s o [107] sN).2]) ∧ RnW w w' g k cap xs ∧ Below W.heap.size W w' := by
  subst ha
  have hl := h.len
  have hc := newest_row s o sN (some ⟨g, 0, none⟩) (some ⟨W.heap.size, 0, none⟩) xs (W.alloc (.cells #[.int .u8 107] 5 (1, 2))).heap.size cap 1 1 [107] (by omega) (W.alloc (.cells #[.int .u8 107] 5 (1, 2))) (Nat.le_refl _)
    (((h.row hok).below (bel1 W _)).more (by simp)) ((bs_one (b := 107) (Mk.new W 5 _ _)).more (by simp)) (by omega)
  rw [hl] at hc
  refine hc.mono ?_
  rintro e w1 ⟨rfl, hb⟩
  have hbw := belFrom (bel1 W _) hb
  exact ⟨rfl, h.step hbw, hbw⟩
theorem RnW.walk {w W : World} {g k cap : Nat} {l : List UInt8} {xs : List Lk} (h : RnW w W g k cap xs) (hok : RndOk l xs) (hk : k ≤ 20) (s o m : Int) (a : Nat) (ha : W.heap.size = a) :
    Calls Try.prog 10 #[.iface 23 (.slice (some ⟨g, 0, none⟩) k cap), .agg #[.int .u32 s, .int .u32 o], .slice (some ⟨a, 0, none⟩) 1 1, .int .i64 m] (W.alloc (.cells #[.int .u8 107] 5 (1, 2))) fun e w' =>
      ∃ A c, e = .returned (.tuple #[.slice A (walkRes xs s o [107] m).1.length c, .int .i64 (walkRes xs s o [107] m).2]) ∧ RnW w w' g k cap xs ∧ Below W.heap.size W w' := by
  subst ha
  have hl := h.len
  have hc := walk_row s o m (some ⟨g, 0, none⟩) (some ⟨W.heap.size, 0, none⟩) xs (W.alloc (.cells #[.int .u8 107] 5 (1, 2))).heap.size cap 1 1 [107] (by omega) (W.alloc (.cells #[.int .u8 107] 5 (1, 2))) (Nat.le_refl _)
    (((h.row hok).below (bel1 W _)).more (by simp)) ((bs_one (b := 107) (Mk.new W 5 _ _)).more (by simp)) (by omega)
  rw [hl] at hc
  refine hc.mono ?_
  rintro e w1 ⟨v, rfl, hown, hb⟩
  have hbw := belFrom (bel1 W _) hb
  obtain ⟨A, c, rfl⟩ := own_slice hown
  exact ⟨A, c, rfl, h.step hbw, hbw⟩

set_option maxHeartbeats 1000000 in
theorem rounds_any (A : Option Addr) (n c : Nat) (l : List UInt8) (back : Int) (hbk0 : 0 ≤ back) (hbk1 : back ≤ 255) (w : World) (hl : Bs w w.heap.size A n l) (hn : n ≤ 9223372036854775807) :
    Calls Try.prog 6 #[.slice A n c, .int .u8 back] w fun e w' => e = .returned (.bool true) ∧ Below w.heap.size w w' := by
  have kc := run_conv_const (P := Try.prog) 24 5 Try.underlying24 Try.underlying5
  obtain ⟨i0, hi0, hz0, hz1, hz2⟩ := info_parts link_info
  go_enter Try.func6, Try.ntmps6
  go_wp2_with fail
  go_loopw [5, 6, 7, 18] (fun v5 v6 v7 v18 wr => ∃ (k : Nat) (xs : List Lk), k ≤ n ∧ k ≤ 20 ∧ v18 = .int .i64 k ∧ xs.length = k ∧ wr.ownsRow w.heap.size 35 8 v5 k (walkCells xs) ∧ RndOk l xs ∧ (∀ x ∈ xs, ∃ g, x.kA = some ⟨g, 0, none⟩ ∧ Mk wr g 5 #[.int .u8 107]) ∧ Below w.heap.size w wr)
    (fun _ _ _ v18 _ => n - (intOf v18).toNat)
  case atStart => exact ⟨0, [], by omega, by omega, rfl, rfl, ⟨rfl, .inl ⟨rfl, rfl⟩⟩, fun i x h => (by simp at h), fun x hx => (by cases hx), Below.refl _ _⟩
  case round =>
    obtain ⟨k, xs, hkn, hk20, rfl, hxl, hown, hok, hkeys, hb⟩ := hrel
    have hl20 : n ≤ 9223372036854775807 := hn
    by_cases hlt : k < n ∧ ((k : Int) == 20) = false
    · obtain ⟨hlt, h20⟩ := hlt
      have hx0 := hl.below (hb.mono (Nat.le_refl _))
      obtain ⟨ad, rfl, hab, hcells⟩ := hx0.addr (by simp [hl.len]; omega)
      have hk' : l[k]? = some (l[k]'(by have := hl.len; omega)) := List.getElem?_eq_getElem _
      generalize l[k]'(by have := hl.len; omega) = b at hk'
      have hc := hcells k (bv b) (by simp [hk'])
      clear hcells hx0
      unfold bv at hc
      have H20 := h20
      go_wp2_with (at_builtin; refine wpList_append_any _ rfl (.tmp 25) (.tmp 42) 23 rfl w.heap.size 35 i0 _ 8 80 Try.underlying23 hi0 hz0 hz1 hz2 rfl (by omega) _ k (walkCells xs) rfl ((hown.alloc _).alloc _) (wr.heap.size + 1 + 1) (some ⟨wr.heap.size + 1, 0, none⟩) 1 1 (Lk.cs ⟨1, 16 + (k : Int), 1 + (b.toNat : Int) % 30, 1, some ⟨wr.heap.size, 0, none⟩, 1, 1, none, 0, 0, 1, 17 + (k : Int), [107], []⟩) rfl (Reads.ofBlk (Blk.newAt (by simp)) rfl) (by intro u hu; simp [Lk.cs] at hu; rcases hu with rfl | rfl | rfl | rfl | rfl | rfl | rfl | rfl <;> rfl) (by unfold maxLen; omega) (by omega) (by have := hb.size; simp; omega) ?_; intro v' w1 hown' hg' hat')
      go_roundw
      case rel =>
        have hs1 := hg'.size
        simp only [World.size_alloc] at hs1
        have hbw := hb.size
        have hne : ∀ r, Value.ownBlock u5 = some r → w.heap.size ≤ r := fun r e => (own_lt hown e).1
        have hb1 : Below w.heap.size w w1 := (balloc (balloc hb _) _).grown hg' (by simp; omega) hne
        refine ⟨k + 1, xs ++ [⟨1, 16 + (k : Int), 1 + (b.toNat : Int) % 30, 1, some ⟨wr.heap.size, 0, none⟩, 1, 1, none, 0, 0, 1, 17 + (k : Int), [107], []⟩], by omega, ?_, by go_num, by simp [hxl], ?_, ?_, ?_, hb1⟩
        · have : ((k : Int) == 20) = false := H20
          simp at this; omega
        · simpa [walkCells] using hown'
        · intro i x hi
          by_cases hik : i < xs.length
          · rw [List.getElem?_append_left hik] at hi
            exact hok i x hi
          · rw [List.getElem?_append_right (by omega)] at hi
            have hi0 : i = xs.length := by
              have := (List.getElem?_eq_some_iff.1 hi).1
              simp at this
              omega
            subst hi0
            simp at hi
            subst hi
            subst hxl
            exact ⟨rfl, rfl, by constructor <;> simp <;> omega, rfl, rfl, rfl, ⟨rfl, rfl, rfl⟩, rfl⟩
        · intro x hx
          rcases List.mem_append.1 hx with hx | hx
          · obtain ⟨g, hg1, hg2⟩ := hkeys x hx
            exact ⟨g, hg1, ((hg2.alloc _).alloc _).grown hg' (hg2.ne_own hown (by decide))⟩
          · simp at hx
            subst hx
            exact ⟨_, rfl, ((Mk.new wr 5 #[.int .u8 107] (1, 2)).alloc _).grown hg' (fun e => by have := (own_lt hown e.symm).2; omega)⟩
      case measure => simp [intOf]; omega
    · have hxs : k = 0 ∨ 0 < k := by omega
      rcases hxs with rfl | hpos
      · have hn0 : n = 0 := by
          by_cases h : 0 < n
          · exact absurd ⟨h, rfl⟩ hlt
          · omega
        subst hn0
        clear hlt
        have hnil : xs = [] := List.eq_nil_of_length_eq_zero hxl
        subst hnil
        obtain ⟨Av, cv, rfl⟩ := own_slice hown
        clear hown hok hkeys hi0 hz0 hz1 hz2
        go_wp2_with fail
        refine (newest_row 0 0 5 _ _ [] _ cv 1 1 [107] (by simp) _ (Nat.le_refl _) ⟨Reads.none_, fun x hx => (by cases hx), fun x hx => (by cases hx)⟩ ((bs_one (b := 107) (Mk.new wr 5 _ _)).more (by simp)) (by omega)).mono ?_
        rintro e w1 ⟨rfl, hb1⟩
        have hbw := belFrom (balloc hb _) hb1
        have er : newestRes [] 0 0 [107] 5 = (Lk.zero, 6) := by
          simp [newestRes, mayKeyB, chainL_none (show noneB 0 0 = true by decide), findN]
        rw [er]
        simp only [linkV, Lk.cs, Lk.zero]
        clear hb1 hb
        go_wp2_with fail
        refine (wakes_any _).mono ?_
        rintro e w2 ⟨rfl, hb2⟩
        go_wp2_with fail
        go_ret
        exact ⟨rfl, belFrom (balloc hbw _) hb2⟩
      · obtain ⟨g, cap, rfl, hgb, hglt⟩ := own_form hown hpos
        have hbk : ((k : Int) == 0) = false := by simp; omega
        have ff := hown.frozenAt
        obtain ⟨r, hr⟩ : ∃ r : Nat, back % (k : Int) = r := ⟨(back % (k : Int)).toNat, by have := Int.emod_nonneg back (show (k : Int) ≠ 0 by omega); omega⟩
        have hrk : r < k := by have := Int.emod_lt_of_pos back (show (0 : Int) < k by omega); omega
        obtain ⟨xr, hxr⟩ : ∃ xr, xs[r]? = some xr := ⟨xs[r]'(by omega), List.getElem?_eq_getElem _⟩
        obtain ⟨xl, hxl'⟩ : ∃ xl, xs[k - 1]? = some xl := ⟨xs[k - 1]'(by omega), List.getElem?_eq_getElem _⟩
        have cr0 : wr.cell? ⟨g, r * 8, none⟩ = some (.int .u32 xr.seg) := by
          rw [hown.cellAt (r * 8) (by omega)]; exact flat_at hxr 0 (by omega)
        have cr1 : wr.cell? ⟨g, r * 8 + 1, none⟩ = some (.int .u32 xr.off) := by
          rw [hown.cellAt (r * 8 + 1) (by omega)]; exact flat_at hxr 1 (by omega)
        have cl6 : wr.cell? ⟨g, (k - 1) * 8 + 6, none⟩ = some (.int .u32 xl.ps) := by
          rw [hown.cellAt ((k - 1) * 8 + 6) (by omega)]; exact flat_at hxl' 6 (by omega)
        obtain ⟨x0, hx0⟩ : ∃ x0, xs[0]? = some x0 := ⟨xs[0]'(by omega), List.getElem?_eq_getElem _⟩
        have c00 : wr.cell? ⟨g, 0, none⟩ = some (.int .u32 x0.seg) := by
          rw [hown.cellAt 0 (by omega)]; exact flat_at hx0 0 (by omega)
        have c01 : wr.cell? ⟨g, 1, none⟩ = some (.int .u32 x0.off) := by
          rw [hown.cellAt 1 (by omega)]; exact flat_at hx0 1 (by omega)
        have cl7 : wr.cell? ⟨g, (k - 1) * 8 + 7, none⟩ = some (.int .u32 xl.po) := by
          rw [hown.cellAt ((k - 1) * 8 + 7) (by omega)]; exact flat_at hxl' 7 (by omega)
        have hcell : k < n → ∃ ad b, A = some ad ∧ wr.cell? (ad.add k) = some (.int .u8 (UInt8.toNat b)) := by
          intro hlt2
          have hx0 := hl.below (hb.mono (Nat.le_refl _))
          obtain ⟨ad, rfl, hab, hcells⟩ := hx0.addr (by simp [hl.len]; omega)
          have hk' : l[k]? = some (l[k]'(by have := hl.len; omega)) := List.getElem?_eq_getElem _
          exact ⟨ad, _, rfl, hcells k (bv _) (by rw [List.getElem?_map, hk']; rfl)⟩
        have hway : (k < n ∧ ((k : Int) == 20) = true) ∨ ¬ k < n := by
          by_cases h : k < n
          · left
            refine ⟨h, ?_⟩
            cases h2 : ((k : Int) == 20) with
            | true => rfl
            | false => exact absurd ⟨h, h2⟩ hlt
          · exact .inr h
        clear hlt
        rcases hway with ⟨hlt2, h20⟩ | hlt2
        case' inl =>
          obtain ⟨ad, b, rfl, hc⟩ := hcell hlt2
          clear hcell
          go_wp2_with fail
        case' inr =>
          clear hcell
          go_wp2_with fail
        all_goals
          have e0 : x0.seg = 1 := (hok 0 x0 hx0).seg
          have e1 : x0.off = 16 := by have := (hok 0 x0 hx0).off; simpa using this
          rw [e0, e1]
          have hok' : RndOk l (xs.set (k - 1) { xl with ps := xr.seg, po := xr.off }) := by
            intro i x hi
            by_cases hik : i = k - 1
            · subst hik
              rw [List.getElem?_set_self (by omega)] at hi
              injection hi with hi
              subst hi
              have h1 := hok _ xl hxl'
              exact ⟨h1.seg, h1.off, h1.seq, h1.kind, h1.kb, h1.kn, h1.vn, (hok r xr hxr).seg⟩
            · rw [List.getElem?_set_ne (by omega)] at hi
              exact hok i x hi
          have H0 : RnW w ((wr.setCell ⟨g, (k - 1) * 8 + 2 + 4, none⟩ (.int .u32 xr.seg)).setCell ⟨g, (k - 1) * 8 + 2 + 4 + 1, none⟩ (.int .u32 xr.off)) g k cap (xs.set (k - 1) { xl with ps := xr.seg, po := xr.off }) := by
            have h1 := hown.stored ((k - 1) * 8 + 6) (.int .u32 xr.seg)
            have h2 := h1.1.stored ((k - 1) * 8 + 7) (.int .u32 xr.off)
            have hg2 : wr.grownBy ((wr.setCell ⟨g, (k - 1) * 8 + 6, none⟩ (.int .u32 xr.seg)).setCell ⟨g, (k - 1) * 8 + 7, none⟩ (.int .u32 xr.off)) (some g) :=
              only_setCell (p := ⟨g, (k - 1) * 8 + 7, none⟩) (only_setCell (p := ⟨g, (k - 1) * 8 + 6, none⟩) (World.grownBy.refl wr _) (.inl rfl) _) (.inl rfl) _
            refine ⟨?_, ?_, ?_, by simp [hxl]⟩
            · rw [← flat_set hxl']; exact h2.1
            · intro x hx
              have hx' : ∃ y ∈ xs, y.kA = x.kA := by
                rcases List.mem_or_eq_of_mem_set hx with hx | rfl
                · exact ⟨x, hx, rfl⟩
                · exact ⟨xl, List.mem_of_getElem? hxl', rfl⟩
              obtain ⟨y, hy, he⟩ := hx'
              obtain ⟨g', h3, h4⟩ := hkeys y hy
              exact ⟨g', by rw [← he]; exact h3, h4.grown hg2 (by have := h4.ne_own hown (by decide); simpa [Value.ownBlock] using this)⟩
            · exact hb.grown hg2 hb.size (fun r e => by cases e; exact hgb)
          have hsz2 : ((wr.setCell ⟨g, (k - 1) * 8 + 2 + 4, none⟩ (.int .u32 xr.seg)).setCell ⟨g, (k - 1) * 8 + 2 + 4 + 1, none⟩ (.int .u32 xr.off)).heap.size = wr.heap.size := by simp [World.setCell]
          generalize ((wr.setCell ⟨g, (k - 1) * 8 + 2 + 4, none⟩ (.int .u32 xr.seg)).setCell ⟨g, (k - 1) * 8 + 2 + 4 + 1, none⟩ (.int .u32 xr.off)) = W2 at *
          rw [show wr.heap.size = W2.heap.size from hsz2.symm]
          generalize xs.set (k - 1) { xl with ps := xr.seg, po := xr.off } = ys at *
          refine (H0.newest hok' hk20 1 16 0 _ rfl).mono ?_
          rintro e w1 ⟨rfl, H1, _⟩
          rw [rnd_0 hok']
          simp only [linkV, Lk.cs, Lk.zero]
          obtain ⟨d0, d1, dg⟩ := H1.first hok' hpos
          clear c00 c01 cl6 cl7 cr0 cr1 ff hown hok hkeys hb hr
          go_wp2_with fail
          refine ((H1.step (bel1 w1 _)).walk hok' hk20 1 16 (-1) _ (by simp)).mono ?_
          rintro e w2 ⟨Aw, cw, rfl, H2, _⟩
          simp only [rnd_w hok']
          clear d0 d1 dg H1
          obtain ⟨d0, d1, dg⟩ := H2.first hok' hpos
          go_wp2_with fail
          refine (H2.newest hok' hk20 1 16 1099511627776 _ (by simp)).mono ?_
          rintro e w3 ⟨rfl, H3, _⟩
          obtain ⟨y0, hy0⟩ : ∃ y0, ys[0]? = some y0 := ⟨ys[0]'(by have := H0.len; omega), List.getElem?_eq_getElem _⟩
          rw [rnd_m hok' hy0]
          have f0 : y0.seg = 1 := (hok' 0 y0 hy0).seg
          have f1 : y0.off = 16 := by have := (hok' 0 y0 hy0).off; simpa using this
          simp only [linkV, Lk.cs]
          rw [f0, f1]
          clear d0 d1 dg H2
          obtain ⟨d0, d1, dg⟩ := H3.first hok' hpos
          clear H0 e0 e1 f0 f1
          go_wp2_with fail
          have B14 := Blk.new w3 35 #[.int .u32 1, .int .u32 16, .int .u64 y0.seq, .int .i64 y0.kind, .slice y0.kA y0.kn y0.kc, .slice y0.vA y0.vn y0.vc, .int .u32 y0.ps, .int .u32 y0.po]
          have H4 := H3.step (bel1 w3 (.cells #[.int .u32 1, .int .u32 16, .int .u64 y0.seq, .int .i64 y0.kind, .slice y0.kA y0.kn y0.kc, .slice y0.vA y0.vn y0.vc, .int .u32 y0.ps, .int .u32 y0.po] 35))
          generalize (w3.alloc (.cells #[.int .u32 1, .int .u32 16, .int .u64 y0.seq, .int .i64 y0.kind, .slice y0.kA y0.kn y0.kc, .slice y0.vA y0.vn y0.vc, .int .u32 y0.ps, .int .u32 y0.po] 35)) = W4 at *
          clear d0 d1 dg
          obtain ⟨d0, d1, dg⟩ := H4.first hok' hpos
          have h140 : W4.cell? ⟨w3.heap.size, 0, none⟩ = some (.int .u32 1) := B14.cell 0
          have h141 : W4.cell? ⟨w3.heap.size, 1, none⟩ = some (.int .u32 16) := B14.cell 1
          have hpos' : (0 : Int) < (k : Int) := by omega
          refine wp_region_still_tail 20 (by kernel_rfl) (by kernel_rfl) ?_
          rw [show ({ W4 with drawn := W4.drawn + 1 } : World) = W4.drew from rfl]
          simp only [List.take_succ_cons, List.take_zero, List.drop_succ_cons, List.drop_zero]
          repeat still_step
          refine wpStill_nil ?_
          go_wp2_with fail
          refine (wakes_any _).mono ?_
          rintro e w5 ⟨rfl, hb5⟩
          go_wp2_with fail
          go_ret
          exact ⟨rfl, belFrom H4.below.drew hb5⟩
end Go.Proofs.Ytgeanonphjjgeaa
