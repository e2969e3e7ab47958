/-
  THE WORLD WHILE ChainView GOES ON: built's row and heads, a key of one byte; Newest, Value and Walk asked there. Conditions: none.
-/
import Derived.Test.YtgeanonphjjgeaaVLaw
import Derived.Test.YtgeanonphjjgeaaBuilt
import Derived.Test.YtgeanonphjjgeaaSame
namespace Go.Proofs.Ytgeanonphjjgeaa
open Go.RowKit Go.Shelf

/-- built's row and heads, where a variable h holds the heads -/
structure VwW (w W : World) (g h : Nat) (A : Option Addr) (cap : Nat) (xs : List Lk) : Prop where
  blt : BltW w W g (.slice A xs.length cap) xs (headsArr xs)
  hd : Blk W h 55 (headsArr xs)
theorem VwW.step {w W W' : World} {g h : Nat} {A : Option Addr} {cap : Nat} {xs : List Lk} (H : VwW w W g h A cap xs) (hb : Below W.heap.size W W') : VwW w W' g h A cap xs := ⟨H.blt.step hb, H.hd.below hb H.hd.lt⟩
theorem BltW.row {w W : World} {g : Nat} {A : Option Addr} {cap : Nat} {xs : List Lk} {hs : Array Value} (h : BltW w W g (.slice A xs.length cap) xs hs) : RowAt W W.heap.size A xs := by
  refine ⟨Reads.of_own h.own, fun x hx => ?_, fun x hx => ?_⟩
  · obtain ⟨i, hi⟩ := List.mem_iff_getElem?.1 hx
    obtain ⟨g, k, h1, h2, h3⟩ := h.keys x hx
    rw [h1, h2, (h.ok i x hi).kn]
    exact (bs_one (b := k) h3).more h3.lt
  · rcases h.vals x hx with ⟨h1, h2, h3⟩ | ⟨g, b, h1, h2, h3, h4⟩
    · rw [h1, h2, h3]
      exact Reads.none_
    · rw [h1, h2, h3]
      exact (bs_one (b := b) h4).more h4.lt
theorem BltW.vn {w W : World} {g : Nat} {v : Value} {xs : List Lk} {hs : Array Value} (h : BltW w W g v xs hs) : ∀ x ∈ xs, x.vn ≤ 140737488355328 := by
  intro x hx
  obtain ⟨i, hi⟩ := List.mem_iff_getElem?.1 hx
  have := (h.ok i x hi).vn
  omega
theorem heads_cell {W : World} {h : Nat} {xs : List Lk} (H : Blk W h 55 (headsArr xs)) {k : Nat} (hk : k < 4) :
    W.cell? ⟨h, k * 2, none⟩ = some (.int .u32 (headOf xs (UInt8.ofNat k)).1) ∧ W.cell? ⟨h, k * 2 + 1, none⟩ = some (.int .u32 (headOf xs (UInt8.ofNat k)).2) := by
  rw [H.cell, H.cell]
  exact (headsAt_arr xs).2 k hk
theorem bs_key {W : World} {gk k : Nat} (hk : k < 4) (h : Mk W gk 5 #[.int .u8 (k : Int)]) : Bs W W.heap.size (some ⟨gk, 0, none⟩) 1 [UInt8.ofNat k] := by
  have e := bv_ofNat (k := k) (by omega)
  rw [← e] at h
  exact (bs_one (b := UInt8.ofNat k) h).more h.lt

theorem VwW.newest {w W : World} {g h : Nat} {A : Option Addr} {cap : Nat} {xs : List Lk} (H : VwW w W g h A cap xs) (h60 : xs.length ≤ 60) {gk k : Nat} (hk : k < 4) (hm : Mk W gk 5 #[.int .u8 (k : Int)]) (s : Int) :
    Calls Try.prog 8 #[.iface 23 (.slice A xs.length cap), .agg #[.int .u32 (headOf xs (UInt8.ofNat k)).1, .int .u32 (headOf xs (UInt8.ofNat k)).2], .slice (some ⟨gk, 0, none⟩) 1 1, .int .u64 s] W fun e w' =>
      e = .returned (.tuple #[linkV (newestRes xs (headOf xs (UInt8.ofNat k)).1 (headOf xs (UInt8.ofNat k)).2 [UInt8.ofNat k] s).1, .int .i64 (newestRes xs (headOf xs (UInt8.ofNat k)).1 (headOf xs (UInt8.ofNat k)).2 [UInt8.ofNat k] s).2]) ∧ Below W.heap.size W w' :=
  newest_row _ _ s A _ xs W.heap.size cap 1 1 [UInt8.ofNat k] (by omega) W (Nat.le_refl _) H.blt.row (bs_key hk hm) (by omega)
theorem VwW.value {w W : World} {g h : Nat} {A : Option Addr} {cap : Nat} {xs : List Lk} (H : VwW w W g h A cap xs) (h60 : xs.length ≤ 60) {gk k : Nat} (hk : k < 4) (hm : Mk W gk 5 #[.int .u8 (k : Int)]) (s : Int) :
    Calls Try.prog 12 #[.iface 23 (.slice A xs.length cap), .agg #[.int .u32 (headOf xs (UInt8.ofNat k)).1, .int .u32 (headOf xs (UInt8.ofNat k)).2], .slice (some ⟨gk, 0, none⟩) 1 1, .int .u64 s] W
      (valuePost W (valueRes xs (headOf xs (UInt8.ofNat k)).1 (headOf xs (UInt8.ofNat k)).2 [UInt8.ofNat k] s)) :=
  value_row _ _ s A _ xs W.heap.size cap 1 1 [UInt8.ofNat k] (by omega) W (Nat.le_refl _) H.blt.row (bs_key hk hm) (by omega) H.blt.vn
theorem VwW.walk {w W : World} {g h : Nat} {A : Option Addr} {cap : Nat} {xs : List Lk} (H : VwW w W g h A cap xs) (h60 : xs.length ≤ 60) {gk k : Nat} (hk : k < 4) (hm : Mk W gk 5 #[.int .u8 (k : Int)]) (most : Int) (ys : List Lk)
    (hy : walkRes xs (headOf xs (UInt8.ofNat k)).1 (headOf xs (UInt8.ofNat k)).2 [UInt8.ofNat k] most = (ys, 0)) :
    Calls Try.prog 10 #[.iface 23 (.slice A xs.length cap), .agg #[.int .u32 (headOf xs (UInt8.ofNat k)).1, .int .u32 (headOf xs (UInt8.ofNat k)).2], .slice (some ⟨gk, 0, none⟩) 1 1, .int .i64 most] W fun e w' =>
      ∃ A' c', e = .returned (.tuple #[.slice A' ys.length c', .int .i64 0]) ∧ Reads w' w'.heap.size 8 A' ys.length (walkCells ys) ∧ Below W.heap.size W w' := by
  refine (walk_row _ _ most A _ xs W.heap.size cap 1 1 [UInt8.ofNat k] (by omega) W (Nat.le_refl _) H.blt.row (bs_key hk hm) (by omega)).mono ?_
  rintro e w1 ⟨v, rfl, hown, hb⟩
  rw [hy] at hown ⊢
  obtain ⟨A', c', rfl⟩ := own_slice hown
  exact ⟨A', c', rfl, Reads.of_own hown, hb⟩

/-- what the law counts -/
def wantI (xs : List Lk) (k : UInt8) (s : Int) : Int := match lastW xs k s with | none => -1 | some x => x.seq - 1
theorem wantI_snoc (xs : List Lk) (x : Lk) (k : UInt8) (s : Int) : wantI (xs ++ [x]) k s = if wanted k s x then x.seq - 1 else wantI xs k s := by
  unfold wantI
  rw [lastW_snoc]
  cases wanted k s x <;> rfl
theorem lastW_at {xs : List Lk} (h : BuiltOk xs) {k : UInt8} {s : Int} {x : Lk} (hx : lastW xs k s = some x) : ∃ i : Nat, xs[i]? = some x ∧ x.seq = (i : Int) + 1 ∧ i < xs.length := by
  have := List.mem_reverse.1 (List.mem_of_find?_eq_some hx)
  obtain ⟨i, hi⟩ := List.mem_iff_getElem?.1 this
  exact ⟨i, hi, (h i x hi).seq, (List.getElem?_eq_some_iff.1 hi).1⟩
theorem take_snoc {xs : List Lk} {i : Nat} {x : Lk} (h : xs[i]? = some x) : xs.take (i + 1) = xs.take i ++ [x] := by rw [List.take_add_one, h]; rfl
theorem chain_mem {xs : List Lk} {k : UInt8} {x : Lk} (h : x ∈ chainOf xs k) : x ∈ xs := by
  unfold chainOf at h
  exact List.mem_reverse.1 (List.mem_filter.1 h).1
theorem vstep {xs : List Lk} {i m : Nat} {x : Lk} {kk : UInt8} {s z : Int} (hx : xs[i]? = some x) (hz : wantI (xs.take i) kk s = z) (hm : (chainOf (xs.take i) kk).length = m) (hseq : x.seq = (i : Int) + 1) :
    (isK kk x = true → (i : Int) < s → wantI (xs.take (i + 1)) kk s = i ∧ (chainOf (xs.take (i + 1)) kk).length = m + 1) ∧
    (isK kk x = true → s ≤ (i : Int) → wantI (xs.take (i + 1)) kk s = z ∧ (chainOf (xs.take (i + 1)) kk).length = m + 1) ∧
    (isK kk x = false → wantI (xs.take (i + 1)) kk s = z ∧ (chainOf (xs.take (i + 1)) kk).length = m) := by
  rw [take_snoc hx, wantI_snoc, chainOf_snoc]
  refine ⟨fun h1 h2 => ?_, fun h1 h2 => ?_, fun h1 => ?_⟩
  · have hw : wanted kk s x = true := by
      simp only [wanted, h1, Bool.true_and, decide_eq_true_eq]
      omega
    rw [if_pos hw, if_pos h1]
    exact ⟨by omega, by simp [hm]⟩
  · have hw : wanted kk s x = false := by
      simp only [wanted, h1, Bool.true_and, decide_eq_false_iff_not]
      omega
    rw [hw, if_pos h1]
    exact ⟨by simpa using hz, by simp [hm]⟩
  · have hw : wanted kk s x = false := by
      simp [wanted, h1]
    rw [hw, h1]
    exact ⟨by simpa using hz, by simpa using hm⟩
/-- what Newest and Value say, beside what the law counts -/
theorem view_facts {xs : List Lk} (h : BuiltOk xs) (h60 : xs.length ≤ 60) (k : UInt8) (s z : Int) (hz : wantI xs k s = z) :
    ∃ y er vb er2, newestRes xs (headOf xs k).1 (headOf xs k).2 [k] s = (y, er) ∧ valueRes xs (headOf xs k).1 (headOf xs k).2 [k] s = (vb, er2) ∧
      ((y = Lk.zero ∧ er = 6 ∧ z = -1 ∧ er2 = 6) ∨ ∃ i : Nat, xs[i]? = some y ∧ i < xs.length ∧ er = 0 ∧ z = i ∧ ((y.kind = 2 ∧ er2 = 6) ∨ (y.kind = 1 ∧ er2 = 0 ∧ vb = y.vb))) := by
  have hn := view_newest h h60 k s
  unfold wantI at hz
  cases hl : lastW xs k s with
  | none =>
    rw [hl] at hn hz
    refine ⟨Lk.zero, 6, [], 6, hn, ?_, .inl ⟨rfl, rfl, hz.symm, rfl⟩⟩
    unfold valueRes
    rw [hn]
    rfl
  | some x =>
    rw [hl] at hn hz
    obtain ⟨i, hi, hs, hlt⟩ := lastW_at h hl
    have hk := (h i x hi).kind
    have hz' : z = i := by
      simp only at hz
      omega
    rcases hk with hk | hk
    · refine ⟨x, 0, x.vb, 0, hn, ?_, .inr ⟨i, hi, hlt, rfl, hz', .inr ⟨hk, rfl, rfl⟩⟩⟩
      unfold valueRes
      rw [hn]
      simp [hk]
    · refine ⟨x, 0, [], 6, hn, ?_, .inr ⟨i, hi, hlt, rfl, hz', .inl ⟨hk, rfl⟩⟩⟩
      unfold valueRes
      rw [hn]
      simp [hk]
end Go.Proofs.Ytgeanonphjjgeaa
