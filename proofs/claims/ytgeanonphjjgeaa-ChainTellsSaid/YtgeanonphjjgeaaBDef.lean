/-
  WHAT built LAYS, PLAIN: links numbered and set out in order, each with a Prev to the last one of its key. No program but Lk. Conditions: none.
-/
import Derived.Test.YtgeanonphjjgeaaWakes
namespace Go.Proofs.Ytgeanonphjjgeaa
open Go.RowKit Go.Shelf

theorem Mk.far {w : World} {g : Nat} {t : TypeId} {cs : Array Value} (h : Mk w g t cs) {p : Addr} (hp : g ≠ p.block) (u : Value) : Mk (w.setCell p u) g t cs := by
  obtain ⟨fr, h'⟩ := h
  exact ⟨fr, (Below.heap_setCell w p u g hp).trans h'⟩
def headOf (xs : List Lk) (k : UInt8) : Int × Int := match xs.reverse.find? (fun x => x.kb == [k]) with | some x => (x.seg, x.off) | none => (0, 0)

structure LkB (xs : List Lk) (i : Nat) (x : Lk) : Prop where
  seg : x.seg = 1 + (i : Int) / 7
  off : x.off = 16 + 40 * ((i : Int) % 7)
  seq : x.seq = (i : Int) + 1
  kind : x.kind = 1 ∨ x.kind = 2
  kb : ∃ k : UInt8, x.kb = [k] ∧ k.toNat < 4 ∧ x.ps = (headOf (xs.take i) k).1 ∧ x.po = (headOf (xs.take i) k).2
  kn : x.kn = 1
  vn : x.vn ≤ 1
def BuiltOk (xs : List Lk) : Prop := ∀ i x, xs[i]? = some x → LkB xs i x

theorem headOf_snoc (xs : List Lk) (x : Lk) (k : UInt8) : headOf (xs ++ [x]) k = if x.kb == [k] then (x.seg, x.off) else headOf xs k := by
  unfold headOf
  rw [List.reverse_append]
  simp only [List.reverse_cons, List.reverse_nil, List.nil_append, List.singleton_append, List.find?_cons]
  cases h : x.kb == [k] <;> simp

theorem BuiltOk.nil : BuiltOk [] := fun i x h => by simp at h
theorem BuiltOk.snoc {xs : List Lk} {x : Lk} (h : BuiltOk xs) (hx : LkB xs xs.length x) : BuiltOk (xs ++ [x]) := by
  intro i y hi
  by_cases hik : i < xs.length
  · rw [List.getElem?_append_left hik] at hi
    have hy := h i y hi
    obtain ⟨k, h1, h2, h3, h4⟩ := hy.kb
    refine ⟨hy.seg, hy.off, hy.seq, hy.kind, ⟨k, h1, h2, ?_, ?_⟩, hy.kn, hy.vn⟩
    · rw [List.take_append_of_le_length (by omega)]; exact h3
    · rw [List.take_append_of_le_length (by omega)]; exact h4
  · rw [List.getElem?_append_right (by omega)] at hi
    have hi0 : i = xs.length := by
      have := (List.getElem?_eq_some_iff.1 hi).1
      simp at this
      omega
    subst hi0
    simp at hi
    subst hi
    obtain ⟨k, h1, h2, h3, h4⟩ := hx.kb
    rw [List.take_length] at h3 h4
    refine ⟨hx.seg, hx.off, hx.seq, hx.kind, ⟨k, h1, h2, ?_, ?_⟩, hx.kn, hx.vn⟩
    · rw [List.take_append_of_le_length (by omega), List.take_length]; exact h3
    · rw [List.take_append_of_le_length (by omega), List.take_length]; exact h4

/-- the cells of heads -/
def HeadsAt (xs : List Lk) (hs : Array Value) : Prop := hs.size = 8 ∧ ∀ k, k < 4 → hs[k * 2]? = some (.int .u32 (headOf xs (UInt8.ofNat k)).1) ∧ hs[k * 2 + 1]? = some (.int .u32 (headOf xs (UInt8.ofNat k)).2)
theorem HeadsAt.nil : HeadsAt [] #[.int .u32 0, .int .u32 0, .int .u32 0, .int .u32 0, .int .u32 0, .int .u32 0, .int .u32 0, .int .u32 0] := by
  refine ⟨rfl, fun k hk => ?_⟩
  obtain rfl | rfl | rfl | rfl : k = 0 ∨ k = 1 ∨ k = 2 ∨ k = 3 := by omega
  all_goals exact ⟨rfl, rfl⟩
theorem HeadsAt.snoc {xs : List Lk} {hs : Array Value} (h : HeadsAt xs hs) {x : Lk} {k : Nat} (hk : k < 4) (hx : x.kb = [UInt8.ofNat k]) :
    HeadsAt (xs ++ [x]) ((hs.setIfInBounds (k * 2) (.int .u32 x.seg)).setIfInBounds (k * 2 + 1) (.int .u32 x.off)) := by
  refine ⟨by simp [h.1], fun j hj => ?_⟩
  have hs8 := h.1
  rw [headOf_snoc, hx]
  have e1 : k * 2 < (hs.setIfInBounds (k * 2) (Value.int .u32 x.seg)).size := by simp; omega
  by_cases hjk : j = k
  · subst hjk
    simp [Array.getElem?_setIfInBounds, hs8]
    omega
  · have hne : ([UInt8.ofNat k] == [UInt8.ofNat j]) = false := by
      obtain rfl | rfl | rfl | rfl : k = 0 ∨ k = 1 ∨ k = 2 ∨ k = 3 := by omega
      all_goals (obtain rfl | rfl | rfl | rfl : j = 0 ∨ j = 1 ∨ j = 2 ∨ j = 3 := by omega)
      all_goals first | rfl | omega
    rw [hne]
    have h1 := h.2 j hj
    have n1 : ¬ k * 2 = j * 2 := by omega
    have n2 : ¬ k * 2 + 1 = j * 2 := by omega
    have n3 : ¬ k * 2 = j * 2 + 1 := by omega
    simp [n1, n2, n3, h1]

def headsArr (xs : List Lk) : Array Value := #[.int .u32 (headOf xs 0).1, .int .u32 (headOf xs 0).2, .int .u32 (headOf xs 1).1, .int .u32 (headOf xs 1).2, .int .u32 (headOf xs 2).1, .int .u32 (headOf xs 2).2, .int .u32 (headOf xs 3).1, .int .u32 (headOf xs 3).2]
theorem HeadsAt.eq {xs : List Lk} {hs : Array Value} (h : HeadsAt xs hs) : hs = headsArr xs := by
  have hs8 := h.1
  apply Array.ext
  · rw [hs8]; rfl
  · intro i h1 h2
    have h0 := h.2 0 (by omega)
    have h1' := h.2 1 (by omega)
    have h2' := h.2 2 (by omega)
    have h3' := h.2 3 (by omega)
    have g : hs[i]? = (headsArr xs)[i]? := by
      obtain rfl | rfl | rfl | rfl | rfl | rfl | rfl | rfl : i = 0 ∨ i = 1 ∨ i = 2 ∨ i = 3 ∨ i = 4 ∨ i = 5 ∨ i = 6 ∨ i = 7 := by omega
      · exact h0.1
      · exact h0.2
      · exact h1'.1
      · exact h1'.2
      · exact h2'.1
      · exact h2'.2
      · exact h3'.1
      · exact h3'.2
    rw [Array.getElem?_eq_getElem h1, Array.getElem?_eq_getElem h2] at g
    injection g
theorem headsAt_arr (xs : List Lk) : HeadsAt xs (headsArr xs) := by
  refine ⟨rfl, fun k hk => ?_⟩
  obtain rfl | rfl | rfl | rfl : k = 0 ∨ k = 1 ∨ k = 2 ∨ k = 3 := by omega
  all_goals exact ⟨rfl, rfl⟩

theorem bv_ofNat {k : Nat} (hk : k < 256) : bv (UInt8.ofNat k) = .int .u8 (k : Int) := by
  simp only [bv, UInt8.toNat_ofNat']
  congr 1
  omega
theorem bv_ofInt {v : Int} (h : 0 ≤ v ∧ v ≤ 255) : bv (UInt8.ofNat v.toNat) = .int .u8 v := by
  rw [bv_ofNat (by omega)]
  congr 1
  omega

/-- a write in memory -/
def wcs (x : Int × Bool × Int) : List Value := [.int .u8 x.1, .bool x.2.1, .int .u8 x.2.2]
structure WrAt (w : World) (B : Nat) (A : Option Addr) (ws : List (Int × Bool × Int)) : Prop where
  cells : Reads w B 3 A ws.length (ws.flatMap wcs)
  wf : ∀ x ∈ ws, 0 ≤ x.1 ∧ x.1 ≤ 255 ∧ 0 ≤ x.2.2 ∧ x.2.2 ≤ 255
theorem wflat_at {xs : List (Int × Bool × Int)} {k : Nat} {x : Int × Bool × Int} (h : xs[k]? = some x) (j : Nat) (hj : j < 3) : (xs.flatMap wcs)[k * 3 + j]? = (wcs x)[j]? := by
  induction xs generalizing k with
  | nil => simp at h
  | cons y xs ih =>
    cases k with
    | zero =>
      simp at h
      subst h
      simp only [List.flatMap_cons, Nat.zero_mul, Nat.zero_add]
      rw [List.getElem?_append_left (by simp [wcs]; omega)]
    | succ k =>
      simp at h
      have := ih h
      simp only [List.flatMap_cons]
      rw [List.getElem?_append_right (by simp [wcs]; omega)]
      have e : (k + 1) * 3 + j - (wcs y).length = k * 3 + j := by simp [wcs]; omega
      rw [e]
      exact this
theorem WrAt.at_ {w : World} {B : Nat} {A : Option Addr} {ws : List (Int × Bool × Int)} (h : WrAt w B A ws) {k : Nat} (hk : k < ws.length) :
    ∃ ad key gone v, A = some ad ∧ ad.block < B ∧ 0 ≤ key ∧ key ≤ 255 ∧ 0 ≤ v ∧ v ≤ 255 ∧
      w.cell? (ad.add (k * 3)) = some (.int .u8 key) ∧ w.cell? ⟨(ad.add (k * 3)).block, (ad.add (k * 3)).off + 1, none⟩ = some (.bool gone) ∧ w.cell? ⟨(ad.add (k * 3)).block, (ad.add (k * 3)).off + 2, none⟩ = some (.int .u8 v) := by
  obtain ⟨ad, rfl, hb, hc⟩ := h.cells.addr (by rw [h.cells.1]; omega)
  have hx : ws[k]? = some ws[k] := List.getElem?_eq_getElem hk
  have hwf := h.wf _ (List.getElem_mem hk)
  have key : ∀ j, j < 3 → ∀ u, (wcs ws[k])[j]? = some u → w.cell? ((ad.add (k * 3)).add j) = some u := by
    intro j hj u hu
    rw [add_add_]
    exact hc _ u (by rw [wflat_at hx j hj]; exact hu)
  have far : ∀ j, 0 < j → (ad.add (k * 3)).add j = ⟨(ad.add (k * 3)).block, (ad.add (k * 3)).off + j, none⟩ := by
    intro j hj
    generalize ad.add (k * 3) = a
    unfold Addr.add
    rw [if_neg (by omega)]
  refine ⟨ad, ws[k].1, ws[k].2.1, ws[k].2.2, rfl, hb, hwf.1, hwf.2.1, hwf.2.2.1, hwf.2.2.2, ?_, ?_, ?_⟩
  · have := key 0 (by omega) _ rfl
    simpa [Addr.add] using this
  · have := key 1 (by omega) _ rfl
    rw [far 1 (by omega)] at this
    exact this
  · have := key 2 (by omega) _ rfl
    rw [far 2 (by omega)] at this
    exact this
theorem WrAt.below {w w' : World} {B : Nat} {A : Option Addr} {ws : List (Int × Bool × Int)} (h : WrAt w B A ws) (hb : Below B w w') : WrAt w' B A ws := ⟨h.cells.below hb, h.wf⟩

/-- what built has laid, in a world behind -/
structure BltW (w W : World) (g : Nat) (v : Value) (xs : List Lk) (hs : Array Value) : Prop where
  own : W.ownsRow w.heap.size 35 8 v xs.length (walkCells xs)
  ok : BuiltOk xs
  keys : ∀ x ∈ xs, ∃ g k, x.kA = some ⟨g, 0, none⟩ ∧ x.kb = [k] ∧ Mk W g 5 #[bv k]
  vals : ∀ x ∈ xs, (x.vA = none ∧ x.vn = 0 ∧ x.vb = []) ∨ ∃ g b, x.vA = some ⟨g, 0, none⟩ ∧ x.vn = 1 ∧ x.vb = [b] ∧ Mk W g 5 #[bv b]
  heads : Blk W g 55 hs
  at_ : HeadsAt xs hs
  below : Below w.heap.size w W

/-- a function whose results are a slot and a struct or array in a box -/
theorem results_tmp_row {P : Program} {fn : Func} {p u : Tmp} {ty : TypeId} (h : fn.results = #[.tmp u, .cell p ty]) (tmps : Array Value) (w : World) (g : Nat) (t : TypeId) (cs : Array Value) (d : TypeDesc)
    (hp : tmps.getD p undef = .pointer (some ⟨g, 0, none⟩)) (hg : Blk w g t cs)
    (hu : P.underlying ty = some d) (hd : (match d with | .struct _ | .array _ _ => true | _ => false) = true) (hi : (P.info? ty).map (·.size) = some cs.size) :
    (results fn tmps).run P w = .ok (.tuple #[tmps.getD u undef, .agg cs]) w := by
  have hp' : tmps[p]?.getD undef = .pointer (some ⟨g, 0, none⟩) := by simpa using hp
  simp [results, h, hp', asAddr, run_loadVar_row w g t ty cs (0, 0) d hg hu hd hi]

theorem Blk.drew {w : World} {g : Nat} {t : TypeId} {cs : Array Value} (h : Blk w g t cs) : Blk w.drew g t cs := h
/-- a block of another type is another block -/
theorem Mk.ne_ {w : World} {g g' : Nat} {t t' : TypeId} {cs cs' : Array Value} (h : Mk w g t cs) (h' : Mk w g' t' cs') (ht : t ≠ t') : g ≠ g' := by
  rintro rfl
  obtain ⟨fr, h⟩ := h
  obtain ⟨fr', h'⟩ := h'
  rw [h] at h'
  cases h'
  exact ht rfl
theorem gset {a w : World} {g : Nat} (h : a.grownBy w (some g)) (j : Nat) (u : Value) : a.grownBy (w.setCell ⟨g, j, none⟩ u) (some g) := only_setCell (p := ⟨g, j, none⟩) h (.inl rfl) u
theorem gset8 (w : World) (g : Nat) (v0 v1 v2 v3 v4 v5 v6 v7 : Value) : w.grownBy ((((((((w.setCell ⟨g, 0, none⟩ v0).setCell ⟨g, 1, none⟩ v1).setCell ⟨g, 2, none⟩ v2).setCell ⟨g, 3, none⟩ v3).setCell ⟨g, 4, none⟩ v4).setCell ⟨g, 5, none⟩ v5).setCell ⟨g, 6, none⟩ v6).setCell ⟨g, 7, none⟩ v7) (some g) :=
  gset (gset (gset (gset (gset (gset (gset (gset (World.grownBy.refl w _) 0 v0) 1 v1) 2 v2) 3 v3) 4 v4) 5 v5) 6 v6) 7 v7
theorem BltW.step {w W W' : World} {g : Nat} {v : Value} {xs : List Lk} {hs : Array Value} (h : BltW w W g v xs hs) (hb : Below W.heap.size W W') : BltW w W' g v xs hs := by
  refine ⟨h.own.kept (only_of_below hb none) (Classical.em _), h.ok, fun x hx => ?_, fun x hx => ?_, h.heads.below hb h.heads.lt, h.at_, belFrom h.below hb⟩
  · obtain ⟨g, k, h1, h2, h3⟩ := h.keys x hx
    exact ⟨g, k, h1, h2, h3.below hb h3.lt⟩
  · rcases h.vals x hx with h | ⟨g, k, h1, h2, h3, h4⟩
    · exact .inl h
    · exact .inr ⟨g, k, h1, h2, h3, h4.below hb h4.lt⟩
/-- what the last step of built leaves -/
theorem BltW.out {w W W' : World} {g g' : Nat} {v : Value} {xs : List Lk} {hs : Array Value} {t : TypeId} {cs : Array Value} (h : BltW w W g v xs hs) (hr : Blk W g' 55 cs) (hg : W.grownBy W' (some g')) (hge : w.heap.size ≤ g') (hb : Blk W' g' t hs) (ht : t = 55) : BltW w W' g' v xs hs := by
  subst ht
  refine ⟨h.own.kept hg (.inr (hr.mk_.ne_own h.own (by decide)).symm), h.ok, fun x hx => ?_, fun x hx => ?_, hb, h.at_, h.below.grown hg h.below.size (fun r e => by cases e; exact hge)⟩
  · obtain ⟨g, k, h1, h2, h3⟩ := h.keys x hx
    exact ⟨g, k, h1, h2, h3.grown hg (fun e => by injection e with e; exact h3.ne_ hr.mk_ (by decide) e)⟩
  · rcases h.vals x hx with h | ⟨g, k, h1, h2, h3, h4⟩
    · exact .inl h
    · exact .inr ⟨g, k, h1, h2, h3, h4.grown hg (fun e => by injection e with e; exact h4.ne_ hr.mk_ (by decide) e)⟩
end Go.Proofs.Ytgeanonphjjgeaa
