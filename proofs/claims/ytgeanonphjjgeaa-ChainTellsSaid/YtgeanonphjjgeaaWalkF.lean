/-
  THE WALK of chain.Walk over a row as its reader.
-/
import Derived.Test.YtgeanonphjjgeaaNewest
namespace Go.Proofs.Ytgeanonphjjgeaa
open Go.RowKit Go.Shelf
attribute [local go_sem] Oper.semAt_some

theorem link_info : (Try.prog.info? 35).map (fun i => (i.zero, i.size, i.bytes)) = some (some (.agg #[.int .u32 0, .int .u32 0, .int .u64 0, .int .i64 0, .slice none 0 0, .slice none 0 0, .int .u32 0, .int .u32 0]), 8, 80) := by kernel_rfl

/-- the row that the list under way lies in -/
def zoneOf (N : Nat) (W : World) : Option Nat := match W.cell? ⟨N, 0, none⟩ with | some v => v.ownBlock | none => none

theorem zoneOf_eq {N : Nat} {W : World} {t : TypeId} {v : Value} (h : Blk W N t #[v]) : zoneOf N W = v.ownBlock := by
  have hc : W.cell? ⟨N, 0, none⟩ = some v := h.cell 0
  simp [zoneOf, hc]
theorem ownBlock_cells {w : World} {base : Nat} {e : TypeId} {size n : Nat} {v : Value} {xs : List Value} (h : w.ownsRow base e size v n xs) {g : Nat} (hg : v.ownBlock = some g) : base ≤ g ∧ g < w.heap.size ∧ ∃ cur, w.heap[g]? = some (.cells cur e (0, 0)) := by
  rcases h.2 with ⟨rfl, _⟩ | ⟨g', cap, cur, rfl, hb, hh, _⟩
  · simp [Value.ownBlock] at hg
  · simp [Value.ownBlock] at hg
    subst hg
    exact ⟨hb, (Array.getElem?_eq_some_iff.1 hh).1, cur, hh⟩
abbrev walkCells (ys : List Lk) : List Value := ys.flatMap Lk.cs

structure WkI (w : World) (most : Int) (pre : List (Lk × Bool)) (W : World) : Prop where
  go : walkGo most pre
  b7 : Blk W (w.heap.size + 1) 3 #[.int .i64 most]
  b8 : Blk W (w.heap.size + 1 + 1) 22 #[.slice none 0 0]
  b9 : Blk W (w.heap.size + 1 + 1 + 1) 37 #[.int .i64 0]
  row : ∃ v, Blk W (w.heap.size + 1 + 1 + 1 + 1) 22 #[v] ∧ W.ownsRow (w.heap.size + 8) 35 8 v pre.length (walkCells (pre.map Prod.fst))
  below : Below w.heap.size w W
  size : w.heap.size + 8 ≤ W.heap.size
structure WkX (w : World) (most : Int) (c : Code) (pre : List (Lk × Bool)) (W : World) : Prop where
  way : (c = .ret ∧ walkStop most pre ([], 36) ∧ Blk W (w.heap.size + 1 + 1) 22 #[.slice none 0 0] ∧ Blk W (w.heap.size + 1 + 1 + 1) 37 #[.int .i64 36]) ∨
    (c = .exit 0 ∧ walkStop most pre (pre.map Prod.fst, 0) ∧ Blk W (w.heap.size + 1 + 1) 22 #[.slice none 0 0] ∧ Blk W (w.heap.size + 1 + 1 + 1) 37 #[.int .i64 0] ∧
      ∃ v, Blk W (w.heap.size + 1 + 1 + 1 + 1) 22 #[v] ∧ W.ownsRow (w.heap.size + 8) 35 8 v pre.length (walkCells (pre.map Prod.fst)))
  below : Below w.heap.size w W
  size : w.heap.size + 8 ≤ W.heap.size
theorem row_kept {N M : Nat} {e : TypeId} {size n : Nat} {xs : List Value} {A A' : World} {v : Value} (hv : Blk A N 22 #[v]) (hown : A.ownsRow M e size v n xs) {row : Option Nat} (hg : A.grownBy A' row)
    (hr : ∀ r, row = some r → N < r ∧ (zoneOf N A ≠ some r ∨ ∃ o : Obj, A.heap[r]? = some o ∧ o.isCells = false)) : Blk A' N 22 #[v] ∧ A'.ownsRow M e size v n xs := by
  refine ⟨hv.grown hg (fun e => by have := (hr _ e.symm).1; omega), hown.kept hg ?_⟩
  cases hb : v.ownBlock with
  | none => exact .inl rfl
  | some g =>
    right
    intro e
    obtain ⟨_, h2⟩ := hr g e.symm
    rcases h2 with h2 | ⟨o, ho, hc⟩
    · rw [zoneOf_eq hv] at h2; exact h2 hb
    · obtain ⟨_, _, cur, hh⟩ := ownBlock_cells hown hb
      rw [hh] at ho; cases ho; cases hc
theorem WkI.grown {w : World} {most : Int} {pre : List (Lk × Bool)} {A A' : World} (h : WkI w most pre A) {row : Option Nat} (hg : A.grownBy A' row) (hr : ∀ r, row = some r → w.heap.size + 8 ≤ r ∧ (zoneOf (w.heap.size + 1 + 1 + 1 + 1) A ≠ some r ∨ ∃ o : Obj, A.heap[r]? = some o ∧ o.isCells = false)) : WkI w most pre A' := by
  have hr' : ∀ r, row = some r → w.heap.size + 8 ≤ r := fun r e => (hr r e).1
  obtain ⟨v, hv, hown⟩ := h.row
  exact ⟨h.go, h.b7.grown hg (fun e => by have := hr' _ e.symm; omega), h.b8.grown hg (fun e => by have := hr' _ e.symm; omega), h.b9.grown hg (fun e => by have := hr' _ e.symm; omega),
    ⟨v, row_kept hv hown hg (fun r e => ⟨by have := hr' r e; omega, (hr r e).2⟩)⟩, h.below.grown hg h.below.size (fun k e => by have := hr' _ e; omega), Nat.le_trans h.size hg.size⟩
theorem WkX.grown {w : World} {most : Int} {c : Code} {pre : List (Lk × Bool)} {A A' : World} (h : WkX w most c pre A) {row : Option Nat} (hg : A.grownBy A' row) (hr : ∀ r, row = some r → w.heap.size + 8 ≤ r ∧ ∃ o : Obj, A.heap[r]? = some o ∧ o.isCells = false) : WkX w most c pre A' := by
  have hr' : ∀ r, row = some r → w.heap.size + 8 ≤ r := fun r e => (hr r e).1
  refine ⟨?_, h.below.grown hg h.below.size (fun k e => by have := hr' _ e; omega), Nat.le_trans h.size hg.size⟩
  rcases h.way with ⟨h1, h2, b8, b9⟩ | ⟨h1, h2, b8, b9, v, hv, hown⟩
  · exact .inl ⟨h1, h2, b8.grown hg (fun e => by have := hr' _ e.symm; omega), b9.grown hg (fun e => by have := hr' _ e.symm; omega)⟩
  · exact .inr ⟨h1, h2, b8.grown hg (fun e => by have := hr' _ e.symm; omega), b9.grown hg (fun e => by have := hr' _ e.symm; omega), v, row_kept hv hown hg (fun r e => ⟨by have := hr' r e; omega, .inr (hr r e).2⟩)⟩
abbrev walkKeep (N : Nat) (k : Nat) : Prop := k < N ∨ (N + 5 ≤ k ∧ k < N + 8) ∨ N + 10 ≤ k

/-- a link is appended, the list stored back -/
theorem WkI.step {w : World} {most : Int} {pre : List (Lk × Bool)} {W w1 : World} {v v' : Value} {x : Lk} {o : Obj} (h : WkI w most pre W) (hv : Blk W (w.heap.size + 1 + 1 + 1 + 1) 22 #[v]) (hown : W.ownsRow (w.heap.size + 8) 35 8 v pre.length (walkCells (pre.map Prod.fst)))
    (hg : (W.alloc o).grownBy w1 v.ownBlock) (hown' : w1.ownsRow (w.heap.size + 8) 35 8 v' (pre.length + 1) (walkCells (pre.map Prod.fst) ++ x.cs)) (hat : v'.ownBlock = v.ownBlock ∨ v'.ownBlock = some (W.alloc o).heap.size) :
    KeepsOthers W (w1.setCell ⟨w.heap.size + 1 + 1 + 1 + 1, 0, none⟩ v') ∧ Kz (walkKeep w.heap.size) (zoneOf (w.heap.size + 1 + 1 + 1 + 1)) W (w1.setCell ⟨w.heap.size + 1 + 1 + 1 + 1, 0, none⟩ v') ∧
    Blk (w1.setCell ⟨w.heap.size + 1 + 1 + 1 + 1, 0, none⟩ v') (w.heap.size + 1) 3 #[.int .i64 most] ∧ Blk (w1.setCell ⟨w.heap.size + 1 + 1 + 1 + 1, 0, none⟩ v') (w.heap.size + 1 + 1) 22 #[.slice none 0 0] ∧
    Blk (w1.setCell ⟨w.heap.size + 1 + 1 + 1 + 1, 0, none⟩ v') (w.heap.size + 1 + 1 + 1) 37 #[.int .i64 0] ∧ Blk (w1.setCell ⟨w.heap.size + 1 + 1 + 1 + 1, 0, none⟩ v') (w.heap.size + 1 + 1 + 1 + 1) 22 #[v'] ∧
    (w1.setCell ⟨w.heap.size + 1 + 1 + 1 + 1, 0, none⟩ v').ownsRow (w.heap.size + 8) 35 8 v' ((pre ++ [(x, true)]).length) (walkCells ((pre ++ [(x, true)]).map Prod.fst)) ∧
    Below w.heap.size w (w1.setCell ⟨w.heap.size + 1 + 1 + 1 + 1, 0, none⟩ v') ∧ w.heap.size + 8 ≤ (w1.setCell ⟨w.heap.size + 1 + 1 + 1 + 1, 0, none⟩ v').heap.size := by
  have hs1 := hg.size
  simp only [World.size_alloc] at hs1
  have hsz := h.size
  have hss : (w1.setCell ⟨w.heap.size + 1 + 1 + 1 + 1, 0, none⟩ v').heap.size = w1.heap.size := by simp [World.setCell]
  have b4 : Blk w1 (w.heap.size + 1 + 1 + 1 + 1) 22 #[v] := (hv.alloc o).grown hg (own_ne hown (by omega))
  have b4' : Blk (w1.setCell ⟨w.heap.size + 1 + 1 + 1 + 1, 0, none⟩ v') (w.heap.size + 1 + 1 + 1 + 1) 22 #[v'] := by simpa using b4.set_ 0 v'
  have hown2 : (w1.setCell ⟨w.heap.size + 1 + 1 + 1 + 1, 0, none⟩ v').ownsRow (w.heap.size + 8) 35 8 v' (pre.length + 1) (walkCells (pre.map Prod.fst) ++ x.cs) := ownsRow_setCell_below hown' (by show w.heap.size + 1 + 1 + 1 + 1 < _; omega) v'
  refine ⟨?_, ?_, ?_, ?_, ?_, b4', by simpa [walkCells] using hown2, ?_, by omega⟩
  · refine ((KeepsOthers.alloc _ o).trans (KeepsOthers.of_grownBy hg ?_)).trans (KeepsOthers.setCell _ _ _)
    intro j ob hj hob
    obtain ⟨_, _, cur, hh⟩ := ownBlock_cells (hown.alloc o) hj
    rw [hh] at hob; cases hob; rfl
  · refine ⟨hg.os, hg.tape, hg.output, by omega, ?_, ?_⟩
    · intro k hk hkeep hz
      rw [zoneOf_eq hv] at hz
      rw [Below.heap_setCell _ _ _ _ (by show k ≠ w.heap.size + 1 + 1 + 1 + 1; omega), hg.block k (by simp; omega) (fun e => hz e.symm), Below.heap_alloc _ _ _ hk]
    · rw [zoneOf_eq hv, zoneOf_eq b4']
      rcases hat with e | e
      · exact .inl e
      · exact .inr ⟨_, by simp, e⟩
  · exact ((h.b7.alloc o).grown hg (own_ne hown (by omega))).far (p := ⟨w.heap.size + 1 + 1 + 1 + 1, 0, none⟩) (by show w.heap.size + 1 ≠ w.heap.size + 1 + 1 + 1 + 1; omega) _
  · exact ((h.b8.alloc o).grown hg (own_ne hown (by omega))).far (p := ⟨w.heap.size + 1 + 1 + 1 + 1, 0, none⟩) (by show w.heap.size + 1 + 1 ≠ w.heap.size + 1 + 1 + 1 + 1; omega) _
  · exact ((h.b9.alloc o).grown hg (own_ne hown (by omega))).far (p := ⟨w.heap.size + 1 + 1 + 1 + 1, 0, none⟩) (by show w.heap.size + 1 + 1 + 1 ≠ w.heap.size + 1 + 1 + 1 + 1; omega) _
  · exact bset ((balloc h.below o).grown hg (by simp; omega) (fun k e => by have := (own_lt hown e).1; omega)) (by omega) _ _

theorem own_slice {w : World} {base : Nat} {e : TypeId} {size n : Nat} {v : Value} {xs : List Value} (h : w.ownsRow base e size v n xs) : ∃ A c, v = .slice A n c := by
  rcases h.2 with ⟨rfl, rfl⟩ | ⟨g, cap, cur, rfl, _⟩
  · exact ⟨_, _, rfl⟩
  · exact ⟨_, _, rfl⟩
theorem own_mono {w : World} {base base' : Nat} {e : TypeId} {size n : Nat} {v : Value} {xs : List Value} (h : w.ownsRow base e size v n xs) (hb : base' ≤ base) : w.ownsRow base' e size v n xs := by
  obtain ⟨h1, h2⟩ := h
  refine ⟨h1, ?_⟩
  rcases h2 with h2 | ⟨g, cap, cur, rfl, hb', r⟩
  · exact .inl h2
  · exact .inr ⟨g, cap, cur, rfl, by omega, r⟩

/-- what Walk hands back: a row of its own -/
def walkPost (w : World) (y : List Lk × Int) (e : Ending) (w' : World) : Prop := ∃ v, e = .returned (.tuple #[v, .int .i64 y.2]) ∧ w'.ownsRow w.heap.size 35 8 v y.1.length (walkCells y.1) ∧ Below w.heap.size w w'

theorem walkEnds {n : Nat} {w : World} {y : List Lk × Int} {v : Value} {W : World} {D : Nat} {tmps : Array Value} (b8 : Blk W (w.heap.size + 1 + 1) 22 #[v]) (b9 : Blk W (w.heap.size + 1 + 1 + 1) 37 #[.int .i64 y.2])
    (hown : W.ownsRow (w.heap.size + 8) 35 8 v y.1.length (walkCells y.1))
    (hb : Below w.heap.size w W) (hD : w.heap.size + 8 ≤ D) (hK : W.heap[D]? = some (.deferred (some [])))
    (h8 : tmps.getD 8 undef = .pointer (some ⟨w.heap.size + 1 + 1, 0, none⟩)) (h9 : tmps.getD 9 undef = .pointer (some ⟨w.heap.size + 1 + 1 + 1, 0, none⟩)) :
    bodyPostM Fence.wide n Try.prog Try.f10 (walkPost w y) .ret { tmps := tmps, defers := [{ target := .collected D, args := #[] }] } W := by
  have b8' := b8.grown (grownBy_putObj' W D (.deferred none)) (fun e => by injection e; omega)
  have b9' := b9.grown (grownBy_putObj' W D (.deferred none)) (fun e => by injection e; omega)
  refine ⟨by simp, .inl ⟨_, _, rfl, run_takeDeferred hK, ?_⟩⟩
  refine ⟨.tuple #[v, .int .i64 y.2], ?_, ⟨v, rfl, ?_, ?_⟩⟩
  · exact results_cell_cell (ty := 22) (ty2 := 37) rfl _ _ (w.heap.size + 1 + 1) (w.heap.size + 1 + 1 + 1) 22 37 _ _ _ _ h8 b8' Try.underlying22 rfl h9 b9' Try.underlying37 rfl
  · refine own_mono (hown.kept (grownBy_putObj' W D (.deferred none)) ?_) (by omega)
    cases hv : v.ownBlock with
    | none => exact .inl rfl
    | some g =>
      right
      intro e
      injection e with e
      subst e
      obtain ⟨_, _, cur, hh⟩ := ownBlock_cells hown hv
      rw [hh] at hK; cases hK
  · exact hb.trans (belowK_b (w := w) (Nat.le_refl _) W D _ _ (by omega) hK rfl rfl)

/-- behind the loop: the list stored as the result -/
theorem walkEnds2 {n : Nat} {w : World} {y : List Lk × Int} {v u : Value} {k : Int} {W : World} {D : Nat} {tmps : Array Value} (b8 : Blk W (w.heap.size + 1 + 1) 22 #[u]) (b9 : Blk W (w.heap.size + 1 + 1 + 1) 37 #[.int .i64 k])
    (hown : W.ownsRow (w.heap.size + 8) 35 8 v y.1.length (walkCells y.1))
    (hb : Below w.heap.size w W) (hD : w.heap.size + 8 ≤ D) (hK : W.heap[D]? = some (.deferred (some [])))
    (h8 : tmps.getD 8 undef = .pointer (some ⟨w.heap.size + 1 + 1, 0, none⟩)) (h9 : tmps.getD 9 undef = .pointer (some ⟨w.heap.size + 1 + 1 + 1, 0, none⟩)) :
    bodyPostM Fence.wide n Try.prog Try.f10 (walkPost w y) .ret { tmps := tmps, defers := [{ target := .collected D, args := #[] }] } ((W.setCell ⟨w.heap.size + 1 + 1, 0, none⟩ v).setCell ⟨w.heap.size + 1 + 1 + 1, 0, none⟩ (.int .i64 y.2)) := by
  refine walkEnds (v := v) ?_ ?_ ?_ ?_ hD ?_ h8 h9
  · have := b8.set_ 0 v
    exact (by simpa using this : Blk _ _ 22 #[v]).far (p := ⟨w.heap.size + 1 + 1 + 1, 0, none⟩) (by simp) _
  · have := (b9.far (p := ⟨w.heap.size + 1 + 1, 0, none⟩) (by simp) v).set_ 0 (.int .i64 y.2)
    simpa using this
  · exact ownsRow_setCell_below (ownsRow_setCell_below hown (by show w.heap.size + 1 + 1 < _; omega) _) (by show w.heap.size + 1 + 1 + 1 < _; omega) _
  · exact bset (bset hb (by omega) _ _) (by omega) _ _
  · exact ((KeepsOthers.setCell _ _ _).trans (KeepsOthers.setCell _ _ _)).same _ _ hK rfl

set_option maxHeartbeats 1000000 in
theorem walkRow_in (n : Nat) (s o most : Int) (A kA : Option Addr) (xs : List Lk) (B c kn kc : Nat) (kb : List UInt8) (hx : xs.length ≤ 1000000) (w : World) (hB : B ≤ w.heap.size) (hr : RowAt w B A xs) (hkb : Bs w B kA kn kb)
    (hn : kn ≤ 9223372036854775807) (hk : mayKeyB kn = true) (hm : (most == 0) = false) :
    CallsIn Fence.wide (n + 5) Try.prog 10 #[.iface 23 (.slice A xs.length c), .agg #[.int .u32 s, .int .u32 o], .slice kA kn kc, .int .i64 most] w (walkPost w (walkN most (chainL xs kb s o 1099511627777) [])) := by
  have HK := hide hk
  clear hk
  refine callsIn_of_wp_marks Try.func10 rfl trivial ?_ rfl
  simp only [Try.ntmps10, List.size_toArray, List.length_cons, List.length_nil, Nat.reduceAdd, Nat.reduceSub, Array.replicate_succ, Array.replicate_zero, List.push_toArray, List.append_toArray, List.nil_append, List.cons_append]
  gi_wp2_with fail
  refine ⟨trivial, (callsIn_wide.2 (asks_row _ kA kn kc _ hn)).mono ?_⟩
  rintro e w1 ⟨rfl, rfl⟩
  rw [show asksI kn = 0 by simp [asksI, unhide HK]]
  gi_wp2_with fail
  refine ⟨trivial, (callsIn_wide.2 (links_any _ s o kA kn kc _)).mono ?_⟩
  rintro e w1 ⟨rfl, rfl⟩
  gi_wp2_with fail
  obtain ⟨W0, hW0⟩ : ∃ W0, ((((((((w.alloc (.cells #[.int .u32 s, .int .u32 o] 27)).alloc (.cells #[.int .i64 most] 3)).alloc (.cells #[.slice none 0 0] 22)).alloc (.cells #[.int .i64 0] 37)).alloc (.cells #[.slice none 0 0] 22)).alloc
      (.cells #[.iface 23 (.slice A xs.length c)] 63)).alloc (.cells #[.int .u32 s, .int .u32 o] 27)).alloc (.cells #[.slice kA kn kc] 24)) = W0 := ⟨_, rfl⟩
  have hsz : W0.heap.size = w.heap.size + 8 := by rw [← hW0]; simp
  have hb0 : Below w.heap.size w W0 := by rw [← hW0]; exact balloc (balloc (balloc (balloc (balloc (bel3 w _ _ _) _) _) _) _) _
  have B7 : Blk W0 (w.heap.size + 1) 3 #[.int .i64 most] := by rw [← hW0]; exact (((((((Blk.newAt (by simp)).alloc _).alloc _).alloc _).alloc _).alloc _).alloc _)
  have B8 : Blk W0 (w.heap.size + 1 + 1) 22 #[.slice none 0 0] := by rw [← hW0]; exact ((((((Blk.newAt (by simp)).alloc _).alloc _).alloc _).alloc _).alloc _)
  have B9 : Blk W0 (w.heap.size + 1 + 1 + 1) 37 #[.int .i64 0] := by rw [← hW0]; exact (((((Blk.newAt (by simp)).alloc _).alloc _).alloc _).alloc _)
  have B11 : Blk W0 (w.heap.size + 1 + 1 + 1 + 1) 22 #[.slice none 0 0] := by rw [← hW0]; exact ((((Blk.newAt (by simp)).alloc _).alloc _).alloc _)
  have hlw : LinkWorld W0 (w.heap.size + 6) (w.heap.size + 5) (w.heap.size + 7) B c kn kc s o A kA xs kb := by
    refine ⟨?_, ?_, ?_, hr.below (hb0.mono hB), hkb.below (hb0.mono hB)⟩
    · rw [← hW0]; exact ((Blk.newAt (by simp)).alloc _)
    · rw [← hW0]; exact (((Blk.newAt (by simp)).alloc _).alloc _)
    · rw [← hW0]; exact (Blk.newAt (by simp))
  rw [hW0]
  clear hW0
  have hlen := chainL_len xs kb s o 1099511627777
  refine range_zone (encs := encL) rfl (by omega) (gf := 24) (lb := #[.pointer (some ⟨w.heap.size + 6, 0, none⟩), .pointer (some ⟨w.heap.size + 5, 0, none⟩), .pointer (some ⟨w.heap.size + 7, 0, none⟩)]) rfl trivial (enters_of Try.func24 (by kernel_rfl) rfl)
    (chainL xs kb s o 1099511627777) (walkKeep w.heap.size) (zoneOf (w.heap.size + 1 + 1 + 1 + 1)) (fun x => rfl) (by intro k h1 h2; omega) ?hzone
    (WkI w most) (WkX w most)
    ?iter ?hI ?hIz ?hIx ⟨walkGo_nil most, B7, B8, B9, ⟨_, B11, ⟨by simp, .inl ⟨rfl, rfl⟩⟩⟩, hb0, by omega⟩
    (fun x a' W => ∃ g, w.heap.size + 8 ≤ g ∧ Blk W g 35 x.1.cs.toArray ∧ a' = { tmps := #[.iface 23 (.slice A xs.length c), .agg #[.int .u32 s, .int .u32 o], .slice kA kn kc, .int .i64 most, undef, .pointer (some ⟨w.heap.size, 0, none⟩), undef, .pointer (some ⟨w.heap.size + 1, 0, none⟩),
      .pointer (some ⟨w.heap.size + 1 + 1, 0, none⟩), .pointer (some ⟨w.heap.size + 1 + 1 + 1, 0, none⟩), .int .i64 0, .pointer (some ⟨w.heap.size + 1 + 1 + 1 + 1, 0, none⟩), .pointer (some ⟨g, 0, none⟩), .bool x.2, .iface 23 (.slice A xs.length c), .slice kA kn kc, .int .i64 0, .int .i64 0, .bool false, undef,
      .int .i64 most, .bool false, .iface 23 (.slice A xs.length c), .agg #[.int .u32 s, .int .u32 o], .slice kA kn kc, .func (.func 24) #[] #[.pointer (some ⟨w.heap.size + 6, 0, none⟩), .pointer (some ⟨w.heap.size + 5, 0, none⟩), .pointer (some ⟨w.heap.size + 7, 0, none⟩)], .agg x.1.cs.toArray, .bool x.2,
      undef, undef, undef, undef, undef, undef, undef, undef, undef, undef, undef], defers := [] })
    ?hAx ?assign ?body ?done ?stop
  case hzone =>
    intro A A' h
    unfold zoneOf
    have e : A'.cell? ⟨w.heap.size + 1 + 1 + 1 + 1, 0, none⟩ = A.cell? ⟨w.heap.size + 1 + 1 + 1 + 1, 0, none⟩ := World.cell?_of_block (h _ (by show w.heap.size + 1 + 1 + 1 + 1 < _; omega))
    rw [e]
  case iter =>
    intro l J Jx W hbW hsW hJ hJI hY h0
    have h := links1_in (n + 4) (by omega) l (w.heap.size + 6) (w.heap.size + 5) (w.heap.size + 7) B c kn kc s o A kA xs kb hx (walkKeep w.heap.size) (zoneOf (w.heap.size + 1 + 1 + 1 + 1)) J Jx W
      (fun k hk => Or.inl (by omega)) ⟨Or.inr (Or.inl (by omega)), Or.inr (Or.inl (by omega)), Or.inr (Or.inl (by omega))⟩ (fun k hk => Or.inr (Or.inr (by omega)))
      (by
        intro A A' h
        unfold zoneOf
        have e : A'.cell? ⟨w.heap.size + 1 + 1 + 1 + 1, 0, none⟩ = A.cell? ⟨w.heap.size + 1 + 1 + 1 + 1, 0, none⟩ := World.cell?_of_block (h _ (by show w.heap.size + 1 + 1 + 1 + 1 < _; omega))
        rw [e]) (by omega)
      (hlw.grown (only_of_below hbW none) (fun r e => by cases e) (N0 := W0.heap.size) (by omega) (Nat.le_refl _) (by omega))
      (by
        intro p W' hj g hg
        obtain ⟨v, hv, hown⟩ := (hJI _ _ hj).row
        rw [zoneOf_eq hv] at hg
        obtain ⟨h1, h2, _⟩ := ownBlock_cells hown hg
        omega) (by rw [hsW]; exact hJ) hY h0
    exact h
  case hI =>
    intro s A A' row hs hg hr
    exact hs.grown hg (fun r e => ⟨by have := (hr r e).1; omega, .inr (hr r e).2⟩)
  case hIz =>
    intro s A A' row hs hg hr
    exact hs.grown hg (fun r e => ⟨by have := (hr r e).1; omega, .inl (hr r e).2⟩)
  case hIx =>
    intro cd s A A' row hs hg hr
    exact hs.grown hg (fun r e => ⟨by have := (hr r e).1; omega, (hr r e).2⟩)
  case hAx =>
    intro x a' _ A A' row hs hg hr
    obtain ⟨g, h1, h2, h3⟩ := hs
    refine ⟨g, h1, h2.grown hg ?_, h3⟩
    intro e
    obtain ⟨_, ob, ho, hc⟩ := hr _ e.symm
    unfold Blk at h2
    rw [h2] at ho
    cases ho
    cases hc
  case assign =>
    intro l pre x W K hi hK
    obtain ⟨v, hv, _⟩ := hi.row
    simp only [encL, Lk.cs]
    gi_wp2
    refine hK _ _ (KeepsOthers.alloc _ _) ⟨rfl, rfl, rfl, by simp, fun k hk _ _ => Below.heap_alloc _ _ _ hk, .inl ?_⟩ (hi.grown (World.grownBy_alloc W _ none) (fun r e => by cases e)) ⟨W.heap.size, hi.size, Blk.new _ _ _, rfl⟩
    rw [zoneOf_eq hv, zoneOf_eq (hv.alloc _)]
  case body =>
    intro l pre x a' W hi hax hpre
    obtain ⟨g, hg, hbg, rfl⟩ := hax
    obtain ⟨x, hold⟩ := x
    have Hi := hide hi
    obtain ⟨v, hv, hown⟩ := hi.row
    obtain ⟨c7, f7, s7⟩ := hi.b7.facts
    obtain ⟨c8, f8, s8⟩ := hi.b8.facts
    obtain ⟨c9, f9, s9⟩ := hi.b9.facts
    obtain ⟨c11, f11, s11⟩ := hv.facts
    simp only [Lk.cs] at hbg ⊢
    obtain ⟨cg, fg, sg⟩ := hbg.facts
    clear hi
    cases hold with
    | false =>
      gi_wp2
      have h2 := (unhide Hi)
      refine ⟨(KeepsOthers.setCell _ _ _).trans (KeepsOthers.setCell _ _ _), .inl ⟨rfl, walkStop_bad h2.go, ?_, ?_⟩, ?_, ?_⟩
      · have := h2.b8.set_ 0 (.slice none 0 0)
        exact (by simpa using this : Blk _ _ 22 #[.slice none 0 0]).far (p := ⟨w.heap.size + 1 + 1 + 1, 0, none⟩) (by simp) _
      · have := (h2.b9.far (p := ⟨w.heap.size + 1 + 1, 0, none⟩) (by simp) (.slice none 0 0)).set_ 0 (.int .i64 36)
        simpa using this
      · exact bset (bset h2.below (by omega) _ _) (by omega) _ _
      · simpa [World.setCell] using h2.size
    | true =>
      obtain ⟨i0, hi0, hz0, hz1, hz2⟩ := info_parts link_info
      obtain ⟨rr, hrr⟩ := hpre
      have hpl : pre.length + 1 ≤ 1099511627778 := by
        rw [← hrr] at hlen
        simp at hlen
        omega
      have hsW := (unhide Hi).size
      clear hrr hlen
      gi_wp2_with (gi_at_builtin; refine wpListIn_append_any _ rfl (.tmp 30) (.tmp 32) 22 rfl (w.heap.size + 8) 35 i0 _ 8 80 Try.underlying22 hi0 hz0 hz1 hz2 rfl (by omega) v pre.length (walkCells (pre.map Prod.fst)) rfl (hown.alloc _) (W.heap.size + 1) (some ⟨W.heap.size, 0, none⟩) 1 1 x.cs rfl (Reads.ofBlk (Blk.new W 35 _) rfl) (by intro u hu; simp [Lk.cs] at hu; rcases hu with rfl | rfl | rfl | rfl | rfl | rfl | rfl | rfl <;> rfl) (by unfold maxLen; omega) (by omega) (by simp; omega) ?_; intro v' w1 hown' hg' hat'; obtain ⟨g', cap', rfl⟩ := ownsRow_succ hown'; obtain ⟨c17, f17, s17⟩ := ((unhide Hi).b7.alloc (.cells #[.int .u32 x.seg, .int .u32 x.off, .int .u64 x.seq, .int .i64 x.kind, .slice x.kA x.kn x.kc, .slice x.vA x.vn x.vc, .int .u32 x.ps, .int .u32 x.po] 35)).grown hg' (own_ne hown (by omega)) |>.facts; obtain ⟨c18, f18, s18⟩ := (hv.alloc (.cells #[.int .u32 x.seg, .int .u32 x.off, .int .u64 x.seq, .int .i64 x.kind, .slice x.kA x.kn x.kc, .slice x.vA x.vn x.vc, .int .u32 x.ps, .int .u32 x.po] 35)).grown hg' (own_ne hown (by omega)) |>.facts)
      all_goals obtain ⟨k1, k2, k3, k4, k5, k6, k7, k8, k9⟩ := (unhide Hi).step hv hown hg' hown' hat'
      · have e : (pre.length : Int) + 1 = most := by
          have : ((pre.length : Int) + 1 == most) = true := by assumption
          simpa using this
        refine ⟨k1, .inr ⟨rfl, ?_, k4, k5, _, k6, k7⟩, k8, k9⟩
        have := walkStop_hit (x := x) (unhide Hi).go e
        simpa using this
      · have e : ((pre.length : Int) + 1 = most) = False := by
          have : ((pre.length : Int) + 1 == most) = false := by assumption
          simpa using this
        exact ⟨k1, k2, walkGo_snoc (unhide Hi).go e, k3, k4, k5, ⟨_, k6, k7⟩, k8, k9⟩
  case done =>
    rintro D W hD hi hK
    obtain ⟨v, hv, hown⟩ := hi.row
    obtain ⟨A', c', rfl⟩ := own_slice hown
    obtain ⟨c8, f8, s8⟩ := hi.b8.facts
    obtain ⟨c9, f9, s9⟩ := hi.b9.facts
    obtain ⟨c11, f11, s11⟩ := hv.facts
    have Hi := hide hi
    clear hi
    gi_wp2
    have h2 := unhide Hi
    have hy : walkN most (chainL xs kb s o 1099511627777) [] = ((chainL xs kb s o 1099511627777).map Prod.fst, 0) := by
      have := h2.go []
      rw [List.append_nil] at this
      exact this
    rw [hy]
    exact walkEnds2 (y := ((chainL xs kb s o 1099511627777).map Prod.fst, 0)) h2.b8 h2.b9 (by simpa using hown) h2.below (by omega) hK rfl rfl
  case stop =>
    rintro D cd pre W hD hpre hx hK
    obtain ⟨r, hr⟩ := hpre
    rcases hx.way with ⟨rfl, h2, b8, b9⟩ | ⟨rfl, h2, b8, b9, v, hv, hown⟩
    · gi_wp2
      have hy : walkN most (chainL xs kb s o 1099511627777) [] = ([], 36) := by rw [← hr]; exact h2 r
      rw [hy]
      exact walkEnds (y := ([], 36)) b8 b9 ⟨rfl, .inl ⟨rfl, rfl⟩⟩ hx.below (by omega) hK rfl rfl
    · obtain ⟨A', c', rfl⟩ := own_slice hown
      obtain ⟨c8, f8, s8⟩ := b8.facts
      obtain ⟨c9, f9, s9⟩ := b9.facts
      obtain ⟨c11, f11, s11⟩ := hv.facts
      have H2 := hide h2
      have Hr := hide hr
      clear h2 hr
      gi_wp2
      have hy : walkN most (chainL xs kb s o 1099511627777) [] = (pre.map Prod.fst, 0) := by rw [← Hr.out]; exact (unhide H2) r
      rw [hy]
      exact walkEnds2 (y := (pre.map Prod.fst, 0)) b8 b9 (by simpa using hown) hx.below (by omega) hK rfl rfl

set_option maxHeartbeats 400000 in
theorem walk_badkey (r : Value) (s o most : Int) (kA : Option Addr) (kn kc : Nat) (w : World) (hn : kn ≤ 9223372036854775807) (hk : mayKeyB kn = false) :
    Calls Try.prog 10 #[.iface 23 r, .agg #[.int .u32 s, .int .u32 o], .slice kA kn kc, .int .i64 most] w (walkPost w ([], 30)) := by
  have HK := hide hk
  clear hk
  go_enter Try.func10, Try.ntmps10
  go_wp2_with fail
  refine (asks_row r kA kn kc _ hn).mono ?_
  rintro e w1 ⟨rfl, rfl⟩
  rw [show asksI kn = 30 by simp [asksI, unhide HK]]
  go_wp2_with fail
  refine bodyPost_ret (results_cell_cell (ty := 22) (ty2 := 37) rfl _ _ (w.heap.size + 1 + 1) (w.heap.size + 1 + 1 + 1) 22 37 _ _ _ _ rfl ((Blk.newAt (by simp)).alloc _) Try.underlying22 rfl rfl (Blk.newAt (by simp)) Try.underlying37 rfl) rfl ⟨_, rfl, ⟨rfl, .inl ⟨rfl, rfl⟩⟩, balloc (bel3 w _ _ _) _⟩

set_option maxHeartbeats 400000 in
theorem walk_zero (r : Value) (s o : Int) (kA : Option Addr) (kn kc : Nat) (w : World) (hn : kn ≤ 9223372036854775807) (hk : mayKeyB kn = true) :
    Calls Try.prog 10 #[.iface 23 r, .agg #[.int .u32 s, .int .u32 o], .slice kA kn kc, .int .i64 0] w (walkPost w ([], 0)) := by
  have HK := hide hk
  clear hk
  go_enter Try.func10, Try.ntmps10
  go_wp2_with fail
  refine (asks_row r kA kn kc _ hn).mono ?_
  rintro e w1 ⟨rfl, rfl⟩
  rw [show asksI kn = 0 by simp [asksI, unhide HK]]
  go_wp2_with fail
  refine bodyPost_ret (results_cell_cell (ty := 22) (ty2 := 37) rfl _ _ (w.heap.size + 1 + 1) (w.heap.size + 1 + 1 + 1) 22 37 _ _ _ _ rfl (((Blk.newAt (by simp)).alloc _).alloc _) Try.underlying22 rfl rfl ((Blk.newAt (by simp)).alloc _) Try.underlying37 rfl) rfl ⟨_, rfl, ⟨rfl, .inl ⟨rfl, rfl⟩⟩, balloc (balloc (bel3 w _ _ _) _) _⟩

theorem walk_row (s o most : Int) (A kA : Option Addr) (xs : List Lk) (B c kn kc : Nat) (kb : List UInt8) (hx : xs.length ≤ 1000000) (w : World) (hB : B ≤ w.heap.size) (hr : RowAt w B A xs) (hkb : Bs w B kA kn kb) (hn : kn ≤ 9223372036854775807) :
    Calls Try.prog 10 #[.iface 23 (.slice A xs.length c), .agg #[.int .u32 s, .int .u32 o], .slice kA kn kc, .int .i64 most] w (walkPost w (walkRes xs s o kb most)) := by
  have hl := hkb.len
  unfold walkRes
  rw [hl]
  cases hk : mayKeyB kn with
  | true =>
    by_cases hm : most = 0
    · subst hm
      exact walk_zero _ s o kA kn kc w hn hk
    · rw [if_pos rfl, if_neg hm]
      exact callsIn_wide.1 (walkRow_in 0 s o most A kA xs B c kn kc kb hx w hB hr hkb hn hk (by simpa using hm))
  | false => exact walk_badkey _ s o most kA kn kc w hn hk
end Go.Proofs.Ytgeanonphjjgeaa
