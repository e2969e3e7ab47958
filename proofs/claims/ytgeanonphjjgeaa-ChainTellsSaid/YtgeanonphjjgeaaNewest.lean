/-
  THE WALK of chain.Newest over a row as its reader.
-/
import Derived.Test.YtgeanonphjjgeaaIter
namespace Go.Proofs.Ytgeanonphjjgeaa
open Go.RowKit Go.Shelf
attribute [local go_sem] Oper.semAt_some

set_option maxHeartbeats 400000 in
theorem links_any (r : Value) (s o : Int) (kA : Option Addr) (kn kc : Nat) (w : World) :
    Calls Try.prog 19 #[.iface 23 r, .agg #[.int .u32 s, .int .u32 o], .slice kA kn kc] w fun e w' =>
      e = .returned (.func (.func 24) #[] #[.pointer (some ⟨w.heap.size + 1, 0, none⟩), .pointer (some ⟨w.heap.size, 0, none⟩), .pointer (some ⟨w.heap.size + 2, 0, none⟩)]) ∧
      ((w.alloc (.cells #[.iface 23 r] 63)).alloc (.cells #[.int .u32 s, .int .u32 o] 27)).alloc (.cells #[.slice kA kn kc] 24) = w' := by
  go_enter Try.func19, Try.ntmps19
  go_wp2
  go_ret
  exact ⟨rfl, rfl⟩

def linkV (x : Lk) : Value := .agg x.cs.toArray

set_option maxHeartbeats 400000 in
theorem newest_badkey (r : Value) (s o sN : Int) (kA : Option Addr) (kn kc : Nat) (w : World) (hn : kn ≤ 9223372036854775807) (hk : mayKeyB kn = false) :
    Calls Try.prog 8 #[.iface 23 r, .agg #[.int .u32 s, .int .u32 o], .slice kA kn kc, .int .u64 sN] w fun e w' =>
      e = .returned (.tuple #[linkV Lk.zero, .int .i64 30]) ∧ Below w.heap.size w w' := by
  have HK := hide hk
  clear hk
  go_enter Try.func8, Try.ntmps8
  go_wp2_with fail
  refine (asks_row r kA kn kc _ hn).mono ?_
  rintro e w1 ⟨rfl, rfl⟩
  rw [show asksI kn = 30 by simp [asksI, unhide HK]]
  go_wp2_with fail
  refine bodyPost_ret (results_row_cell (ty := 35) (ty2 := 37) rfl _ _ (w.heap.size + 1 + 1) (w.heap.size + 1 + 1 + 1) 35 37 _ _ _ _ rfl ((Blk.newAt (by simp)).alloc _) Try.underlying35 rfl (by kernel_rfl) rfl (Blk.newAt (by simp)) Try.underlying37 rfl) rfl ⟨?_, ?_⟩
  · rfl
  · exact balloc (bel3 w _ _ _) _

structure NewI (w : World) (sN : Int) (pre : List (Lk × Bool)) (W : World) : Prop where
  go : goesOn sN pre
  b7 : Blk W (w.heap.size + 1) 28 #[.int .u64 sN]
  b8 : Blk W (w.heap.size + 1 + 1) 35 #[.int .u32 0, .int .u32 0, .int .u64 0, .int .i64 0, .slice none 0 0, .slice none 0 0, .int .u32 0, .int .u32 0]
  b9 : Blk W (w.heap.size + 1 + 1 + 1) 37 #[.int .i64 0]
  below : Below w.heap.size w W
  size : w.heap.size + 7 ≤ W.heap.size
structure NewX (w : World) (sN : Int) (c : Code) (pre : List (Lk × Bool)) (W : World) : Prop where
  ret : c = .ret
  res : ∃ y : Lk × Int, stopsAt sN pre y ∧ Blk W (w.heap.size + 1 + 1) 35 y.1.cs.toArray ∧ Blk W (w.heap.size + 1 + 1 + 1) 37 #[.int .i64 y.2]
  below : Below w.heap.size w W
  size : w.heap.size + 7 ≤ W.heap.size
theorem NewI.grown {w : World} {sN : Int} {pre : List (Lk × Bool)} {A A' : World} (h : NewI w sN pre A) {row : Option Nat} (hg : A.grownBy A' row) (hr : ∀ r, row = some r → w.heap.size + 7 ≤ r) : NewI w sN pre A' :=
  ⟨h.go, h.b7.grown hg (fun e => by have := hr _ e.symm; omega), h.b8.grown hg (fun e => by have := hr _ e.symm; omega), h.b9.grown hg (fun e => by have := hr _ e.symm; omega),
    h.below.grown hg h.below.size (fun k e => by have := hr _ e; omega), Nat.le_trans h.size hg.size⟩
theorem NewX.grown {w : World} {sN : Int} {c : Code} {pre : List (Lk × Bool)} {A A' : World} (h : NewX w sN c pre A) {row : Option Nat} (hg : A.grownBy A' row) (hr : ∀ r, row = some r → w.heap.size + 7 ≤ r) : NewX w sN c pre A' := by
  obtain ⟨y, h1, h2, h3⟩ := h.res
  exact ⟨h.ret, ⟨y, h1, h2.grown hg (fun e => by have := hr _ e.symm; omega), h3.grown hg (fun e => by have := hr _ e.symm; omega)⟩,
    h.below.grown hg h.below.size (fun k e => by have := hr _ e; omega), Nat.le_trans h.size hg.size⟩
abbrev newKeep (N : Nat) (k : Nat) : Prop := k < N ∨ (N + 4 ≤ k ∧ k < N + 7) ∨ N + 9 ≤ k

theorem ko8 (W : World) (g : Nat) (v0 v1 v2 v3 v4 v5 v6 v7 : Value) :
    KeepsOthers W ((((((((W.setCell ⟨g, 0, none⟩ v0).setCell ⟨g, 1, none⟩ v1).setCell ⟨g, 2, none⟩ v2).setCell ⟨g, 3, none⟩ v3).setCell ⟨g, 4, none⟩ v4).setCell ⟨g, 5, none⟩ v5).setCell ⟨g, 6, none⟩ v6).setCell ⟨g, 7, none⟩ v7) :=
  (((((((KeepsOthers.setCell _ _ _).trans (KeepsOthers.setCell _ _ _)).trans (KeepsOthers.setCell _ _ _)).trans (KeepsOthers.setCell _ _ _)).trans (KeepsOthers.setCell _ _ _)).trans (KeepsOthers.setCell _ _ _)).trans (KeepsOthers.setCell _ _ _)).trans (KeepsOthers.setCell _ _ _)
theorem far8 {W : World} {k : Nat} {t : TypeId} {cs : Array Value} (h : Blk W k t cs) {g : Nat} (hne : k ≠ g) (v0 v1 v2 v3 v4 v5 v6 v7 : Value) :
    Blk ((((((((W.setCell ⟨g, 0, none⟩ v0).setCell ⟨g, 1, none⟩ v1).setCell ⟨g, 2, none⟩ v2).setCell ⟨g, 3, none⟩ v3).setCell ⟨g, 4, none⟩ v4).setCell ⟨g, 5, none⟩ v5).setCell ⟨g, 6, none⟩ v6).setCell ⟨g, 7, none⟩ v7) k t cs :=
  (((((((h.far (p := ⟨g, 0, none⟩) hne v0).far (p := ⟨g, 1, none⟩) hne v1).far (p := ⟨g, 2, none⟩) hne v2).far (p := ⟨g, 3, none⟩) hne v3).far (p := ⟨g, 4, none⟩) hne v4).far (p := ⟨g, 5, none⟩) hne v5).far (p := ⟨g, 6, none⟩) hne v6).far (p := ⟨g, 7, none⟩) hne v7
theorem NewI.leave0 {w : World} {sN : Int} {pre : List (Lk × Bool)} {W : World} (h : NewI w sN pre W) (y2 : Int) (v0 v1 v2 v3 v4 v5 v6 v7 : Value) :
    KeepsOthers W (((((((((W.setCell ⟨w.heap.size + 1 + 1, 0, none⟩ v0).setCell ⟨w.heap.size + 1 + 1, 1, none⟩ v1).setCell ⟨w.heap.size + 1 + 1, 2, none⟩ v2).setCell ⟨w.heap.size + 1 + 1, 3, none⟩ v3).setCell ⟨w.heap.size + 1 + 1, 4, none⟩ v4).setCell ⟨w.heap.size + 1 + 1, 5, none⟩ v5).setCell ⟨w.heap.size + 1 + 1, 6, none⟩ v6).setCell ⟨w.heap.size + 1 + 1, 7, none⟩ v7).setCell ⟨w.heap.size + 1 + 1 + 1, 0, none⟩ (.int .i64 y2)) ∧
    Blk (((((((((W.setCell ⟨w.heap.size + 1 + 1, 0, none⟩ v0).setCell ⟨w.heap.size + 1 + 1, 1, none⟩ v1).setCell ⟨w.heap.size + 1 + 1, 2, none⟩ v2).setCell ⟨w.heap.size + 1 + 1, 3, none⟩ v3).setCell ⟨w.heap.size + 1 + 1, 4, none⟩ v4).setCell ⟨w.heap.size + 1 + 1, 5, none⟩ v5).setCell ⟨w.heap.size + 1 + 1, 6, none⟩ v6).setCell ⟨w.heap.size + 1 + 1, 7, none⟩ v7).setCell ⟨w.heap.size + 1 + 1 + 1, 0, none⟩ (.int .i64 y2)) (w.heap.size + 1 + 1) 35 #[v0, v1, v2, v3, v4, v5, v6, v7] ∧ Blk (((((((((W.setCell ⟨w.heap.size + 1 + 1, 0, none⟩ v0).setCell ⟨w.heap.size + 1 + 1, 1, none⟩ v1).setCell ⟨w.heap.size + 1 + 1, 2, none⟩ v2).setCell ⟨w.heap.size + 1 + 1, 3, none⟩ v3).setCell ⟨w.heap.size + 1 + 1, 4, none⟩ v4).setCell ⟨w.heap.size + 1 + 1, 5, none⟩ v5).setCell ⟨w.heap.size + 1 + 1, 6, none⟩ v6).setCell ⟨w.heap.size + 1 + 1, 7, none⟩ v7).setCell ⟨w.heap.size + 1 + 1 + 1, 0, none⟩ (.int .i64 y2)) (w.heap.size + 1 + 1 + 1) 37 #[.int .i64 y2] ∧
    Below w.heap.size w (((((((((W.setCell ⟨w.heap.size + 1 + 1, 0, none⟩ v0).setCell ⟨w.heap.size + 1 + 1, 1, none⟩ v1).setCell ⟨w.heap.size + 1 + 1, 2, none⟩ v2).setCell ⟨w.heap.size + 1 + 1, 3, none⟩ v3).setCell ⟨w.heap.size + 1 + 1, 4, none⟩ v4).setCell ⟨w.heap.size + 1 + 1, 5, none⟩ v5).setCell ⟨w.heap.size + 1 + 1, 6, none⟩ v6).setCell ⟨w.heap.size + 1 + 1, 7, none⟩ v7).setCell ⟨w.heap.size + 1 + 1 + 1, 0, none⟩ (.int .i64 y2)) ∧ w.heap.size + 7 ≤ (((((((((W.setCell ⟨w.heap.size + 1 + 1, 0, none⟩ v0).setCell ⟨w.heap.size + 1 + 1, 1, none⟩ v1).setCell ⟨w.heap.size + 1 + 1, 2, none⟩ v2).setCell ⟨w.heap.size + 1 + 1, 3, none⟩ v3).setCell ⟨w.heap.size + 1 + 1, 4, none⟩ v4).setCell ⟨w.heap.size + 1 + 1, 5, none⟩ v5).setCell ⟨w.heap.size + 1 + 1, 6, none⟩ v6).setCell ⟨w.heap.size + 1 + 1, 7, none⟩ v7).setCell ⟨w.heap.size + 1 + 1 + 1, 0, none⟩ (.int .i64 y2)).heap.size := by
  refine ⟨(ko8 W _ v0 v1 v2 v3 v4 v5 v6 v7).trans (KeepsOthers.setCell _ _ _), ?_, ?_, ?_, ?_⟩
  · exact (h.b8.set8 v0 v1 v2 v3 v4 v5 v6 v7).far (p := ⟨w.heap.size + 1 + 1 + 1, 0, none⟩) (by simp) _
  · have := (far8 h.b9 (g := w.heap.size + 1 + 1) (by omega) v0 v1 v2 v3 v4 v5 v6 v7).set_ 0 (.int .i64 y2)
    simpa using this
  · exact bset (bset8 h.below (by omega) _ _ _ _ _ _ _ _) (by omega) _ _
  · simpa [World.setCell] using h.size
theorem NewI.leave {w : World} {sN : Int} {pre pre' : List (Lk × Bool)} {W : World} (h : NewI w sN pre W) (y : Lk) (y2 : Int) (hs : stopsAt sN pre' (y, y2)) (v0 v1 v2 v3 v4 v5 v6 v7 : Value) (hy : y.cs.toArray = #[v0, v1, v2, v3, v4, v5, v6, v7]) :
    KeepsOthers W (((((((((W.setCell ⟨w.heap.size + 1 + 1, 0, none⟩ v0).setCell ⟨w.heap.size + 1 + 1, 1, none⟩ v1).setCell ⟨w.heap.size + 1 + 1, 2, none⟩ v2).setCell ⟨w.heap.size + 1 + 1, 3, none⟩ v3).setCell ⟨w.heap.size + 1 + 1, 4, none⟩ v4).setCell ⟨w.heap.size + 1 + 1, 5, none⟩ v5).setCell ⟨w.heap.size + 1 + 1, 6, none⟩ v6).setCell ⟨w.heap.size + 1 + 1, 7, none⟩ v7).setCell ⟨w.heap.size + 1 + 1 + 1, 0, none⟩ (.int .i64 y2)) ∧ NewX w sN .ret pre' (((((((((W.setCell ⟨w.heap.size + 1 + 1, 0, none⟩ v0).setCell ⟨w.heap.size + 1 + 1, 1, none⟩ v1).setCell ⟨w.heap.size + 1 + 1, 2, none⟩ v2).setCell ⟨w.heap.size + 1 + 1, 3, none⟩ v3).setCell ⟨w.heap.size + 1 + 1, 4, none⟩ v4).setCell ⟨w.heap.size + 1 + 1, 5, none⟩ v5).setCell ⟨w.heap.size + 1 + 1, 6, none⟩ v6).setCell ⟨w.heap.size + 1 + 1, 7, none⟩ v7).setCell ⟨w.heap.size + 1 + 1 + 1, 0, none⟩ (.int .i64 y2)) := by
  obtain ⟨h1, h2, h3, h4, h5⟩ := h.leave0 y2 v0 v1 v2 v3 v4 v5 v6 v7
  exact ⟨h1, rfl, ⟨(y, y2), hs, by rw [hy]; exact h2, h3⟩, h4, h5⟩
/-- what is left behind the loop: the two results read out, where the deferred calls' block has been taken -/
theorem ends0 {n : Nat} {w : World} {y : Lk × Int} {W : World} {D : Nat} {R : Ending → World → Prop} {tmps : Array Value} (b8 : Blk W (w.heap.size + 1 + 1) 35 y.1.cs.toArray) (b9 : Blk W (w.heap.size + 1 + 1 + 1) 37 #[.int .i64 y.2])
    (hb : Below w.heap.size w W) (hD : w.heap.size + 7 ≤ D) (hK : W.heap[D]? = some (.deferred (some [])))
    (h8 : tmps.getD 8 undef = .pointer (some ⟨w.heap.size + 1 + 1, 0, none⟩)) (h9 : tmps.getD 9 undef = .pointer (some ⟨w.heap.size + 1 + 1 + 1, 0, none⟩))
    (hR : ∀ W', Below w.heap.size w W' → R (.returned (.tuple #[linkV y.1, .int .i64 y.2])) W') :
    bodyPostM Fence.wide n Try.prog Try.f8 R .ret { tmps := tmps, defers := [{ target := .collected D, args := #[] }] } W := by
  have b8' := b8.grown (grownBy_putObj' W D (.deferred none)) (fun e => by injection e; omega)
  have b9' := b9.grown (grownBy_putObj' W D (.deferred none)) (fun e => by injection e; omega)
  refine ⟨by simp, .inl ⟨_, _, rfl, run_takeDeferred hK, ?_⟩⟩
  refine ⟨.tuple #[.agg y.1.cs.toArray, .int .i64 y.2], ?_, ?_⟩
  · exact results_row_cell (ty := 35) (ty2 := 37) rfl _ _ (w.heap.size + 1 + 1) (w.heap.size + 1 + 1 + 1) 35 37 _ _ _ _ h8 b8' Try.underlying35 rfl (by kernel_rfl) h9 b9' Try.underlying37 rfl
  · exact hR (W.putObj D (.deferred none)) (hb.trans (belowK_b (w := w) (Nat.le_refl _) W D _ _ (by omega) hK rfl rfl))
theorem NewX.ends {n : Nat} {w : World} {sN : Int} {L pre : List (Lk × Bool)} {W : World} {D : Nat} {R : Ending → World → Prop} {tmps : Array Value} (h : NewX w sN .ret pre W) (hpre : pre <+: L) (hD : w.heap.size + 7 ≤ D) (hK : W.heap[D]? = some (.deferred (some [])))
    (h8 : tmps.getD 8 undef = .pointer (some ⟨w.heap.size + 1 + 1, 0, none⟩)) (h9 : tmps.getD 9 undef = .pointer (some ⟨w.heap.size + 1 + 1 + 1, 0, none⟩))
    (hR : ∀ W', Below w.heap.size w W' → R (.returned (.tuple #[linkV (findN sN L).1, .int .i64 (findN sN L).2])) W') :
    bodyPostM Fence.wide n Try.prog Try.f8 R .ret { tmps := tmps, defers := [{ target := .collected D, args := #[] }] } W := by
  obtain ⟨y, hs, b8, b9⟩ := h.res
  obtain ⟨r, rfl⟩ := hpre
  have hy : findN sN (pre ++ r) = y := hs r
  rw [hy] at hR
  exact ends0 b8 b9 h.below hD hK h8 h9 hR

set_option maxHeartbeats 1000000 in
theorem newest_in (n : Nat) (s o sN : Int) (A kA : Option Addr) (xs : List Lk) (B c kn kc : Nat) (kb : List UInt8) (hx : xs.length ≤ 1000000) (w : World) (hB : B ≤ w.heap.size) (hr : RowAt w B A xs) (hkb : Bs w B kA kn kb)
    (hn : kn ≤ 9223372036854775807) (hk : mayKeyB kn = true) :
    CallsIn Fence.wide (n + 5) Try.prog 8 #[.iface 23 (.slice A xs.length c), .agg #[.int .u32 s, .int .u32 o], .slice kA kn kc, .int .u64 sN] w fun e w' =>
      e = .returned (.tuple #[linkV (findN sN (chainL xs kb s o 1099511627777)).1, .int .i64 (findN sN (chainL xs kb s o 1099511627777)).2]) ∧ Below w.heap.size w w' := by
  have HK := hide hk
  clear hk
  refine callsIn_of_wp_marks Try.func8 rfl trivial ?_ rfl
  simp only [Try.ntmps8, List.size_toArray, List.length_cons, List.length_nil, Nat.reduceAdd, Nat.reduceSub, Array.replicate_succ, Array.replicate_zero, List.push_toArray, List.append_toArray, List.nil_append, List.cons_append]
  gi_wp2_with fail
  refine ⟨trivial, (callsIn_wide.2 (asks_row _ kA kn kc _ hn)).mono ?_⟩
  rintro e w1 ⟨rfl, rfl⟩
  rw [show asksI kn = 0 by simp [asksI, unhide HK]]
  gi_wp2_with fail
  refine ⟨trivial, (callsIn_wide.2 (links_any _ s o kA kn kc _)).mono ?_⟩
  rintro e w1 ⟨rfl, rfl⟩
  gi_wp2_with fail
  obtain ⟨N, hN⟩ : ∃ N, N = w.heap.size := ⟨_, rfl⟩
  obtain ⟨W0, hW0⟩ : ∃ W0, (((((((w.alloc (.cells #[.int .u32 s, .int .u32 o] 27)).alloc (.cells #[.int .u64 sN] 28)).alloc (.cells #[.int .u32 0, .int .u32 0, .int .u64 0, .int .i64 0, .slice none 0 0, .slice none 0 0, .int .u32 0, .int .u32 0] 35)).alloc
      (.cells #[.int .i64 0] 37)).alloc (.cells #[.iface 23 (.slice A xs.length c)] 63)).alloc (.cells #[.int .u32 s, .int .u32 o] 27)).alloc (.cells #[.slice kA kn kc] 24)) = W0 := ⟨_, rfl⟩
  have hsz : W0.heap.size = w.heap.size + 7 := by rw [← hW0]; simp
  have hb0 : Below w.heap.size w W0 := by rw [← hW0]; exact balloc (balloc (balloc (balloc (bel3 w _ _ _) _) _) _) _
  have B7 : Blk W0 (w.heap.size + 1) 28 #[.int .u64 sN] := by rw [← hW0]; exact ((((((Blk.newAt (by simp)).alloc _).alloc _).alloc _).alloc _).alloc _)
  have B8 : Blk W0 (w.heap.size + 1 + 1) 35 #[.int .u32 0, .int .u32 0, .int .u64 0, .int .i64 0, .slice none 0 0, .slice none 0 0, .int .u32 0, .int .u32 0] := by rw [← hW0]; exact (((((Blk.newAt (by simp)).alloc _).alloc _).alloc _).alloc _)
  have B9 : Blk W0 (w.heap.size + 1 + 1 + 1) 37 #[.int .i64 0] := by rw [← hW0]; exact ((((Blk.newAt (by simp)).alloc _).alloc _).alloc _)
  have hlw : LinkWorld W0 (w.heap.size + 5) (w.heap.size + 4) (w.heap.size + 6) B c kn kc s o A kA xs kb := by
    refine ⟨?_, ?_, ?_, hr.below (hb0.mono hB), hkb.below (hb0.mono hB)⟩
    · rw [← hW0]; exact ((Blk.newAt (by simp)).alloc _)
    · rw [← hW0]; exact (((Blk.newAt (by simp)).alloc _).alloc _)
    · rw [← hW0]; exact (Blk.newAt (by simp))
  rw [hW0]
  have ea : w.heap.size + 1 + 1 + 1 + 1 + 1 = w.heap.size + 5 := rfl
  have eb : w.heap.size + 1 + 1 + 1 + 1 = w.heap.size + 4 := rfl
  have ec : w.heap.size + 1 + 1 + 1 + 1 + 2 = w.heap.size + 6 := rfl
  clear hW0 ea eb ec
  refine range_zone (encs := encL) rfl (by omega) (gf := 24) (lb := #[.pointer (some ⟨w.heap.size + 5, 0, none⟩), .pointer (some ⟨w.heap.size + 4, 0, none⟩), .pointer (some ⟨w.heap.size + 6, 0, none⟩)]) rfl trivial (enters_of Try.func24 (by kernel_rfl) rfl)
    (chainL xs kb s o 1099511627777) (newKeep w.heap.size) (fun _ => none) (fun x => rfl) (by intro k h1 h2; omega) (fun _ _ _ => rfl)
    (NewI w sN) (NewX w sN)
    ?iter
    ?hI ?hIz ?hIx ⟨goesOn_nil sN, B7, B8, B9, hb0, by omega⟩
    (fun x a' W => ∃ g, w.heap.size + 7 ≤ g ∧ Blk W g 35 x.1.cs.toArray ∧ a' = { tmps := #[.iface 23 (.slice A xs.length c), .agg #[.int .u32 s, .int .u32 o], .slice kA kn kc, .int .u64 sN, undef, .pointer (some ⟨w.heap.size, 0, none⟩), undef, .pointer (some ⟨w.heap.size + 1, 0, none⟩),
      .pointer (some ⟨w.heap.size + 1 + 1, 0, none⟩), .pointer (some ⟨w.heap.size + 1 + 1 + 1, 0, none⟩), .int .i64 0, .pointer (some ⟨g, 0, none⟩), .bool x.2, .iface 23 (.slice A xs.length c), .slice kA kn kc, .int .i64 0, .int .i64 0, .bool false, undef, undef, .iface 23 (.slice A xs.length c),
      .agg #[.int .u32 s, .int .u32 o], .slice kA kn kc, .func (.func 24) #[] #[.pointer (some ⟨w.heap.size + 5, 0, none⟩), .pointer (some ⟨w.heap.size + 4, 0, none⟩), .pointer (some ⟨w.heap.size + 6, 0, none⟩)], .agg x.1.cs.toArray, .bool x.2, undef, undef, undef, undef, undef, undef, undef, undef, undef, undef, undef, undef], defers := [] })
    ?hAx ?assign ?body ?done ?stop
  case iter =>
    intro l J Jx W hbW hsW hJ _ hY h0
    have h := links1_in (n + 4) (by omega) l (w.heap.size + 5) (w.heap.size + 4) (w.heap.size + 6) B c kn kc s o A kA xs kb hx (newKeep w.heap.size) (fun _ => none) J Jx W
      (fun k hk => Or.inl (by omega)) ⟨Or.inr (Or.inl (by omega)), Or.inr (Or.inl (by omega)), Or.inr (Or.inl (by omega))⟩ (fun k hk => Or.inr (Or.inr (by omega))) (fun _ _ _ => rfl) (by omega)
      (hlw.grown (only_of_below hbW none) (fun r e => by cases e) (N0 := W0.heap.size) (by omega) (Nat.le_refl _) (by omega)) (fun _ _ _ g hg => by cases hg) (by rw [hsW]; exact hJ) hY h0
    exact h
  case hI =>
    intro s A A' row hs hg hr
    exact hs.grown hg (fun r e => by have := (hr r e).1; omega)
  case hIz =>
    intro s A A' row hs hg hr
    exact hs.grown hg (fun r e => by have := (hr r e).1; omega)
  case hIx =>
    intro cd s A A' row hs hg hr
    exact hs.grown hg (fun r e => by have := (hr r e).1; omega)
  case hAx =>
    intro x a' _ A A' row hs hg hr
    obtain ⟨g, h1, h2, h3⟩ := hs
    refine ⟨g, h1, h2.grown hg ?_, h3⟩
    intro e
    obtain ⟨_, ob, ho, hc⟩ := hr _ e.symm
    unfold Blk at h2
    rw [h2] at ho
    cases ho
    cases hc
  case assign =>
    intro l pre x W K hi hK
    simp only [encL, Lk.cs]
    gi_wp2
    exact hK _ _ (KeepsOthers.alloc _ _) ⟨rfl, rfl, rfl, by simp, fun k hk _ _ => Below.heap_alloc _ _ _ hk, .inl rfl⟩ (hi.grown (World.grownBy_alloc W _ none) (fun r e => by cases e)) ⟨W.heap.size, hi.size, Blk.new _ _ _, rfl⟩
  case body =>
    intro l pre x a' W hi hax hpre
    obtain ⟨g, hg, hbg, rfl⟩ := hax
    obtain ⟨x, hold⟩ := x
    have Hi := hide hi
    obtain ⟨c7, f7, s7⟩ := hi.b7.facts
    obtain ⟨c8, f8, s8⟩ := hi.b8.facts
    obtain ⟨c9, f9, s9⟩ := hi.b9.facts
    simp only [Lk.cs] at hbg ⊢
    obtain ⟨cg, fg, sg⟩ := hbg.facts
    clear hi
    cases hold with
    | false =>
      gi_wp2
      exact (unhide Hi).leave Lk.zero 36 (stopsAt_bad (unhide Hi).go) _ _ _ _ _ _ _ _ rfl
    | true =>
      gi_wp2
      · exact (unhide Hi).leave x 0 (stopsAt_hit (unhide Hi).go (by assumption)) _ _ _ _ _ _ _ _ rfl
      · have h2 := (unhide Hi).go
        refine ⟨KeepsOthers.refl _, ⟨rfl, rfl, rfl, Nat.le_refl _, fun _ _ _ _ => rfl, .inl rfl⟩, ⟨goesOn_snoc h2 (by assumption), (unhide Hi).b7, (unhide Hi).b8, (unhide Hi).b9, (unhide Hi).below, (unhide Hi).size⟩⟩
  case done =>
    rintro D W hD hi hK
    obtain ⟨c8, f8, s8⟩ := hi.b8.facts
    obtain ⟨c9, f9, s9⟩ := hi.b9.facts
    have Hi := hide hi
    clear hi
    gi_wp2
    obtain ⟨h1, h2, h3, h4, h5⟩ := (unhide Hi).leave0 6 (.int .u32 0) (.int .u32 0) (.int .u64 0) (.int .i64 0) (.slice none 0 0) (.slice none 0 0) (.int .u32 0) (.int .u32 0)
    have hy : findN sN (chainL xs kb s o 1099511627777) = (Lk.zero, 6) := by
      have := (unhide Hi).go []
      rw [List.append_nil] at this
      exact this
    exact ends0 (y := (Lk.zero, 6)) h2 h3 h4 (by omega) (h1.same _ _ hK rfl) rfl rfl (fun W' hb => ⟨by rw [hy], hb⟩)
  case stop =>
    rintro D cd pre W hD hpre hx hK
    obtain rfl := hx.ret
    gi_wp2
    exact hx.ends hpre (by omega) hK rfl rfl (fun W' hb => ⟨rfl, hb⟩)

theorem newest_row (s o sN : Int) (A kA : Option Addr) (xs : List Lk) (B c kn kc : Nat) (kb : List UInt8) (hx : xs.length ≤ 1000000) (w : World) (hB : B ≤ w.heap.size) (hr : RowAt w B A xs) (hkb : Bs w B kA kn kb) (hn : kn ≤ 9223372036854775807) :
    Calls Try.prog 8 #[.iface 23 (.slice A xs.length c), .agg #[.int .u32 s, .int .u32 o], .slice kA kn kc, .int .u64 sN] w fun e w' =>
      e = .returned (.tuple #[linkV (newestRes xs s o kb sN).1, .int .i64 (newestRes xs s o kb sN).2]) ∧ Below w.heap.size w w' := by
  have hl := hkb.len
  unfold newestRes
  rw [hl]
  cases hk : mayKeyB kn with
  | true => exact callsIn_wide.1 (newest_in 0 s o sN A kA xs B c kn kc kb hx w hB hr hkb hn hk)
  | false => exact newest_badkey _ s o sN kA kn kc w hn hk
end Go.Proofs.Ytgeanonphjjgeaa
