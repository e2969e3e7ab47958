/-
  THE WALK of ChainKnown.
-/
import Derived.Test.YtgeanonphjjgeaaWakes
namespace Go.Proofs.Ytgeanonphjjgeaa
open Go.RowKit Go.Shelf

set_option maxHeartbeats 400000 in
theorem newest_nil (s o sN : Int) (kA : Option Addr) (kn kc : Nat) (w : World) :
    Calls Try.prog 8 #[.nilIface, .agg #[.int .u32 s, .int .u32 o], .slice kA kn kc, .int .u64 sN] w fun e w' =>
      e = .returned (.tuple #[linkV Lk.zero, .int .i64 2]) ∧ Below w.heap.size w w' := by
  go_enter Try.func8, Try.ntmps8
  go_wp2_with fail
  refine (asks_nil kA kn kc _).mono ?_
  rintro e w1 ⟨rfl, rfl⟩
  go_wp2_with fail
  refine bodyPost_ret (results_row_cell (ty := 35) (ty2 := 37) rfl _ _ (w.heap.size + 1 + 1) (w.heap.size + 1 + 1 + 1) 35 37 _ _ _ _ rfl ((Blk.newAt (by simp)).alloc _) Try.underlying35 rfl (by kernel_rfl) rfl (Blk.newAt (by simp)) Try.underlying37 rfl) rfl ⟨?_, ?_⟩
  · rfl
  · exact balloc (bel3 w _ _ _) _
set_option maxHeartbeats 400000 in
theorem walk_nil (s o most : Int) (kA : Option Addr) (kn kc : Nat) (w : World) :
    Calls Try.prog 10 #[.nilIface, .agg #[.int .u32 s, .int .u32 o], .slice kA kn kc, .int .i64 most] w fun e w' => e = .returned (.tuple #[.slice none 0 0, .int .i64 2]) ∧ Below w.heap.size w w' := by
  go_enter Try.func10, Try.ntmps10
  go_wp2_with fail
  refine (asks_nil kA kn kc _).mono ?_
  rintro e w1 ⟨rfl, rfl⟩
  go_wp2_with fail
  refine bodyPost_ret (results_cell_cell (ty := 22) (ty2 := 37) rfl _ _ (w.heap.size + 1 + 1) (w.heap.size + 1 + 1 + 1) 22 37 _ _ _ _ rfl ((Blk.newAt (by simp)).alloc _) Try.underlying22 rfl rfl (Blk.newAt (by simp)) Try.underlying37 rfl) rfl ⟨rfl, balloc (bel3 w _ _ _) _⟩
set_option maxHeartbeats 400000 in
theorem value_nil (s o sN : Int) (kA : Option Addr) (kn kc : Nat) (w : World) :
    Calls Try.prog 12 #[.nilIface, .agg #[.int .u32 s, .int .u32 o], .slice kA kn kc, .int .u64 sN] w fun e w' => e = .returned (.tuple #[.slice none 0 0, .int .i64 2]) ∧ Below w.heap.size w w' := by
  go_enter Try.func12, Try.ntmps12
  go_wp2_with fail
  refine (newest_nil s o sN kA kn kc _).mono ?_
  rintro e w1 ⟨rfl, hb⟩
  simp only [linkV, Lk.cs, Lk.zero]
  go_wp2_with fail
  go_ret2
  exact ⟨rfl, balloc (belFrom (bel1 w _) hb) _⟩

theorem row_none (W : World) (B : Nat) (A : Option Addr) : RowAt W B A [] := ⟨Reads.none_, fun x hx => (by cases hx), fun x hx => (by cases hx)⟩
theorem res_none {kb : List UInt8} {sN : Int} (h : mayKeyB kb.length = true) : newestRes [] 0 0 kb sN = (Lk.zero, 6) := by
  simp [newestRes, h, chainL_none (show noneB 0 0 = true by decide), findN]
theorem res_bad {s o : Int} {kb : List UInt8} {sN : Int} {xs : List Lk} (h : mayKeyB kb.length = true) (hn : noneB s o = false) (hf : (linkRes xs s o kb 1099511627777).2 = false) : newestRes xs s o kb sN = (Lk.zero, 36) := by
  simp only [newestRes, h, if_true]
  rw [chainL_cons hn]
  generalize linkRes xs s o kb 1099511627777 = r at *
  obtain ⟨x, hold⟩ := r
  simp only at hf
  subst hf
  rfl
theorem res_key {s o : Int} {kb : List UInt8} {sN : Int} {xs : List Lk} (h : mayKeyB kb.length = false) : newestRes xs s o kb sN = (Lk.zero, 30) := by simp [newestRes, h]

structure KnW (w W : World) : Prop where
  below : Below w.heap.size w W
  k : Mk W w.heap.size 5 #[.int .u8 97]
  one : Blk W (w.heap.size + 1) 27 #[.int .u32 1, .int .u32 16]
  size : w.heap.size + 2 ≤ W.heap.size
theorem KnW.step {w W W' : World} (h : KnW w W) (hb : Below W.heap.size W W') : KnW w W' := by
  have hs := h.size
  exact ⟨belFrom h.below hb, h.k.below hb (by omega), h.one.below hb (by omega), Nat.le_trans hs hb.size⟩
theorem KnW.bs {w W : World} (h : KnW w W) : Bs W W.heap.size (some ⟨w.heap.size, 0, none⟩) 1 [97] := (bs_one (b := 97) h.k).more (by have := h.size; omega)
theorem made_bs (w : World) (n k : Nat) (hk : w.heap.size = k) : ∃ l, Bs (w.alloc (.cells (madeCells #[.int .u8 0] n) 5)) (w.alloc (.cells (madeCells #[.int .u8 0] n) 5)).heap.size (some ⟨k, 0, none⟩) n l := by
  subst hk
  refine ⟨List.replicate n 0, ?_⟩
  refine (Reads.ofMk (t := 5) (cs := (List.replicate n (0 : UInt8)).map bv) ?_ (by simp)).more (by simp)
  have e : madeCells #[Value.int .u8 0] n = ((List.replicate n (0 : UInt8)).map bv).toArray := by
    apply Array.ext
    · simp [madeCells]
    · intro i h1 h2
      simp [madeCells, bv]
      simp [madeCells] at h1
      simp [Nat.mod_one]
  rw [e]
  exact Mk.new w 5 _ _

set_option maxRecDepth 100000 in
set_option maxHeartbeats 1000000 in
theorem known_any (w : World) : Calls Try.prog 7 #[] w fun e w' => e = .returned (.bool true) ∧ Below w.heap.size w w' := by
  have kc := run_conv_const (P := Try.prog) 24 5 Try.underlying24 Try.underlying5
  obtain ⟨i0, hi0, hz0, hz1, hz2⟩ := info_parts u8_info
  have mk65 : ∀ W : World, (Instr.makeSlice 24 (.int .i64 65) (.int .i64 65)).run Try.prog W = .ok (.slice (some ⟨W.heap.size, 0, none⟩) 65 65) (W.alloc (.cells (madeCells #[.int .u8 0] 65) 5)) := fun W => by
    have h := run_make_rowN (P := Try.prog) 24 5 i0 _ Try.underlying24 hi0 hz0 .i64 .i64 65 65 (Nat.le_refl _) (by rw [hz2]; omega) (by omega) W
    rw [hz1] at h
    exact h
  have mk64 : ∀ W : World, (Instr.makeSlice 24 (.int .i64 64) (.int .i64 64)).run Try.prog W = .ok (.slice (some ⟨W.heap.size, 0, none⟩) 64 64) (W.alloc (.cells (madeCells #[.int .u8 0] 64) 5)) := fun W => by
    have h := run_make_rowN (P := Try.prog) 24 5 i0 _ Try.underlying24 hi0 hz0 .i64 .i64 64 64 (Nat.le_refl _) (by rw [hz2]; omega) (by omega) W
    rw [hz1] at h
    exact h
  clear hi0 hz0 hz1 hz2
  go_enter Try.func7, Try.ntmps7
  go_wp2_with fail
  have H0 : KnW w ((w.alloc (.cells #[.int .u8 97] 5 (1, 2))).alloc (.cells #[.int .u32 1, .int .u32 16] 27)) := ⟨bel2 w _ _, (Mk.new w 5 _ _).alloc _, Blk.new1 w 27 _ _, by simp⟩
  refine (newest_nil 1 16 1 _ 1 1 _).mono ?_
  rintro e w1 ⟨rfl, hb⟩
  have H1 := H0.step hb
  clear H0 hb
  obtain ⟨c, f, sz⟩ := H1.one.facts
  simp only [linkV, Lk.cs, Lk.zero]
  go_wp2_with fail
  refine (walk_nil 1 16 1 _ 0 0 _).mono ?_
  rintro e w2 ⟨rfl, hb⟩
  have H2 := H1.step (belFrom (bel1 w1 _) hb)
  clear H1 hb c f sz
  obtain ⟨c, f, sz⟩ := H2.one.facts
  go_wp2_with fail
  refine (value_nil 1 16 1 _ 1 1 _).mono ?_
  rintro e w3 ⟨rfl, hb⟩
  have H3 := H2.step hb
  clear H2 hb c f sz
  obtain ⟨c, f, sz⟩ := H3.one.facts
  go_wp2_with fail
  refine (newest_row 1 16 1 _ none [] 0 0 0 0 [] (by simp) _ (by omega) (row_none _ _ _) Reads.none_ (by omega)).mono ?_
  rintro e w4 ⟨rfl, hb⟩
  have H4 := H3.step (belFrom (bel1 w3 _) hb)
  clear H3 hb c f sz
  obtain ⟨c, f, sz⟩ := H4.one.facts
  rw [res_key (by decide)]
  simp only [linkV, Lk.cs, Lk.zero]
  go_wp2_with fail
  obtain ⟨l5, hl5⟩ := made_bs ((w4.alloc (.cells #[.int .u32 0, .int .u32 0, .int .u64 0, .int .i64 0, .slice none 0 0, .slice none 0 0, .int .u32 0, .int .u32 0] 35)).alloc (.cells #[] 35)) 65 (w4.heap.size + 1 + 1) (by simp)
  refine (newest_row 0 0 1 _ _ [] _ 0 65 65 l5 (by simp) _ (Nat.le_refl _) (row_none _ _ _) hl5 (by omega)).mono ?_
  rintro e w5 ⟨rfl, hb⟩
  have H5 := H4.step (belFrom (bel3 w4 _ _ _) hb)
  rw [res_key (by rw [hl5.len]; decide)]
  clear H4 hb c f sz hl5 l5
  obtain ⟨c, f, sz⟩ := H5.one.facts
  simp only [linkV, Lk.cs, Lk.zero]
  go_wp2_with fail
  obtain ⟨l6, hl6⟩ := made_bs ((w5.alloc (.cells #[.int .u32 0, .int .u32 0, .int .u64 0, .int .i64 0, .slice none 0 0, .slice none 0 0, .int .u32 0, .int .u32 0] 35)).alloc (.cells #[] 35)) 64 (w5.heap.size + 1 + 1) (by simp)
  refine (newest_row 0 0 1 _ _ [] _ 0 64 64 l6 (by simp) _ (Nat.le_refl _) (row_none _ _ _) hl6 (by omega)).mono ?_
  rintro e w6 ⟨rfl, hb⟩
  have H6 := H5.step (belFrom (bel3 w5 _ _ _) hb)
  rw [res_none (by rw [hl6.len]; decide)]
  clear H5 hb c f sz hl6 l6
  obtain ⟨c, f, sz⟩ := H6.one.facts
  have sz0 : w.heap.size < w6.heap.size := by omega
  simp only [linkV, Lk.cs, Lk.zero]
  go_wp2_with fail
  have H6' := H6.step (bel2 w6 (.cells #[.int .u32 0, .int .u32 0, .int .u64 0, .int .i64 0, .slice none 0 0, .slice none 0 0, .int .u32 0, .int .u32 0] 35) (.cells #[] 35))
  refine (newest_row 1 16 1 _ _ [] _ 0 1 1 [97] (by simp) _ (Nat.le_refl _) (row_none _ _ _) H6'.bs (by omega)).mono ?_
  rintro e w7 ⟨rfl, hb⟩
  have H7 := H6'.step hb
  rw [res_bad (by decide) (by decide) (by decide)]
  clear H6 H6' hb c f sz
  obtain ⟨c, f, sz⟩ := H7.one.facts
  simp only [linkV, Lk.cs, Lk.zero]
  go_wp2_with fail
  have H7' := H7.step (bel2 w7 (.cells #[.int .u32 0, .int .u32 0, .int .u64 0, .int .i64 0, .slice none 0 0, .slice none 0 0, .int .u32 0, .int .u32 0] 35) (.cells #[] 35))
  refine (walk_row 0 0 (-1) _ _ [] _ 0 1 1 [97] (by simp) _ (Nat.le_refl _) (row_none _ _ _) H7'.bs (by omega)).mono ?_
  rintro e w8 ⟨v, rfl, hown, hb⟩
  have H8 := H7'.step hb
  have ew : walkRes [] 0 0 [97] (-1) = ([], 0) := by
    simp [walkRes, mayKeyB, chainL_none (show noneB 0 0 = true by decide), walkN]
  simp only [ew] at hown ⊢
  obtain ⟨Av, cv, rfl⟩ := own_slice hown
  clear H7 H7' hb c f sz hown ew
  obtain ⟨c, f, sz⟩ := H8.one.facts
  go_wp2_with fail
  have hrow : RowAt (w8.alloc (.cells #[.int .u32 1, .int .u32 15, .int .u64 1, .int .i64 1, .slice (some ⟨w.heap.size, 0, none⟩) 1 1, .slice none 0 0, .int .u32 0, .int .u32 0] 35)) (w8.alloc (.cells #[.int .u32 1, .int .u32 15, .int .u64 1, .int .i64 1, .slice (some ⟨w.heap.size, 0, none⟩) 1 1, .slice none 0 0, .int .u32 0, .int .u32 0] 35)).heap.size (some ⟨w8.heap.size, 0, none⟩) [⟨1, 15, 1, 1, some ⟨w.heap.size, 0, none⟩, 1, 1, none, 0, 0, 0, 0, [97], []⟩] := by
    refine ⟨(Reads.ofMk (Mk.new w8 35 _ _) rfl).more (by simp), ?_, ?_⟩
    · intro x hx
      rcases List.mem_cons.1 hx with rfl | hx
      · exact (H8.step (bel1 w8 _)).bs
      · cases hx
    · intro x hx
      rcases List.mem_cons.1 hx with rfl | hx
      · exact Reads.none_
      · cases hx
  refine (newest_row 1 15 1 _ _ _ _ 1 1 1 [97] (by simp) _ (Nat.le_refl _) hrow (H8.step (bel1 w8 _)).bs (by omega)).mono ?_
  rintro e w9 ⟨rfl, hb⟩
  have H9 := H8.step (belFrom (bel1 w8 _) hb)
  rw [res_bad (by decide) (by decide) (by simp [linkRes, mayB, noneB, standsB])]
  clear H8 hb c f sz hrow
  simp only [linkV, Lk.cs, Lk.zero]
  go_wp2_with fail
  refine (wakes_any _).mono ?_
  rintro e w10 ⟨rfl, hb⟩
  have H10 := H9.step (belFrom (bel1 w9 _) hb)
  go_wp2_with fail
  go_ret
  exact ⟨rfl, H10.below⟩
end Go.Proofs.Ytgeanonphjjgeaa
