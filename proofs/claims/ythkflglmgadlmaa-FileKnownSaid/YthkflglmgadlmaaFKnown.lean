/-
  THE WALK of FileKnown: ends; none. Conditions: none.
-/
import Derived.Test.YthkflglmgadlmaaFAct
namespace Go.Proofs.Ythkflglmgadlmaa
open Go.RowKit

theorem nil_read (i k : Int) (w : World) : Calls Try.prog 21 #[.pointer none, .int .i64 i, .int .i64 k] w fun e w' => e = .returned (.tuple #[.slice none 0 0, .int .i64 2]) ∧ w = w' := by
  go_enter Try.func21, Try.ntmps21
  go_wp2_with fail
  go_ret2
  exact ⟨rfl, rfl⟩
theorem nil_crash (k : Int) (w : World) : Calls Try.prog 12 #[.pointer none, .int .i64 k] w fun e w' => e = .returned (.tuple #[.int .i64 0, .int .i64 2]) ∧ w = w' := by
  go_enter Try.func12, Try.ntmps12
  go_wp2_with fail
  go_ret2
  exact ⟨rfl, rfl⟩
theorem nil_append (v : Value) (w : World) : Calls Try.prog 19 #[.pointer none, v] w fun e w' => e = .returned (.int .i64 2) ∧ w = w' := by
  go_enter Try.func19, Try.ntmps19
  go_wp2_with fail
  go_ret
  exact ⟨rfl, rfl⟩
theorem nil_cut (k : Int) (w : World) : Calls Try.prog 23 #[.pointer none, .int .i64 k] w fun e w' => e = .returned (.int .i64 2) ∧ w = w' := by
  go_enter Try.func23, Try.ntmps23
  go_wp2_with fail
  go_ret
  exact ⟨rfl, rfl⟩
theorem nil_sync (w : World) : Calls Try.prog 13 #[.pointer none] w fun e w' => e = .returned (.int .i64 2) ∧ w = w' := by
  go_enter Try.func13, Try.ntmps13
  go_wp2_with fail
  go_ret
  exact ⟨rfl, rfl⟩
theorem nil_flip (k b : Int) (w : World) : Calls Try.prog 22 #[.pointer none, .int .i64 k, .int .u8 b] w fun e w' => e = .returned (.int .i64 2) ∧ w = w' := by
  go_enter Try.func22, Try.ntmps22
  go_wp2_with fail
  go_ret
  exact ⟨rfl, rfl⟩
theorem nil_size (w : World) : Calls Try.prog 15 #[.pointer none] w fun e w' => e = .returned (.int .i64 0) ∧ w = w' := by
  go_enter Try.func15, Try.ntmps15
  go_wp2_with fail
  go_ret
  exact ⟨rfl, rfl⟩
theorem nil_safe (w : World) : Calls Try.prog 14 #[.pointer none] w fun e w' => e = .returned (.int .i64 0) ∧ w = w' := by
  go_enter Try.func14, Try.ntmps14
  go_wp2_with fail
  go_ret
  exact ⟨rfl, rfl⟩
theorem nil_loose (w : World) : Calls Try.prog 10 #[.pointer none] w fun e w' => e = .returned (.int .i64 0) ∧ w = w' := by
  go_enter Try.func10, Try.ntmps10
  go_wp2_with fail
  go_ret
  exact ⟨rfl, rfl⟩
theorem nil_copy (w : World) : Calls Try.prog 11 #[.pointer none] w fun e w' => e = .returned (.pointer none) ∧ w = w' := by
  go_enter Try.func11, Try.ntmps11
  go_wp2_with fail
  go_ret
  exact ⟨rfl, rfl⟩
theorem crash_neg {base p : Nat} {d : Option Nat} {F : Fl} {w : World} (_h : FlAt w base p d F) (k : Int) (hk : k < 0) : Calls Try.prog 12 #[.pointer (some ⟨p, 0, none⟩), .int .i64 k] w fun e w' => e = .returned (.tuple #[.int .i64 0, .int .i64 1]) ∧ w = w' := by
  go_enter Try.func12, Try.ntmps12
  go_wp2_with fail
  go_ret2
  exact ⟨rfl, rfl⟩
set_option maxHeartbeats 400000 in
theorem flip_loose {base p : Nat} {d : Option Nat} {F : Fl} {w : World} (h : FlAt w base p d F) (i b : Int) (h0 : 0 < F.deeds.length) (hsm : F.deeds.length ≤ 1000000) :
    Calls Try.prog 22 #[.pointer (some ⟨p, 0, none⟩), .int .i64 i, .int .u8 b] w fun e w' => e = .returned (.int .i64 1) ∧ w = w' := by
  obtain ⟨sA, sc, nA, nc, D, dv, h1, h2, h3, h4, h5, h6⟩ := h.ex
  obtain ⟨c1, f1, s1⟩ := h1.facts
  have hdl := h6.len
  obtain ⟨DA, dc, rfl⟩ := own_sl h4
  obtain ⟨m, hm⟩ : ∃ m, m = dv.length := ⟨_, rfl⟩
  rw [← hm] at c1
  have hm0 : (0 : Int) < (m : Int) := by omega
  have hm1 : m ≤ 1000000 := by omega
  clear h1 h2 h3 h4 h5 h6 h hm hdl h0 hsm
  go_enter Try.func22, Try.ntmps22
  go_wp2_with fail
  go_ret
  exact ⟨rfl, rfl⟩

set_option maxRecDepth 100000 in
set_option maxHeartbeats 2000000 in
theorem known_any (w : World) : Calls Try.prog 6 #[] w fun e w' => e = .returned (.bool true) ∧ Below w.heap.size w w' := by
  go_enter Try.func6, Try.ntmps6
  go_wp2_with (first | (refine (nil_read _ _ _).mono ?_; rintro e w1 ⟨rfl, rfl⟩) | (refine (nil_crash _ _).mono ?_; rintro e w1 ⟨rfl, rfl⟩))
  have h0 : FlAt (w.alloc (.cells #[.slice none 0 0, .slice none 0 0, .slice none 0 0] 51)) w.heap.size w.heap.size none (.rest []) :=
    ⟨⟨none, 0, none, 0, .slice none 0 0, [], Blk.new w 51 _, ⟨rfl, .inl ⟨rfl, rfl⟩⟩, ⟨rfl, .inl ⟨rfl, rfl⟩⟩, ⟨rfl, .inl ⟨rfl, rfl⟩⟩, rfl, trivial⟩, Nat.le_refl _, Fl.ok_rest _⟩
  have HS := hide (show Sub w (w.alloc (.cells #[.slice none 0 0, .slice none 0 0, .slice none 0 0] 51)) w.heap.size w.heap.size none (.rest []) from ⟨h0, bel1 w _, Nat.le_refl _, fun g e => by cases e⟩)
  clear h0
  have hz1 : (w.alloc (.cells #[.slice none 0 0, .slice none 0 0, .slice none 0 0] 51)).heap.size = w.heap.size + 1 := by simp
  generalize w.alloc (.cells #[.slice none 0 0, .slice none 0 0, .slice none 0 0] 51) = w1 at HS hz1 ⊢
  have HZ1 := hide hz1
  clear hz1
  replace HS := hide (HS.out.later (bel1 w1 (.cells #[.int .u8 1, .int .u8 2] 5)))
  refine (append_any HS.out.at_ _ 2 [1, 2] (bs_lit (Mk.newAt HZ1.out) rfl) (by have := HZ1.out; simp; omega) (by decide) (by decide)).mono ?_
  rintro e w2 ⟨rfl, d1, h2, S, hd⟩
  replace HS := hide (HS.out.step h2 S hd)
  clear h2 S hd
  go_wp2_with fail
  refine (flip_loose HS.out.at_ 0 1 (by decide) (by decide)).mono ?_
  rintro e w3 ⟨rfl, rfl⟩
  go_wp2_with fail
  refine (sync_any HS.out.at_ (by decide)).mono ?_
  rintro e w3 ⟨rfl, d2, h2, S, hd⟩
  rw [show ((Fl.rest []).app [1, 2]).now = [1, 2] from rfl] at h2
  replace HS := hide (HS.out.step h2 S hd)
  clear h2 S hd
  go_wp2_with fail
  refine (flip_ok HS.out.at_ 1 128 (by decide) rfl (by decide)).mono ?_
  rintro e w4 ⟨rfl, d3, h2, S, hd⟩
  replace h2 : FlAt w4 w.heap.size w.heap.size d3 (.rest [1, 130]) := h2
  replace HS := hide (HS.out.step h2 S hd)
  clear h2 S hd
  go_wp2_with fail
  refine (read_ok HS.out.at_ 0 2 (by decide) (by decide)).mono ?_
  rintro e w5 ⟨A5, a5, rfl, ho, hb5⟩
  replace ho : Own5 w5 w4.heap.size (.slice A5 2 a5) [1, 130] := ho
  rw [show (((Fl.rest [1, 130]).now.drop 0).take 2).length = 2 from rfl]
  replace HS := hide (HS.out.later hb5)
  have HO := hide ho
  clear ho hb5
  simp only []
  go_wp2_with fail
  refine (crash_neg HS.out.at_ (-1) (by omega)).mono ?_
  rintro e w6 ⟨rfl, rfl⟩
  go_wp2_with fail
  refine (read_neg HS.out.at_ (-1) 1 (by omega)).mono ?_
  rintro e w6 ⟨A6, a6, rfl, ho6, hb6⟩
  replace HS := hide (HS.out.later hb6)
  replace HO := hide (own_bel HO.out hb6)
  clear ho6 hb6
  simp only []
  go_wp2_with fail
  refine (read_neg HS.out.at_ 1 (-1) (by omega)).mono ?_
  rintro e w7 ⟨A7, a7, rfl, ho6, hb6⟩
  replace HS := hide (HS.out.later hb6)
  replace HO := hide (own_bel HO.out hb6)
  clear ho6 hb6
  simp only []
  go_wp2_with fail
  refine (read_short HS.out.at_ 4611686018427387904 1 (by omega) (by omega) (by omega) (by show (2 : Int) < _; omega) (by decide)).mono ?_
  rintro e w8 ⟨A8, a8, rfl, ho6, hb6⟩
  replace HS := hide (HS.out.later hb6)
  replace HO := hide (own_bel HO.out hb6)
  clear ho6 hb6
  simp only []
  go_wp2_with fail
  refine (read_ok HS.out.at_ 2 0 (by decide) (by decide)).mono ?_
  rintro e w9 ⟨A9, a9, rfl, ho6, hb6⟩
  replace HS := hide (HS.out.later hb6)
  replace HO := hide (own_bel HO.out hb6)
  clear ho6 hb6
  simp only []
  go_wp2_with (first | (refine (nil_append _ _).mono ?_; rintro e w10 ⟨rfl, rfl⟩) | (refine (nil_cut _ _).mono ?_; rintro e w10 ⟨rfl, rfl⟩) | (refine (nil_sync _).mono ?_; rintro e w10 ⟨rfl, rfl⟩) | (refine (nil_flip _ _ _).mono ?_; rintro e w10 ⟨rfl, rfl⟩) | (refine (nil_size _).mono ?_; rintro e w10 ⟨rfl, rfl⟩) | (refine (nil_safe _).mono ?_; rintro e w10 ⟨rfl, rfl⟩) | (refine (nil_loose _).mono ?_; rintro e w10 ⟨rfl, rfl⟩) | (refine (nil_copy _).mono ?_; rintro e w10 ⟨rfl, rfl⟩))
  have bL := bel1 w9 (.cells #[.int .u8 1, .int .u8 130] 5)
  replace HS := hide (HS.out.later bL)
  replace HO := hide (own_bel HO.out bL)
  clear bL
  refine (bytesEqual_any A5 _ 2 a5 2 2 _ _ [1, 130] [1, 130] _ (Reads.of_own HO.out) (bs_lit (Mk.new w9 5 _ _) rfl)).mono ?_
  rintro e w10 ⟨rfl, rfl⟩
  rw [show (([1, 130] : List UInt8) == [1, 130]) = true from rfl]
  go_wp2_with fail
  refine (cut_bad HS.out.at_ 3 (.inr (by show (2 : Int) < _; omega))).mono ?_
  rintro e w10 ⟨rfl, rfl⟩
  go_wp2_with fail
  refine (cut_bad HS.out.at_ (-1) (.inl (by omega))).mono ?_
  rintro e w10 ⟨rfl, rfl⟩
  go_wp2_with fail
  refine (cut_any HS.out.at_ 2 (by decide) (by decide) (by decide)).mono ?_
  rintro e w10 ⟨rfl, d4, h2, S, hd⟩
  replace HS := hide (HS.out.step h2 S hd)
  clear h2 S hd
  go_wp2_with fail
  refine (loose_any HS.out.at_ (by decide)).mono ?_
  rintro e w11 ⟨rfl, rfl⟩
  rw [show ((Fl.rest [1, 130]).cut 2).loose = 0 from rfl]
  go_wp2_with fail
  refine (wakes_any _).mono ?_
  rintro e w11 ⟨rfl, hb11⟩
  go_wp2_with fail
  go_ret
  exact ⟨rfl, belFrom HS.out.below hb11⟩
end Go.Proofs.Ythkflglmgadlmaa
