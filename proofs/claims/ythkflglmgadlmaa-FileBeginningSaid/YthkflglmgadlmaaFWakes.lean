/-
  THE WALK of wakes: the document's examples. Conditions: none.
-/
import Derived.Test.YthkflglmgadlmaaFDoes
namespace Go.Proofs.Ythkflglmgadlmaa
open Go.RowKit

def wkF : Fl := (((Fl.rest [97, 98, 99]).app [100, 101]).cut 4).app [102, 103]
theorem wk_ok : wkF.ok := Fl.ok_app (Fl.ok_cut (Fl.ok_app (Fl.ok_rest _) _) _) _
theorem wk_now : wkF.now = [97, 98, 99, 100, 102, 103] := rfl
theorem wk_safe : wkF.safe.length = 3 := rfl
theorem wk_loose : wkF.loose = 5 := rfl
theorem wk_c0 : wkF.crash 0 = (0, .rest [97, 98, 99]) := rfl
theorem wk_c1 : wkF.crash 1 = (1, .rest [97, 98, 99, 100]) := rfl
theorem wk_c2 : wkF.crash 2 = (2, .rest [97, 98, 99, 100, 101]) := rfl
theorem wk_c3 : wkF.crash 3 = (3, .rest [97, 98, 99, 100]) := rfl
theorem wk_c4 : wkF.crash 4 = (4, .rest [97, 98, 99, 100, 102]) := rfl
theorem wk_c9 : wkF.crash 9 = (5, .rest [97, 98, 99, 100, 102, 103]) := rfl

theorem bs_lit {w : World} {g : Nat} {l : List UInt8} {cs : Array Value} (h : Mk w g 5 cs) (he : cs = (l.map bv).toArray) : Bs w (g + 1) (some ⟨g, 0, none⟩) l.length l := by
  subst he
  exact Reads.ofMk h (by simp)

/-- a file of the call's own, and all that was there first as it was -/
structure Own (w W : World) (p : Nat) (d : Option Nat) (F : Fl) : Prop where
  at_ : FlAt W w.heap.size p d F
  below : Below w.heap.size w W
theorem Own.step {w W W' : World} {p : Nat} {d d' : Option Nat} {F F' : Fl} (h : Own w W p d F) (h2 : FlAt W' w.heap.size p d' F') (S : Stp W W' p d) : Own w W' p d' F' :=
  ⟨h2, h.below.trans (S.below h.at_.hp (fun g e => (h.at_.dlt g e).1) h.below.size)⟩
theorem Own.later {w W W' : World} {p : Nat} {d : Option Nat} {F : Fl} (h : Own w W p d F) (hb : Below W.heap.size W W') : Own w W' p d F := ⟨h.at_.below hb, belFrom h.below hb⟩

set_option maxRecDepth 100000 in
set_option maxHeartbeats 2000000 in
theorem wakes_any (w : World) : Calls Try.prog 17 #[] w fun e w' => e = .returned (.bool true) ∧ Below w.heap.size w w' := by
  have kc := run_conv_const (P := Try.prog) 22 5 Try.underlying22 Try.underlying5
  go_enter Try.func17, Try.ntmps17
  go_wp2_with fail
  have b1 := bel1 w (.cells #[.int .u8 97, .int .u8 98, .int .u8 99] 5 (3, 4))
  refine (new_any _ 3 3 (w.heap.size + 1) [97, 98, 99] _ (bs_lit (Mk.new w 5 _ _) rfl) (by omega) (by simp)).mono ?_
  rintro e w1 ⟨p, d0, rfl, h1, hb1⟩
  have O1 : Own w w1 p d0 (.rest [97, 98, 99]) := ⟨h1.mono (by simp), belFrom b1 hb1⟩
  clear h1 hb1 b1
  have HO := hide O1
  clear O1
  go_wp2_with fail
  have O1 := HO.out.later (bel1 w1 (.cells #[.int .u8 100, .int .u8 101] 5 (2, 3)))
  refine (append_any O1.at_ _ 2 [100, 101] (bs_lit (Mk.new w1 5 _ _) rfl) (by simp) (by decide) (by decide)).mono ?_
  rintro e w2 ⟨rfl, d1, h2, S, _⟩
  replace HO := hide (O1.step h2 S)
  clear h2 S O1
  go_wp2_with fail
  refine (cut_any HO.out.at_ 4 (by decide) (by decide) (by decide)).mono ?_
  rintro e w3 ⟨rfl, d2, h2, S, _⟩
  replace HO := hide (HO.out.step h2 S)
  clear h2 S
  go_wp2_with fail
  have O1 := HO.out.later (bel1 w3 (.cells #[.int .u8 102, .int .u8 103] 5 (2, 3)))
  refine (append_any O1.at_ _ 2 [102, 103] (bs_lit (Mk.new w3 5 _ _) rfl) (by simp) (by decide) (by decide)).mono ?_
  rintro e w4 ⟨rfl, d3, h2, S, _⟩
  have O2 : Own w w4 p d3 wkF := O1.step h2 S
  have HW := hide O2
  clear h2 S O1 HO O2
  go_wp2_with fail
  refine (size_any HW.out.at_).mono ?_
  rintro e w5 ⟨rfl, rfl⟩
  rw [show wkF.now.length = 6 from rfl]
  go_wp2_with fail
  refine (safe_any HW.out.at_).mono ?_
  rintro e w5 ⟨rfl, rfl⟩
  rw [wk_safe]
  go_wp2_with fail
  refine (loose_any HW.out.at_ (by rw [wk_loose]; omega)).mono ?_
  rintro e w5 ⟨rfl, rfl⟩
  rw [wk_loose]
  go_wp2_with fail
  have ix0 : ∀ w, (Instr.index 59 (.agg #[.string ⟨#[97, 98, 99]⟩, .string ⟨#[97, 98, 99, 100]⟩, .string ⟨#[]⟩, .string ⟨#[97, 98, 99, 100]⟩, .string ⟨#[97, 98, 99, 100, 102]⟩]) (.int .i64 0)).run Try.prog w = .ok (.string ⟨#[97, 98, 99]⟩) w := fun _ => by kernel_rfl
  have ix1 : ∀ w, (Instr.index 59 (.agg #[.string ⟨#[97, 98, 99]⟩, .string ⟨#[97, 98, 99, 100]⟩, .string ⟨#[]⟩, .string ⟨#[97, 98, 99, 100]⟩, .string ⟨#[97, 98, 99, 100, 102]⟩]) (.int .i64 1)).run Try.prog w = .ok (.string ⟨#[97, 98, 99, 100]⟩) w := fun _ => by kernel_rfl
  have ix2 : ∀ w, (Instr.index 59 (.agg #[.string ⟨#[97, 98, 99]⟩, .string ⟨#[97, 98, 99, 100]⟩, .string ⟨#[]⟩, .string ⟨#[97, 98, 99, 100]⟩, .string ⟨#[97, 98, 99, 100, 102]⟩]) (.int .i64 2)).run Try.prog w = .ok (.string ⟨#[]⟩) w := fun _ => by kernel_rfl
  have ix3 : ∀ w, (Instr.index 59 (.agg #[.string ⟨#[97, 98, 99]⟩, .string ⟨#[97, 98, 99, 100]⟩, .string ⟨#[]⟩, .string ⟨#[97, 98, 99, 100]⟩, .string ⟨#[97, 98, 99, 100, 102]⟩]) (.int .i64 3)).run Try.prog w = .ok (.string ⟨#[97, 98, 99, 100]⟩) w := fun _ => by kernel_rfl
  have ix4 : ∀ w, (Instr.index 59 (.agg #[.string ⟨#[97, 98, 99]⟩, .string ⟨#[97, 98, 99, 100]⟩, .string ⟨#[]⟩, .string ⟨#[97, 98, 99, 100]⟩, .string ⟨#[97, 98, 99, 100, 102]⟩]) (.int .i64 4)).run Try.prog w = .ok (.string ⟨#[97, 98, 99, 100, 102]⟩) w := fun _ => by kernel_rfl
  go_loopw [2, 3, 4, 5, 6, 36] (fun _ _ _ _ _ v36 W => ∃ k : Nat, k ≤ 5 ∧ v36 = .int .i64 k ∧ Below w4.heap.size w4 W) (fun _ _ _ _ _ v36 _ => 5 - (intOf v36).toNat)
  case atStart => exact ⟨0, by omega, rfl, Below.refl _ _⟩
  case round =>
    obtain ⟨k, hk, rfl, hb⟩ := hrel
    by_cases hlt : k < 5
    · have HR := hide (HW.out.later hb)
      have hkl : ∃ (n : Nat) (l : List UInt8), wkF.crash k = (n, .rest l) := ⟨_, _, rfl⟩
      obtain rfl | rfl | rfl | rfl | rfl : k = 0 ∨ k = 1 ∨ k = 2 ∨ k = 3 ∨ k = 4 := by omega
      · rw [show ((0 : Nat) : Int) = 0 from rfl]
        go_wp2_with fail
        refine (copy_any HR.out.at_ (by decide)).mono ?_
        rintro e wc ⟨p', d', rfl, hF, hbC, hp', hd'⟩
        go_wp2_with fail
        refine (crash_any hF 0 (by omega) (by decide)).mono ?_
        rintro e wd ⟨rfl, d'', hF2, S, _⟩
        rw [wk_c0] at hF2 ⊢
        have bS : Below wr.heap.size wr wd := hbC.trans (S.below hp' hd' hbC.size)
        simp only []
        have hA := all_any hF2 (by decide)
        have HA := hide hA
        clear hF hF2 S hA
        go_wp2_with fail
        refine HA.out.mono ?_
        rintro e we ⟨A, a, rfl, ho, hbe⟩
        have hcv := conv_bytes (P := Try.prog) (Reads.of_own ho : Bs we we.heap.size A _ _) a 22 5 9 Try.underlying22 Try.underlying5 Try.underlying9
        have hst := strOf_toList [97, 98, 99]
        rw [show (Fl.rest [97, 98, 99]).now = [97, 98, 99] from rfl] at hcv ⊢
        simp only [List.length_cons, List.length_nil, Nat.zero_add, Nat.reduceAdd] at hcv
        clear ho
        go_wp2_with fail
        go_roundw
        case rel => exact ⟨1, by omega, rfl, belFrom (belFrom hb bS) hbe⟩
        case measure => simp [intOf]
      · rw [show ((1 : Nat) : Int) = 1 from rfl]
        go_wp2_with fail
        refine (copy_any HR.out.at_ (by decide)).mono ?_
        rintro e wc ⟨p', d', rfl, hF, hbC, hp', hd'⟩
        go_wp2_with fail
        refine (crash_any hF 1 (by omega) (by decide)).mono ?_
        rintro e wd ⟨rfl, d'', hF2, S, _⟩
        rw [wk_c1] at hF2 ⊢
        have bS : Below wr.heap.size wr wd := hbC.trans (S.below hp' hd' hbC.size)
        simp only []
        have hA := all_any hF2 (by decide)
        have HA := hide hA
        clear hF hF2 S hA
        go_wp2_with fail
        refine HA.out.mono ?_
        rintro e we ⟨A, a, rfl, ho, hbe⟩
        have hcv := conv_bytes (P := Try.prog) (Reads.of_own ho : Bs we we.heap.size A _ _) a 22 5 9 Try.underlying22 Try.underlying5 Try.underlying9
        have hst := strOf_toList [97, 98, 99, 100]
        rw [show (Fl.rest [97, 98, 99, 100]).now = [97, 98, 99, 100] from rfl] at hcv ⊢
        simp only [List.length_cons, List.length_nil, Nat.zero_add, Nat.reduceAdd] at hcv
        clear ho
        go_wp2_with fail
        go_roundw
        case rel => exact ⟨2, by omega, rfl, belFrom (belFrom hb bS) hbe⟩
        case measure => simp [intOf]
      · rw [show ((2 : Nat) : Int) = 2 from rfl]
        go_wp2_with fail
        refine (copy_any HR.out.at_ (by decide)).mono ?_
        rintro e wc ⟨p', d', rfl, hF, hbC, hp', hd'⟩
        go_wp2_with fail
        refine (crash_any hF 2 (by omega) (by decide)).mono ?_
        rintro e wd ⟨rfl, d'', hF2, S, _⟩
        rw [wk_c2] at hF2 ⊢
        have bS : Below wr.heap.size wr wd := hbC.trans (S.below hp' hd' hbC.size)
        clear hF hF2 S
        go_wp2_with fail
        go_roundw
        case rel => exact ⟨3, by omega, rfl, belFrom hb bS⟩
        case measure => simp [intOf]
      · rw [show ((3 : Nat) : Int) = 3 from rfl]
        go_wp2_with fail
        refine (copy_any HR.out.at_ (by decide)).mono ?_
        rintro e wc ⟨p', d', rfl, hF, hbC, hp', hd'⟩
        go_wp2_with fail
        refine (crash_any hF 3 (by omega) (by decide)).mono ?_
        rintro e wd ⟨rfl, d'', hF2, S, _⟩
        rw [wk_c3] at hF2 ⊢
        have bS : Below wr.heap.size wr wd := hbC.trans (S.below hp' hd' hbC.size)
        simp only []
        have hA := all_any hF2 (by decide)
        have HA := hide hA
        clear hF hF2 S hA
        go_wp2_with fail
        refine HA.out.mono ?_
        rintro e we ⟨A, a, rfl, ho, hbe⟩
        have hcv := conv_bytes (P := Try.prog) (Reads.of_own ho : Bs we we.heap.size A _ _) a 22 5 9 Try.underlying22 Try.underlying5 Try.underlying9
        have hst := strOf_toList [97, 98, 99, 100]
        rw [show (Fl.rest [97, 98, 99, 100]).now = [97, 98, 99, 100] from rfl] at hcv ⊢
        simp only [List.length_cons, List.length_nil, Nat.zero_add, Nat.reduceAdd] at hcv
        clear ho
        go_wp2_with fail
        go_roundw
        case rel => exact ⟨4, by omega, rfl, belFrom (belFrom hb bS) hbe⟩
        case measure => simp [intOf]
      · rw [show ((4 : Nat) : Int) = 4 from rfl]
        go_wp2_with fail
        refine (copy_any HR.out.at_ (by decide)).mono ?_
        rintro e wc ⟨p', d', rfl, hF, hbC, hp', hd'⟩
        go_wp2_with fail
        refine (crash_any hF 4 (by omega) (by decide)).mono ?_
        rintro e wd ⟨rfl, d'', hF2, S, _⟩
        rw [wk_c4] at hF2 ⊢
        have bS : Below wr.heap.size wr wd := hbC.trans (S.below hp' hd' hbC.size)
        simp only []
        have hA := all_any hF2 (by decide)
        have HA := hide hA
        clear hF hF2 S hA
        go_wp2_with fail
        refine HA.out.mono ?_
        rintro e we ⟨A, a, rfl, ho, hbe⟩
        have hcv := conv_bytes (P := Try.prog) (Reads.of_own ho : Bs we we.heap.size A _ _) a 22 5 9 Try.underlying22 Try.underlying5 Try.underlying9
        have hst := strOf_toList [97, 98, 99, 100, 102]
        rw [show (Fl.rest [97, 98, 99, 100, 102]).now = [97, 98, 99, 100, 102] from rfl] at hcv ⊢
        simp only [List.length_cons, List.length_nil, Nat.zero_add, Nat.reduceAdd] at hcv
        clear ho
        go_wp2_with fail
        go_roundw
        case rel => exact ⟨5, by omega, rfl, belFrom (belFrom hb bS) hbe⟩
        case measure => simp [intOf]
    · obtain rfl : k = 5 := by omega
      rw [show ((5 : Nat) : Int) = 5 from rfl]
      have HR := hide (HW.out.later hb)
      go_wp2_with fail
      refine (crash_any HR.out.at_ 9 (by omega) (by decide)).mono ?_
      rintro e wd ⟨rfl, d'', hF2, S, _⟩
      rw [wk_c9] at hF2 ⊢
      have O2 := HR.out.step hF2 S
      simp only []
      have hA := all_any hF2 (by decide)
      have HA := hide hA
      have HO := hide O2
      clear hF2 S hA O2
      go_wp2_with fail
      refine HA.out.mono ?_
      rintro e we ⟨A, a, rfl, ho, hbe⟩
      have hcv := conv_bytes (P := Try.prog) (Reads.of_own ho : Bs we we.heap.size A _ _) a 22 5 9 Try.underlying22 Try.underlying5 Try.underlying9
      have hst := strOf_toList [97, 98, 99, 100, 102, 103]
      rw [show (Fl.rest [97, 98, 99, 100, 102, 103]).now = [97, 98, 99, 100, 102, 103] from rfl] at hcv ⊢
      simp only [List.length_cons, List.length_nil, Nat.zero_add, Nat.reduceAdd] at hcv
      clear ho
      go_wp2_with fail
      go_ret
      exact ⟨rfl, belFrom HO.out.below hbe⟩
end Go.Proofs.Ythkflglmgadlmaa
