/-
  THE WALKS at no holes at all (nil). Conditions: none.
-/
import Derived.Test.YtfdabccdgcohjaaHWakes
namespace Go.Proofs.Ytfdabccdgcohjaa
open Go.RowKit Go.Shelf

theorem add_nil (w : World) (a b : Int) : Calls Try.prog 10 #[.pointer none, .int .u64 a, .int .u64 b] w fun e w' => e = .returned (.int .i64 2) ∧ w = w' := by
  have C1 := hide (none_yes w)
  go_enter Try.func10, Try.ntmps10
  go_wp2_with fail
  refine C1.out.mono ?_
  rintro e w1 ⟨rfl, rfl⟩
  go_wp2_with fail
  go_ret
  exact ⟨rfl, rfl⟩
theorem found_nil (w : World) (a : Int) : Calls Try.prog 13 #[.pointer none, .int .u64 a] w fun e w' => e = .returned (.int .i64 2) ∧ w = w' := by
  have C1 := hide (none_yes w)
  go_enter Try.func13, Try.ntmps13
  go_wp2_with fail
  refine C1.out.mono ?_
  rintro e w1 ⟨rfl, rfl⟩
  go_wp2_with fail
  go_ret
  exact ⟨rfl, rfl⟩
theorem at_nil (w : World) (a : Int) : Calls Try.prog 34 #[.pointer none, .int .u64 a] w fun e w' => e = .returned (.int .i64 (-1)) ∧ Below w.heap.size w w' := by
  have C1 := hide (none_yes (w.alloc (.cells #[.int .u64 a] 28)))
  go_enter Try.func34, Try.ntmps34
  go_wp2_with fail
  refine C1.out.mono ?_
  rintro e w1 ⟨rfl, rfl⟩
  go_wp2_with fail
  go_ret
  exact ⟨rfl, bel1 _ _⟩
theorem has_nil (w : World) (a : Int) : Calls Try.prog 14 #[.pointer none, .int .u64 a] w fun e w' => e = .returned (.bool false) ∧ Below w.heap.size w w' := by
  have C1 := hide (at_nil w a)
  go_enter Try.func14, Try.ntmps14
  go_wp2_with fail
  refine C1.out.mono ?_
  rintro e w1 ⟨rfl, hb⟩
  go_wp2_with fail
  go_ret
  exact ⟨rfl, hb⟩
theorem sure_nil (w : World) (a b : Int) : Calls Try.prog 11 #[.pointer none, .int .u64 a, .int .u64 b] w fun e w' => e = .returned (.bool true) ∧ Below w.heap.size w w' := by
  have C1 := hide (none_yes ((w.alloc (.cells #[.int .u64 a] 28)).alloc (.cells #[.int .u64 b] 28)))
  go_enter Try.func11, Try.ntmps11
  go_wp2_with fail
  refine C1.out.mono ?_
  rintro e w1 ⟨rfl, rfl⟩
  go_wp2_with fail
  go_ret
  exact ⟨rfl, bel2 _ _ _⟩
theorem any_nil (w : World) (a : Int) : Calls Try.prog 18 #[.pointer none, .int .u64 a] w fun e w' => e = .returned (.bool false) ∧ Below w.heap.size w w' := by
  have C1 := hide (sure_nil w 0 a)
  go_enter Try.func18, Try.ntmps18
  go_wp2_with fail
  refine C1.out.mono ?_
  rintro e w1 ⟨rfl, hb⟩
  go_wp2_with fail
  go_ret
  exact ⟨rfl, hb⟩
theorem list_nil (w : World) : Calls Try.prog 15 #[.pointer none] w fun e w' => e = .returned (.slice none 0 0) ∧ w = w' := by
  have C1 := hide (none_yes w)
  go_enter Try.func15, Try.ntmps15
  go_wp2_with fail
  refine C1.out.mono ?_
  rintro e w1 ⟨rfl, rfl⟩
  go_wp2_with fail
  go_ret
  exact ⟨rfl, rfl⟩
theorem copy_nil (w : World) : Calls Try.prog 21 #[.pointer none] w fun e w' => e = .returned (.pointer none) ∧ w = w' := by
  have C1 := hide (none_yes w)
  go_enter Try.func21, Try.ntmps21
  go_wp2_with fail
  refine C1.out.mono ?_
  rintro e w1 ⟨rfl, rfl⟩
  go_wp2_with fail
  go_ret
  exact ⟨rfl, rfl⟩
theorem many_nil (w : World) : Calls Try.prog 17 #[.pointer none] w fun e w' => e = .returned (.int .u64 0) ∧ Below w.heap.size w w' := by
  have C1 := hide (list_nil w)
  go_enter Try.func17, Try.ntmps17
  go_wp2_with fail
  refine C1.out.mono ?_
  rintro e w1 ⟨rfl, rfl⟩
  go_wp2_with fail
  go_loopw [3, 5, 9] (fun v3 _ v9 W => v9 = .int .i64 0 ∧ v3 = .int .u64 0 ∧ Below w.heap.size w W) (fun _ _ _ _ => 0)
  case atStart => exact ⟨rfl, rfl, Below.refl _ _⟩
  case round =>
    obtain ⟨rfl, rfl, hb⟩ := hrel
    go_wp2_with fail
    go_ret
    exact ⟨rfl, hb⟩
end Go.Proofs.Ytfdabccdgcohjaa
