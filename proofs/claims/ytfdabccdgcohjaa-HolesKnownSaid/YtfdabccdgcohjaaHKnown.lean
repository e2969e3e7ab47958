/-
  THE WALK of HolesKnown. Conditions: none.
-/
import Derived.Test.YtfdabccdgcohjaaHNil
namespace Go.Proofs.Ytfdabccdgcohjaa
open Go.RowKit Go.Shelf

theorem kn1 : addO 0 5 [] = (1, []) := by simp [addO]
theorem kn2 : addO 1 1099511627777 [] = (1, []) := by simp [addO]
theorem kn3 : addO 5 4 [] = (0, []) := by simp [addO]
theorem kn4 : foundO 0 [] = (1, []) := by simp [foundO]
theorem kn5 : foundO 1099511627777 [] = (1, []) := by simp [foundO]
theorem kn6 : addO 1099511627776 1099511627776 [] = (0, [⟨1099511627776, 1099511627776⟩]) := by simp [addO, addL]
theorem kn7 : addO 1 1 [⟨1099511627776, 1099511627776⟩] = (0, [⟨1, 1⟩, ⟨1099511627776, 1099511627776⟩]) := by simp [addO, addL]
theorem kn8 : sureL 0 1 [⟨1, 1⟩, ⟨1099511627776, 1099511627776⟩] = false := by decide
theorem kn9 : sureL 0 0 [⟨1, 1⟩, ⟨1099511627776, 1099511627776⟩] = true := by decide
theorem kna : sureL 1 1099511627775 [⟨1, 1⟩, ⟨1099511627776, 1099511627776⟩] = true := by decide
theorem knb : sureL 1 1099511627776 [⟨1, 1⟩, ⟨1099511627776, 1099511627776⟩] = false := by decide
theorem knc : sureL 18446744073709551615 18446744073709551615 [⟨1, 1⟩, ⟨1099511627776, 1099511627776⟩] = true := by decide
theorem eqp (w : World) : (binOp .eql 23 (.pointer none) (.pointer none)).run Try.prog w = .ok (.bool true) w := by kernel_rfl

set_option maxRecDepth 100000 in
set_option maxHeartbeats 4000000 in
theorem known_any (w : World) : Calls Try.prog 7 #[] w fun e w' => e = .returned (.bool true) ∧ Below w.heap.size w w' := by
  go_enter Try.func7, Try.ntmps7
  go_wp2_with fail
  refine (new_any w).mono ?_
  rintro e w1 ⟨p, rfl, h1, hb1, -⟩
  have HO := hide (OwnH.new h1 hb1)
  clear h1 hb1
  go_wp2_with fail
  refine (add_any HO.out.at_ 0 5 (by omega) (by omega) (by simp)).mono ?_
  rintro e w2 ⟨rfl, h2, hg⟩
  rw [kn1] at h2 ⊢
  replace HO := hide (HO.out.step h2 hg)
  clear h2 hg
  go_wp2_with fail
  refine (add_any HO.out.at_ 1 1099511627777 (by omega) (by omega) (by simp)).mono ?_
  rintro e w3 ⟨rfl, h2, hg⟩
  rw [kn2] at h2 ⊢
  replace HO := hide (HO.out.step h2 hg)
  clear h2 hg
  go_wp2_with fail
  refine (add_any HO.out.at_ 5 4 (by omega) (by omega) (by simp)).mono ?_
  rintro e w4 ⟨rfl, h2, hg⟩
  rw [kn3] at h2 ⊢
  replace HO := hide (HO.out.step h2 hg)
  clear h2 hg
  go_wp2_with fail
  refine (found_any HO.out.at_ 0 (by omega) (by simp)).mono ?_
  rintro e w5 ⟨rfl, h2, hg⟩
  rw [kn4] at h2 ⊢
  replace HO := hide (HO.out.step h2 hg)
  clear h2 hg
  go_wp2_with fail
  refine (found_any HO.out.at_ 1099511627777 (by omega) (by simp)).mono ?_
  rintro e w6 ⟨rfl, h2, hg⟩
  rw [kn5] at h2 ⊢
  replace HO := hide (HO.out.step h2 hg)
  clear h2 hg
  go_wp2_with fail
  refine (add_any HO.out.at_ 1099511627776 1099511627776 (by omega) (by omega) (by simp)).mono ?_
  rintro e w7 ⟨rfl, h2, hg⟩
  rw [kn6] at h2 ⊢
  replace HO := hide (HO.out.step h2 hg)
  clear h2 hg
  go_wp2_with fail
  refine (add_any HO.out.at_ 1 1 (by omega) (by omega) (by simp)).mono ?_
  rintro e w8 ⟨rfl, h2, hg⟩
  rw [kn7] at h2 ⊢
  replace HO := hide (HO.out.step h2 hg)
  clear h2 hg
  go_wp2_with fail
  refine (add_nil _ 1 1).mono ?_
  rintro e w9 ⟨rfl, rfl⟩
  go_wp2_with fail
  refine (found_nil _ 1).mono ?_
  rintro e w10 ⟨rfl, rfl⟩
  go_wp2_with fail
  refine (has_nil _ 1).mono ?_
  rintro e w11 ⟨rfl, hb⟩
  replace HO := hide (HO.out.later hb)
  clear hb
  go_wp2_with fail
  refine (sure_nil _ 0 9).mono ?_
  rintro e w12 ⟨rfl, hb⟩
  replace HO := hide (HO.out.later hb)
  clear hb
  go_wp2_with fail
  refine (any_nil _ 9).mono ?_
  rintro e w13 ⟨rfl, hb⟩
  replace HO := hide (HO.out.later hb)
  clear hb
  go_wp2_with fail
  refine (list_nil _).mono ?_
  rintro e w14 ⟨rfl, rfl⟩
  go_wp2_with fail
  refine (many_nil _).mono ?_
  rintro e w15 ⟨rfl, hb⟩
  replace HO := hide (HO.out.later hb)
  clear hb
  go_wp2_with fail
  refine (copy_nil _).mono ?_
  rintro e w16 ⟨rfl, rfl⟩
  go_wp2_with fail
  refine (list_any HO.out.at_ (by simp)).mono ?_
  rintro e wl ⟨v, rfl, ho, hb⟩
  replace HO := hide (HO.out.later hb)
  obtain ⟨A, c, rfl, hr⟩ := own_slice ho
  have HR := hide hr
  clear ho hr hb
  go_wp2_with fail
  refine (eq_lit [⟨1, 1⟩, ⟨1099511627776, 1099511627776⟩] HR.out rfl rfl rfl rfl (by simp) (by simp)).mono ?_
  rintro e wm ⟨rfl, hb⟩
  rw [eqS_self]
  replace HO := hide (HO.out.later hb)
  clear hb HR
  go_wp2_with fail
  refine (any_any HO.out.at_ 1 (by simp)).mono ?_
  rintro e w17 ⟨rfl, hb⟩
  rw [kn8]
  replace HO := hide (HO.out.later hb)
  clear hb
  go_wp2_with fail
  refine (any_any HO.out.at_ 0 (by simp)).mono ?_
  rintro e w18 ⟨rfl, hb⟩
  rw [kn9]
  replace HO := hide (HO.out.later hb)
  clear hb
  go_wp2_with fail
  refine (sure_any HO.out.at_ 1 1099511627775 (by simp)).mono ?_
  rintro e w19 ⟨rfl, hb⟩
  rw [kna]
  replace HO := hide (HO.out.later hb)
  clear hb
  go_wp2_with fail
  refine (sure_any HO.out.at_ 1 1099511627776 (by simp)).mono ?_
  rintro e w20 ⟨rfl, hb⟩
  rw [knb]
  replace HO := hide (HO.out.later hb)
  clear hb
  go_wp2_with fail
  refine (sure_any HO.out.at_ 18446744073709551615 18446744073709551615 (by simp)).mono ?_
  rintro e w21 ⟨rfl, hb⟩
  rw [knc]
  replace HO := hide (HO.out.later hb)
  clear hb
  go_wp2_with fail
  refine (wakes_any _).mono ?_
  rintro e wz ⟨rfl, hb⟩
  replace HO := hide (HO.out.later hb)
  clear hb
  go_wp2_with fail
  go_ret
  exact ⟨rfl, HO.out.below⟩
end Go.Proofs.Ytfdabccdgcohjaa
