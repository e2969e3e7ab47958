/-
  OrderWalks is proved: the call returns true at every input. Conditions: none.
-/
import Derived.Test.YteiamfekdibkmaaRows
import Derived.Test.YteiamfekdibkmaaOWalks
import Derived.Test.YteiamfekdibkmaaOOpenW
import Derived.Test.YteiamfekdibkmaaOpenArr
namespace Go.Proofs.Yteiamfekdibkmaa.orderWalks
open Go.ChangeShapes Go.WideShapes Go.ChangeAt Go.RowKit

theorem own : ownKnob Try.prog.godebug = none := by kernel_rfl
theorem laidOut : laidOutB Try.prog = true := by kernel_rfl

set_option maxRecDepth 100000 in
theorem lifted (os : Os) (started : os.Started) (H : Type) (enc : TypeId × Value → H) :
    ReturnsInHanded {} Try.checked os 5 .any (Rows.orderWalksSpec.pre6 enc Try.prog Try.f5 Rows.orderWalksRow.domain false) (Rows.orderWalksSpec.post enc Try.prog Try.f5 false true false false) := by
  refine returnsInHanded_of_change (C := Try.checked) own started (by kernel_rfl) Try.func5
    (ChangeSpec.witness6 (enc := enc) (C := Try.checked) false ⟨#[], #[.slice none 0 0, .slice none 0 0, .int .u8 0], []⟩ 8 (by kernel_rfl) (by kernel_rfl) (by kernel_rfl) (by kernel_rfl)) ?_
  intro W base args ds gs before hval0 hW hcnd _
  have hval : ∀ (j : Nat) t v, Try.f5.params[j]? = some t → args[j]? = some v → Value.okWide Try.prog W .any base t v := hval0
  have hW' := hW
  obtain ⟨p, q, hA0, hV, rfl, hfz, hnd⟩ := hW
  have hA : DataW.TrodAll enc Try.prog W 0 (fun _ => true) true Try.f5.params.toList args.toList ds p := hA0
  rw [Try.params5] at hA hval
  obtain ⟨v0, v1, v2, d0, d1, d2, p0, p1, p2, rfl, rfl, rfl, h0, h1, h2⟩ := trodAll_three hA
  obtain ⟨rfl, rfl⟩ := trodVars_none hV
  obtain ⟨A0, n0, c0, rs, rfl, e0, r0, hl0, hnc0, hc0⟩ := open_rowsW (hval 0 22 v0 rfl rfl) h0
  obtain ⟨A1, n1, c1, hs, rfl, e1, r1, hnc1, hc1⟩ := open_keys (hval 1 25 v1 rfl rfl) h1
  obtain ⟨s, rfl, rfl, rfl, ws⟩ := open_int Try.underlying5 (hval 2 5 v2 rfl rfl) h2
  clear hA0 hval0
  simp only [List.append_nil] at hW'
  refine (walks_any A0 A1 n0 c0 n1 c1 s rs hs W r0 e0 (Nat.le_trans hnc0 hc0) hl0 r1 e1 (Nat.le_trans hnc1 hc1) (u8_wf ws).1 (by have := (u8_wf ws).2; omega)).mono fun e W' ⟨he, hg⟩ => ?_
  subst he
  exact ⟨_, rfl, law_post (P := Try.prog) rfl rfl Try.underlying4 laidOut (by kernel_rfl) hW' rfl hg⟩

theorem over : Rows.orderWalksRow.holds Try.pinned (OpenSpec.ofChange Rows.orderWalksSpec) :=
  OpenClaim.holds_of_wide 5 Try.f5 rfl rfl rfl rfl rfl rfl rfl ⟨rfl, rfl, rfl, rfl, rfl⟩ rfl rfl rfl rfl rfl (by kernel_rfl) Try.func5 (by kernel_rfl)
    (of_decide_eq_true (by kernel_rfl)) (by unfold Func.isWrapper; first | (rw [if_pos (by decide +kernel)]; kernel_rfl) | (rw [if_neg (by decide +kernel)]; exact ⟨rfl, rfl⟩))
    (fun os started H enc _ => lifted os started H enc)

theorem proved : Rows.OrderWalksSaid := over
#print axioms proved
end Go.Proofs.Yteiamfekdibkmaa.orderWalks
