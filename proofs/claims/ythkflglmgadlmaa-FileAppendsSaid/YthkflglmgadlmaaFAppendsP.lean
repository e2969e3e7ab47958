/-
  FileAppends is proved: the call returns true at every input. Conditions: none.
-/
import Derived.Test.YthkflglmgadlmaaRows
import Derived.Test.YthkflglmgadlmaaFAppends
import Derived.Test.YthkflglmgadlmaaFOpen
namespace Go.Proofs.Ythkflglmgadlmaa.fileAppends
open Go.ChangeShapes Go.WideShapes Go.ChangeAt Go.RowKit

theorem own : ownKnob Try.prog.godebug = none := by kernel_rfl
theorem laidOut : laidOutB Try.prog = true := by kernel_rfl

set_option maxRecDepth 100000 in
theorem lifted (os : Os) (started : os.Started) (H : Type) (enc : TypeId × Value → H) :
    ReturnsInHanded {} Try.checked os 4 .any (Rows.fileAppendsSpec.pre6 enc Try.prog Try.f4 Rows.fileAppendsRow.domain false) (Rows.fileAppendsSpec.post enc Try.prog Try.f4 false true false false) := by
  refine returnsInHanded_of_change (C := Try.checked) own started (by kernel_rfl) Try.func4
    (ChangeSpec.witness6 (enc := enc) (C := Try.checked) false ⟨#[], #[.slice none 0 0, .slice none 0 0, .agg #[.int .u8 0, .int .u8 0, .int .u8 0]], []⟩ 8 (by kernel_rfl) (by kernel_rfl) (by kernel_rfl) (by kernel_rfl)) ?_
  intro W base args ds gs before hval0 hW hcnd _
  have hval : ∀ (j : Nat) t v, Try.f4.params[j]? = some t → args[j]? = some v → Value.okWide Try.prog W .any base t v := hval0
  have hW' := hW
  obtain ⟨p, q, hA0, hV, rfl, hfz, hnd⟩ := hW
  have hA : DataW.TrodAll enc Try.prog W 0 (fun _ => true) true Try.f4.params.toList args.toList ds p := hA0
  rw [Try.params4] at hA hval
  obtain ⟨v0, v1, v2, d0, d1, d2, p0, p1, p2, rfl, rfl, rfl, h0, h1, h2⟩ := trodAll_three hA
  obtain ⟨rfl, rfl⟩ := trodVars_none hV
  obtain ⟨A, n, c, b, rfl, hb, hnc, hc, _⟩ := open_bs Try.underlying22 Try.underlying5 cells5 (hval 0 22 v0 rfl rfl) h0
  obtain ⟨MA, mn, mc, more, rfl, hm, hmc, hmc2, _⟩ := open_bs Try.underlying22 Try.underlying5 cells5 (hval 1 22 v1 rfl rfl) h1
  obtain ⟨cs, rfl, hcs, hel⟩ := open_arr Try.underlying42 Try.underlying5 cells5 (by kernel_rfl) (hval 2 42 v2 rfl rfl) h2
  obtain ⟨x, y, z, rfl⟩ := arr_three hcs
  obtain ⟨xi, ex, wx⟩ := hel 0 (by omega)
  obtain ⟨yi, ey, wy⟩ := hel 1 (by omega)
  obtain ⟨zi, ez, wz⟩ := hel 2 (by omega)
  simp at ex ey ez
  subst ex ey ez
  clear hA0 hval0
  simp only [List.append_nil] at hW'
  have hz := u8_wf wz
  obtain ⟨k, rfl⟩ : ∃ k : Nat, zi = (k : Int) := ⟨zi.toNat, by omega⟩
  refine (appends_any A n c b MA mn mc more xi yi k (u8_wf wx) (u8_wf wy) (by omega) W hb hm hnc (by unfold maxLen at hc; omega) hmc (by unfold maxLen at hmc2; omega)).mono fun e W' ⟨he, hg⟩ => ?_
  subst he
  exact ⟨_, rfl, law_post (P := Try.prog) rfl rfl Try.underlying4 laidOut (by kernel_rfl) hW' rfl hg⟩

theorem over : Rows.fileAppendsRow.holds Try.pinned (OpenSpec.ofChange Rows.fileAppendsSpec) :=
  OpenClaim.holds_of_wide 4 Try.f4 rfl rfl rfl rfl rfl rfl rfl ⟨rfl, rfl, rfl, rfl, rfl⟩ rfl rfl rfl rfl rfl (by kernel_rfl) Try.func4 (by kernel_rfl)
    (of_decide_eq_true (by kernel_rfl)) (by unfold Func.isWrapper; first | (rw [if_pos (by decide +kernel)]; kernel_rfl) | (rw [if_neg (by decide +kernel)]; exact ⟨rfl, rfl⟩))
    (fun os started H enc _ => lifted os started H enc)

theorem proved : Rows.FileAppendsSaid := over
#print axioms proved
end Go.Proofs.Ythkflglmgadlmaa.fileAppends
