/-
  HolesSure is proved: the call returns true at every input. Conditions: none.
-/
import Derived.Test.YtfdabccdgcohjaaRows
import Derived.Test.YtfdabccdgcohjaaHSure
import Derived.Test.YtfdabccdgcohjaaOpenRows
import Derived.Test.YtfdabccdgcohjaaOpenArr
namespace Go.Proofs.Ytfdabccdgcohjaa.holesSure
open Go.ChangeShapes Go.WideShapes Go.ChangeAt Go.RowKit

section
variable {H : Type} {enc : TypeId × Value → H}
theorem cells4c : Try.prog.cellsOf 4 = 1 := by kernel_rfl
theorem flat_bool : ∀ l : List Bool, l.flatMap (fun b => [Value.bool b]) = l.map Value.bool
  | [] => rfl
  | b :: l => by rw [List.flatMap_cons, flat_bool l]; rfl
/-- an argument that is a slice of bools -/
theorem open_bools {w : World} {base b0 : Nat} {r : Reach} {spare : Nat → Bool} {held : Bool} {v : Value} {d : DataW H} {ps : List MemPlace}
    (hv : Value.okWide Try.prog w r b0 22 v) (hd : DataW.Trod enc Try.prog w base spare held 22 v d ps) : ∃ A n c l, v = .slice A n c ∧ n = l.length ∧ RdB w w.heap.size A l := by
  obtain ⟨a0, len, cap, rfl⟩ := okWide_slice Try.underlying22 hv
  obtain ⟨fuel, hf⟩ := hd
  obtain ⟨A, n, c, l, hcs, hl, _, hr, _, _, _⟩ := open_rows (α := Bool) (fun b => [Value.bool b]) (fun _ => True) Try.underlying22 cells4c (fun _ => rfl) (by
    intro n cs' y hy hlen
    obtain ⟨i1, e1, _⟩ := DataW.trod_bool Try.underlying4 hy
    exact ⟨i1, e1, trivial⟩) hf
  simp [Value.cells] at hcs
  obtain ⟨rfl, rfl, rfl⟩ := hcs
  refine ⟨_, _, _, l, rfl, hl.symm, ?_⟩
  unfold RdB
  rw [hl, ← flat_bool]
  exact hr
end

theorem own : ownKnob Try.prog.godebug = none := by kernel_rfl
theorem laidOut : laidOutB Try.prog = true := by kernel_rfl

set_option maxRecDepth 100000 in
theorem lifted (os : Os) (started : os.Started) (H : Type) (enc : TypeId × Value → H) :
    ReturnsInHanded {} Try.checked os 3 .any (Rows.holesSureSpec.pre6 enc Try.prog Try.f3 Rows.holesSureRow.domain false) (Rows.holesSureSpec.post enc Try.prog Try.f3 false true false false) := by
  refine returnsInHanded_of_change (C := Try.checked) own started (by kernel_rfl) Try.func3
    (ChangeSpec.witness6 (enc := enc) (C := Try.checked) false ⟨#[], #[.slice none 0 0, .slice none 0 0, .int .u8 0], []⟩ 8 (by kernel_rfl) (by kernel_rfl) (by kernel_rfl) (by kernel_rfl)) ?_
  intro W base args ds gs before hval0 hW hcnd _
  have hval : ∀ (j : Nat) t v, Try.f3.params[j]? = some t → args[j]? = some v → Value.okWide Try.prog W .any base t v := hval0
  have hW' := hW
  obtain ⟨p, q, hA0, hV, rfl, hfz, hnd⟩ := hW
  have hA : DataW.TrodAll enc Try.prog W 0 (fun _ => true) true Try.f3.params.toList args.toList ds p := hA0
  rw [Try.params3] at hA hval
  obtain ⟨v0, v1, v2, d0, d1, d2, p0, p1, p2, rfl, rfl, rfl, h0, h1, h2⟩ := trodAll_three hA
  obtain ⟨rfl, rfl⟩ := trodVars_none hV
  obtain ⟨A1, m1, c1, lost, rfl, e1, r1⟩ := open_bools (hval 0 22 v0 rfl rfl) h0
  obtain ⟨A2, m2, c2, ans, rfl, e2, r2⟩ := open_bools (hval 1 22 v1 rfl rfl) h1
  obtain ⟨s, rfl, rfl, rfl, ws⟩ := open_int Try.underlying5 (hval 2 5 v2 rfl rfl) h2
  clear hA0 hval0
  simp only [List.append_nil] at hW'
  have hs := u8_wf ws
  obtain ⟨k, rfl⟩ : ∃ k : Nat, s = (k : Int) := ⟨s.toNat, by omega⟩
  refine (sureLaw_any W A1 m1 c1 lost A2 m2 c2 ans k (by omega) r1 e1 r2 e2).mono fun e W' ⟨he, hg⟩ => ?_
  subst he
  exact ⟨_, rfl, law_post (P := Try.prog) rfl rfl Try.underlying4 laidOut (by kernel_rfl) hW' rfl hg⟩

theorem over : Rows.holesSureRow.holds Try.pinned (OpenSpec.ofChange Rows.holesSureSpec) :=
  OpenClaim.holds_of_wide 3 Try.f3 rfl rfl rfl rfl rfl rfl rfl ⟨rfl, rfl, rfl, rfl, rfl⟩ rfl rfl rfl rfl rfl (by kernel_rfl) Try.func3 (by kernel_rfl)
    (of_decide_eq_true (by kernel_rfl)) (by unfold Func.isWrapper; first | (rw [if_pos (by decide +kernel)]; kernel_rfl) | (rw [if_neg (by decide +kernel)]; exact ⟨rfl, rfl⟩))
    (fun os started H enc _ => lifted os started H enc)

theorem proved : Rows.HolesSureSaid := over
#print axioms proved
end Go.Proofs.Ytfdabccdgcohjaa.holesSure
