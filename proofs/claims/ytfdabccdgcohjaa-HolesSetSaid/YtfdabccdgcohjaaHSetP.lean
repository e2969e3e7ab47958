/-
  HolesSet is proved: the call returns true at every input. Conditions: none.
-/
import Derived.Test.YtfdabccdgcohjaaRows
import Derived.Test.YtfdabccdgcohjaaHSet
import Derived.Test.YtfdabccdgcohjaaOpenRows
import Derived.Test.YtfdabccdgcohjaaOpenArr
namespace Go.Proofs.Ytfdabccdgcohjaa.holesSet
open Go.ChangeShapes Go.WideShapes Go.ChangeAt Go.RowKit

section
variable {H : Type} {enc : TypeId × Value → H}
theorem cells5c : Try.prog.cellsOf 5 = 1 := by kernel_rfl
theorem cells35c : Try.prog.cellsOf 35 = 2 := by kernel_rfl
theorem u8c {n : Int} (h : (Lit.int .u8 n).wf = true) : 0 ≤ n ∧ n ≤ 255 := by
  simp [Lit.wf, IntKind.min, IntKind.max, IntKind.bits, IntKind.signed] at h
  omega
/-- an argument that is a slice of pairs of bytes -/
theorem open_pairs {w : World} {base b0 : Nat} {r : Reach} {spare : Nat → Bool} {held : Bool} {v : Value} {d : DataW H} {ps : List MemPlace}
    (hv : Value.okWide Try.prog w r b0 32 v) (hd : DataW.Trod enc Try.prog w base spare held 32 v d ps) : ∃ A n c l, v = .slice A n c ∧ n = l.length ∧ n ≤ c ∧ (∀ x ∈ l, x.1 < 256 ∧ x.2 < 256) ∧ RdP w w.heap.size A l := by
  obtain ⟨a0, len, cap, rfl⟩ := okWide_slice Try.underlying32 hv
  obtain ⟨fuel, hf⟩ := hd
  obtain ⟨A, n, c, l, hcs, hl, hg, hr, hnc, _, _⟩ := open_rows (α := Pr) Pr.cs (fun x => x.1 < 256 ∧ x.2 < 256) Try.underlying32 cells35c (fun _ => rfl) (by
    intro n cs' y hy hlen
    obtain ⟨xs, m, _, _, hl, hxs, hel⟩ := DataW.trod_array Try.underlying35 hy
    match cs', hlen with
    | [a, b], _ =>
      have g0 := hel 0 (by omega)
      have g1 := hel 1 (by omega)
      rw [cells5c] at g0 g1
      simp only [Nat.mul_one, List.drop_zero, List.drop_succ_cons, List.take_succ_cons, List.take_zero] at g0 g1
      obtain ⟨y0, h0⟩ : ∃ y0, xs[0]? = some y0 := ⟨xs[0], List.getElem?_eq_getElem _⟩
      obtain ⟨y1, h1⟩ : ∃ y1, xs[1]? = some y1 := ⟨xs[1], List.getElem?_eq_getElem _⟩
      rw [h0] at g0
      rw [h1] at g1
      obtain ⟨i0, e0, _, w0⟩ := DataW.trod_int Try.underlying5 g0
      obtain ⟨i1, e1, _, w1⟩ := DataW.trod_int Try.underlying5 g1
      simp only [List.cons.injEq, and_true] at e0 e1
      subst e0 e1
      have b0 := u8c w0
      have b1 := u8c w1
      refine ⟨(i0.toNat, i1.toNat), ?_, by show i0.toNat < 256; omega, by show i1.toNat < 256; omega⟩
      show _ = [Value.int .u8 ((i0.toNat : Nat) : Int), Value.int .u8 ((i1.toNat : Nat) : Int)]
      rw [Int.toNat_of_nonneg b0.1, Int.toNat_of_nonneg b1.1]) hf
  simp [Value.cells] at hcs
  obtain ⟨rfl, rfl, rfl⟩ := hcs
  refine ⟨_, _, _, l, rfl, hl.symm, hnc, hg, ?_⟩
  unfold RdP
  rw [hl]
  exact hr
end

theorem own : ownKnob Try.prog.godebug = none := by kernel_rfl
theorem laidOut : laidOutB Try.prog = true := by kernel_rfl

set_option maxRecDepth 100000 in
theorem lifted (os : Os) (started : os.Started) (H : Type) (enc : TypeId × Value → H) :
    ReturnsInHanded {} Try.checked os 4 .any (Rows.holesSetSpec.pre6 enc Try.prog Try.f4 Rows.holesSetRow.domain false) (Rows.holesSetSpec.post enc Try.prog Try.f4 false true false false) := by
  refine returnsInHanded_of_change (C := Try.checked) own started (by kernel_rfl) Try.func4
    (ChangeSpec.witness6 (enc := enc) (C := Try.checked) false ⟨#[], #[.slice none 0 0, .slice none 0 0], []⟩ 8 (by kernel_rfl) (by kernel_rfl) (by kernel_rfl) (by kernel_rfl)) ?_
  intro W base args ds gs before hval0 hW hcnd _
  have hval : ∀ (j : Nat) t v, Try.f4.params[j]? = some t → args[j]? = some v → Value.okWide Try.prog W .any base t v := hval0
  have hW' := hW
  obtain ⟨p, q, hA0, hV, rfl, hfz, hnd⟩ := hW
  have hA : DataW.TrodAll enc Try.prog W 0 (fun _ => true) true Try.f4.params.toList args.toList ds p := hA0
  rw [Try.params4] at hA hval
  obtain ⟨v0, v1, d0, d1, p0, p1, rfl, rfl, rfl, h0, h1⟩ := trodAll_two hA
  obtain ⟨rfl, rfl⟩ := trodVars_none hV
  obtain ⟨A1, m1, c1, l, rfl, e1, hc1, hl, r1⟩ := open_pairs (hval 0 32 v0 rfl rfl) h0
  obtain ⟨A2, m2, c2, fo, rfl, r2, _⟩ := open_bs Try.underlying33 Try.underlying5 cells5c (hval 1 33 v1 rfl rfl) h1
  clear hA0 hval0
  simp only [List.append_nil] at hW'
  refine (setLaw_any W A1 m1 c1 l A2 m2 c2 fo hl r1 e1 hc1 r2).mono fun e W' ⟨he, hg⟩ => ?_
  subst he
  exact ⟨_, rfl, law_post (P := Try.prog) rfl rfl Try.underlying4 laidOut (by kernel_rfl) hW' rfl hg⟩

theorem over : Rows.holesSetRow.holds Try.pinned (OpenSpec.ofChange Rows.holesSetSpec) :=
  OpenClaim.holds_of_wide 4 Try.f4 rfl rfl rfl rfl rfl rfl rfl ⟨rfl, rfl, rfl, rfl, rfl⟩ rfl rfl rfl rfl rfl (by kernel_rfl) Try.func4 (by kernel_rfl)
    (of_decide_eq_true (by kernel_rfl)) (by unfold Func.isWrapper; first | (rw [if_pos (by decide +kernel)]; kernel_rfl) | (rw [if_neg (by decide +kernel)]; exact ⟨rfl, rfl⟩))
    (fun os started H enc _ => lifted os started H enc)

theorem proved : Rows.HolesSetSaid := over
#print axioms proved
end Go.Proofs.Ytfdabccdgcohjaa.holesSet
