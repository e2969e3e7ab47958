/-
  AN ARGUMENT THAT IS A SLICE OF ACTS, as it is read. Conditions: none.
-/
import Derived.Test.YthkflglmgadlmaaOpenRows
import Derived.Test.YthkflglmgadlmaaOpenArr
import Derived.Test.YthkflglmgadlmaaFAct
namespace Go.Proofs.Ythkflglmgadlmaa
open Go.ChangeShapes Go.WideShapes Go.ChangeAt Go.RowKit

section
variable {H : Type} {enc : TypeId × Value → H}
theorem cells5 : Try.prog.cellsOf 5 = 1 := by kernel_rfl
theorem cells3 : Try.prog.cellsOf 3 = 1 := by kernel_rfl
theorem cells22 : Try.prog.cellsOf 22 = 1 := by kernel_rfl
theorem cells31 : Try.prog.cellsOf 31 = 4 := by kernel_rfl
instance : Inhabited Ac := ⟨⟨0, 0, 0, none, 0, 0, []⟩⟩
def goodAc (w : World) (a : Ac) : Prop := Bs w w.heap.size a.A a.bn a.l ∧ a.bn ≤ a.bc ∧ a.bc ≤ 9223372036854775807
theorem open_act {w : World} {base n : Nat} {spare : Nat → Bool} {held : Bool} {cs : List Value} {y : DataW H × List MemPlace} (h : DataW.trod enc Try.prog w base spare held n 31 cs = some y) (hl : cs.length = 4) : ∃ x, cs = Ac.cs x ∧ goodAc w x := by
  match cs, hl with
  | [a0, a1, a2, a3], _ =>
    obtain ⟨zs, k, _, rfl, _, hzs0, hfld2⟩ := DataW.trod_struct Try.underlying31 h
    have e0 : DataW.trod enc Try.prog w base spare held k 3 (List.take (Try.prog.cellsOf 3) [a0, a1, a2, a3]) = zs[0]? := hfld2 0 _ rfl
    have e1 : DataW.trod enc Try.prog w base spare held k 3 (List.take (Try.prog.cellsOf 3) [a1, a2, a3]) = zs[1]? := hfld2 1 _ rfl
    have e2 : DataW.trod enc Try.prog w base spare held k 3 (List.take (Try.prog.cellsOf 3) [a2, a3]) = zs[2]? := hfld2 2 _ rfl
    have e3 : DataW.trod enc Try.prog w base spare held k 22 (List.take (Try.prog.cellsOf 22) [a3]) = zs[3]? := hfld2 3 _ rfl
    rw [cells3] at e0 e1 e2
    rw [cells22] at e3
    simp only [List.take_succ_cons, List.take_zero] at e0 e1 e2 e3
    have hzs : zs.length = 4 := hzs0
    obtain ⟨z0, q0⟩ : ∃ y0, zs[0]? = some y0 := ⟨zs[0], List.getElem?_eq_getElem _⟩
    obtain ⟨z1, q1⟩ : ∃ y0, zs[1]? = some y0 := ⟨zs[1], List.getElem?_eq_getElem _⟩
    obtain ⟨z2, q2⟩ : ∃ y0, zs[2]? = some y0 := ⟨zs[2], List.getElem?_eq_getElem _⟩
    obtain ⟨z3, q3⟩ : ∃ y0, zs[3]? = some y0 := ⟨zs[3], List.getElem?_eq_getElem _⟩
    rw [q0] at e0
    rw [q1] at e1
    rw [q2] at e2
    rw [q3] at e3
    obtain ⟨x, c0, _, _⟩ := DataW.trod_int Try.underlying3 e0
    obtain ⟨n, c1, _, _⟩ := DataW.trod_int Try.underlying3 e1
    obtain ⟨m, c2, _, _⟩ := DataW.trod_int Try.underlying3 e2
    obtain ⟨A, bn, bc, l, c3, b3, h1, h2, _⟩ := open_bs_cells Try.underlying22 Try.underlying5 cells5 e3
    simp only [List.cons.injEq, and_true] at c0 c1 c2 c3
    subst c0 c1 c2 c3
    exact ⟨⟨x, n, m, A, bn, bc, l⟩, rfl, b3, h1, by unfold maxLen at h2; omega⟩
theorem open_acts {w : World} {base b0 : Nat} {r : Reach} {spare : Nat → Bool} {held : Bool} {v : Value} {d : DataW H} {ps : List MemPlace}
    (hv : Value.okWide Try.prog w r b0 23 v) (hd : DataW.Trod enc Try.prog w base spare held 23 v d ps) : ∃ A n c acts, v = .slice A n c ∧ n = acts.length ∧ ActsAt w w.heap.size A acts ∧ n ≤ 9223372036854775807 := by
  obtain ⟨a0, len, cap, rfl⟩ := okWide_slice Try.underlying23 hv
  obtain ⟨fuel, hf⟩ := hd
  obtain ⟨A, n, c, l, hcs, hl, hg, hr, hnc, hm, _⟩ := open_rows Ac.cs (goodAc w) Try.underlying23 cells31 (fun _ => rfl) (fun n cs' y hy hy3 => open_act hy hy3) hf
  simp [Value.cells] at hcs
  obtain ⟨rfl, rfl, rfl⟩ := hcs
  exact ⟨_, _, _, l, rfl, hl.symm, ⟨by rw [hl]; exact hr, fun a ha => (hg a ha).1, fun a ha => (hg a ha).2⟩, by unfold maxLen at hm; omega⟩
theorem u16_wf {n : Int} (h : (Lit.int .u16 n).wf = true) : 0 ≤ n ∧ n ≤ 65535 := by
  simp [Lit.wf, IntKind.min, IntKind.max, IntKind.bits, IntKind.signed] at h
  omega
end
end Go.Proofs.Ythkflglmgadlmaa
