/-
  ChainBreaks is proved: the call returns true at every input. Conditions: none.
-/
import Derived.Test.YtgeanonphjjgeaaRows
import Derived.Test.YtgeanonphjjgeaaBreaks
import Derived.Test.YtgeanonphjjgeaaOpenRows
import Derived.Test.YtgeanonphjjgeaaOpenArr
namespace Go.Proofs.Ytgeanonphjjgeaa
open Go.ChangeShapes Go.WideShapes Go.ChangeAt Go.RowKit

section
variable {H : Type} {enc : TypeId × Value → H}
theorem wr_cells5b : Try.prog.cellsOf 5 = 1 := by kernel_rfl
theorem wr_cells4b : Try.prog.cellsOf 4 = 1 := by kernel_rfl
theorem wr_cells73b : Try.prog.cellsOf 73 = 3 := by kernel_rfl
theorem u8_boundsb {n : Int} (h : (Lit.int .u8 n).wf = true) : 0 ≤ n ∧ n ≤ 255 := by
  simp [Lit.wf, IntKind.min, IntKind.max, IntKind.bits, IntKind.signed] at h
  omega
/-- an argument that is a slice of writes -/
theorem open_writesb {w : World} {base b0 : Nat} {r : Reach} {spare : Nat → Bool} {held : Bool} {v : Value} {d : DataW H} {ps : List MemPlace}
    (hv : Value.okWide Try.prog w r b0 54 v) (hd : DataW.Trod enc Try.prog w base spare held 54 v d ps) : ∃ A n c ws, v = .slice A n c ∧ n = ws.length ∧ WrAt w w.heap.size A ws ∧ n ≤ 9223372036854775807 := by
  obtain ⟨a0, len, cap, rfl⟩ := okWide_slice Try.underlying54 hv
  obtain ⟨fuel, hf⟩ := hd
  have hrow : ∀ x, (wcs x).length = 3 := fun x => rfl
  obtain ⟨A, n, c, l, hcs, hl, hg, hr, hnc, hm, _⟩ := open_rows (α := Int × Bool × Int) wcs (fun x => 0 ≤ x.1 ∧ x.1 ≤ 255 ∧ 0 ≤ x.2.2 ∧ x.2.2 ≤ 255) Try.underlying54 wr_cells73b hrow (by
    intro n cs' y hy hlen
    obtain ⟨xs, k, _, _, _, hxs0, hfld⟩ := DataW.trod_struct Try.underlying73 hy
    match cs', hlen with
    | [a, b, c], _ =>
      have g0 : DataW.trod enc Try.prog w base spare held k 5 (List.take (Try.prog.cellsOf 5) [a, b, c]) = xs[0]? := hfld 0 _ rfl
      have g1 : DataW.trod enc Try.prog w base spare held k 4 (List.take (Try.prog.cellsOf 4) [b, c]) = xs[1]? := hfld 1 _ rfl
      have g2 : DataW.trod enc Try.prog w base spare held k 5 (List.take (Try.prog.cellsOf 5) [c]) = xs[2]? := hfld 2 _ rfl
      rw [wr_cells5b] at g0 g2
      rw [wr_cells4b] at g1
      simp only [List.take_succ_cons, List.take_zero] at g0 g1 g2
      have hxs : xs.length = 3 := hxs0
      obtain ⟨y0, h0⟩ : ∃ y0, xs[0]? = some y0 := ⟨xs[0], List.getElem?_eq_getElem _⟩
      obtain ⟨y1, h1⟩ : ∃ y1, xs[1]? = some y1 := ⟨xs[1], List.getElem?_eq_getElem _⟩
      obtain ⟨y2, h2⟩ : ∃ y2, xs[2]? = some y2 := ⟨xs[2], List.getElem?_eq_getElem _⟩
      rw [h0] at g0
      rw [h1] at g1
      rw [h2] at g2
      obtain ⟨i0, e0, _, w0⟩ := DataW.trod_int Try.underlying5 g0
      obtain ⟨i1, e1, _⟩ := DataW.trod_bool Try.underlying4 g1
      obtain ⟨i2, e2, _, w2⟩ := DataW.trod_int Try.underlying5 g2
      simp only [List.cons.injEq, and_true] at e0 e1 e2
      subst e0 e1 e2
      have b0 := u8_boundsb w0
      have b2 := u8_boundsb w2
      exact ⟨(i0, i1, i2), rfl, b0.1, b0.2, b2.1, b2.2⟩) hf
  simp [Value.cells] at hcs
  obtain ⟨rfl, rfl, rfl⟩ := hcs
  refine ⟨_, _, _, l, rfl, hl.symm, ⟨by rw [hl]; exact hr, hg⟩, by unfold maxLen at hm; omega⟩
end

namespace chainBreaks
theorem own : ownKnob Try.prog.godebug = none := by kernel_rfl
theorem laidOut : laidOutB Try.prog = true := by kernel_rfl

set_option maxRecDepth 100000 in
theorem lifted (os : Os) (started : os.Started) (H : Type) (enc : TypeId × Value → H) :
    ReturnsInHanded {} Try.checked os 5 .any (Rows.chainBreaksSpec.pre6 enc Try.prog Try.f5 Rows.chainBreaksRow.domain false) (Rows.chainBreaksSpec.post enc Try.prog Try.f5 false true false false) := by
  refine returnsInHanded_of_change (C := Try.checked) own started (by kernel_rfl) Try.func5
    (ChangeSpec.witness6 (enc := enc) (C := Try.checked) false ⟨#[], #[.slice none 0 0, .agg #[.int .u8 0, .int .u8 0], .int .u8 0], []⟩ 8 (by kernel_rfl) (by kernel_rfl) (by kernel_rfl) (by kernel_rfl)) ?_
  intro W base args ds gs before hval0 hW hcnd _
  have hval : ∀ (j : Nat) t v, Try.f5.params[j]? = some t → args[j]? = some v → Value.okWide Try.prog W .any base t v := hval0
  have hW' := hW
  obtain ⟨p, q, hA0, hV, rfl, hfz, hnd⟩ := hW
  have hA : DataW.TrodAll enc Try.prog W 0 (fun _ => true) true Try.f5.params.toList args.toList ds p := hA0
  rw [Try.params5] at hA hval
  obtain ⟨v0, v1, v2, d0, d1, d2, p0, p1, p2, rfl, rfl, rfl, h0, h1, h2⟩ := trodAll_three hA
  obtain ⟨rfl, rfl⟩ := trodVars_none hV
  obtain ⟨A, n, c, ws, rfl, hn, hw, hm⟩ := open_writesb (hval 0 54 v0 rfl rfl) h0
  obtain ⟨cs, rfl, hcs, hel⟩ := open_arr Try.underlying59 Try.underlying5 wr_cells5b (by kernel_rfl) (hval 1 59 v1 rfl rfl) h1
  obtain ⟨x, y, rfl⟩ := arr_two hcs
  obtain ⟨a, ea, wa⟩ := hel 0 (by omega)
  obtain ⟨b, eb, wb⟩ := hel 1 (by omega)
  simp at ea eb
  subst ea eb
  obtain ⟨s, rfl, rfl, rfl, ws2⟩ := open_int Try.underlying5 (hval 2 5 v2 rfl rfl) h2
  clear hA0 hval0
  simp only [List.append_nil] at hW'
  refine (breaks_any A n c ws hn a b s (u8_wf wa) (u8_wf wb) (u8_wf ws2) W hw hm).mono fun e W' ⟨he, hg⟩ => ?_
  subst he
  exact ⟨_, rfl, law_post (P := Try.prog) rfl rfl Try.underlying4 laidOut (by kernel_rfl) hW' rfl hg⟩

theorem over : Rows.chainBreaksRow.holds Try.pinned (OpenSpec.ofChange Rows.chainBreaksSpec) :=
  OpenClaim.holds_of_wide 5 Try.f5 rfl rfl rfl rfl rfl rfl rfl ⟨rfl, rfl, rfl, rfl, rfl⟩ rfl rfl rfl rfl rfl (by kernel_rfl) Try.func5 (by kernel_rfl)
    (of_decide_eq_true (by kernel_rfl)) (by unfold Func.isWrapper; first | (rw [if_pos (by decide +kernel)]; kernel_rfl) | (rw [if_neg (by decide +kernel)]; exact ⟨rfl, rfl⟩))
    (fun os started H enc _ => lifted os started H enc)

theorem proved : Rows.ChainBreaksSaid := over
#print axioms proved
end chainBreaks
end Go.Proofs.Ytgeanonphjjgeaa
