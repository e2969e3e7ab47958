/-
  ChainTells is proved: the call returns true at every input. Conditions: none.
-/
import Derived.Test.YtgeanonphjjgeaaRows
import Derived.Test.YtgeanonphjjgeaaTells
import Derived.Test.YtgeanonphjjgeaaSized
namespace Go.Proofs.Ytgeanonphjjgeaa
open Go.ChangeShapes Go.WideShapes Go.ChangeAt Go.RowKit

section
variable {H : Type} {enc : TypeId × Value → H}
theorem tk_cells5 : Try.prog.cellsOf 5 = 1 := by kernel_rfl
theorem tk_cells25 : Try.prog.cellsOf 25 = 1 := by kernel_rfl
theorem tk_cells28 : Try.prog.cellsOf 28 = 1 := by kernel_rfl
theorem tk_cells3 : Try.prog.cellsOf 3 = 1 := by kernel_rfl
theorem tk_cells24 : Try.prog.cellsOf 24 = 1 := by kernel_rfl
theorem tk_cells27 : Try.prog.cellsOf 27 = 2 := by kernel_rfl
theorem tk_cells33 : Try.prog.cellsOf 33 = 6 := by kernel_rfl
theorem tk_cells35 : Try.prog.cellsOf 35 = 8 := by kernel_rfl
theorem tk_bytes5 : Try.prog.bytesOf 5 = 1 := by kernel_rfl
theorem u64_pos {n : Int} (h : (Lit.int .u64 n).wf = true) : 0 ≤ n := by
  simp [Lit.wf, IntKind.min, IntKind.max, IntKind.bits, IntKind.signed] at h
  omega
/-- a loc's two cells -/
theorem open_loc {w : World} {base k : Nat} {spare : Nat → Bool} {held : Bool} {a b : Value} {y : DataW H × List MemPlace} (h : DataW.trod enc Try.prog w base spare held k 27 [a, b] = some y) : ∃ s o, a = .int .u32 s ∧ b = .int .u32 o := by
  obtain ⟨xs, k, _, _, _, hxs0, hfld⟩ := DataW.trod_struct Try.underlying27 h
  have g0 : DataW.trod enc Try.prog w base spare held k 25 (List.take (Try.prog.cellsOf 25) [a, b]) = xs[0]? := hfld 0 _ rfl
  have g1 : DataW.trod enc Try.prog w base spare held k 25 (List.take (Try.prog.cellsOf 25) [b]) = xs[1]? := hfld 1 _ rfl
  rw [tk_cells25] at g0 g1
  simp only [List.take_succ_cons, List.take_zero] at g0 g1
  have hxs : xs.length = 2 := hxs0
  obtain ⟨y0, h0⟩ : ∃ y0, xs[0]? = some y0 := ⟨xs[0], List.getElem?_eq_getElem _⟩
  obtain ⟨y1, h1⟩ : ∃ y1, xs[1]? = some y1 := ⟨xs[1], List.getElem?_eq_getElem _⟩
  rw [h0] at g0
  rw [h1] at g1
  obtain ⟨i0, e0, _, _⟩ := DataW.trod_int Try.underlying25 g0
  obtain ⟨i1, e1, _, _⟩ := DataW.trod_int Try.underlying25 g1
  simp only [List.cons.injEq, and_true] at e0 e1
  exact ⟨i0, i1, e0, e1⟩
def goodLk (w : World) (x : Lk) : Prop := Bs w w.heap.size x.kA x.kn x.kb ∧ Bs w w.heap.size x.vA x.vn x.vb ∧ 0 ≤ x.seq ∧ x.vn ≤ reachBytes
instance : Inhabited Lk := ⟨Lk.zero⟩
theorem open_link {w : World} {base n : Nat} {spare : Nat → Bool} {held : Bool} {cs : List Value} {y : DataW H × List MemPlace} (h : DataW.trod enc Try.prog w base spare held n 35 cs = some y) (hw : Lgt Try.prog 35 y.1) (hl : cs.length = 8) : ∃ x, cs = Lk.cs x ∧ goodLk w x := by
  match cs, hl with
  | [a0, a1, a2, a3, a4, a5, a6, a7], _ =>
    obtain ⟨xs, k, _, rfl, _, hxs0, hfld⟩ := DataW.trod_struct Try.underlying35 h
    have g0 : DataW.trod enc Try.prog w base spare held k 27 (List.take (Try.prog.cellsOf 27) [a0, a1, a2, a3, a4, a5, a6, a7]) = xs[0]? := hfld 0 _ rfl
    have g1 : DataW.trod enc Try.prog w base spare held k 33 (List.take (Try.prog.cellsOf 33) [a2, a3, a4, a5, a6, a7]) = xs[1]? := hfld 1 _ rfl
    rw [tk_cells27] at g0
    rw [tk_cells33] at g1
    simp only [List.take_succ_cons, List.take_zero] at g0 g1
    have hxs : xs.length = 2 := hxs0
    obtain ⟨y0, h0⟩ : ∃ y0, xs[0]? = some y0 := ⟨xs[0], List.getElem?_eq_getElem _⟩
    obtain ⟨y1, h1⟩ : ∃ y1, xs[1]? = some y1 := ⟨xs[1], List.getElem?_eq_getElem _⟩
    rw [h0] at g0
    rw [h1] at g1
    have hw1 : Lgt Try.prog 33 y1.1 := hw.field Try.underlying35 (i := 1) rfl (by rw [List.getElem?_map, h1]; rfl)
    obtain ⟨s, o, rfl, rfl⟩ := open_loc g0
    obtain ⟨zs, k2, _, rfl, _, hzs0, hfld2⟩ := DataW.trod_struct Try.underlying33 g1
    have e0 : DataW.trod enc Try.prog w base spare held k2 28 (List.take (Try.prog.cellsOf 28) [a2, a3, a4, a5, a6, a7]) = zs[0]? := hfld2 0 _ rfl
    have e1 : DataW.trod enc Try.prog w base spare held k2 3 (List.take (Try.prog.cellsOf 3) [a3, a4, a5, a6, a7]) = zs[1]? := hfld2 1 _ rfl
    have e2 : DataW.trod enc Try.prog w base spare held k2 24 (List.take (Try.prog.cellsOf 24) [a4, a5, a6, a7]) = zs[2]? := hfld2 2 _ rfl
    have e3 : DataW.trod enc Try.prog w base spare held k2 24 (List.take (Try.prog.cellsOf 24) [a5, a6, a7]) = zs[3]? := hfld2 3 _ rfl
    have e4 : DataW.trod enc Try.prog w base spare held k2 27 (List.take (Try.prog.cellsOf 27) [a6, a7]) = zs[4]? := hfld2 4 _ rfl
    rw [tk_cells28] at e0
    rw [tk_cells3] at e1
    rw [tk_cells24] at e2 e3
    rw [tk_cells27] at e4
    simp only [List.take_succ_cons, List.take_zero] at e0 e1 e2 e3 e4
    have hzs : zs.length = 5 := hzs0
    obtain ⟨z0, q0⟩ : ∃ y0, zs[0]? = some y0 := ⟨zs[0], List.getElem?_eq_getElem _⟩
    obtain ⟨z1, q1⟩ : ∃ y0, zs[1]? = some y0 := ⟨zs[1], List.getElem?_eq_getElem _⟩
    obtain ⟨z2, q2⟩ : ∃ y0, zs[2]? = some y0 := ⟨zs[2], List.getElem?_eq_getElem _⟩
    obtain ⟨z3, q3⟩ : ∃ y0, zs[3]? = some y0 := ⟨zs[3], List.getElem?_eq_getElem _⟩
    obtain ⟨z4, q4⟩ : ∃ y0, zs[4]? = some y0 := ⟨zs[4], List.getElem?_eq_getElem _⟩
    rw [q0] at e0
    rw [q1] at e1
    rw [q2] at e2
    rw [q3] at e3
    rw [q4] at e4
    have l2 : Lgt Try.prog 24 z2.1 := hw1.field Try.underlying33 (i := 2) rfl (by rw [List.getElem?_map, q2]; rfl)
    have l3 : Lgt Try.prog 24 z3.1 := hw1.field Try.underlying33 (i := 3) rfl (by rw [List.getElem?_map, q3]; rfl)
    obtain ⟨sq, c0, _, w0⟩ := DataW.trod_int Try.underlying28 e0
    obtain ⟨kd, c1, _, _⟩ := DataW.trod_int Try.underlying3 e1
    obtain ⟨kA, kn, kc, kb, c2, b2, _, _, _⟩ := open_bs_sized Try.underlying24 Try.underlying5 tk_cells5 tk_bytes5 e2 l2
    obtain ⟨vA, vn, vc, vb, c3, b3, _, _, r3⟩ := open_bs_sized Try.underlying24 Try.underlying5 tk_cells5 tk_bytes5 e3 l3
    obtain ⟨ps, po, rfl, rfl⟩ := open_loc e4
    simp only [List.cons.injEq, and_true] at c0 c1 c2 c3
    subst c0 c1 c2 c3
    exact ⟨⟨s, o, sq, kd, kA, kn, kc, vA, vn, vc, ps, po, kb, vb⟩, rfl, b2, b3, u64_pos w0, r3⟩
theorem open_ask {w : World} {base fuel1 : Nat} {spare : Nat → Bool} {held : Bool} {cs : Array Value} {x : DataW H × List MemPlace} (hcz : cs.size = Try.prog.cellsOf 30) (hf1 : DataW.trod enc Try.prog w base spare held fuel1 30 (Value.agg cs).cells.toList = some x) :
    ∃ kA kn kc kb s o sN most, cs = #[.slice kA kn kc, .int .u32 s, .int .u32 o, .int .u64 sN, .int .i64 most] ∧ Bs w w.heap.size kA kn kb ∧ kn ≤ kc ∧ kc ≤ maxLen := by
  obtain ⟨l⟩ := cs
  have hl5 : l.length = 5 := hcz
  match l, hl5 with
  | [b0, b1, b2, b3, b4], _ =>
    have hf2 : DataW.trod enc Try.prog w base spare held fuel1 30 [b0, b1, b2, b3, b4] = some x := hf1
    obtain ⟨zs, k2, _, _, _, hzs0, hfld2⟩ := DataW.trod_struct Try.underlying30 hf2
    have e0 : DataW.trod enc Try.prog w base spare held k2 24 (List.take (Try.prog.cellsOf 24) [b0, b1, b2, b3, b4]) = zs[0]? := hfld2 0 _ rfl
    have e1 : DataW.trod enc Try.prog w base spare held k2 27 (List.take (Try.prog.cellsOf 27) [b1, b2, b3, b4]) = zs[1]? := hfld2 1 _ rfl
    have e2 : DataW.trod enc Try.prog w base spare held k2 28 (List.take (Try.prog.cellsOf 28) [b3, b4]) = zs[2]? := hfld2 2 _ rfl
    have e3 : DataW.trod enc Try.prog w base spare held k2 3 (List.take (Try.prog.cellsOf 3) [b4]) = zs[3]? := hfld2 3 _ rfl
    rw [tk_cells24] at e0
    rw [tk_cells27] at e1
    rw [tk_cells28] at e2
    rw [tk_cells3] at e3
    simp only [List.take_succ_cons, List.take_zero] at e0 e1 e2 e3
    have hzs : zs.length = 4 := hzs0
    obtain ⟨z0, q0⟩ : ∃ y0, zs[0]? = some y0 := ⟨zs[0], List.getElem?_eq_getElem _⟩
    obtain ⟨z1, q1⟩ : ∃ y0, zs[1]? = some y0 := ⟨zs[1], List.getElem?_eq_getElem _⟩
    obtain ⟨z2, q2⟩ : ∃ y0, zs[2]? = some y0 := ⟨zs[2], List.getElem?_eq_getElem _⟩
    obtain ⟨z3, q3⟩ : ∃ y0, zs[3]? = some y0 := ⟨zs[3], List.getElem?_eq_getElem _⟩
    rw [q0] at e0
    rw [q1] at e1
    rw [q2] at e2
    rw [q3] at e3
    obtain ⟨kA, kn, kc, kb, c0, hb, h1, h2, _⟩ := open_bs_cells Try.underlying24 Try.underlying5 tk_cells5 e0
    obtain ⟨s, o, rfl, rfl⟩ := open_loc e1
    obtain ⟨sN, c2, _, _⟩ := DataW.trod_int Try.underlying28 e2
    obtain ⟨most, c3, _, _⟩ := DataW.trod_int Try.underlying3 e3
    simp only [List.cons.injEq, and_true] at c0 c2 c3
    subst c0 c2 c3
    exact ⟨kA, kn, kc, kb, s, o, sN, most, rfl, hb, h1, h2⟩
end

namespace chainTells
theorem own : ownKnob Try.prog.godebug = none := by kernel_rfl
theorem laidOut : laidOutB Try.prog = true := by kernel_rfl

set_option maxRecDepth 100000 in
set_option maxHeartbeats 1000000 in
theorem lifted (os : Os) (started : os.Started) (H : Type) (enc : TypeId × Value → H) :
    ReturnsInHanded {} Try.checked os 3 .any (Rows.chainTellsSpec.pre6 enc Try.prog Try.f3 Rows.chainTellsRow.domain false) (Rows.chainTellsSpec.post enc Try.prog Try.f3 false true false false) := by
  refine returnsInHanded_of_change_sized (C := Try.checked) own started (by kernel_rfl) Try.func3
    (ChangeSpec.witness6 (enc := enc) (C := Try.checked) false ⟨#[], #[.slice none 0 0, .agg #[.slice none 0 0, .int .u32 0, .int .u32 0, .int .u64 0, .int .i64 0]], []⟩ 8 (by kernel_rfl) (by kernel_rfl) (by kernel_rfl) (by kernel_rfl)) ?_
  intro W base args ds gs before hval0 hW hcnd hsz0 _
  have hsz : (DataW.weightsEach Try.prog (Try.f3.params.toList ++ Rows.chainTellsSpec.plain.varTypes Try.prog) (ds ++ gs)).all (· ≤ reachBytes) = true := hsz0
  have hval : ∀ (j : Nat) t v, Try.f3.params[j]? = some t → args[j]? = some v → Value.okWide Try.prog W .any base t v := hval0
  have hW' := hW
  obtain ⟨p, q, hA0, hV, rfl, hfz, hnd⟩ := hW
  have hA : DataW.TrodAll enc Try.prog W 0 (fun _ => true) true Try.f3.params.toList args.toList ds p := hA0
  rw [Try.params3] at hA hval hsz
  obtain ⟨v0, v1, d0, d1, p0, p1, rfl, rfl, rfl, h0, h1⟩ := trodAll_two hA
  obtain ⟨rfl, rfl⟩ := trodVars_none hV
  have lg0 : Lgt Try.prog 23 d0 := lgt_arg hsz (j := 0) rfl rfl
  have lg1 : Lgt Try.prog 30 d1 := lgt_arg hsz (j := 1) rfl rfl
  obtain ⟨a0, len, cap, rfl⟩ := okWide_slice Try.underlying23 (hval 0 23 v0 rfl rfl)
  obtain ⟨fuel, hf⟩ := h0
  obtain ⟨A, n, c, ys, hcs, hl, hg, hr, hnc, hm, _, _⟩ := open_rows_sized Lk.cs (goodLk W) Try.underlying23 tk_cells35 (fun _ => rfl) (fun n cs' y hy hy2 hy3 => open_link hy hy2 hy3) hf lg0
  simp [Value.cells] at hcs
  obtain ⟨rfl, rfl, rfl⟩ := hcs
  obtain ⟨cs, rfl, hcz⟩ := okWide_struct Try.underlying30 (hval 1 30 v1 rfl rfl)
  obtain ⟨fuel1, hf1⟩ := h1
  obtain ⟨kA, kn, kc, kb, s, o, sN, most, rfl, hkb, hknc, hkc⟩ := open_ask hcz hf1
  clear hA0 hval0 hsz0
  simp only [List.append_nil] at hW'
  have hR : RowAt W W.heap.size a0 ys := ⟨by rw [hl]; exact hr, fun x hx => (hg x hx).1, fun x hx => (hg x hx).2.1⟩
  refine (tells_any a0 kA len cap kn kc ys hl.symm kb s o sN most W hR hkb (fun x hx => (hg x hx).2.2.1) (fun x hx => by have := (hg x hx).2.2.2; have := reachBytes_lt; omega) hnc (by unfold maxLen at hm; omega) hknc (by unfold maxLen at hkc; omega)).mono fun e W' ⟨he, hg⟩ => ?_
  subst he
  exact ⟨_, rfl, law_post (P := Try.prog) rfl rfl Try.underlying4 laidOut (by kernel_rfl) hW' rfl hg⟩

theorem over : Rows.chainTellsRow.holds Try.pinned (OpenSpec.ofChange Rows.chainTellsSpec) :=
  OpenClaim.holds_of_wide 3 Try.f3 rfl rfl rfl rfl rfl rfl rfl ⟨rfl, rfl, rfl, rfl, rfl⟩ rfl rfl rfl rfl rfl (by kernel_rfl) Try.func3 (by kernel_rfl)
    (of_decide_eq_true (by kernel_rfl)) (by unfold Func.isWrapper; first | (rw [if_pos (by decide +kernel)]; kernel_rfl) | (rw [if_neg (by decide +kernel)]; exact ⟨rfl, rfl⟩))
    (fun os started H enc _ => lifted os started H enc)

theorem proved : Rows.ChainTellsSaid := over
#print axioms proved
end chainTells
end Go.Proofs.Ytgeanonphjjgeaa
