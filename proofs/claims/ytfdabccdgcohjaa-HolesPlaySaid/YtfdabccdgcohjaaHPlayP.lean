/-
  HolesPlay is proved: the call returns true at every input. Conditions: none.
-/
import Derived.Test.YtfdabccdgcohjaaRows
import Derived.Test.YtfdabccdgcohjaaHPlay
import Derived.Test.YtfdabccdgcohjaaOpenRows
namespace Go.Proofs.Ytfdabccdgcohjaa.holesPlay
open Go.ChangeShapes Go.WideShapes Go.ChangeAt Go.RowKit

section
variable {H : Type} {enc : TypeId × Value → H}
theorem cells3c : Try.prog.cellsOf 3 = 1 := by kernel_rfl
theorem cells28c : Try.prog.cellsOf 28 = 1 := by kernel_rfl
theorem cells52c : Try.prog.cellsOf 52 = 3 := by kernel_rfl
theorem u64c {n : Int} (h : (Lit.int .u64 n).wf = true) : 0 ≤ n ∧ n ≤ 18446744073709551615 := by
  simp [Lit.wf, IntKind.min, IntKind.max, IntKind.bits, IntKind.signed] at h
  omega
/-- an argument that is a slice of calls -/
theorem open_calls {w : World} {base b0 : Nat} {r : Reach} {spare : Nat → Bool} {held : Bool} {v : Value} {d : DataW H} {ps : List MemPlace}
    (hv : Value.okWide Try.prog w r b0 46 v) (hd : DataW.Trod enc Try.prog w base spare held 46 v d ps) : ∃ A n c l, v = .slice A n c ∧ n = l.length ∧ (∀ x ∈ l, x.a < 18446744073709551616 ∧ x.b < 18446744073709551616) ∧ RdA w w.heap.size A l := by
  obtain ⟨a0, len, cap, rfl⟩ := okWide_slice Try.underlying46 hv
  obtain ⟨fuel, hf⟩ := hd
  have : Inhabited Ac := ⟨⟨0, 0, 0⟩⟩
  obtain ⟨A, n, c, l, hcs, hl, hg, hr, _, _, _⟩ := open_rows (α := Ac) Ac.cs (fun x => x.a < 18446744073709551616 ∧ x.b < 18446744073709551616) Try.underlying46 cells52c (fun _ => rfl) (by
    intro n cs' y hy hlen
    obtain ⟨xs, k, _, _, _, hxs0, hfld⟩ := DataW.trod_struct Try.underlying52 hy
    match cs', hlen with
    | [a, b, c], _ =>
      have g0 : DataW.trod enc Try.prog w base spare held k 3 (List.take (Try.prog.cellsOf 3) [a, b, c]) = xs[0]? := hfld 0 _ rfl
      have g1 : DataW.trod enc Try.prog w base spare held k 28 (List.take (Try.prog.cellsOf 28) [b, c]) = xs[1]? := hfld 1 _ rfl
      have g2 : DataW.trod enc Try.prog w base spare held k 28 (List.take (Try.prog.cellsOf 28) [c]) = xs[2]? := hfld 2 _ rfl
      rw [cells3c] at g0
      rw [cells28c] at g1 g2
      simp only [List.take_succ_cons, List.take_zero] at g0 g1 g2
      have hxs : xs.length = 3 := hxs0
      obtain ⟨y0, h0⟩ : ∃ y0, xs[0]? = some y0 := ⟨xs[0], List.getElem?_eq_getElem _⟩
      obtain ⟨y1, h1⟩ : ∃ y1, xs[1]? = some y1 := ⟨xs[1], List.getElem?_eq_getElem _⟩
      obtain ⟨y2, h2⟩ : ∃ y2, xs[2]? = some y2 := ⟨xs[2], List.getElem?_eq_getElem _⟩
      rw [h0] at g0
      rw [h1] at g1
      rw [h2] at g2
      obtain ⟨i0, e0, _⟩ := DataW.trod_int Try.underlying3 g0
      obtain ⟨i1, e1, _, w1⟩ := DataW.trod_int Try.underlying28 g1
      obtain ⟨i2, e2, _, w2⟩ := DataW.trod_int Try.underlying28 g2
      simp only [List.cons.injEq, and_true] at e0 e1 e2
      subst e0 e1 e2
      have b1 := u64c w1
      have b2 := u64c w2
      refine ⟨⟨i0, i1.toNat, i2.toNat⟩, ?_, by show i1.toNat < _; omega, by show i2.toNat < _; omega⟩
      show _ = [Value.int .i64 i0, Value.int .u64 ((i1.toNat : Nat) : Int), Value.int .u64 ((i2.toNat : Nat) : Int)]
      rw [Int.toNat_of_nonneg b1.1, Int.toNat_of_nonneg b2.1]) hf
  simp [Value.cells] at hcs
  obtain ⟨rfl, rfl, rfl⟩ := hcs
  refine ⟨_, _, _, l, rfl, hl.symm, hg, ?_⟩
  unfold RdA
  rw [hl]
  exact hr
end

theorem own : ownKnob Try.prog.godebug = none := by kernel_rfl
theorem laidOut : laidOutB Try.prog = true := by kernel_rfl

set_option maxRecDepth 100000 in
theorem lifted (os : Os) (started : os.Started) (H : Type) (enc : TypeId × Value → H) :
    ReturnsInHanded {} Try.checked os 6 .any (Rows.holesPlaySpec.pre6 enc Try.prog Try.f6 Rows.holesPlayRow.domain false) (Rows.holesPlaySpec.post enc Try.prog Try.f6 false true false false) := by
  refine returnsInHanded_of_change (C := Try.checked) own started (by kernel_rfl) Try.func6
    (ChangeSpec.witness6 (enc := enc) (C := Try.checked) false ⟨#[], #[.slice none 0 0], []⟩ 8 (by kernel_rfl) (by kernel_rfl) (by kernel_rfl) (by kernel_rfl)) ?_
  intro W base args ds gs before hval0 hW hcnd _
  have hval : ∀ (j : Nat) t v, Try.f6.params[j]? = some t → args[j]? = some v → Value.okWide Try.prog W .any base t v := hval0
  have hW' := hW
  obtain ⟨p, q, hA0, hV, rfl, hfz, hnd⟩ := hW
  have hA : DataW.TrodAll enc Try.prog W 0 (fun _ => true) true Try.f6.params.toList args.toList ds p := hA0
  rw [Try.params6] at hA hval
  obtain ⟨v0, d0, rfl, rfl, h0⟩ := trodAll_one hA
  obtain ⟨rfl, rfl⟩ := trodVars_none hV
  obtain ⟨A, n, c, l, rfl, hn, hl, rd⟩ := open_calls (hval 0 46 v0 rfl rfl) h0
  clear hA0 hval0
  simp only [List.append_nil] at hW'
  refine (play_any W A n c l hl rd hn).mono fun e W' ⟨he, hg⟩ => ?_
  subst he
  exact ⟨_, rfl, law_post (P := Try.prog) rfl rfl Try.underlying4 laidOut (by kernel_rfl) hW' rfl hg⟩

theorem over : Rows.holesPlayRow.holds Try.pinned (OpenSpec.ofChange Rows.holesPlaySpec) :=
  OpenClaim.holds_of_wide 6 Try.f6 rfl rfl rfl rfl rfl rfl rfl ⟨rfl, rfl, rfl, rfl, rfl⟩ rfl rfl rfl rfl rfl (by kernel_rfl) Try.func6 (by kernel_rfl)
    (of_decide_eq_true (by kernel_rfl)) (by unfold Func.isWrapper; first | (rw [if_pos (by decide +kernel)]; kernel_rfl) | (rw [if_neg (by decide +kernel)]; exact ⟨rfl, rfl⟩))
    (fun os started H enc _ => lifted os started H enc)

theorem proved : Rows.HolesPlaySaid := over
#print axioms proved
end Go.Proofs.Ytfdabccdgcohjaa.holesPlay
