/-
  AN ARGUMENT THAT IS A ROW OF KEYS, as it is read. Conditions: none.
-/
import Derived.Test.YteiamfekdibkmaaOpenRows
import Derived.Test.YteiamfekdibkmaaOOwn
namespace Go.Proofs.Yteiamfekdibkmaa
open Go.ChangeShapes Go.WideShapes Go.ChangeAt Go.RowKit

section
variable {H : Type} {enc : TypeId × Value → H}
theorem cells5 : Try.prog.cellsOf 5 = 1 := by kernel_rfl
theorem cells23 : Try.prog.cellsOf 23 = 1 := by kernel_rfl
theorem flat_hd : ∀ l : List Hd, l.flatMap Hd.cs = l.map Hd.v
  | [] => rfl
  | b :: l => by rw [List.flatMap_cons, flat_hd l]; rfl
theorem open_hd {w : World} {base n : Nat} {spare : Nat → Bool} {held : Bool} {cs : List Value} {y : DataW H × List MemPlace} (h : DataW.trod enc Try.prog w base spare held n 23 cs = some y) : ∃ x, cs = Hd.cs x ∧ goodHd w w.heap.size x := by
  obtain ⟨A, n, c, l, rfl, hb, hnc, hcm, _⟩ := open_bs_cells Try.underlying23 Try.underlying5 cells5 h
  have hl : n = l.length := by have := hb.len; simpa using this.symm
  subst hl
  exact ⟨⟨A, c, l⟩, rfl, hb, hnc, hcm⟩
theorem open_keys_cells {w : World} {base n : Nat} {spare : Nat → Bool} {held : Bool} {cs : List Value} {y : DataW H × List MemPlace} (h : DataW.trod enc Try.prog w base spare held n 25 cs = some y) :
    ∃ A n c hs, cs = [.slice A n c] ∧ n = hs.length ∧ RowR w w.heap.size A hs ∧ n ≤ c ∧ c ≤ maxLen := by
  obtain ⟨A, n, c, l, hcs, hl, hg, hr, hnc, hm, _⟩ := open_rows Hd.cs (goodHd w w.heap.size) Try.underlying25 cells23 (fun _ => rfl) (fun n cs' y hy _ => open_hd hy) h
  exact ⟨A, n, c, l, hcs, hl.symm, ⟨by rw [hl, ← flat_hd]; exact hr, hg⟩, hnc, hm⟩
theorem open_keys {w : World} {base b0 : Nat} {r : Reach} {spare : Nat → Bool} {held : Bool} {v : Value} {d : DataW H} {ps : List MemPlace}
    (hv : Value.okWide Try.prog w r b0 25 v) (hd : DataW.Trod enc Try.prog w base spare held 25 v d ps) : ∃ A n c hs, v = .slice A n c ∧ n = hs.length ∧ RowR w w.heap.size A hs ∧ n ≤ c ∧ c ≤ maxLen := by
  obtain ⟨a0, len, cap, rfl⟩ := okWide_slice Try.underlying25 hv
  obtain ⟨fuel, hf⟩ := hd
  obtain ⟨A, n, c, l, hcs, rest⟩ := open_keys_cells hf
  simp [Value.cells] at hcs
  obtain ⟨rfl, rfl, rfl⟩ := hcs
  exact ⟨_, _, _, l, rfl, rest⟩
end
end Go.Proofs.Yteiamfekdibkmaa
