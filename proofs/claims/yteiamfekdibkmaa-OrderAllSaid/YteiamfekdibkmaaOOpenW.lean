/-
  AN ARGUMENT THAT IS A ROW OF ROWS OF KEYS, as it is read. Conditions: none.
-/
import Derived.Test.YteiamfekdibkmaaOOpen
import Derived.Test.YteiamfekdibkmaaOOf
namespace Go.Proofs.Yteiamfekdibkmaa
open Go.ChangeShapes Go.WideShapes Go.ChangeAt Go.RowKit

section
variable {H : Type} {enc : TypeId × Value → H}
theorem cells25 : Try.prog.cellsOf 25 = 1 := by kernel_rfl
def Rw.cs (r : Rw) : List Value := [r.v]
theorem flat_rw : ∀ l : List Rw, l.flatMap Rw.cs = l.map Rw.v
  | [] => rfl
  | b :: l => by rw [List.flatMap_cons, flat_rw l]; rfl
theorem open_rw {w : World} {base n : Nat} {spare : Nat → Bool} {held : Bool} {cs : List Value} {y : DataW H × List MemPlace} (h : DataW.trod enc Try.prog w base spare held n 25 cs = some y) : ∃ x : Rw, cs = Rw.cs x ∧ RowR w w.heap.size x.A x.hs ∧ x.hs.length ≤ maxLen := by
  obtain ⟨A, n, c, l, rfl, rfl, hr, hnc, hcm⟩ := open_keys_cells h
  exact ⟨⟨A, c, l⟩, rfl, hr, Nat.le_trans hnc hcm⟩
theorem open_rowsW {w : World} {base b0 : Nat} {r : Reach} {spare : Nat → Bool} {held : Bool} {v : Value} {d : DataW H} {ps : List MemPlace}
    (hv : Value.okWide Try.prog w r b0 22 v) (hd : DataW.Trod enc Try.prog w base spare held 22 v d ps) : ∃ A n c rs, v = .slice A n c ∧ n = rs.length ∧ RowsR w w.heap.size A rs ∧ (∀ r ∈ rs, r.hs.length ≤ maxLen) ∧ n ≤ c ∧ c ≤ maxLen := by
  obtain ⟨a0, len, cap, rfl⟩ := okWide_slice Try.underlying22 hv
  obtain ⟨fuel, hf⟩ := hd
  obtain ⟨A, n, c, l, hcs, hl, hg, hr, hnc, hm, _⟩ := open_rows Rw.cs (fun x : Rw => RowR w w.heap.size x.A x.hs ∧ x.hs.length ≤ maxLen) Try.underlying22 cells25 (fun _ => rfl) (fun n cs' y hy _ => open_rw hy) hf
  simp [Value.cells] at hcs
  obtain ⟨rfl, rfl, rfl⟩ := hcs
  exact ⟨_, _, _, l, rfl, hl.symm, ⟨by rw [hl, ← flat_rw]; exact hr, fun x hx => (hg x hx).1⟩, fun x hx => (hg x hx).2, hnc, hm⟩
end
end Go.Proofs.Yteiamfekdibkmaa
