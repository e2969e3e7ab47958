/-
  A SLICE OF STRUCTS AS IT IS READ, over any program: the list of what lies there. Conditions: none.
-/
import Derived.Test.YteiamfekdibkmaaPost
import Derived.Deep.Slices
namespace Go.Proofs.Yteiamfekdibkmaa
open Go.ChangeShapes Go.WideShapes Go.ChangeAt Go.RowKit

section
variable {H : Type} {enc : TypeId × Value → H} {P : Program}

theorem cell_lt {w : World} {a : Addr} {v : Value} (h : w.cell? a = some v) : a.block < w.heap.size := by
  unfold World.cell? at h
  cases ho : w.heap[a.block]? with
  | none => simp [ho] at h
  | some o => exact (Array.getElem?_eq_some_iff.1 ho).1

/-- A CELL THAT READS AS A SLICE whose elements are of whatever form: 'f' says an element's cells. -/
theorem open_rows {α : Type} [Inhabited α] (f : α → List Value) (good : α → Prop) {w : World} {base : Nat} {spare : Nat → Bool} {held : Bool} {t e : TypeId} {fuel size : Nat} {cs : List Value} {x : DataW H × List MemPlace} (ht : P.underlying t = some (.slice e)) (ce : P.cellsOf e = size)
    (hf : ∀ x, (f x).length = size) (hel : ∀ n cs' y, DataW.trod enc P w base spare held n e cs' = some y → cs'.length = size → ∃ x, cs' = f x ∧ good x)
    (h : DataW.trod enc P w base spare held fuel t cs = some x) : ∃ (A : Option Addr) (n c : Nat) (l : List α), cs = [.slice A n c] ∧ l.length = n ∧ (∀ x ∈ l, good x) ∧ Reads w w.heap.size size A n (l.flatMap f) ∧ n ≤ c ∧ c ≤ maxLen ∧ (A = none → c = 0) := by
  rcases Deep.open_slice ht h with ⟨rfl, _⟩ | ⟨a, len, cap, m, n, D, Pl, rfl, hb, hl, hm, hmm, rfl, hx⟩
  · exact ⟨none, 0, 0, [], rfl, rfl, fun x hx => (by cases hx), Reads.none_, Nat.le_refl _, Nat.zero_le _, fun _ => rfl⟩
  · have hlm : len ≤ m := by rw [hmm]; split <;> omega
    obtain ⟨V, hV⟩ := Deep.choose_lt (α := α) (n := len) (p := fun i v => w.cells? base (a.add (i * size)) size = some (f v) ∧ good v) (fun i hi => by
      obtain ⟨cs', h1, h2⟩ := hx i (by omega)
      rw [ce] at h1
      obtain ⟨_, hlen, _⟩ := World.cells?_some h1
      obtain ⟨v, rfl, hg⟩ := hel _ _ _ h2 hlen
      exact ⟨v, h1, hg⟩)
    refine ⟨some a, len, cap, (List.range len).map V, rfl, by simp, ?_, ?_, hl, hm, fun h => by cases h⟩
    · intro x hx
      obtain ⟨i, hi, rfl⟩ := List.mem_map.1 hx
      exact (hV i (List.mem_range.1 hi)).2
    · have hlen : ∀ k, (((List.range k).map V).flatMap f).length = k * size := by
        intro k
        induction k with
        | zero => simp
        | succ k ih =>
          rw [List.range_succ, List.map_append, List.flatMap_append, List.length_append, ih]
          simp [hf, Nat.add_mul]
      refine ⟨hlen len, ?_⟩
      have main : ∀ k, k ≤ len → ∀ j u, (((List.range k).map V).flatMap f)[j]? = some u → w.cell? (a.add j) = some u := by
        intro k
        induction k with
        | zero => intro _ j u hu; simp at hu
        | succ k ih =>
          intro hk j u hu
          rw [List.range_succ, List.map_append, List.flatMap_append] at hu
          by_cases hj : j < k * size
          · rw [List.getElem?_append_left (by rw [hlen]; exact hj)] at hu
            exact ih (by omega) j u hu
          · rw [List.getElem?_append_right (by rw [hlen]; omega), hlen] at hu
            simp only [List.map_cons, List.map_nil, List.flatMap_cons, List.flatMap_nil, List.append_nil] at hu
            have hj2 : j - k * size < size := by
              have := (List.getElem?_eq_some_iff.1 hu).1
              rwa [hf] at this
            obtain ⟨_, _, hc⟩ := World.cells?_some (hV k (by omega)).1
            have := hc (j - k * size) hj2
            rw [add_add_, show k * size + (j - k * size) = j by omega] at this
            rw [this]
            exact hu
      intro j u hu
      have hc := main len (Nat.le_refl _) j u hu
      refine ⟨a, rfl, ?_, hc⟩
      have := cell_lt hc
      rwa [add_block] at this
end
end Go.Proofs.Yteiamfekdibkmaa
