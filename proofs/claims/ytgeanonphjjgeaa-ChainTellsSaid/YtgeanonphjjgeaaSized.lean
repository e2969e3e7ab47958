/-
  WHAT AN ARGUMENT WEIGHS, part by part, over any program; a slice of structs opened with what its elements weigh. Conditions: none.
-/
import Derived.Test.YtgeanonphjjgeaaOpenRows
import Derived.SizedLaws
import Derived.OpenShut
namespace Go.Proofs.Ytgeanonphjjgeaa
open Go.ChangeShapes Go.WideShapes Go.ChangeAt Go.RowKit

section
variable {H : Type} {enc : TypeId × Value → H} {P : Program}
/-- each string, slice and map in a datum is within the form's reach -/
def Lgt (P : Program) (t : TypeId) (d : DataW H) : Prop := ∀ n ∈ d.weights P t, n ≤ reachBytes
theorem lgt_arg {ts : List TypeId} {ds : List (DataW H)} (h : (DataW.weightsEach P ts ds).all (· ≤ reachBytes) = true) {j : Nat} {t : TypeId} {d : DataW H} (ht : ts[j]? = some t) (hd : ds[j]? = some d) : Lgt P t d := fun n hn =>
  of_decide_eq_true (List.all_eq_true.1 h n (DataW.weights_mem_each ht hd n hn))
theorem weights_all_mem {e : TypeId} {d : DataW H} : ∀ {ds : List (DataW H)}, d ∈ ds → ∀ n ∈ d.weights P e, n ∈ DataW.weightsAll P e ds
  | d' :: ds, hd, n, hn => by
    simp only [DataW.weightsAll, List.mem_append]
    rcases List.mem_cons.1 hd with rfl | h
    · exact Or.inl hn
    · exact Or.inr (weights_all_mem h n hn)
theorem Lgt.slice {t e : TypeId} {elems spare : List (DataW H)} (hu : P.underlying t = some (.slice e)) (h : Lgt P t (.slice elems spare)) : (elems.length + spare.length) * P.bytesOf e ≤ reachBytes ∧ ∀ d ∈ elems, Lgt P e d := by
  refine ⟨h _ (by simp [DataW.weights, hu]), fun d hd n hn => h n ?_⟩
  simp only [DataW.weights, hu, List.mem_cons, List.mem_append]
  exact Or.inr (Or.inl (weights_all_mem hd n hn))
theorem Lgt.field {t : TypeId} {fs : Array Field} {parts : List (DataW H)} (hu : P.underlying t = some (.struct fs)) (h : Lgt P t (.agg parts)) {i : Nat} {f : Field} {d : DataW H} (hf : fs[i]? = some f) (hd : parts[i]? = some d) : Lgt P f.type d := by
  intro n hn
  refine h n ?_
  simp only [DataW.weights, hu]
  exact DataW.weights_mem_each (j := i) (by rw [List.getElem?_map, Array.getElem?_toList, hf]; rfl) hd n hn

theorem open_rows_sized {α : Type} [Inhabited α] (f : α → List Value) (good : α → Prop) {w : World} {base : Nat} {spare : Nat → Bool} {held : Bool} {t e : TypeId} {fuel size : Nat} {cs : List Value} {x : DataW H × List MemPlace} (ht : P.underlying t = some (.slice e)) (ce : P.cellsOf e = size)
    (hf : ∀ x, (f x).length = size) (hel : ∀ n cs' y, DataW.trod enc P w base spare held n e cs' = some y → Lgt P e y.1 → cs'.length = size → ∃ x, cs' = f x ∧ good x)
    (h : DataW.trod enc P w base spare held fuel t cs = some x) (hw : Lgt P t x.1) : ∃ (A : Option Addr) (n c : Nat) (l : List α), cs = [.slice A n c] ∧ l.length = n ∧ (∀ x ∈ l, good x) ∧ Reads w w.heap.size size A n (l.flatMap f) ∧ n ≤ c ∧ c ≤ maxLen ∧ (A = none → c = 0) ∧ n * P.bytesOf e ≤ reachBytes := by
  rcases Deep.open_slice ht h with ⟨rfl, _⟩ | ⟨a, len, cap, m, n, D, Pl, rfl, hb, hl, hm, hmm, rfl, hx⟩
  · exact ⟨none, 0, 0, [], rfl, rfl, fun x hx => (by cases hx), Reads.none_, Nat.le_refl _, Nat.zero_le _, fun _ => rfl, by rw [Nat.zero_mul]; exact Nat.zero_le _⟩
  · have hlm : len ≤ m := by rw [hmm]; split <;> omega
    obtain ⟨hw1, hw2⟩ := hw.slice ht
    obtain ⟨V, hV⟩ := Deep.choose_lt (α := α) (n := len) (p := fun i v => w.cells? base (a.add (i * size)) size = some (f v) ∧ good v) (fun i hi => by
      obtain ⟨cs', h1, h2⟩ := hx i (by omega)
      rw [ce] at h1
      obtain ⟨_, hlen, _⟩ := World.cells?_some h1
      obtain ⟨v, rfl, hg⟩ := hel _ _ _ h2 (hw2 _ (List.mem_map.2 ⟨i, List.mem_range.2 hi, rfl⟩)) hlen
      exact ⟨v, h1, hg⟩)
    refine ⟨some a, len, cap, (List.range len).map V, rfl, by simp, ?_, ?_, hl, hm, fun h => (by cases h), ?_⟩
    · intro x hx
      obtain ⟨i, hi, rfl⟩ := List.mem_map.1 hx
      exact (hV i (List.mem_range.1 hi)).2
    · have hlen : ∀ k, (((List.range k).map V).flatMap f).length = k * size := by
        intro k
        induction k with
        | zero => simp
        | succ k ih =>
          rw [List.range_succ, List.map_append, List.flatMap_append, List.length_append, ih]
          simp [hf, Nat.add_mul]
      refine ⟨hlen len, ?_⟩
      have main : ∀ k, k ≤ len → ∀ j u, (((List.range k).map V).flatMap f)[j]? = some u → w.cell? (a.add j) = some u := by
        intro k
        induction k with
        | zero => intro _ j u hu; simp at hu
        | succ k ih =>
          intro hk j u hu
          rw [List.range_succ, List.map_append, List.flatMap_append] at hu
          by_cases hj : j < k * size
          · rw [List.getElem?_append_left (by rw [hlen]; exact hj)] at hu
            exact ih (by omega) j u hu
          · rw [List.getElem?_append_right (by rw [hlen]; omega), hlen] at hu
            simp only [List.map_cons, List.map_nil, List.flatMap_cons, List.flatMap_nil, List.append_nil] at hu
            have hj2 : j - k * size < size := by
              have := (List.getElem?_eq_some_iff.1 hu).1
              rwa [hf] at this
            obtain ⟨_, _, hc⟩ := World.cells?_some (hV k (by omega)).1
            have := hc (j - k * size) hj2
            rw [add_add_, show k * size + (j - k * size) = j by omega] at this
            rw [this]
            exact hu
      intro j u hu
      have hc := main len (Nat.le_refl _) j u hu
      refine ⟨a, rfl, ?_, hc⟩
      have := cell_lt hc
      rwa [add_block] at this
    · have : len * P.bytesOf e ≤ (((List.range len).map D).length + ((List.range (m - len)).map fun j => D (len + j)).length) * P.bytesOf e := Nat.mul_le_mul_right _ (by simp)
      omega
/-- a cell that reads as a slice of bytes, within the reach -/
theorem open_bs_sized {w : World} {base : Nat} {spare : Nat → Bool} {held : Bool} {t e : TypeId} {fuel : Nat} {cs : List Value} {x : DataW H × List MemPlace} (ht : P.underlying t = some (.slice e)) (he : P.underlying e = some (.int .u8)) (hc : P.cellsOf e = 1) (hby : P.bytesOf e = 1)
    (h : DataW.trod enc P w base spare held fuel t cs = some x) (hw : Lgt P t x.1) : ∃ A n c l, cs = [.slice A n c] ∧ Bs w w.heap.size A n l ∧ n ≤ c ∧ c ≤ maxLen ∧ n ≤ reachBytes := by
  obtain ⟨A, n, c, l, rfl, hb, hnc, hcm, _⟩ := open_bs_cells ht he hc h
  refine ⟨A, n, c, l, rfl, hb, hnc, hcm, ?_⟩
  rcases Deep.open_slice ht h with ⟨hcs, _⟩ | ⟨a, len, cap, m, k, D, Pl, hcs, _, _, _, _, rfl, _⟩
  · cases hcs
    exact Nat.zero_le _
  · cases hcs
    have := (hw.slice ht).1
    rw [hby] at this
    simp at this
    omega
end
end Go.Proofs.Ytgeanonphjjgeaa
