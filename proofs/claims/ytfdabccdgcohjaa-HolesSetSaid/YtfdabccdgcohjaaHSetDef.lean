/-
  HOLES AS A SET, PLAIN: how many numbers a row has, counted one by one; stretches added in whatever order. Conditions: none.
-/
import Derived.Test.YtfdabccdgcohjaaHWakes
namespace Go.Proofs.Ytfdabccdgcohjaa
open Go.RowKit

/-- how many numbers below k are in a row -/
def cnt (L : List St) : Nat → Nat
  | 0 => 0
  | k + 1 => cnt L k + (if has L k then 1 else 0)
theorem cnt_le (L : List St) : ∀ k, cnt L k ≤ k
  | 0 => Nat.le_refl _
  | k + 1 => by
    have := cnt_le L k
    rw [cnt]
    split <;> omega
theorem cnt_nil : ∀ k, cnt [] k = 0
  | 0 => rfl
  | k + 1 => by rw [cnt, cnt_nil k]; rfl
theorem cnt_cons {s : St} {r : List St} (h : Canon (s :: r)) : ∀ k, cnt (s :: r) k = (min (s.hi + 1) k - min s.lo k) + cnt r k
  | 0 => by simp [cnt]
  | k + 1 => by
    rw [cnt, cnt, cnt_cons h k, has_cons]
    have hs := h.mem (List.mem_cons_self ..)
    cases hsk : s.has k with
    | true =>
      have h1 := St.has_iff.1 hsk
      have h2 : has r k = false := by
        cases e : has r k
        · rfl
        · obtain ⟨t, ht, h3, h4⟩ := has_iff.1 e
          have := h.2.2.2.1 t ht
          omega
      rw [h2]
      simp
      omega
    | false =>
      have h1 : ¬ (s.lo ≤ k ∧ k ≤ s.hi) := fun h => by rw [St.has_iff.2 h] at hsk; cases hsk
      cases has r k <;> simp <;> omega
theorem cnt_many : ∀ {L : List St} {k : Nat}, Canon L → (∀ s ∈ L, s.hi < k) → cnt L k = manyL L
  | [], k, _, _ => cnt_nil k
  | s :: r, k, h, hk => by
    have h1 := hk s (List.mem_cons_self ..)
    rw [cnt_cons h, manyL, cnt_many h.2.2.2.2 (fun t ht => hk t (List.mem_cons_of_mem _ ht))]
    have := h.2.1
    omega
/-- all numbers of a row are within 1 and 250 -/
def Within (L : List St) : Prop := ∀ n, has L n = true → 1 ≤ n ∧ n ≤ 250
theorem Within.hi {L : List St} (h : Within L) (hc : Canon L) {s : St} (hs : s ∈ L) : s.hi ≤ 250 := (h s.hi (has_iff.2 ⟨s, hs, (hc.mem hs).2.1, Nat.le_refl _⟩)).2
theorem sure_many {L : List St} (h : Within L) (hc : Canon L) : (!sureL 0 251 L) = decide (0 < manyL L) := by
  cases L with
  | nil => rfl
  | cons s r =>
    have h1 := hc.mem (List.mem_cons_self ..)
    have h2 := h.hi hc (List.mem_cons_self ..)
    have h3 : 0 < manyL (s :: r) := by rw [manyL]; omega
    rw [decide_eq_true h3]
    cases hs : sureL 0 251 (s :: r) with
    | false => rfl
    | true =>
      have := (sure_iff hc).1 hs s.lo (by omega) (by omega)
      rw [has_cons, St.has_iff.2 ⟨Nat.le_refl _, h1.2.1⟩] at this
      cases this

/-- the stretches of the argument -/
abbrev Pr := Nat × Nat
def Pr.lo (x : Pr) : Nat := 1 + x.1 % 250
def Pr.hi (x : Pr) : Nat := 1 + x.2 % 250
def Pr.has (x : Pr) (n : Nat) : Bool := decide (x.lo ≤ n) && decide (n ≤ x.hi)
def inP (l : List Pr) (n : Nat) : Bool := l.any fun x => x.has n
theorem inP_app (X Y : List Pr) (n : Nat) : inP (X ++ Y) n = (inP X n || inP Y n) := List.any_append
theorem inP_one (x : Pr) (n : Nat) : inP [x] n = x.has n := by simp [inP]
theorem inP_cons (x : Pr) (Y : List Pr) (n : Nat) : inP (x :: Y) n = (x.has n || inP Y n) := rfl
theorem inP_within {l : List Pr} {n : Nat} (h : inP l n = true) : 1 ≤ n ∧ n ≤ 250 := by
  unfold inP at h
  rw [List.any_eq_true] at h
  obtain ⟨x, _, hx⟩ := h
  have hx2 : (decide (1 + x.1 % 250 ≤ n) && decide (n ≤ 1 + x.2 % 250)) = true := hx
  rw [Bool.and_eq_true, decide_eq_true_iff, decide_eq_true_iff] at hx2
  omega
theorem take_next {l : List Pr} {i : Nat} {x : Pr} (h : l[i]? = some x) : l.take (i + 1) = l.take i ++ [x] := by
  rw [List.take_add_one, h]
  rfl
theorem drop_prev {l : List Pr} {j : Nat} {x : Pr} (h : l[j]? = some x) : l.drop j = x :: l.drop (j + 1) := by
  obtain ⟨hh, e⟩ := List.getElem?_eq_some_iff.1 h
  rw [← e, List.drop_eq_getElem_cons]
/-- the array -/
def arrF (f : Nat → Bool) : Array Value := ((List.range 252).map fun n => Value.bool (f n)).toArray
theorem arrF_at (f : Nat → Bool) {n : Nat} (h : n < 252) : (arrF f)[n]? = some (.bool (f n)) := by
  unfold arrF
  rw [List.getElem?_toArray, List.getElem?_map, List.getElem?_range h]
  rfl
theorem arrF_set (f : Nat → Bool) (n : Nat) (b : Bool) : (arrF f).setIfInBounds n (.bool b) = arrF fun m => if m = n then b else f m := by
  apply Array.ext_getElem?
  intro i
  rw [Array.getElem?_setIfInBounds]
  by_cases hi : i < 252
  · have hs : (arrF f).size = 252 := by simp [arrF]
    by_cases hn : n = i
    · subst hn
      rw [if_pos rfl, arrF_at _ hi, hs, if_pos hi, if_pos rfl]
    · rw [if_neg hn, arrF_at _ hi, arrF_at _ hi, if_neg (fun e => hn e.symm)]
  · have hs : ∀ g : Nat → Bool, (arrF g).size = 252 := fun g => by simp [arrF]
    have hx : ∀ g : Nat → Bool, (arrF g)[i]? = none := fun g => Array.getElem?_eq_none (by rw [hs]; omega)
    rw [hx, hx]
    split
    · rw [hs]
      rename_i hn
      subst hn
      rw [if_neg hi]
    · rfl
theorem arrF_ext {f g : Nat → Bool} (h : ∀ n, n < 252 → f n = g n) : arrF f = arrF g := by
  unfold arrF
  congr 1
  exact List.map_congr_left fun n hn => by rw [h n (List.mem_range.1 hn)]
end Go.Proofs.Ytfdabccdgcohjaa
