/-
  THE DOCUMENT'S HOLES, PLAIN: calls, edges, the row between the edges. Conditions: none.
-/
import Derived.Test.YtfdabccdgcohjaaHDef
namespace Go.Proofs.Ytfdabccdgcohjaa
open Go.RowKit

/-- a call: from a number to another one, all are holes, or none -/
structure Sd where
  lo : Nat
  hi : Nat
  hole : Bool
def Sd.has (x : Sd) (n : Nat) : Bool := decide (x.lo ≤ n) && decide (n ≤ x.hi)
theorem Sd.has_iff {x : Sd} {n : Nat} : x.has n = true ↔ x.lo ≤ n ∧ n ≤ x.hi := by simp [Sd.has]
def hasR (S : List Sd) (n : Nat) : Bool := S.foldl (fun b x => if x.has n then x.hole else b) false
theorem hasR_app (S : List Sd) (x : Sd) (n : Nat) : hasR (S ++ [x]) n = if x.has n then x.hole else hasR S n := by
  simp [hasR, List.foldl_append]
theorem hasR_congr {n m : Nat} : ∀ {S : List Sd} {b : Bool}, (∀ x ∈ S, x.has n = x.has m) → S.foldl (fun b x => if x.has n then x.hole else b) b = S.foldl (fun b x => if x.has m then x.hole else b) b
  | [], _, _ => rfl
  | x :: S, b, h => by
    rw [List.foldl_cons, List.foldl_cons, h x (List.mem_cons_self ..)]
    exact hasR_congr fun y hy => h y (List.mem_cons_of_mem _ hy)
theorem hasR_none {n : Nat} : ∀ {S : List Sd} {b : Bool}, (∀ x ∈ S, x.has n = false) → S.foldl (fun b x => if x.has n then x.hole else b) b = b
  | [], _, _ => rfl
  | x :: S, b, h => by
    rw [List.foldl_cons, h x (List.mem_cons_self ..), if_neg (by simp)]
    exact hasR_none fun y hy => h y (List.mem_cons_of_mem _ hy)

/-- a rising row of numbers -/
def Rises (E : List Nat) : Prop := E.Pairwise (· < ·)
theorem Rises.lt {E : List Nat} (h : Rises E) {i j a b : Nat} (hij : i < j) (ha : E[i]? = some a) (hb : E[j]? = some b) : a < b := by
  obtain ⟨h1, e1⟩ := List.getElem?_eq_some_iff.1 ha
  obtain ⟨h2, e2⟩ := List.getElem?_eq_some_iff.1 hb
  have := List.pairwise_iff_getElem.1 h i j h1 h2 hij
  rw [e1, e2] at this
  exact this
theorem Rises.between {E : List Nat} (h : Rises E) {i e e' z : Nat} (he : E[i]? = some e) (he' : E[i + 1]? = some e') (hz : z ∈ E) : z ≤ e ∨ e' ≤ z := by
  obtain ⟨j, hj⟩ := List.mem_iff_getElem?.1 hz
  by_cases h1 : j < i
  · exact .inl (Nat.le_of_lt (h.lt h1 hj he))
  · by_cases h2 : j = i
    · subst h2
      rw [he] at hj
      cases hj
      exact .inl (Nat.le_refl _)
    · by_cases h3 : j = i + 1
      · subst h3
        rw [he'] at hj
        cases hj
        exact .inr (Nat.le_refl _)
      · exact .inr (Nat.le_of_lt (h.lt (by omega) he' hj))
/-- edges: they rise; all of the first i ends are there -/
structure EdgesUp (S : List Sd) (i : Nat) (E : List Nat) : Prop where
  up : Rises E
  ok : ∀ e ∈ E, 1 ≤ e ∧ e ≤ 1099511627777
  len : E.length ≤ i
  all : ∀ j x, S[j]? = some x → x.lo ≤ x.hi → (2 * j < i → x.lo ∈ E) ∧ (2 * j + 1 < i → x.hi + 1 ∈ E)
theorem EdgesUp.start (S : List Sd) : EdgesUp S 0 [] := ⟨List.Pairwise.nil, fun e he => (by cases he), Nat.le_refl _, fun j x _ _ => ⟨fun h => (by omega), fun h => (by omega)⟩⟩
/-- nothing to be put in -/
theorem EdgesUp.skip {S : List Sd} {i : Nat} {E : List Nat} (h : EdgesUp S i E) {x : Sd} (hx : S[i / 2]? = some x) (hh : x.lo ≤ x.hi → (i % 2 = 0 → x.lo ∈ E) ∧ (i % 2 = 1 → x.hi + 1 ∈ E)) : EdgesUp S (i + 1) E := by
  refine ⟨h.up, h.ok, Nat.le_succ_of_le h.len, fun j y hy hle => ⟨fun hj => ?_, fun hj => ?_⟩⟩
  · by_cases h1 : 2 * j < i
    · exact (h.all j y hy hle).1 h1
    · have : j = i / 2 := by omega
      subst this
      rw [hx] at hy
      cases hy
      exact (hh hle).1 (by omega)
  · by_cases h1 : 2 * j + 1 < i
    · exact (h.all j y hy hle).2 h1
    · have : j = i / 2 := by omega
      subst this
      rw [hx] at hy
      cases hy
      exact (hh hle).2 (by omega)
theorem Rises.put {E : List Nat} (h : Rises E) {k n : Nat} (h1 : ∀ j e, j < k → E[j]? = some e → e < n) (h2 : ∀ e, E[k]? = some e → n < e) : Rises (E.take k ++ n :: E.drop k) := by
  have hlo : ∀ e ∈ E.take k, e < n := fun e he => by
    obtain ⟨j, hj⟩ := List.mem_iff_getElem?.1 he
    rw [List.getElem?_take] at hj
    split at hj
    · rename_i hjk
      exact h1 j e hjk hj
    · cases hj
  have hhi : ∀ e ∈ E.drop k, n < e := fun e he => by
    obtain ⟨j, hj⟩ := List.mem_iff_getElem?.1 he
    rw [List.getElem?_drop] at hj
    cases hk : E[k]? with
    | none =>
      have := List.getElem?_eq_none_iff.1 hk
      have := (List.getElem?_eq_some_iff.1 hj).1
      omega
    | some a =>
      have := h2 a hk
      by_cases hj0 : j = 0
      · subst hj0
        rw [Nat.add_zero, hk] at hj
        cases hj
        exact this
      · have := h.lt (i := k) (j := k + j) (by omega) hk hj
        omega
  have hsplit : Rises (E.take k ++ E.drop k) := by rw [List.take_append_drop]; exact h
  have hp := List.pairwise_append.1 hsplit
  refine List.pairwise_append.2 ⟨hp.1, List.pairwise_cons.2 ⟨hhi, hp.2.1⟩, fun a ha b hb => ?_⟩
  rcases List.mem_cons.1 hb with rfl | hb
  · exact hlo a ha
  · exact hp.2.2 a ha b hb
theorem EdgesUp.put {S : List Sd} {i : Nat} {E : List Nat} (h : EdgesUp S i E) {x : Sd} (hx : S[i / 2]? = some x) {k n : Nat} (hk : k ≤ E.length) (hn : (i % 2 = 0 → n = x.lo) ∧ (i % 2 = 1 → n = x.hi + 1)) (hb : 1 ≤ n ∧ n ≤ 1099511627777) (h1 : ∀ j e, j < k → E[j]? = some e → e < n) (h2 : ∀ e, E[k]? = some e → n < e) : EdgesUp S (i + 1) (E.take k ++ n :: E.drop k) := by
  have hmem : ∀ e, e ∈ E.take k ++ n :: E.drop k ↔ e = n ∨ e ∈ E := fun e => by
    have : e ∈ E ↔ e ∈ E.take k ++ E.drop k := by rw [List.take_append_drop]
    rw [this]
    simp only [List.mem_append, List.mem_cons]
    constructor
    · rintro (h | h | h)
      · exact .inr (.inl h)
      · exact .inl h
      · exact .inr (.inr h)
    · rintro (h | h | h)
      · exact .inr (.inl h)
      · exact .inl h
      · exact .inr (.inr h)
  refine ⟨h.up.put h1 h2, fun e he => ?_, ?_, fun j y hy hle => ⟨fun hj => ?_, fun hj => ?_⟩⟩
  · rcases (hmem e).1 he with rfl | he
    · exact hb
    · exact h.ok e he
  · have := h.len
    simp
    omega
  · rw [hmem]
    by_cases h3 : 2 * j < i
    · exact .inr ((h.all j y hy hle).1 h3)
    · have : j = i / 2 := by omega
      subst this
      rw [hx] at hy
      cases hy
      exact .inl (hn.1 (by omega)).symm
  · rw [hmem]
    by_cases h3 : 2 * j + 1 < i
    · exact .inr ((h.all j y hy hle).2 h3)
    · have : j = i / 2 := by omega
      subst this
      rw [hx] at hy
      cases hy
      exact .inl (hn.2 (by omega)).symm
section
variable {S : List Sd} {E : List Nat} (h : EdgesUp S (2 * S.length) E)
include h
theorem EdgesUp.ends {x : Sd} (hx : x ∈ S) (hle : x.lo ≤ x.hi) : x.lo ∈ E ∧ x.hi + 1 ∈ E := by
  obtain ⟨j, hj⟩ := List.mem_iff_getElem?.1 hx
  have hlt := (List.getElem?_eq_some_iff.1 hj).1
  have := h.all j x hj hle
  exact ⟨this.1 (by omega), this.2 (by omega)⟩
theorem EdgesUp.const {i e e' n : Nat} (he : E[i]? = some e) (he' : E[i + 1]? = some e') (h1 : e ≤ n) (h2 : n < e') : hasR S n = hasR S e := by
  refine hasR_congr fun x hx => ?_
  by_cases hle : x.lo ≤ x.hi
  · obtain ⟨m1, m2⟩ := h.ends hx hle
    have b1 := h.up.between he he' m1
    have b2 := h.up.between he he' m2
    rw [Bool.eq_iff_iff, Sd.has_iff, Sd.has_iff]
    omega
  · rw [Bool.eq_iff_iff, Sd.has_iff, Sd.has_iff]
    omega
theorem EdgesUp.below {n : Nat} (hn : ∀ e ∈ E, n < e) : hasR S n = false := by
  refine hasR_none fun x hx => ?_
  cases hh : x.has n with
  | false => rfl
  | true =>
    have h1 := Sd.has_iff.1 hh
    have := hn _ (h.ends hx (by omega)).1
    omega
theorem EdgesUp.above {n : Nat} (hn : ∀ e ∈ E, e ≤ n) : hasR S n = false := by
  refine hasR_none fun x hx => ?_
  cases hh : x.has n with
  | false => rfl
  | true =>
    have h1 := Sd.has_iff.1 hh
    have := hn _ (h.ends hx (by omega)).2
    omega
end
/-- the row up to the edge i -/
structure RowUp (S : List Sd) (E : List Nat) (i : Nat) (out : List St) : Prop where
  ok : Canon out
  has_ : ∀ e, E[i]? = some e → ∀ n, has out n = (hasR S n && decide (n < e))
  none : E = [] → out = []
  len : out.length ≤ i
theorem RowUp.start {S : List Sd} {E : List Nat} (h : EdgesUp S (2 * S.length) E) : RowUp S E 0 [] := by
  refine ⟨trivial, fun e he n => ?_, fun _ => rfl, Nat.le_refl _⟩
  show false = _
  by_cases hn : n < e
  · rw [h.below fun z hz => ?_, Bool.false_and]
    obtain ⟨j, hj⟩ := List.mem_iff_getElem?.1 hz
    by_cases h0 : j = 0
    · subst h0
      rw [he] at hj
      cases hj
      exact hn
    · have := h.up.lt (i := 0) (by omega) he hj
      omega
  · rw [decide_eq_false hn, Bool.and_false]
theorem RowUp.his {S : List Sd} {E : List Nat} {i e : Nat} {out : List St} (r : RowUp S E i out) (he : E[i]? = some e) {s : St} (hs : s ∈ out) : s.hi < e := by
  have h1 := r.ok.mem hs
  have h2 := r.has_ e he s.hi
  rw [has_iff.2 ⟨s, hs, h1.2.1, Nat.le_refl _⟩] at h2
  have h3 := h2.symm
  rw [Bool.and_eq_true, decide_eq_true_iff] at h3
  exact h3.2
section
variable {S : List Sd} {E : List Nat} {i e e' : Nat} {out : List St} (h : EdgesUp S (2 * S.length) E) (r : RowUp S E i out) (he : E[i]? = some e) (he' : E[i + 1]? = some e')
include h r he he'
theorem RowUp.skip (hb : hasR S e = false) : RowUp S E (i + 1) out := by
  refine ⟨r.ok, fun z hz n => ?_, r.none, Nat.le_succ_of_le r.len⟩
  rw [he'] at hz
  cases hz
  rw [r.has_ e he]
  have hlt := h.up.lt (Nat.lt_succ_self i) he he'
  by_cases h1 : n < e
  · rw [decide_eq_true h1, decide_eq_true (show n < e' by omega)]
  · rw [decide_eq_false h1, Bool.and_false]
    by_cases h2 : n < e'
    · rw [h.const he he' (by omega) h2, hb, Bool.false_and]
    · rw [decide_eq_false h2, Bool.and_false]
theorem RowUp.bool (hb : hasR S e = true) (n : Nat) : (has out n || (decide (e ≤ n) && decide (n ≤ e' - 1))) = (hasR S n && decide (n < e')) := by
  have hlt := h.up.lt (Nat.lt_succ_self i) he he'
  rw [r.has_ e he]
  by_cases h1 : n < e
  · rw [decide_eq_true h1, decide_eq_true (show n < e' by omega), decide_eq_false (show ¬ e ≤ n by omega), Bool.false_and, Bool.or_false]
  · rw [decide_eq_false h1, Bool.and_false, Bool.false_or, decide_eq_true (show e ≤ n by omega), Bool.true_and]
    by_cases h2 : n < e'
    · rw [h.const he he' (by omega) h2, hb, decide_eq_true h2, decide_eq_true (show n ≤ e' - 1 by omega)]
      rfl
    · rw [decide_eq_false h2, decide_eq_false (show ¬ n ≤ e' - 1 by omega), Bool.and_false]
theorem RowUp.put (hb : hasR S e = true) (hl : ∀ s ∈ out, s.hi + 1 ≠ e) : RowUp S E (i + 1) (out ++ [⟨e, e' - 1⟩]) := by
  have hlt := h.up.lt (Nat.lt_succ_self i) he he'
  have b1 := h.ok e (List.mem_of_getElem? he)
  have b2 := h.ok e' (List.mem_of_getElem? he')
  refine ⟨Canon.app.2 ⟨r.ok, ⟨b1.1, by show e ≤ e' - 1; omega, by show e' - 1 ≤ _; omega, fun t ht => (by cases ht), trivial⟩, fun x hx y hy => ?_⟩, fun z hz n => ?_, fun h0 => ?_, ?_⟩
  · rw [List.mem_singleton.1 hy]
    have h1 := r.his he hx
    have h2 := hl x hx
    show x.hi + 1 < e
    omega
  · rw [he'] at hz
    cases hz
    rw [has_app, ← r.bool h he he' hb n]
    congr 1
    show ((decide (e ≤ n) && decide (n ≤ e' - 1)) || false) = _
    rw [Bool.or_false]
  · rw [h0] at he
    simp at he
  · have := r.len
    simp
    omega
theorem RowUp.grow {X : List St} {s : St} (hX : out = X ++ [s]) (hb : hasR S e = true) (hl : s.hi + 1 = e) : RowUp S E (i + 1) (X ++ [⟨s.lo, e' - 1⟩]) := by
  have hlt := h.up.lt (Nat.lt_succ_self i) he he'
  have b1 := h.ok e (List.mem_of_getElem? he)
  have b2 := h.ok e' (List.mem_of_getElem? he')
  have hc := r.ok
  rw [hX] at hc
  have hc2 := Canon.app.1 hc
  have hs := hc.mem (s := s) (by simp)
  refine ⟨Canon.app.2 ⟨hc2.1, ⟨hs.1, by show s.lo ≤ e' - 1; omega, by show e' - 1 ≤ _; omega, fun t ht => (by cases ht), trivial⟩, fun x hx y hy => ?_⟩, fun z hz n => ?_, fun h0 => ?_, ?_⟩
  · rw [List.mem_singleton.1 hy]
    exact hc2.2.2 x hx s (List.mem_singleton.2 rfl)
  · rw [he'] at hz
    cases hz
    rw [has_app, ← r.bool h he he' hb n, hX, has_app, Bool.or_assoc]
    congr 1
    show ((decide (s.lo ≤ n) && decide (n ≤ e' - 1)) || false) = (((decide (s.lo ≤ n) && decide (n ≤ s.hi)) || false) || (decide (e ≤ n) && decide (n ≤ e' - 1)))
    rw [Bool.or_false, Bool.or_false, Bool.eq_iff_iff]
    simp
    omega
  · rw [h0] at he
    simp at he
  · have := r.len
    rw [hX] at this
    simp at *
    omega
end
theorem RowUp.end_ {S : List Sd} {E : List Nat} {i : Nat} {out : List St} (h : EdgesUp S (2 * S.length) E) (r : RowUp S E i out) (hi : E = [] ∨ i + 1 = E.length) (n : Nat) : has out n = hasR S n := by
  rcases hi with h0 | hi
  · rw [r.none h0, h.below fun e he => by rw [h0] at he; cases he]
    rfl
  · obtain ⟨e, he⟩ : ∃ e, E[i]? = some e := ⟨E[i], List.getElem?_eq_getElem _⟩
    rw [r.has_ e he]
    by_cases hn : n < e
    · rw [decide_eq_true hn, Bool.and_true]
    · rw [decide_eq_false hn, Bool.and_false, h.above fun z hz => ?_]
      obtain ⟨j, hj⟩ := List.mem_iff_getElem?.1 hz
      have hjl := (List.getElem?_eq_some_iff.1 hj).1
      by_cases hji : j = i
      · subst hji
        rw [he] at hj
        cases hj
        omega
      · have := h.up.lt (i := j) (j := i) (by omega) hj he
        omega
/-- a call more -/
theorem hasR_add {L : List St} {S : List Sd} (hc : Canon L) (h : ∀ n, has L n = hasR S n) {lo hi : Nat} (h1 : 1 ≤ lo) (h2 : hi ≤ 1099511627776) (n : Nat) : has (addO lo hi L).2 n = hasR (S ++ [⟨lo, hi, true⟩]) n := by
  rw [addO_has hc h1 h2, hasR_app, h]
  show (hasR S n || (decide (lo ≤ n) && decide (n ≤ hi))) = if (decide (lo ≤ n) && decide (n ≤ hi)) = true then true else hasR S n
  split
  · rename_i h3
    rw [h3, Bool.or_true]
  · rename_i h3
    rw [Bool.not_eq_true] at h3
    rw [h3, Bool.or_false]
theorem hasR_found {L : List St} {S : List Sd} (hc : Canon L) (h : ∀ n, has L n = hasR S n) {q : Nat} (h1 : 1 ≤ q) (h2 : q ≤ 1099511627776) (n : Nat) : has (foundO q L).2 n = hasR (S ++ [⟨q, q, false⟩]) n := by
  rw [foundO_has hc h1 h2, hasR_app, h]
  show (hasR S n && !(n == q)) = if (decide (q ≤ n) && decide (n ≤ q)) = true then false else hasR S n
  by_cases hn : n = q
  · subst hn
    simp
  · rw [show (n == q) = false by simpa using hn, if_neg (by simp; omega)]
    simp
end Go.Proofs.Ytfdabccdgcohjaa
