/-
  ORDER, PLAIN: keys compared byte by byte; rows that rise; where a key stands; the row with it, and without. Conditions: none.
-/
import Derived.RowKit
import Derived.Lib.Bytealg
namespace Go.Proofs.Yteiamfekdibkmaa
open Go.Lib

abbrev Key := List UInt8
abbrev cmpK (a b : Key) : Int := compareBytes a b
def ltK (a b : Key) : Prop := cmpK a b < 0
instance (a b : Key) : Decidable (ltK a b) := by unfold ltK; infer_instance
theorem cmp_three : ∀ a b : Key, cmpK a b = -1 ∨ cmpK a b = 0 ∨ cmpK a b = 1
  | [], [] => .inr (.inl rfl)
  | [], _ :: _ => .inl rfl
  | _ :: _, [] => .inr (.inr rfl)
  | a :: as, b :: bs => by
    have ih := cmp_three as bs
    unfold cmpK at ih ⊢
    rw [compareBytes]
    split
    · exact .inl rfl
    · split
      · exact .inr (.inr rfl)
      · exact ih
theorem cmp_zero : ∀ {a b : Key}, cmpK a b = 0 ↔ a = b
  | [], [] => by simp [cmpK, compareBytes]
  | [], _ :: _ => by simp [cmpK, compareBytes]
  | _ :: _, [] => by simp [cmpK, compareBytes]
  | a :: as, b :: bs => by
    have ih := cmp_zero (a := as) (b := bs)
    unfold cmpK at ih ⊢
    rw [compareBytes]
    by_cases h1 : a < b
    · rw [if_pos h1]
      constructor
      · intro h; cases h
      · rintro h; cases h; exact absurd h1 (UInt8.lt_irrefl _)
    · rw [if_neg h1]
      by_cases h2 : b < a
      · rw [if_pos h2]
        constructor
        · intro h; cases h
        · rintro h; cases h; exact absurd h2 (UInt8.lt_irrefl _)
      · rw [if_neg h2, ih]
        have : a = b := UInt8.le_antisymm (UInt8.not_lt.1 h2) (UInt8.not_lt.1 h1)
        subst this
        simp
theorem cmp_anti : ∀ a b : Key, cmpK b a = - cmpK a b
  | [], [] => rfl
  | [], _ :: _ => rfl
  | _ :: _, [] => rfl
  | a :: as, b :: bs => by
    have ih := cmp_anti as bs
    unfold cmpK at ih ⊢
    rw [compareBytes, compareBytes]
    by_cases h1 : a < b
    · have h2 : ¬ b < a := UInt8.not_lt.2 (UInt8.le_of_lt h1)
      rw [if_pos h1, if_neg h2, if_pos h1]
      rfl
    · rw [if_neg h1]
      by_cases h2 : b < a
      · simp [h1, h2]
      · simp [h1, h2, ih]
theorem ltK_trans : ∀ {a b c : Key}, ltK a b → ltK b c → ltK a c
  | _, [], [], _, h => by cases (show (0 : Int) < 0 from h)
  | [], _, _ :: _, _, _ => by show (-1 : Int) < 0; omega
  | [], _ :: _, [], _, h => by cases (show (1 : Int) < 0 from h)
  | _ :: _, [], _ :: _, h, _ => by cases (show (1 : Int) < 0 from h)
  | _ :: _, _ :: _, [], _, h => by cases (show (1 : Int) < 0 from h)
  | a :: as, b :: bs, c :: cs, h1, h2 => by
    have ih := ltK_trans (a := as) (b := bs) (c := cs)
    unfold ltK cmpK at *
    rw [compareBytes] at h1 h2 ⊢
    by_cases x1 : a < b
    · by_cases y1 : b < c
      · rw [if_pos (UInt8.lt_trans x1 y1)]
        omega
      · rw [if_neg y1] at h2
        by_cases y2 : c < b
        · rw [if_pos y2] at h2
          omega
        · have : b = c := UInt8.le_antisymm (UInt8.not_lt.1 y2) (UInt8.not_lt.1 y1)
          subst this
          rw [if_pos x1]
          omega
    · rw [if_neg x1] at h1
      by_cases x2 : b < a
      · rw [if_pos x2] at h1
        omega
      · have : a = b := UInt8.le_antisymm (UInt8.not_lt.1 x2) (UInt8.not_lt.1 x1)
        subst this
        rw [if_neg x1] at h1
        by_cases y1 : a < c
        · rw [if_pos y1]
          omega
        · rw [if_neg y1] at h2 ⊢
          by_cases y2 : c < a
          · rw [if_pos y2] at h2
            omega
          · rw [if_neg y2] at h2 ⊢
            exact ih h1 h2
theorem ltK_irrefl (a : Key) : ¬ ltK a a := by
  unfold ltK
  rw [cmp_zero.2 rfl]
  omega
theorem ltK_or (a b : Key) : ltK a b ∨ a = b ∨ ltK b a := by
  have h1 := cmp_three a b
  have h2 := cmp_anti a b
  unfold ltK
  rcases h1 with h | h | h
  · exact .inl (by omega)
  · exact .inr (.inl (cmp_zero.1 h))
  · exact .inr (.inr (by omega))
theorem ltK_asymm {a b : Key} (h : ltK a b) : ¬ ltK b a := fun h2 => ltK_irrefl a (ltK_trans h h2)
/-- a key, as the document says -/
def mayK (k : Key) : Bool := decide (1 ≤ k.length) && decide (k.length ≤ 64)
theorem mayK_iff {k : Key} : mayK k = true ↔ 1 ≤ k.length ∧ k.length ≤ 64 := by simp [mayK]
/-- a row -/
def RowOk (l : List Key) : Prop := (∀ k ∈ l, mayK k = true) ∧ l.Pairwise ltK
def mayR : List Key → Bool
  | [] => true
  | [k] => mayK k
  | k :: x :: r => mayK k && decide (ltK k x) && mayR (x :: r)
theorem mayR_iff : ∀ {l : List Key}, mayR l = true ↔ RowOk l
  | [] => by simp [mayR, RowOk]
  | [k] => by simp [mayR, RowOk]
  | k :: x :: r => by
    rw [mayR, Bool.and_eq_true, Bool.and_eq_true, decide_eq_true_iff, mayR_iff]
    constructor
    · rintro ⟨⟨h1, h2⟩, h3, h4⟩
      refine ⟨fun y hy => ?_, List.pairwise_cons.2 ⟨fun y hy => ?_, h4⟩⟩
      · rcases List.mem_cons.1 hy with rfl | hy
        · exact h1
        · exact h3 y hy
      · rcases List.mem_cons.1 hy with rfl | hy
        · exact h2
        · exact ltK_trans h2 ((List.pairwise_cons.1 h4).1 y hy)
    · rintro ⟨h1, h2⟩
      have h3 := List.pairwise_cons.1 h2
      exact ⟨⟨h1 k (List.mem_cons_self ..), h3.1 x (List.mem_cons_self ..)⟩, fun y hy => h1 y (List.mem_cons_of_mem _ hy), h3.2⟩
theorem pair_lt {l : List Key} (h : l.Pairwise ltK) {i j : Nat} {a b : Key} (hij : i < j) (ha : l[i]? = some a) (hb : l[j]? = some b) : ltK a b := by
  obtain ⟨h1, e1⟩ := List.getElem?_eq_some_iff.1 ha
  obtain ⟨h2, e2⟩ := List.getElem?_eq_some_iff.1 hb
  have := List.pairwise_iff_getElem.1 h i j h1 h2 hij
  rw [e1, e2] at this
  exact this
/-- how many stand ahead of a key -/
def posL (k : Key) : List Key → Nat
  | [] => 0
  | x :: r => if ltK x k then posL k r + 1 else 0
theorem posL_le (k : Key) : ∀ l : List Key, posL k l ≤ l.length
  | [] => Nat.le_refl _
  | x :: r => by
    rw [posL]
    split
    · have := posL_le k r
      simp
      omega
    · exact Nat.zero_le _
theorem posL_eq {k : Key} : ∀ {l : List Key} {i : Nat}, i ≤ l.length → (∀ j x, j < i → l[j]? = some x → ltK x k) → (∀ x, l[i]? = some x → ¬ ltK x k) → posL k l = i
  | [], i, hi, _, _ => by
    have : i = 0 := by simpa using hi
    subst this
    rfl
  | x :: r, 0, _, _, h2 => by rw [posL, if_neg (h2 x rfl)]
  | x :: r, i + 1, hi, h1, h2 => by
    rw [posL, if_pos (h1 0 x (by omega) rfl), posL_eq (l := r) (i := i) (by simpa using hi) (fun j y hj hy => h1 (j + 1) y (by omega) (by simpa using hy)) (fun y hy => h2 y (by simpa using hy))]
theorem posL_lt {k : Key} : ∀ {l : List Key} {j : Nat} {x : Key}, j < posL k l → l[j]? = some x → ltK x k
  | [], j, x, h, _ => by simp [posL] at h
  | y :: r, j, x, h, hx => by
    rw [posL] at h
    split at h
    · rename_i hy
      cases j with
      | zero => simp at hx; subst hx; exact hy
      | succ j => exact posL_lt (l := r) (j := j) (by omega) (by simpa using hx)
    · omega
theorem posL_not {k : Key} : ∀ {l : List Key} {x : Key}, l[posL k l]? = some x → ¬ ltK x k
  | [], x, h => by simp at h
  | y :: r, x, h => by
    rw [posL] at h
    split at h
    · exact posL_not (l := r) (by simpa using h)
    · rename_i hy
      simp at h
      subst h
      exact hy
/-- is a key at its place? -/
def isL (k : Key) (l : List Key) : Bool := decide (l[posL k l]? = some k)
theorem isL_iff {k : Key} {l : List Key} : isL k l = true ↔ l[posL k l]? = some k := by simp [isL]
theorem isL_mem {k : Key} {l : List Key} (h : l.Pairwise ltK) : isL k l = true ↔ k ∈ l := by
  rw [isL_iff]
  constructor
  · exact fun h => List.mem_of_getElem? h
  · intro hm
    obtain ⟨j, hj⟩ := List.mem_iff_getElem?.1 hm
    rw [posL_eq (i := j) (Nat.le_of_lt (List.getElem?_eq_some_iff.1 hj).1) (fun i x hi hx => pair_lt h hi hx hj) (fun x hx => by rw [hj] at hx; cases hx; exact ltK_irrefl k)]
    exact hj
/-- the row with a key, and without -/
def withL (k : Key) (l : List Key) : List Key := l.take (posL k l) ++ k :: l.drop (posL k l)
def lessL (k : Key) (l : List Key) : List Key := l.take (posL k l) ++ l.drop (posL k l + 1)
/-- rows of the same keys are the same -/
theorem row_ext : ∀ {l m : List Key}, l.Pairwise ltK → m.Pairwise ltK → (∀ k, k ∈ l ↔ k ∈ m) → l = m
  | [], [], _, _, _ => rfl
  | [], y :: m, _, _, h => by have := (h y).2 (List.mem_cons_self ..); cases this
  | x :: l, [], _, _, h => by have := (h x).1 (List.mem_cons_self ..); cases this
  | x :: l, y :: m, hl, hm, h => by
    have hl2 := List.pairwise_cons.1 hl
    have hm2 := List.pairwise_cons.1 hm
    have e : x = y := by
      rcases List.mem_cons.1 ((h x).1 (List.mem_cons_self ..)) with h1 | h1
      · exact h1
      · rcases List.mem_cons.1 ((h y).2 (List.mem_cons_self ..)) with h2 | h2
        · exact h2.symm
        · exact absurd (hl2.1 y h2) (ltK_asymm (hm2.1 x h1))
    subst e
    rw [row_ext hl2.2 hm2.2 fun k => ?_]
    constructor
    · intro hk
      rcases List.mem_cons.1 ((h k).1 (List.mem_cons_of_mem _ hk)) with h1 | h1
      · subst h1; exact absurd (hl2.1 k hk) (ltK_irrefl k)
      · exact h1
    · intro hk
      rcases List.mem_cons.1 ((h k).2 (List.mem_cons_of_mem _ hk)) with h1 | h1
      · subst h1; exact absurd (hm2.1 k hk) (ltK_irrefl k)
      · exact h1
theorem with_mem {k x : Key} {l : List Key} : x ∈ withL k l ↔ x = k ∨ x ∈ l := by
  have : x ∈ l ↔ x ∈ l.take (posL k l) ++ l.drop (posL k l) := by rw [List.take_append_drop]
  rw [this, withL]
  simp only [List.mem_append, List.mem_cons]
  constructor
  · rintro (h | h | h)
    · exact .inr (.inl h)
    · exact .inl h
    · exact .inr (.inr h)
  · rintro (h | h | h)
    · exact .inr (.inl h)
    · exact .inl h
    · exact .inr (.inr h)
theorem take_lt {k : Key} {l : List Key} {x : Key} (hx : x ∈ l.take (posL k l)) : ltK x k := by
  obtain ⟨j, hj⟩ := List.mem_iff_getElem?.1 hx
  rw [List.getElem?_take] at hj
  split at hj
  · rename_i hjk
    exact posL_lt hjk hj
  · cases hj
theorem drop_ge {k : Key} {l : List Key} (h : l.Pairwise ltK) {x : Key} (hx : x ∈ l.drop (posL k l)) : ¬ ltK x k := by
  obtain ⟨j, hj⟩ := List.mem_iff_getElem?.1 hx
  rw [List.getElem?_drop] at hj
  obtain ⟨y, hy⟩ : ∃ y, l[posL k l]? = some y := ⟨_, List.getElem?_eq_getElem (by have := (List.getElem?_eq_some_iff.1 hj).1; omega)⟩
  by_cases h0 : j = 0
  · subst h0
    exact posL_not hj
  · intro hlt
    exact posL_not hy (ltK_trans (pair_lt h (by omega) hy hj) hlt)
theorem with_pair {k : Key} {l : List Key} (h : l.Pairwise ltK) (hn : k ∉ l) : (withL k l).Pairwise ltK := by
  have hs : (l.take (posL k l) ++ l.drop (posL k l)).Pairwise ltK := by rw [List.take_append_drop]; exact h
  have hp := List.pairwise_append.1 hs
  refine List.pairwise_append.2 ⟨hp.1, List.pairwise_cons.2 ⟨fun x hx => ?_, hp.2.1⟩, fun x hx y hy => ?_⟩
  · rcases ltK_or k x with h1 | h1 | h1
    · exact h1
    · subst h1; exact absurd (List.mem_of_mem_drop hx) hn
    · exact absurd h1 (drop_ge h hx)
  · rcases List.mem_cons.1 hy with rfl | hy
    · exact take_lt hx
    · exact hp.2.2 x hx y hy
theorem with_ok {k : Key} {l : List Key} (h : RowOk l) (hk : mayK k = true) (hn : k ∉ l) : RowOk (withL k l) :=
  ⟨fun x hx => by
    rcases with_mem.1 hx with rfl | hx
    · exact hk
    · exact h.1 x hx, with_pair h.2 hn⟩
end Go.Proofs.Yteiamfekdibkmaa
