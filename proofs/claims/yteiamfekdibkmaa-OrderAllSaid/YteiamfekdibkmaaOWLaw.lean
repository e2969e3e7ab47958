/-
  ROWS GONE THROUGH TOGETHER, the plain law: all their keys, rising; where each row stands when so many were told. Conditions: none.
-/
import Derived.Test.YteiamfekdibkmaaOWalkD
namespace Go.Proofs.Yteiamfekdibkmaa

/-- K is all keys of the rows R -/
structure Un (R : List (List Key)) (K : List Key) : Prop where
  rows : ∀ r ∈ R, RowOk r
  ok : RowOk K
  mem : ∀ x, x ∈ K ↔ ∃ r ∈ R, x ∈ r
/-- where each row stands when c keys were told -/
structure Pos (R : List (List Key)) (K : List Key) (t : List Nat) (c : Nat) : Prop where
  len : t.length = R.length
  le : c ≤ K.length
  ok : ∀ (i : Nat) r a, R[i]? = some r → t[i]? = some a → a ≤ r.length ∧ (∀ x ∈ r.take a, x ∈ K.take c) ∧ (∀ x ∈ r.drop a, x ∈ K.drop c)
theorem leastU_none {R : List (List Key)} {t : List Nat} : ∀ {n : Nat}, (∀ i, i < n → (R.getD i [])[t.getD i 0]? = none) → leastU R t n = none
  | 0, _ => rfl
  | n + 1, h => by rw [leastU_no (h n (by omega)), leastU_none (fun i hi => h i (by omega))]
theorem leastU_some {R : List (List Key)} {t : List Nat} {k : Key} : ∀ {n : Nat}, (∃ i, i < n ∧ (R.getD i [])[t.getD i 0]? = some k) → (∀ i x, i < n → (R.getD i [])[t.getD i 0]? = some x → ¬ ltK x k) → leastU R t n = some k
  | 0, h, _ => by obtain ⟨i, hi, _⟩ := h; omega
  | n + 1, h, hm => by
    have hm' : ∀ i x, i < n → (R.getD i [])[t.getD i 0]? = some x → ¬ ltK x k := fun i x hi => hm i x (by omega)
    by_cases hex : ∃ i, i < n ∧ (R.getD i [])[t.getD i 0]? = some k
    · have ih := leastU_some hex hm'
      cases hx : (R.getD n [])[t.getD n 0]? with
      | none => rw [leastU_no hx, ih]
      | some x =>
        rw [leastU_yes hx, ih]
        have h1 : better (some k) x = false := by
          show decide (ltK x k) = false
          exact decide_eq_false (hm n x (by omega) hx)
        rw [h1]
        rfl
    · obtain ⟨i, hi, he⟩ := h
      have hin : i = n := by
        rcases Nat.lt_or_ge i n with h1 | h1
        · exact absurd ⟨i, h1, he⟩ hex
        · omega
      subst hin
      rw [leastU_yes he]
      cases hl : leastU R t i with
      | none => rfl
      | some y =>
        have key : ∀ m, leastU R t m = some y → ∃ j, j < m ∧ (R.getD j [])[t.getD j 0]? = some y := by
          intro m
          induction m with
          | zero => intro h; cases h
          | succ m ih =>
            intro h
            cases hx : (R.getD m [])[t.getD m 0]? with
            | none =>
              rw [leastU_no hx] at h
              obtain ⟨j, hj, e⟩ := ih h
              exact ⟨j, by omega, e⟩
            | some x =>
              rw [leastU_yes hx] at h
              split at h
              · cases h
                exact ⟨m, by omega, hx⟩
              · obtain ⟨j, hj, e⟩ := ih h
                exact ⟨j, by omega, e⟩
        obtain ⟨j, hj, e⟩ := key i hl
        have h1 : better (some y) k = true := by
          show decide (ltK k y) = true
          rw [decide_eq_true_iff]
          rcases ltK_or k y with h2 | h2 | h2
          · exact h2
          · subst h2
            exact absurd ⟨j, hj, e⟩ hex
          · exact absurd h2 (hm' j y hj e)
        rw [h1]
        rfl
theorem getD_some {α : Type} {l : List α} {i : Nat} {a d : α} (h : l[i]? = some a) : l.getD i d = a := by rw [List.getD_eq_getElem?_getD, h]; rfl
theorem Pos.at_ {R : List (List Key)} {K : List Key} {t : List Nat} {c i : Nat} (h : Pos R K t c) (hi : i < R.length) : ∃ r a, R[i]? = some r ∧ t[i]? = some a ∧ R.getD i [] = r ∧ t.getD i 0 = a := by
  have h1 : R[i]? = some R[i] := List.getElem?_eq_getElem hi
  have h2 : t[i]? = some (t[i]'(by rw [h.len]; exact hi)) := List.getElem?_eq_getElem _
  exact ⟨_, _, h1, h2, getD_some h1, getD_some h2⟩
theorem drop_le {K : List Key} (hK : K.Pairwise ltK) {c : Nat} {k x : Key} (hk : K[c]? = some k) (hx : x ∈ K.drop c) : ¬ ltK x k := by
  obtain ⟨j, hj⟩ := List.mem_iff_getElem?.1 hx
  rw [List.getElem?_drop] at hj
  rcases Nat.eq_zero_or_pos j with rfl | h0
  · rw [Nat.add_zero, hk] at hj
    cases hj
    exact ltK_irrefl k
  · exact ltK_asymm (pair_lt hK (by omega) hk hj)
theorem not_take {K : List Key} (hK : K.Pairwise ltK) {c : Nat} {k : Key} (hk : K[c]? = some k) : k ∉ K.take c := by
  intro h
  obtain ⟨j, hj⟩ := List.mem_iff_getElem?.1 h
  rw [List.getElem?_take] at hj
  split at hj
  · rename_i hjc
    exact ltK_irrefl k (pair_lt hK hjc hj hk)
  · cases hj
theorem drop_next {K : List Key} (_ : K.Pairwise ltK) {c : Nat} {k x : Key} (hk : K[c]? = some k) (hx : x ∈ K.drop c) (hne : x ≠ k) : x ∈ K.drop (c + 1) := by
  obtain ⟨j, hj⟩ := List.mem_iff_getElem?.1 hx
  rw [List.getElem?_drop] at hj
  rcases Nat.eq_zero_or_pos j with rfl | h0
  · rw [Nat.add_zero, hk] at hj
    cases hj
    exact absurd rfl hne
  · refine List.mem_iff_getElem?.2 ⟨j - 1, ?_⟩
    rw [List.getElem?_drop, show c + 1 + (j - 1) = c + j by omega]
    exact hj
/-- a key that is next to be told stands at the place of each row that has it -/
theorem Pos.stands {R : List (List Key)} {K : List Key} {t : List Nat} {c : Nat} {k : Key} (hU : Un R K) (h : Pos R K t c) (hk : K[c]? = some k) {i a : Nat} {r : List Key} (hr : R[i]? = some r) (ha : t[i]? = some a) : r[a]? = some k ↔ k ∈ r := by
  constructor
  · exact List.mem_of_getElem?
  · intro hm
    obtain ⟨h1, h2, h3⟩ := h.ok i r a hr ha
    have hrp := (hU.rows r (List.mem_of_getElem? hr)).2
    rw [← List.take_append_drop a r] at hm
    rcases List.mem_append.1 hm with hm | hm
    · exact absurd (h2 k hm) (not_take hU.ok.2 hk)
    · obtain ⟨j, hj⟩ := List.mem_iff_getElem?.1 hm
      rw [List.getElem?_drop] at hj
      rcases Nat.eq_zero_or_pos j with rfl | h0
      · exact hj
      · obtain ⟨y, hy⟩ : ∃ y, r[a]? = some y := ⟨_, List.getElem?_eq_getElem (by have := (List.getElem?_eq_some_iff.1 hj).1; omega)⟩
        have hyd : y ∈ r.drop a := List.mem_iff_getElem?.2 ⟨0, by rw [List.getElem?_drop]; exact hy⟩
        exact absurd (pair_lt hrp (by omega) hy hj) (drop_le hU.ok.2 hk (h3 y hyd))
theorem Pos.none_ {R : List (List Key)} {K : List Key} {t : List Nat} {c : Nat} (h : Pos R K t c) (hc : K.length ≤ c) : leastL R t = none := by
  refine leastU_none fun i hi => ?_
  obtain ⟨r, a, hr, ha, e1, e2⟩ := h.at_ hi
  rw [e1, e2]
  cases hx : r[a]? with
  | none => rfl
  | some x =>
    have h3 := (h.ok i r a hr ha).2.2 x (List.mem_iff_getElem?.2 ⟨0, by rw [List.getElem?_drop]; exact hx⟩)
    rw [List.drop_of_length_le hc] at h3
    cases h3
theorem Pos.least {R : List (List Key)} {K : List Key} {t : List Nat} {c : Nat} {k : Key} (hU : Un R K) (h : Pos R K t c) (hk : K[c]? = some k) : leastL R t = some k := by
  refine leastU_some ?_ fun i x hi hx => ?_
  · obtain ⟨r, hr, hkr⟩ := (hU.mem k).1 (List.mem_of_getElem? hk)
    obtain ⟨i, hi⟩ := List.mem_iff_getElem?.1 hr
    have hil := (List.getElem?_eq_some_iff.1 hi).1
    obtain ⟨r', a, hr', ha, e1, e2⟩ := h.at_ hil
    rw [hi] at hr'
    cases hr'
    refine ⟨i, hil, ?_⟩
    rw [e1, e2]
    exact (h.stands hU hk hi ha).2 hkr
  · obtain ⟨r, a, hr, ha, e1, e2⟩ := h.at_ hi
    rw [e1, e2] at hx
    exact drop_le hU.ok.2 hk ((h.ok i r a hr ha).2.2 x (List.mem_iff_getElem?.2 ⟨0, by rw [List.getElem?_drop]; exact hx⟩))
/-- in which rows a key is -/
def inAll (R : List (List Key)) (k : Key) (m : Nat) : List Nat := (List.range m).filter (fun i => isL k (R.getD i []))
theorem Pos.stands_ {R : List (List Key)} {K : List Key} {t : List Nat} {c : Nat} {k : Key} (hU : Un R K) (h : Pos R K t c) (hk : K[c]? = some k) {i : Nat} (hi : i < R.length) : standsB R t k i = isL k (R.getD i []) := by
  obtain ⟨r, a, hr, ha, e1, e2⟩ := h.at_ hi
  unfold standsB
  rw [e1, e2]
  have h1 := h.stands hU hk hr ha
  have h2 := isL_mem (k := k) (hU.rows r (List.mem_of_getElem? hr)).2
  cases hl : isL k r with
  | true => exact decide_eq_true (h1.2 (h2.1 hl))
  | false =>
    refine decide_eq_false fun e => ?_
    rw [h2.2 (h1.1 e)] at hl
    cases hl
theorem Pos.in_ {R : List (List Key)} {K : List Key} {t : List Nat} {c : Nat} {k : Key} (hU : Un R K) (h : Pos R K t c) (hk : K[c]? = some k) : inL R t k R.length = inAll R k R.length := by
  unfold inL inAll
  exact List.filter_congr fun i hi => h.stands_ hU hk (List.mem_range.1 hi)
theorem Pos.step {R : List (List Key)} {K : List Key} {t : List Nat} {c : Nat} {k : Key} (hU : Un R K) (h : Pos R K t c) (hk : K[c]? = some k) : Pos R K (stepT R t k R.length) (c + 1) := by
  have hcl := (List.getElem?_eq_some_iff.1 hk).1
  refine ⟨by rw [stepT_len, h.len], by omega, fun i r a hr ha => ?_⟩
  have hi := (List.getElem?_eq_some_iff.1 hr).1
  obtain ⟨r', a0, hr', ha0, e1, e2⟩ := h.at_ hi
  rw [hr] at hr'
  cases hr'
  have e3 := stepT_at (R := R) (t := t) (k := k) (m := R.length) (i := i) (by rw [h.len]; exact hi)
  rw [getD_some ha, e2] at e3
  obtain ⟨h1, h2, h3⟩ := h.ok i r a0 hr ha0
  have hst := h.stands hU hk hr ha0
  have hsb : standsB R t k i = decide (r[a0]? = some k) := by unfold standsB; rw [e1, e2]
  have ht1 : ∀ x, x ∈ K.take c → x ∈ K.take (c + 1) := fun x hx => by rw [List.take_add_one]; exact List.mem_append_left _ hx
  have hrp := (hU.rows r (List.mem_of_getElem? hr)).2
  by_cases hs : r[a0]? = some k
  · rw [hsb, decide_eq_true hs, if_pos ⟨hi, rfl⟩] at e3
    subst e3
    have hal := (List.getElem?_eq_some_iff.1 hs).1
    refine ⟨by omega, fun x hx => ?_, fun x hx => ?_⟩
    · rw [List.take_add_one, hs] at hx
      rcases List.mem_append.1 hx with hx | hx
      · exact ht1 x (h2 x hx)
      · have : x = k := by simpa using hx
        rw [this, List.take_add_one, hk]
        exact List.mem_append_right _ (by simp)
    · obtain ⟨j, hj⟩ := List.mem_iff_getElem?.1 hx
      rw [List.getElem?_drop] at hj
      refine drop_next hU.ok.2 hk (h3 x (List.mem_iff_getElem?.2 ⟨j + 1, by rw [List.getElem?_drop, show a0 + (j + 1) = a0 + 1 + j by omega]; exact hj⟩)) (fun e => ?_)
      subst e
      exact ltK_irrefl x (pair_lt hrp (by omega) hs hj)
  · rw [hsb, decide_eq_false hs, if_neg (by simp)] at e3
    subst e3
    have hkn : k ∉ r := fun hm => hs (hst.2 hm)
    refine ⟨h1, fun x hx => ht1 x (h2 x hx), fun x hx => drop_next hU.ok.2 hk (h3 x hx) (fun e => ?_)⟩
    subst e
    exact hkn (List.mem_of_mem_drop hx)
theorem Pos.start {R : List (List Key)} {K : List Key} (hU : Un R K) : Pos R K (List.replicate R.length 0) 0 := by
  refine ⟨List.length_replicate, Nat.zero_le _, fun i r a hr ha => ?_⟩
  have : a = 0 := by
    rw [List.getElem?_replicate] at ha
    split at ha
    · cases ha; rfl
    · cases ha
  subst this
  exact ⟨Nat.zero_le _, fun x hx => by simp at hx, fun x hx => (hU.mem x).2 ⟨r, List.mem_of_getElem? hr, hx⟩⟩
theorem drop_posL {K : List Key} (_ : K.Pairwise ltK) {k x : Key} (hx : x ∈ K) (h : ¬ ltK x k) : x ∈ K.drop (posL k K) := by
  rw [← List.take_append_drop (posL k K) K] at hx
  rcases List.mem_append.1 hx with hx | hx
  · exact absurd (take_lt hx) h
  · exact hx
theorem take_posL {K : List Key} (hK : K.Pairwise ltK) {k x : Key} (hx : x ∈ K) (h : ltK x k) : x ∈ K.take (posL k K) := by
  rw [← List.take_append_drop (posL k K) K] at hx
  rcases List.mem_append.1 hx with hx | hx
  · exact hx
  · exact absurd h (drop_ge hK hx)
theorem Pos.sought {R : List (List Key)} {K : List Key} (hU : Un R K) (k : Key) : Pos R K (R.map (posL k)) (posL k K) := by
  refine ⟨List.length_map _, posL_le _ _, fun i r a hr ha => ?_⟩
  rw [List.getElem?_map, hr] at ha
  cases ha
  have hrm := List.mem_of_getElem? hr
  exact ⟨posL_le _ _, fun x hx => take_posL hU.ok.2 ((hU.mem x).2 ⟨r, hrm, List.mem_of_mem_take hx⟩) (take_lt hx),
    fun x hx => drop_posL hU.ok.2 ((hU.mem x).2 ⟨r, hrm, List.mem_of_mem_drop hx⟩) (drop_ge (hU.rows r hrm).2 hx)⟩
/-- all keys, one after the other -/
def putK (acc : List Key) (k : Key) : List Key := if (addK k acc).1 = 0 then (addK k acc).2 else acc
def allK (l : List Key) : List Key := l.foldl putK []
theorem addK_is {k : Key} {l : List Key} (h : RowOk l) (hk : mayK k = true) : addK k l = if isL k l then (9, []) else (0, withL k l) := by
  unfold addK
  rw [mayR_iff.2 h, hk]
  rfl
theorem putK_is {acc : List Key} {k : Key} (h : RowOk acc) (hk : mayK k = true) : RowOk (putK acc k) ∧ ∀ x, x ∈ putK acc k ↔ x = k ∨ x ∈ acc := by
  unfold putK
  rw [addK_is h hk]
  cases hi : isL k acc with
  | true =>
    have hm := (isL_mem h.2).1 hi
    refine ⟨h, fun x => ⟨fun hx => .inr hx, fun hx => ?_⟩⟩
    rcases hx with rfl | hx
    · exact hm
    · exact hx
  | false =>
    have hn : k ∉ acc := fun hm => by rw [(isL_mem h.2).2 hm] at hi; cases hi
    exact ⟨with_ok h hk hn, fun x => with_mem⟩
theorem allK_go : ∀ (l acc : List Key), RowOk acc → (∀ k ∈ l, mayK k = true) → RowOk (l.foldl putK acc) ∧ ∀ x, x ∈ l.foldl putK acc ↔ x ∈ l ∨ x ∈ acc
  | [], acc, h, _ => ⟨h, fun x => by simp⟩
  | k :: l, acc, h, hl => by
    obtain ⟨h1, h2⟩ := putK_is h (hl k (List.mem_cons_self ..))
    obtain ⟨h3, h4⟩ := allK_go l (putK acc k) h1 (fun x hx => hl x (List.mem_cons_of_mem _ hx))
    refine ⟨h3, fun x => ?_⟩
    rw [List.foldl_cons, h4, h2, List.mem_cons]
    constructor
    · rintro (h | h | h)
      · exact .inl (.inr h)
      · exact .inl (.inl h)
      · exact .inr h
    · rintro ((h | h) | h)
      · exact .inr (.inl h)
      · exact .inl h
      · exact .inr (.inr h)
theorem allK_un {R : List (List Key)} (h : ∀ r ∈ R, RowOk r) : Un R (allK R.flatten) := by
  obtain ⟨h1, h2⟩ := allK_go R.flatten [] ⟨fun k hk => (by cases hk), List.Pairwise.nil⟩ (fun k hk => by
    obtain ⟨r, hr, hk⟩ := List.mem_flatten.1 hk
    exact (h r hr).1 k hk)
  refine ⟨h, h1, fun x => ?_⟩
  show x ∈ R.flatten.foldl putK [] ↔ _
  rw [h2, List.mem_flatten]
  simp
theorem putK_len (acc : List Key) (k : Key) : (putK acc k).length ≤ acc.length + 1 := by
  unfold putK
  split
  · rename_i h
    unfold addK at h ⊢
    split
    · simp
    · split
      · simp
      · unfold withL
        have := posL_le k acc
        simp
        omega
  · omega
end Go.Proofs.Yteiamfekdibkmaa
