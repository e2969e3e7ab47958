/-
  WITH AND WITHOUT, PLAIN. Conditions: none.
-/
import Derived.Test.YteiamfekdibkmaaOSame
namespace Go.Proofs.Yteiamfekdibkmaa

theorem addK_ok {k : Key} {l : List Key} (h : RowOk l) (hk : mayK k = true) : addK k l = if k ∈ l then (9, []) else (0, withL k l) := by
  unfold addK
  rw [mayR_iff.2 h, hk, if_neg (by simp)]
  by_cases hm : k ∈ l
  · rw [if_pos ((isL_mem h.2).2 hm), if_pos hm]
  · rw [if_neg (fun hi => hm ((isL_mem h.2).1 hi)), if_neg hm]
theorem dropK_ok {k : Key} {l : List Key} (h : RowOk l) (hk : mayK k = true) : dropK k l = if k ∈ l then (0, lessL k l) else (6, []) := by
  unfold dropK
  rw [mayR_iff.2 h, hk, if_neg (by simp)]
  by_cases hm : k ∈ l
  · rw [if_pos ((isL_mem h.2).2 hm), if_pos hm]
  · rw [if_neg (fun hi => hm ((isL_mem h.2).1 hi)), if_neg hm]
theorem layK_ok {row : List Key} {k : Key} (h : RowOk row) : RowOk (layK row k) ∧ ∀ x, x ∈ layK row k ↔ x ∈ row ∨ (mayK (k.take 64) = true ∧ x = k.take 64) := by
  unfold layK
  cases hk : mayK (k.take 64) with
  | false =>
    have e : addK (k.take 64) row = (1, []) := by unfold addK; rw [hk, Bool.and_false, if_pos rfl]
    rw [e, if_neg (by decide)]
    exact ⟨h, fun x => ⟨.inl, fun hx => by rcases hx with hx | ⟨h1, _⟩; exact hx; cases h1⟩⟩
  | true =>
    rw [addK_ok h hk]
    by_cases hm : k.take 64 ∈ row
    · rw [if_pos hm, if_neg (by decide)]
      exact ⟨h, fun x => ⟨.inl, fun hx => by rcases hx with hx | ⟨_, rfl⟩; exact hx; exact hm⟩⟩
    · rw [if_neg hm, if_pos rfl]
      refine ⟨with_ok h hk hm, fun x => ?_⟩
      show x ∈ withL _ _ ↔ _
      rw [with_mem]
      constructor
      · rintro (h1 | h1)
        · exact .inr ⟨rfl, h1⟩
        · exact .inl h1
      · rintro (h1 | ⟨_, h1⟩)
        · exact .inr h1
        · exact .inl h1
theorem lay_all : ∀ {l : List Key} {row : List Key}, RowOk row → RowOk (l.foldl layK row) ∧ ∀ x, x ∈ l.foldl layK row ↔ x ∈ row ∨ ∃ k ∈ l, mayK (k.take 64) = true ∧ x = k.take 64
  | [], row, h => ⟨h, fun x => by simp⟩
  | k :: l, row, h => by
    obtain ⟨h1, h2⟩ := layK_ok (k := k) h
    obtain ⟨h3, h4⟩ := lay_all (l := l) h1
    refine ⟨h3, fun x => ?_⟩
    rw [List.foldl_cons, h4, h2]
    constructor
    · rintro ((hx | hx) | ⟨y, hy, hx⟩)
      · exact .inl hx
      · exact .inr ⟨k, List.mem_cons_self .., hx⟩
      · exact .inr ⟨y, List.mem_cons_of_mem _ hy, hx⟩
    · rintro (hx | ⟨y, hy, hx⟩)
      · exact .inl (.inl hx)
      · rcases List.mem_cons.1 hy with rfl | hy
        · exact .inl (.inr hx)
        · exact .inr ⟨y, hy, hx⟩
theorem nil_ok : RowOk [] := ⟨fun k hk => (by cases hk), List.Pairwise.nil⟩
theorem laid_ok (l : List Key) : RowOk (laidL l) := (lay_all nil_ok).1
theorem laid_back (l : List Key) : laidL (l.take 30).reverse = laidL l := by
  refine row_ext (laid_ok _).2 (laid_ok _).2 fun x => ?_
  unfold laidL
  rw [(lay_all nil_ok).2, (lay_all nil_ok).2, List.take_of_length_le (by rw [List.length_reverse, List.length_take]; omega)]
  simp only [List.mem_reverse]
theorem laid_len (l : List Key) : (laidL l).length ≤ 30 := by
  have h : ∀ (l : List Key) (row : List Key), (l.foldl layK row).length ≤ row.length + l.length := by
    intro l
    induction l with
    | nil => intro row; simp
    | cons k l ih =>
      intro row
      have h1 := ih (layK row k)
      have h2 := layK_len row k
      rw [List.foldl_cons, List.length_cons]
      omega
  have := h (l.take 30) []
  unfold laidL
  rw [List.length_take] at this
  simp at this
  omega
/-- a key of the row, sought -/
theorem sought {l : List Key} (h : RowOk l) {i : Nat} {k : Key} (hk : l[i]? = some k) : searchO k l = (i, true) ∧ nextK k l = l[i + 1]? := by
  have hp : posL k l = i := posL_eq (Nat.le_of_lt (List.getElem?_eq_some_iff.1 hk).1) (fun j x hj hx => pair_lt h.2 hj hx hk) (fun x hx => by rw [hk] at hx; cases hx; exact ltK_irrefl k)
  have hi : isL k l = true := isL_iff.2 (by rw [hp]; exact hk)
  refine ⟨?_, ?_⟩
  · unfold searchO
    rw [mayR_iff.2 h, if_pos rfl, hp, hi]
  · unfold nextK
    rw [mayR_iff.2 h, if_pos rfl, hp, hi, if_pos rfl]
theorem less_with {l : List Key} {k : Key} : lessL k (withL k l) = l := by
  have hle := posL_le k l
  have hp : posL k (withL k l) = posL k l := by
    refine posL_eq (by rw [withL_len]; omega) (fun j x hj hx => ?_) (fun x hx => ?_)
    · unfold withL at hx
      rw [List.getElem?_append_left (by rw [List.length_take]; omega), List.getElem?_take, if_pos hj] at hx
      exact posL_lt hj hx
    · unfold withL at hx
      rw [List.getElem?_append_right (by rw [List.length_take]; omega), List.length_take, Nat.min_eq_left hle, Nat.sub_self] at hx
      simp at hx
      subst hx
      exact ltK_irrefl _
  unfold lessL
  rw [hp]
  unfold withL
  rw [List.take_left' (by rw [List.length_take]; omega), List.drop_append, List.drop_of_length_le (by rw [List.length_take]; omega), List.length_take, Nat.min_eq_left hle, show posL k l + 1 - posL k l = 1 by omega]
  simp
theorem with_less {l : List Key} {k : Key} (h : RowOk l) (hk : k ∈ l) : RowOk (lessL k l) ∧ k ∉ lessL k l ∧ withL k (lessL k l) = l ∧ (lessL k l).length + 1 = l.length := by
  have hat := isL_iff.1 ((isL_mem h.2).2 hk)
  have hlt := (List.getElem?_eq_some_iff.1 hat).1
  have hspl : l = l.take (posL k l) ++ k :: l.drop (posL k l + 1) := by
    have e := List.getElem?_eq_some_iff.1 hat
    conv => lhs; rw [← List.take_append_drop (posL k l) l, List.drop_eq_getElem_cons hlt, e.2]
  have hpw := h.2
  rw [hspl] at hpw
  have hp := List.pairwise_append.1 hpw
  have hp2 := List.pairwise_cons.1 hp.2.1
  have hok : RowOk (lessL k l) := by
    refine ⟨fun x hx => h.1 x ?_, List.pairwise_append.2 ⟨hp.1, hp2.2, fun x hx y hy => hp.2.2 x hx y (List.mem_cons_of_mem _ hy)⟩⟩
    unfold lessL at hx
    rcases List.mem_append.1 hx with hx | hx
    · exact List.mem_of_mem_take hx
    · exact List.mem_of_mem_drop hx
  have hnot : k ∉ lessL k l := by
    intro hx
    unfold lessL at hx
    rcases List.mem_append.1 hx with hx | hx
    · exact ltK_irrefl k (take_lt hx)
    · exact ltK_irrefl k (hp2.1 k hx)
  have hpos : posL k (lessL k l) = posL k l := by
    refine posL_eq (by unfold lessL; rw [List.length_append, List.length_take]; omega) (fun j x hj hx => ?_) (fun x hx => ?_)
    · unfold lessL at hx
      rw [List.getElem?_append_left (by rw [List.length_take]; omega), List.getElem?_take, if_pos hj] at hx
      exact posL_lt hj hx
    · unfold lessL at hx
      rw [List.getElem?_append_right (by rw [List.length_take]; omega)] at hx
      exact fun hxk => ltK_asymm hxk (hp2.1 x (List.mem_of_getElem? hx))
  refine ⟨hok, hnot, ?_, ?_⟩
  · unfold withL
    rw [hpos]
    unfold lessL
    rw [List.take_left' (by rw [List.length_take]; omega), List.drop_left' (by rw [List.length_take]; omega)]
    exact hspl.symm
  · unfold lessL
    rw [List.length_append, List.length_take, List.length_drop]
    omega
end Go.Proofs.Yteiamfekdibkmaa
