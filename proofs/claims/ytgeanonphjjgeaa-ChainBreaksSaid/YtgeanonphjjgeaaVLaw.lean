/-
  WHAT THE CHAINS OF built's ROW SAY, PLAIN: each key's links, the newest first. Conditions: none.
-/
import Derived.Test.YtgeanonphjjgeaaBDef
namespace Go.Proofs.Ytgeanonphjjgeaa
open Go.RowKit Go.Shelf

def isK (k : UInt8) (x : Lk) : Bool := x.kb == [k]
/-- a key's links, the newest first -/
def chainOf (xs : List Lk) (k : UInt8) : List Lk := xs.reverse.filter (isK k)
theorem chainOf_nil (k : UInt8) : chainOf [] k = [] := rfl
theorem chainOf_snoc (xs : List Lk) (x : Lk) (k : UInt8) : chainOf (xs ++ [x]) k = if isK k x then x :: chainOf xs k else chainOf xs k := by
  unfold chainOf
  rw [List.reverse_append]
  simp only [List.reverse_cons, List.reverse_nil, List.nil_append, List.singleton_append, List.filter_cons]

theorem BuiltOk.take {xs : List Lk} (h : BuiltOk xs) (m : Nat) : BuiltOk (xs.take m) := by
  intro i x hi
  have him : i < m := by
    have := (List.getElem?_eq_some_iff.1 hi).1
    simp at this
    omega
  rw [List.getElem?_take_of_lt him] at hi
  have hx := h i x hi
  obtain ⟨k, h1, h2, h3, h4⟩ := hx.kb
  refine ⟨hx.seg, hx.off, hx.seq, hx.kind, ⟨k, h1, h2, ?_, ?_⟩, hx.kn, hx.vn⟩
  · rw [List.take_take, Nat.min_eq_left (by omega)]; exact h3
  · rw [List.take_take, Nat.min_eq_left (by omega)]; exact h4
theorem BuiltOk.init {xs : List Lk} {x : Lk} (h : BuiltOk (xs ++ [x])) : BuiltOk xs ∧ LkB xs xs.length x := by
  refine ⟨?_, ?_⟩
  · have := h.take xs.length
    rwa [List.take_append_of_le_length (Nat.le_refl _), List.take_length] at this
  · have := h xs.length x (by simp)
    obtain ⟨k, h1, h2, h3, h4⟩ := this.kb
    rw [List.take_append_of_le_length (Nat.le_refl _)] at h3 h4
    exact ⟨this.seg, this.off, this.seq, this.kind, ⟨k, h1, h2, h3, h4⟩, this.kn, this.vn⟩

/-- the only link at its loc -/
theorem BuiltOk.find {xs : List Lk} (h : BuiltOk xs) {i : Nat} {x : Lk} (hi : xs[i]? = some x) : findAt xs x.seg x.off = some x := by
  have hx := h i x hi
  refine find_hit (k := i) ?_ hi (by simp [atLoc])
  rw [List.find?_eq_none]
  intro y hy
  obtain ⟨j, hj⟩ := List.mem_iff_getElem?.1 hy
  have hji : j < i := by
    have := (List.getElem?_eq_some_iff.1 hj).1
    simp at this
    omega
  rw [List.getElem?_take_of_lt hji] at hj
  have hy' := h j y hj
  simp only [atLoc, Bool.and_eq_true, decide_eq_true_eq]
  intro ⟨e1, e2⟩
  have a1 := hx.seg
  have a2 := hx.off
  have a3 := hy'.seg
  have a4 := hy'.off
  omega

theorem headOf_chain (xs : List Lk) (k : UInt8) : headOf xs k = match chainOf xs k with | [] => (0, 0) | x :: _ => (x.seg, x.off) := by
  unfold headOf chainOf
  have e : xs.reverse.find? (fun x => x.kb == [k]) = (xs.reverse.filter (isK k)).head? := by
    rw [List.head?_filter]
    rfl
  rw [e]
  cases xs.reverse.filter (isK k) <;> rfl

/-- a chain from a prefix's head on, in the whole row -/
theorem chain_take {xs : List Lk} (h : BuiltOk xs) (h60 : xs.length ≤ 60) (k : UInt8) : ∀ (m : Nat), m ≤ xs.length → ∀ below : Int, (m : Int) + 1 ≤ below →
    chainL xs [k] (headOf (xs.take m) k).1 (headOf (xs.take m) k).2 below = (chainOf (xs.take m) k).map (fun x => (x, true)) := by
  intro m
  induction m with
  | zero =>
    intro _ below _
    exact chainL_none rfl
  | succ m ih =>
    intro hm below hb
    have hx : xs[m]? = some (xs[m]'(by omega)) := List.getElem?_eq_getElem _
    generalize xs[m]'(by omega) = x at hx
    have ht : xs.take (m + 1) = xs.take m ++ [x] := by rw [List.take_add_one, hx]; rfl
    rw [ht, headOf_snoc, chainOf_snoc]
    cases hk : x.kb == [k] with
    | false =>
      have hk' : isK k x = false := hk
      rw [if_neg (by simp), if_neg (by simp [hk'])]
      exact ih (by omega) below (by omega)
    | true =>
      have hk' : isK k x = true := hk
      have hkb : x.kb = [k] := by simpa using hk
      have hX := h m x hx
      have a1 := hX.seg
      have a2 := hX.off
      have a3 := hX.seq
      rw [if_pos rfl, if_pos hk']
      have hl : linkRes xs x.seg x.off [k] below = (x, true) := by
        have hm1 : mayB x.seg x.off = true := by
          simp only [mayB, standsB, Bool.or_eq_true, Bool.and_eq_true, decide_eq_true_eq]
          right
          omega
        have hh : holdsB [k] below x = true := by
          simp only [holdsB, Bool.and_eq_true, Bool.or_eq_true, decide_eq_true_eq]
          refine ⟨⟨⟨by simp [hkb], hX.kind⟩, by omega⟩, by omega⟩
        simp [linkRes, hm1, h.find hx, hh]
      have hn : noneB x.seg x.off = false := by
        simp only [noneB, Bool.and_eq_false_iff, decide_eq_false_iff_not]
        left
        omega
      simp only
      rw [chainL_cons hn, hl]
      simp only [if_true, List.map_cons]
      congr 1
      obtain ⟨kk, e1, _, e3, e4⟩ := hX.kb
      have ekk : kk = k := by
        rw [hkb] at e1
        injection e1 with e1
        exact e1.symm
      subst ekk
      rw [e3, e4]
      exact ih (by omega) _ (by omega)
theorem chain_all {xs : List Lk} (h : BuiltOk xs) (h60 : xs.length ≤ 60) (k : UInt8) :
    chainL xs [k] (headOf xs k).1 (headOf xs k).2 1099511627777 = (chainOf xs k).map (fun x => (x, true)) := by
  have := chain_take h h60 k xs.length (Nat.le_refl _) 1099511627777 (by omega)
  rwa [List.take_length] at this

/-- what the law looks for -/
def wanted (k : UInt8) (s : Int) (x : Lk) : Bool := isK k x && decide (x.seq ≤ s)
def lastW (xs : List Lk) (k : UInt8) (s : Int) : Option Lk := xs.reverse.find? (wanted k s)
theorem lastW_snoc (xs : List Lk) (x : Lk) (k : UInt8) (s : Int) : lastW (xs ++ [x]) k s = if wanted k s x then some x else lastW xs k s := by
  unfold lastW
  rw [List.reverse_append]
  simp only [List.reverse_cons, List.reverse_nil, List.nil_append, List.singleton_append, List.find?_cons]
  cases h : wanted k s x <;> simp
theorem findN_chain (sN : Int) (l : List Lk) : findN sN (l.map (fun x => (x, true))) = match l.find? (fun x => decide (x.seq ≤ sN)) with | some x => (x, 0) | none => (Lk.zero, 6) := by
  induction l with
  | nil => rfl
  | cons x l ih =>
    simp only [List.map_cons, findN, if_true, List.find?_cons]
    by_cases h : x.seq ≤ sN
    · simp [h]
    · simp [h, ih]
theorem view_newest {xs : List Lk} (h : BuiltOk xs) (h60 : xs.length ≤ 60) (k : UInt8) (s : Int) :
    newestRes xs (headOf xs k).1 (headOf xs k).2 [k] s = match lastW xs k s with | some x => (x, 0) | none => (Lk.zero, 6) := by
  rw [newestRes, if_pos (show mayKeyB [k].length = true from rfl), chain_all h h60, findN_chain]
  have e : (chainOf xs k).find? (fun x => decide (x.seq ≤ s)) = lastW xs k s := by
    unfold chainOf lastW
    rw [List.find?_filter]
    congr 1
    funext x
    simp [wanted]
  rw [e]
theorem walkN_chain (most : Int) : ∀ (l acc : List Lk), most < 0 → walkN most (l.map (fun x => (x, true))) acc = (acc ++ l, 0) := by
  intro l
  induction l with
  | nil => intro acc _; simp [walkN]
  | cons x l ih =>
    intro acc hm
    simp only [List.map_cons, walkN, if_true]
    rw [if_neg (by omega), ih _ hm]
    simp
theorem walkN_most (most : Nat) : ∀ (l acc : List Lk), acc.length < most → walkN (most : Int) (l.map (fun x => (x, true))) acc = (acc ++ l.take (most - acc.length), 0) := by
  intro l
  induction l with
  | nil => intro acc _; simp [walkN]
  | cons x l ih =>
    intro acc hm
    simp only [List.map_cons, walkN, if_true]
    by_cases he : ((acc ++ [x]).length : Int) = most
    · rw [if_pos he]
      have e1 : most - acc.length = 1 := by simp at he; omega
      rw [e1]
      simp
    · rw [if_neg he, ih _ (by simp at he ⊢; omega)]
      have e1 : most - acc.length = (most - (acc ++ [x]).length) + 1 := by simp at he ⊢; omega
      rw [e1]
      simp
theorem view_walk {xs : List Lk} (h : BuiltOk xs) (h60 : xs.length ≤ 60) (k : UInt8) :
    walkRes xs (headOf xs k).1 (headOf xs k).2 [k] (-1) = (chainOf xs k, 0) := by
  rw [walkRes, if_pos (show mayKeyB [k].length = true from rfl), if_neg (by omega), chain_all h h60, walkN_chain _ _ _ (by omega)]
  rfl
theorem view_walk3 {xs : List Lk} (h : BuiltOk xs) (h60 : xs.length ≤ 60) (k : UInt8) :
    walkRes xs (headOf xs k).1 (headOf xs k).2 [k] 3 = ((chainOf xs k).take 3, 0) := by
  rw [walkRes, if_pos (show mayKeyB [k].length = true from rfl), if_neg (by omega), chain_all h h60]
  exact walkN_most 3 _ [] (by simp)

/-- each link of a chain leads to the next -/
theorem chain_leads {xs : List Lk} (h : BuiltOk xs) (k : UInt8) : ∀ i y, (chainOf xs k)[i]? = some y →
    match (chainOf xs k)[i + 1]? with
    | none => y.ps = 0 ∧ y.po = 0
    | some z => y.ps = z.seg ∧ y.po = z.off ∧ z.seq < y.seq := by
  have main : ∀ m (ys : List Lk), ys.length = m → BuiltOk ys → ∀ i y, (chainOf ys k)[i]? = some y →
    match (chainOf ys k)[i + 1]? with
    | none => y.ps = 0 ∧ y.po = 0
    | some z => y.ps = z.seg ∧ y.po = z.off ∧ z.seq < y.seq := by
    intro m
    induction m with
    | zero =>
      intro ys hy _ i y hi
      rw [List.eq_nil_of_length_eq_zero hy] at hi
      simp [chainOf] at hi
    | succ m ih =>
      intro ys hy hok
      have hne : ys ≠ [] := fun e => by rw [e] at hy; simp at hy
      obtain ⟨zs, x, rfl⟩ : ∃ zs x, ys = zs ++ [x] := ⟨ys.dropLast, ys.getLast hne, (List.dropLast_concat_getLast hne).symm⟩
      have hz : zs.length = m := by simpa using hy
      obtain ⟨hoz, hX⟩ := hok.init
      have hrec := ih zs hz hoz
      rw [chainOf_snoc]
      cases hk : isK k x with
      | false =>
        simp only [Bool.false_eq_true, if_false]
        exact hrec
      | true =>
        simp only [if_true]
        intro i y hi
        cases i with
        | zero =>
          simp at hi
          subst hi
          obtain ⟨kk, e1, _, e3, e4⟩ := hX.kb
          have hkb : x.kb = [k] := by simpa [isK] using hk
          have ekk : kk = k := by
            rw [hkb] at e1
            injection e1 with e1
            exact e1.symm
          subst ekk
          rw [List.take_length, headOf_chain] at e3 e4
          simp only [List.getElem?_cons_succ]
          cases hc : chainOf zs kk with
          | nil =>
            rw [hc] at e3 e4
            simp only [List.getElem?_nil]
            exact ⟨e3, e4⟩
          | cons z r =>
            rw [hc] at e3 e4
            simp only [List.getElem?_cons_zero]
            refine ⟨e3, e4, ?_⟩
            have hmem : z ∈ zs := by
              have : z ∈ chainOf zs kk := by rw [hc]; exact List.mem_cons_self ..
              unfold chainOf at this
              exact List.mem_reverse.1 (List.mem_filter.1 this).1
            obtain ⟨j, hj⟩ := List.mem_iff_getElem?.1 hmem
            have := (hoz j z hj).seq
            have hjl := (List.getElem?_eq_some_iff.1 hj).1
            have := hX.seq
            omega
        | succ i =>
          simp only [List.getElem?_cons_succ] at hi ⊢
          exact hrec i y hi
  exact main _ xs rfl h
end Go.Proofs.Ytgeanonphjjgeaa
