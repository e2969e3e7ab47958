/-
  WHAT THE CHAINS OF built's ROW SAY where one link is spoilt, PLAIN. Conditions: none.
-/
import Derived.Test.YtgeanonphjjgeaaVW
namespace Go.Proofs.Ytgeanonphjjgeaa
open Go.RowKit Go.Shelf

/-- a link that is spoilt -/
structure Spoilt (k : UInt8) (x x' : Lk) : Prop where
  loc : (x'.seg = x.seg ∧ x'.off = x.off ∧ ∀ below : Int, below ≤ 1099511627777 → holdsB [k] below x' = false) ∨ (x'.seg = 0 ∧ x'.off = 0)

section
variable {xs : List Lk} {k : UInt8} {p : Nat} {x x' : Lk}
theorem bad_other (h : BuiltOk xs) (hp : xs[p]? = some x) (hs : Spoilt k x x') {i : Nat} {y : Lk} (hi : xs[i]? = some y) (hne : i ≠ p) : findAt (xs.set p x') y.seg y.off = some y := by
  have hy := h i y hi
  have hx := h p x hp
  refine find_hit (k := i) ?_ (by rw [List.getElem?_set_ne (fun e => hne e.symm)]; exact hi) (by simp [atLoc])
  rw [List.find?_eq_none]
  intro z hz
  obtain ⟨j, hj⟩ := List.mem_iff_getElem?.1 hz
  have hji : j < i := by
    have := (List.getElem?_eq_some_iff.1 hj).1
    simp at this
    omega
  rw [List.getElem?_take_of_lt hji] at hj
  simp only [atLoc, Bool.and_eq_true, decide_eq_true_eq]
  intro ⟨e1, e2⟩
  have a1 := hy.seg
  have a2 := hy.off
  by_cases hjp : j = p
  · subst hjp
    have hpl := (List.getElem?_eq_some_iff.1 hp).1
    rw [List.getElem?_set_self hpl] at hj
    injection hj with hj
    subst hj
    have a3 := hx.seg
    have a4 := hx.off
    rcases hs.loc with ⟨b1, b2, _⟩ | ⟨b1, b2⟩ <;> omega
  · rw [List.getElem?_set_ne (fun e => hjp e.symm)] at hj
    have hz' := h j z hj
    have a3 := hz'.seg
    have a4 := hz'.off
    omega
theorem bad_self (h : BuiltOk xs) (hp : xs[p]? = some x) (hs : Spoilt k x x') (below : Int) (hb : below ≤ 1099511627777) : (linkRes (xs.set p x') x.seg x.off [k] below).2 = false := by
  have hx := h p x hp
  have hpl := (List.getElem?_eq_some_iff.1 hp).1
  have other : ∀ (j : Nat) z, j ≠ p → (xs.set p x')[j]? = some z → atLoc x.seg x.off z = false := by
    intro j z hjp hj
    rw [List.getElem?_set_ne (fun e => hjp e.symm)] at hj
    have hz := h j z hj
    have a1 := hx.seg
    have a2 := hx.off
    have a3 := hz.seg
    have a4 := hz.off
    simp only [atLoc, Bool.and_eq_false_iff, decide_eq_false_iff_not]
    omega
  unfold linkRes
  split
  · rcases hs.loc with ⟨b1, b2, b3⟩ | ⟨b1, b2⟩
    · have hf : findAt (xs.set p x') x.seg x.off = some x' := by
        refine find_hit (k := p) ?_ (List.getElem?_set_self hpl) (by simp [atLoc, b1, b2])
        rw [List.find?_eq_none]
        intro z hz
        obtain ⟨j, hj⟩ := List.mem_iff_getElem?.1 hz
        have hji : j < p := by
          have := (List.getElem?_eq_some_iff.1 hj).1
          simp at this
          omega
        rw [List.getElem?_take_of_lt hji] at hj
        rw [other j z (by omega) hj]
        simp
      rw [hf]
      exact b3 below hb
    · have hf : findAt (xs.set p x') x.seg x.off = none := by
        unfold findAt
        rw [List.find?_eq_none]
        intro z hz
        obtain ⟨j, hj⟩ := List.mem_iff_getElem?.1 hz
        by_cases hjp : j = p
        · subst hjp
          rw [List.getElem?_set_self hpl] at hj
          injection hj with hj
          subst hj
          have a1 := hx.seg
          simp [atLoc]
          omega
        · rw [other j z hjp hj]
          simp
      rw [hf]
  · rfl
theorem chainOf_le {ys : List Lk} (h : BuiltOk ys) {y : Lk} (hy : y ∈ chainOf ys k) : y.seq ≤ ys.length := by
  obtain ⟨j, hj⟩ := List.mem_iff_getElem?.1 (chain_mem hy)
  have := (h j y hj).seq
  have := (List.getElem?_eq_some_iff.1 hj).1
  omega
/-- a chain from a beginning's head on, in the spoilt row -/
theorem chain_bad (h : BuiltOk xs) (h60 : xs.length ≤ 60) (hp : xs[p]? = some x) (hk : x.kb = [k]) (hs : Spoilt k x x') : ∀ (m : Nat), p < m → m ≤ xs.length → ∀ below : Int, (m : Int) + 1 ≤ below → below ≤ 1099511627777 →
    ∃ z, chainL (xs.set p x') [k] (headOf (xs.take m) k).1 (headOf (xs.take m) k).2 below = ((chainOf (xs.take m) k).filter (fun y => decide ((p : Int) + 1 < y.seq))).map (fun y => (y, true)) ++ [(z, false)] := by
  intro m
  induction m with
  | zero => intro hm; omega
  | succ m ih =>
    intro hpm hm below hb hb2
    have hy : xs[m]? = some (xs[m]'(by omega)) := List.getElem?_eq_getElem _
    generalize xs[m]'(by omega) = y at hy
    have hY := h m y hy
    have a1 := hY.seg
    have a2 := hY.off
    have a3 := hY.seq
    have hn : noneB y.seg y.off = false := by
      simp only [noneB, Bool.and_eq_false_iff, decide_eq_false_iff_not]
      left
      omega
    rw [take_snoc hy, headOf_snoc, chainOf_snoc]
    by_cases hmp : m = p
    · subst hmp
      rw [hp] at hy
      injection hy with hy
      subst hy
      have hk' : isK k x = true := by simp [isK, hk]
      have hk2 : (x.kb == [k]) = true := by simp [hk]
      rw [if_pos hk2, if_pos hk']
      simp only
      rw [chainL_cons hn]
      have hself := bad_self h hp hs below hb2
      refine ⟨(linkRes (xs.set m x') x.seg x.off [k] below).1, ?_⟩
      have hfil : (x :: chainOf (xs.take m) k).filter (fun y => decide ((m : Int) + 1 < y.seq)) = [] := by
        rw [List.filter_eq_nil_iff]
        intro z hz
        simp only [decide_eq_true_eq]
        rcases List.mem_cons.1 hz with rfl | hz
        · omega
        · have := chainOf_le (h.take m) hz
          simp at this
          omega
      rw [hfil, hself]
      simp only [Bool.false_eq_true, if_false, List.map_nil, List.nil_append]
      rw [← hself]
    · obtain ⟨kk, e1, _, e3, e4⟩ := hY.kb
      cases hkb : y.kb == [k] with
      | false =>
        have hk' : isK k y = false := hkb
        rw [if_neg (by simp), if_neg (by simp [hk'])]
        exact ih (by omega) (by omega) below (by omega) hb2
      | true =>
        have hk' : isK k y = true := hkb
        have hke : y.kb = [k] := by simpa using hkb
        have ekk : kk = k := by
          rw [hke] at e1
          injection e1 with e1
          exact e1.symm
        subst ekk
        rw [if_pos rfl, if_pos hk']
        have hl : linkRes (xs.set p x') y.seg y.off [kk] below = (y, true) := by
          have hm1 : mayB y.seg y.off = true := by
            simp only [mayB, standsB, Bool.or_eq_true, Bool.and_eq_true, decide_eq_true_eq]
            right
            omega
          have hh : holdsB [kk] below y = true := by
            simp only [holdsB, Bool.and_eq_true, Bool.or_eq_true, decide_eq_true_eq]
            refine ⟨⟨⟨by simp [hke], hY.kind⟩, by omega⟩, by omega⟩
          simp [linkRes, hm1, bad_other h hp hs hy hmp, hh]
        simp only
        rw [chainL_cons hn, hl]
        simp only [if_true]
        obtain ⟨z, hz⟩ := ih (by omega) (by omega) y.seq (by omega) (by omega)
        refine ⟨z, ?_⟩
        rw [e3, e4, hz, List.filter_cons, if_pos (by simp; omega)]
        rfl
theorem findN_bad (sN : Int) (z : Lk) (l : List Lk) : findN sN (l.map (fun y => (y, true)) ++ [(z, false)]) = match l.find? (fun y => decide (y.seq ≤ sN)) with | some y => (y, 0) | none => (Lk.zero, 36) := by
  induction l with
  | nil => rfl
  | cons y l ih =>
    simp only [List.map_cons, List.cons_append, findN, if_true, List.find?_cons]
    by_cases h : y.seq ≤ sN
    · simp [h]
    · simp [h, ih]
/-- a chain's links fall -/
theorem chain_falls (h : BuiltOk xs) : (chainOf xs k).Pairwise (fun a b => b.seq < a.seq) := by
  have main : ∀ m (ys : List Lk), ys.length = m → BuiltOk ys → (chainOf ys k).Pairwise (fun a b => b.seq < a.seq) := by
    intro m
    induction m with
    | zero =>
      intro ys hy _
      rw [List.eq_nil_of_length_eq_zero hy]
      exact List.Pairwise.nil
    | succ m ih =>
      intro ys hy hok
      have hne : ys ≠ [] := fun e => by rw [e] at hy; simp at hy
      obtain ⟨zs, y, rfl⟩ : ∃ zs y, ys = zs ++ [y] := ⟨ys.dropLast, ys.getLast hne, (List.dropLast_concat_getLast hne).symm⟩
      have hz : zs.length = m := by simpa using hy
      obtain ⟨hoz, hX⟩ := hok.init
      rw [chainOf_snoc]
      split
      · refine List.Pairwise.cons ?_ (ih zs hz hoz)
        intro b hb
        have := chainOf_le hoz hb
        have := hX.seq
        omega
      · exact ih zs hz hoz
  exact main _ xs rfl h
theorem find_ahead {s a : Int} : ∀ (l : List Lk), l.Pairwise (fun a b => b.seq < a.seq) →
    (l.filter (fun y => decide (a < y.seq))).find? (fun y => decide (y.seq ≤ s)) = match l.find? (fun y => decide (y.seq ≤ s)) with | some y => if a < y.seq then some y else none | none => none := by
  intro l
  induction l with
  | nil => intro _; rfl
  | cons y l ih =>
    intro hp
    obtain ⟨h1, h2⟩ := List.pairwise_cons.1 hp
    have hr := ih h2
    rw [List.filter_cons, List.find?_cons]
    by_cases hs : y.seq ≤ s
    · by_cases ha : a < y.seq
      · simp [hs, ha]
      · have hnil : l.filter (fun y => decide (a < y.seq)) = [] := by
          rw [List.filter_eq_nil_iff]
          intro z hz
          have := h1 z hz
          simp
          omega
        simp [hs, ha, hnil]
    · by_cases ha : a < y.seq
      · simp [hs, ha, hr]
      · simp [hs, ha, hr]
theorem bad_newest (h : BuiltOk xs) (h60 : xs.length ≤ 60) (hp : xs[p]? = some x) (hk : x.kb = [k]) (hs : Spoilt k x x') (s : Int) :
    newestRes (xs.set p x') (headOf xs k).1 (headOf xs k).2 [k] s = match lastW xs k s with | some y => if (p : Int) + 1 < y.seq then (y, 0) else (Lk.zero, 36) | none => (Lk.zero, 36) := by
  have hpl := (List.getElem?_eq_some_iff.1 hp).1
  obtain ⟨z, hz⟩ := chain_bad h h60 hp hk hs xs.length hpl (Nat.le_refl _) 1099511627777 (by omega) (Int.le_refl _)
  rw [List.take_length] at hz
  rw [newestRes, if_pos (show mayKeyB [k].length = true from rfl), hz, findN_bad, find_ahead _ (chain_falls h)]
  have e : (chainOf xs k).find? (fun x => decide (x.seq ≤ s)) = lastW xs k s := by
    unfold chainOf lastW
    rw [List.find?_filter]
    congr 1
    funext x
    simp [wanted]
  rw [e]
  cases lastW xs k s with
  | none => rfl
  | some y =>
    by_cases hh : (p : Int) + 1 < y.seq
    · simp [hh]
    · simp [hh]
theorem bad_walk (h : BuiltOk xs) (h60 : xs.length ≤ 60) (hp : xs[p]? = some x) (hk : x.kb = [k]) (hs : Spoilt k x x') : walkRes (xs.set p x') (headOf xs k).1 (headOf xs k).2 [k] (-1) = ([], 36) := by
  have hpl := (List.getElem?_eq_some_iff.1 hp).1
  obtain ⟨z, hz⟩ := chain_bad h h60 hp hk hs xs.length hpl (Nat.le_refl _) 1099511627777 (by omega) (Int.le_refl _)
  rw [List.take_length] at hz
  rw [walkRes, if_pos (show mayKeyB [k].length = true from rfl), if_neg (by omega), hz]
  have main : ∀ (l acc : List Lk), walkN (-1) (l.map (fun y => (y, true)) ++ [(z, false)]) acc = ([], 36) := by
    intro l
    induction l with
    | nil => intro acc; rfl
    | cons y l ih =>
      intro acc
      simp only [List.map_cons, List.cons_append, walkN, if_true]
      rw [if_neg (by omega)]
      exact ih _
  exact main _ _
theorem bad_walk0 (s o : Int) : walkRes (xs.set p x') s o [k] 0 = ([], 0) := by
  rw [walkRes, if_pos (show mayKeyB [k].length = true from rfl), if_pos rfl]
end
end Go.Proofs.Ytgeanonphjjgeaa
