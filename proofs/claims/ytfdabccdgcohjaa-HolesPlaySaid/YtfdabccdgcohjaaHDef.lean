/-
  HOLES, PLAIN: rows of stretches that rise and do not touch; what they hold with a stretch more, without a number; two rows that hold the same are the same. Conditions: none.
-/
import Derived.RowKit
namespace Go.Proofs.Ytfdabccdgcohjaa

/-- numbers from one to another -/
structure St where
  lo : Nat
  hi : Nat
theorem St.ext' {a b : St} (h : a.lo = b.lo) (h' : a.hi = b.hi) : a = b := by
  cases a; cases b; simp_all
instance : Inhabited St := ⟨⟨0, 0⟩⟩
/-- is a number in a stretch? -/
def St.has (s : St) (n : Nat) : Bool := decide (s.lo ≤ n) && decide (n ≤ s.hi)
theorem St.has_iff {s : St} {n : Nat} : s.has n = true ↔ s.lo ≤ n ∧ n ≤ s.hi := by simp [St.has]
/-- is a number in a row? -/
def has (L : List St) (n : Nat) : Bool := L.any fun s => s.has n
theorem has_iff {L : List St} {n : Nat} : has L n = true ↔ ∃ s ∈ L, s.lo ≤ n ∧ n ≤ s.hi := by simp [has, St.has_iff]
theorem has_cons (s : St) (L : List St) (n : Nat) : has (s :: L) n = (s.has n || has L n) := rfl
/-- stretches rise and do not touch, all within 1 and maxSeq -/
def Canon : List St → Prop
  | [] => True
  | s :: r => 1 ≤ s.lo ∧ s.lo ≤ s.hi ∧ s.hi ≤ 1099511627776 ∧ (∀ t ∈ r, s.hi + 1 < t.lo) ∧ Canon r
theorem Canon.mem {L : List St} (h : Canon L) {s : St} (hs : s ∈ L) : 1 ≤ s.lo ∧ s.lo ≤ s.hi ∧ s.hi ≤ 1099511627776 := by
  induction L with
  | nil => cases hs
  | cons a r ih =>
    rcases List.mem_cons.1 hs with rfl | hs
    · exact ⟨h.1, h.2.1, h.2.2.1⟩
    · exact ih h.2.2.2.2 hs
theorem Canon.app {X Y : List St} : Canon (X ++ Y) ↔ Canon X ∧ Canon Y ∧ ∀ x ∈ X, ∀ y ∈ Y, x.hi + 1 < y.lo := by
  induction X with
  | nil => simp [Canon]
  | cons a r ih =>
    simp only [List.cons_append, Canon, ih, List.mem_append, List.mem_cons]
    constructor
    · rintro ⟨h1, h2, h3, h4, h5, h6, h7⟩
      refine ⟨⟨h1, h2, h3, fun t ht => h4 t (.inl ht), h5⟩, h6, ?_⟩
      rintro x (rfl | hx) y hy
      · exact h4 y (.inr hy)
      · exact h7 x hx y hy
    · rintro ⟨⟨h1, h2, h3, h4, h5⟩, h6, h7⟩
      refine ⟨h1, h2, h3, ?_, h5, h6, fun x hx => h7 x (.inr hx)⟩
      rintro t (ht | ht)
      · exact h4 t ht
      · exact h7 a (.inl rfl) t ht

/-! ### a stretch more -/
def merge (s a : St) : St := ⟨min s.lo a.lo, max s.hi a.hi⟩
def addL (a : St) : List St → List St
  | [] => [a]
  | s :: r => if s.hi + 1 < a.lo then s :: addL a r else if a.hi + 1 < s.lo then a :: s :: r else addL (merge s a) r
theorem addL_lo {x : Nat} : ∀ {L : List St} {a : St}, x < a.lo → (∀ t ∈ L, x < t.lo) → ∀ t ∈ addL a L, x < t.lo
  | [], a, ha, _, t, ht => by
    rw [addL, List.mem_singleton] at ht
    subst ht
    exact ha
  | s :: r, a, ha, hL, t, ht => by
    rw [addL] at ht
    split at ht
    · rcases List.mem_cons.1 ht with rfl | ht
      · exact hL t (List.mem_cons_self ..)
      · exact addL_lo ha (fun u hu => hL u (List.mem_cons_of_mem _ hu)) t ht
    · split at ht
      · rcases List.mem_cons.1 ht with rfl | ht
        · exact ha
        · exact hL t ht
      · exact addL_lo (by have := hL s (List.mem_cons_self ..); simp only [merge]; omega) (fun u hu => hL u (List.mem_cons_of_mem _ hu)) t ht
theorem addL_canon : ∀ {L : List St} {a : St}, Canon L → 1 ≤ a.lo → a.lo ≤ a.hi → a.hi ≤ 1099511627776 → Canon (addL a L)
  | [], a, _, h1, h2, h3 => ⟨h1, h2, h3, fun t ht => (by cases ht), trivial⟩
  | s :: r, a, ⟨c1, c2, c3, c4, c5⟩, h1, h2, h3 => by
    rw [addL]
    split
    · rename_i h
      exact ⟨c1, c2, c3, addL_lo h c4, addL_canon c5 h1 h2 h3⟩
    · split
      · rename_i h
        refine ⟨h1, h2, h3, ?_, c1, c2, c3, c4, c5⟩
        intro t ht
        rcases List.mem_cons.1 ht with rfl | ht
        · exact h
        · have := c4 t ht
          omega
      · exact addL_canon c5 (by simp only [merge]; omega) (by simp only [merge]; omega) (by simp only [merge]; omega)
theorem addL_has : ∀ {L : List St} {a : St}, Canon L → a.lo ≤ a.hi → ∀ n, has (addL a L) n = (has L n || a.has n)
  | [], a, _, _, n => by simp [addL, has]
  | s :: r, a, ⟨c1, c2, c3, c4, c5⟩, h2, n => by
    rw [addL]
    split
    · rw [has_cons, has_cons, addL_has c5 h2 n, Bool.or_assoc]
    · split
      · rw [has_cons, Bool.or_comm]
      · rename_i h4 h5
        rw [addL_has c5 (by simp only [merge]; omega) n, has_cons]
        have e : (merge s a).has n = (s.has n || a.has n) := by
          rw [Bool.eq_iff_iff]
          simp only [Bool.or_eq_true, St.has_iff, merge]
          omega
        rw [e]
        cases s.has n <;> cases has r n <;> cases a.has n <;> rfl

/-! ### as the code does it: what touches grows together, the rest stays; then it is put in its place -/
def touch (s a : St) : Bool := decide (s.lo ≤ a.hi + 1) && decide (a.lo ≤ s.hi + 1)
theorem touch_iff {s a : St} : touch s a = true ↔ s.lo ≤ a.hi + 1 ∧ a.lo ≤ s.hi + 1 := by simp [touch]
def goL : St → List St → List St → St × List St
  | a, acc, [] => (a, acc)
  | a, acc, s :: r => if touch s a then goL (merge s a) acc r else goL a (acc ++ [s]) r
/-- the place of the first one that begins behind a -/
def placeL (a : St) : List St → Nat
  | [] => 0
  | s :: r => if a.hi < s.lo then 0 else placeL a r + 1
theorem placeL_le (a : St) : ∀ L : List St, placeL a L ≤ L.length
  | [] => Nat.le_refl _
  | s :: r => by
    rw [placeL]
    split
    · exact Nat.zero_le _
    · have := placeL_le a r
      simp
      omega
def insL (x : St × List St) : List St := x.2.take (placeL x.1 x.2) ++ x.1 :: x.2.drop (placeL x.1 x.2)
theorem placeL_app (a : St) : ∀ (X : List St) {Y : List St}, (∀ x ∈ X, x.lo ≤ a.hi) → (∀ y ∈ Y, a.hi < y.lo) → placeL a (X ++ Y) = X.length
  | [], [], _, _ => rfl
  | [], y :: Y, _, h => by
    rw [List.nil_append, placeL, if_pos (h y (List.mem_cons_self ..))]
    rfl
  | x :: X, Y, h, h' => by
    rw [List.cons_append, placeL, if_neg (by have := h x (List.mem_cons_self ..); omega), placeL_app a X (fun z hz => h z (List.mem_cons_of_mem _ hz)) h']
    rfl
theorem goL_none : ∀ {L : List St} {a : St} {acc : List St}, (∀ t ∈ L, a.hi + 1 < t.lo) → goL a acc L = (a, acc ++ L)
  | [], a, acc, _ => by rw [goL, List.append_nil]
  | s :: r, a, acc, h => by
    have h1 := h s (List.mem_cons_self ..)
    have ht : touch s a = false := by simp [touch]; omega
    rw [goL, ht, if_neg (by simp), goL_none fun t ht => h t (List.mem_cons_of_mem _ ht)]
    simp
theorem goL_eq : ∀ {L : List St} {a : St} {acc : List St}, Canon (acc ++ L) → a.lo ≤ a.hi → (∀ x ∈ acc, x.hi + 1 < a.lo) → insL (goL a acc L) = acc ++ addL a L
  | [], a, acc, hc, h2, hb => by
    rw [List.append_nil] at hc
    rw [goL, insL, addL]
    have e := placeL_app a acc (Y := []) (fun x hx => by have := hb x hx; have := hc.mem hx; omega) (fun y hy => by cases hy)
    rw [List.append_nil] at e
    show acc.take (placeL a acc) ++ a :: acc.drop (placeL a acc) = _
    rw [e, List.take_length, List.drop_length]
  | s :: r, a, acc, hc, h2, hb => by
    have hc2 := (Canon.app.1 hc).2.1
    have hcs := (Canon.app.1 hc).2.2
    have hre : acc ++ s :: r = (acc ++ [s]) ++ r := by simp
    rw [goL, addL]
    by_cases h4 : s.hi + 1 < a.lo
    · have ht : touch s a = false := by simp [touch]; omega
      rw [ht, if_neg (by simp), if_pos h4, goL_eq (hre ▸ hc) h2 (fun x hx => by
        rcases List.mem_append.1 hx with hx | hx
        · exact hb x hx
        · rw [List.mem_singleton.1 hx]; exact h4)]
      simp
    · rw [if_neg h4]
      by_cases h5 : a.hi + 1 < s.lo
      · have ht : touch s a = false := by simp [touch]; omega
        rw [ht, if_neg (by simp), if_pos h5, goL_none fun t ht => by have := hc2.2.2.2.1 t ht; have := hc2.2.1; omega]
        have e := placeL_app a acc (Y := s :: r) (fun x hx => by have := hb x hx; have := (Canon.app.1 hc).1.mem hx; omega) (fun y hy => by
          rcases List.mem_cons.1 hy with rfl | hy
          · omega
          · have := hc2.2.2.2.1 y hy; have := hc2.2.1; omega)
        show ((acc ++ [s]) ++ r).take (placeL a ((acc ++ [s]) ++ r)) ++ a :: ((acc ++ [s]) ++ r).drop (placeL a ((acc ++ [s]) ++ r)) = _
        rw [← hre, e, List.take_left' rfl, List.drop_left' rfl]
      · have ht : touch s a = true := by simp [touch]; omega
        rw [ht, if_pos rfl, if_neg h5]
        have hcr : Canon (acc ++ r) := Canon.app.2 ⟨(Canon.app.1 hc).1, hc2.2.2.2.2, fun x hx y hy => hcs x hx y (List.mem_cons_of_mem _ hy)⟩
        exact goL_eq hcr (by simp only [merge]; omega) (fun x hx => by have := hb x hx; have := hcs x hx s (List.mem_cons_self ..); simp only [merge]; omega)
/-- Add's answer and what it leaves -/
def addO (lo hi : Nat) (L : List St) : Int × List St := if lo = 0 ∨ 1099511627776 < hi then (1, L) else if hi < lo then (0, L) else (0, addL ⟨lo, hi⟩ L)
theorem addO_canon {L : List St} (h : Canon L) (lo hi : Nat) : Canon (addO lo hi L).2 := by
  unfold addO
  split
  · exact h
  · split
    · exact h
    · exact addL_canon h (by show 1 ≤ lo; omega) (by show lo ≤ hi; omega) (by show hi ≤ _; omega)
theorem addO_has {L : List St} (h : Canon L) {lo hi : Nat} (h1 : 1 ≤ lo) (h2 : hi ≤ 1099511627776) (n : Nat) : has (addO lo hi L).2 n = (has L n || (decide (lo ≤ n) && decide (n ≤ hi))) := by
  unfold addO
  rw [if_neg (by omega)]
  split
  · rename_i h3
    have : (decide (lo ≤ n) && decide (n ≤ hi)) = false := by simp; omega
    rw [this, Bool.or_false]
  · exact addL_has h (by show lo ≤ hi; omega) n

/-! ### without a number -/
/-- the place of the stretch that has a number -/
def idxL (n : Nat) : List St → Option Nat
  | [] => none
  | s :: r => if s.has n then some 0 else (idxL n r).map (· + 1)
theorem idxL_none {n : Nat} : ∀ {L : List St}, idxL n L = none ↔ has L n = false
  | [] => by simp [idxL, has]
  | s :: r => by
    rw [idxL, has_cons]
    cases h : s.has n
    · simp [idxL_none]
    · simp
theorem idxL_some {n k : Nat} : ∀ {L : List St}, idxL n L = some k → ∃ X s Y, L = X ++ s :: Y ∧ X.length = k ∧ s.has n = true
  | [], h => by cases h
  | s :: r, h => by
    rw [idxL] at h
    cases hs : s.has n
    · rw [hs, if_neg (by simp)] at h
      obtain ⟨k', h1, h2⟩ := Option.map_eq_some_iff.1 h
      obtain ⟨X, t, Y, e1, e2, e3⟩ := idxL_some h1
      exact ⟨s :: X, t, Y, by rw [e1]; rfl, by simp [e2]; exact h2, e3⟩
    · rw [hs, if_pos rfl] at h
      cases h
      exact ⟨[], s, r, rfl, rfl, hs⟩
/-- Found's answer and what it leaves -/
def foundO (n : Nat) (L : List St) : Int × List St :=
  if n = 0 ∨ 1099511627776 < n then (1, L) else
  match idxL n L with
  | none => (0, L)
  | some k => if (L[k]!).lo = n ∧ (L[k]!).hi = n then (0, L.take k ++ L.drop (k + 1)) else (0, (addO (n + 1) (L[k]!).hi (addO (L[k]!).lo (n - 1) (L.take k ++ L.drop (k + 1))).2).2)
theorem cut_app {X Y : List St} {s : St} {k : Nat} (hk : X.length = k) : (X ++ s :: Y).take k ++ (X ++ s :: Y).drop (k + 1) = X ++ Y ∧ (X ++ s :: Y)[k]! = s := by
  subst hk
  refine ⟨?_, by simp⟩
  rw [List.take_left' rfl]
  congr 1
  rw [List.drop_append]
  simp
theorem canon_cut {X Y : List St} {s : St} (h : Canon (X ++ s :: Y)) : Canon (X ++ Y) :=
  Canon.app.2 ⟨(Canon.app.1 h).1, (Canon.app.1 h).2.1.2.2.2.2, fun x hx y hy => (Canon.app.1 h).2.2 x hx y (List.mem_cons_of_mem _ hy)⟩
theorem has_app (X Y : List St) (n : Nat) : has (X ++ Y) n = (has X n || has Y n) := by simp [has]
theorem has_cut {X Y : List St} {s : St} (h : Canon (X ++ s :: Y)) {m : Nat} (hm : s.has m = true) : has (X ++ Y) m = false := by
  rw [has_app]
  have hm2 := St.has_iff.1 hm
  cases h1 : has X m
  · cases h2 : has Y m
    · rfl
    · obtain ⟨y, hy, h3, h4⟩ := has_iff.1 h2
      have := (Canon.app.1 h).2.1.2.2.2.1 y hy
      omega
  · obtain ⟨x, hx, h3, h4⟩ := has_iff.1 h1
    have := (Canon.app.1 h).2.2 x hx s (List.mem_cons_self ..)
    omega
theorem foundO_canon {L : List St} (h : Canon L) (n : Nat) : Canon (foundO n L).2 := by
  unfold foundO
  split
  · exact h
  · split
    · exact h
    · rename_i k hk
      obtain ⟨X, s, Y, rfl, e2, e3⟩ := idxL_some hk
      obtain ⟨h1, h2⟩ := cut_app (X := X) (Y := Y) (s := s) e2
      rw [h1, h2]
      split
      · exact canon_cut h
      · exact addO_canon (addO_canon (canon_cut h) _ _) _ _
theorem foundO_has {L : List St} (h : Canon L) {n : Nat} (hn : 1 ≤ n) (hn2 : n ≤ 1099511627776) (m : Nat) : has (foundO n L).2 m = (has L m && !(m == n)) := by
  unfold foundO
  rw [if_neg (by omega)]
  split
  · rename_i hk
    have := idxL_none.1 hk
    by_cases e : m = n
    · subst e; simp [this]
    · simp [e]
  · rename_i k hk
    obtain ⟨X, s, Y, rfl, e2, e3⟩ := idxL_some hk
    obtain ⟨h1, h2⟩ := cut_app (X := X) (Y := Y) (s := s) e2
    rw [h1, h2]
    have hs := h.mem (s := s) (by simp)
    have hsn := St.has_iff.1 e3
    have ex : has (X ++ s :: Y) m = (s.has m || has (X ++ Y) m) := by
      rw [has_app, has_cons, has_app]
      cases has X m <;> cases s.has m <;> rfl
    have ey : s.has m = true → has (X ++ Y) m = false := fun hm => has_cut h hm
    rw [ex]
    split
    · rename_i h5
      have e6 : s.has m = (m == n) := by
        rw [Bool.eq_iff_iff, St.has_iff]
        simp
        omega
      rw [← e6]
      cases h7 : s.has m
      · simp
      · simp [ey h7]
    · rw [addO_has (addO_canon (canon_cut h) _ _) (by omega) (by omega), addO_has (canon_cut h) (by omega) (by omega)]
      have e8 : ((decide (s.lo ≤ m) && decide (m ≤ n - 1)) || (decide (n + 1 ≤ m) && decide (m ≤ s.hi))) = (s.has m && !(m == n)) := by
        rw [Bool.eq_iff_iff]
        simp [St.has]
        omega
      rw [Bool.or_assoc, e8]
      cases h7 : s.has m
      · simp
        intro h9 h10
        subst h10
        rw [e3] at h7
        cases h7
      · simp [ey h7]

/-! ### rows that hold the same are the same -/
theorem canon_ext : ∀ {L K : List St}, Canon L → Canon K → (∀ n, has L n = has K n) → L = K
  | [], [], _, _, _ => rfl
  | [], k :: K, _, ck, h => by
    have := h k.lo
    rw [has_cons, show k.has k.lo = true from St.has_iff.2 ⟨Nat.le_refl _, ck.2.1⟩] at this
    simp [has] at this
  | l :: L, [], cl, _, h => by
    have := h l.lo
    rw [has_cons, show l.has l.lo = true from St.has_iff.2 ⟨Nat.le_refl _, cl.2.1⟩] at this
    simp [has] at this
  | l :: L, k :: K, ⟨a1, a2, a3, a4, a5⟩, ⟨b1, b2, b3, b4, b5⟩, h => by
    have nl : ∀ n, n < l.lo ∨ n = l.hi + 1 → has (l :: L) n = false := fun n hn => by
      cases e : has (l :: L) n
      · rfl
      · obtain ⟨s, hs, h1, h2⟩ := has_iff.1 e
        rcases List.mem_cons.1 hs with rfl | hs
        · omega
        · have := a4 s hs; omega
    have nk : ∀ n, n < k.lo ∨ n = k.hi + 1 → has (k :: K) n = false := fun n hn => by
      cases e : has (k :: K) n
      · rfl
      · obtain ⟨s, hs, h1, h2⟩ := has_iff.1 e
        rcases List.mem_cons.1 hs with rfl | hs
        · omega
        · have := b4 s hs; omega
    have yl : ∀ n, l.lo ≤ n → n ≤ l.hi → has (l :: L) n = true := fun n h1 h2 => has_iff.2 ⟨l, List.mem_cons_self .., h1, h2⟩
    have yk : ∀ n, k.lo ≤ n → n ≤ k.hi → has (k :: K) n = true := fun n h1 h2 => has_iff.2 ⟨k, List.mem_cons_self .., h1, h2⟩
    have e1 : l.lo = k.lo := by
      rcases Nat.lt_trichotomy l.lo k.lo with hh | hh | hh
      · have h1 := yl l.lo (Nat.le_refl _) a2
        rw [h, nk l.lo (.inl hh)] at h1
        cases h1
      · exact hh
      · have h1 := yk k.lo (Nat.le_refl _) b2
        rw [← h, nl k.lo (.inl hh)] at h1
        cases h1
    have e2 : l.hi = k.hi := by
      rcases Nat.lt_trichotomy l.hi k.hi with hh | hh | hh
      · have h1 := yk (l.hi + 1) (by omega) (by omega)
        rw [← h, nl _ (.inr rfl)] at h1
        cases h1
      · exact hh
      · have h1 := yl (k.hi + 1) (by omega) (by omega)
        rw [h, nk _ (.inr rfl)] at h1
        cases h1
    have e : l = k := St.ext' e1 e2
    subst e
    rw [canon_ext a5 b5 fun n => ?_]
    have h1 := h n
    rw [has_cons, has_cons] at h1
    by_cases hn : l.has n = true
    · have hn2 := St.has_iff.1 hn
      have x1 : has L n = false := by
        cases e : has L n
        · rfl
        · obtain ⟨s, hs, h3, h4⟩ := has_iff.1 e
          have := a4 s hs; omega
      have x2 : has K n = false := by
        cases e : has K n
        · rfl
        · obtain ⟨s, hs, h3, h4⟩ := has_iff.1 e
          have := b4 s hs; omega
      rw [x1, x2]
    · have hf : l.has n = false := by simpa using hn
      rw [hf] at h1
      simpa using h1

/-! ### asked of a row -/
def sureB (newest s : Nat) (x : St) : Bool := decide (newest < x.hi) && decide (x.lo ≤ s) && decide (max x.lo (newest + 1) ≤ s)
def sureL (newest s : Nat) (L : List St) : Bool := !(L.any (sureB newest s))
theorem sure_iff {L : List St} (h : Canon L) {newest s : Nat} : sureL newest s L = true ↔ ∀ n, newest < n → n ≤ s → has L n = false := by
  simp only [sureL, Bool.not_eq_true', List.any_eq_false, sureB]
  constructor
  · intro h1 n hn hs
    cases e : has L n
    · rfl
    · obtain ⟨x, hx, h2, h3⟩ := has_iff.1 e
      have := h1 x hx
      simp at this
      omega
  · intro h1 x hx
    have hm := h.mem hx
    simp
    intro h2 h3
    rcases Nat.lt_or_ge s (max x.lo (newest + 1)) with h6 | h6
    · exact h6
    · have h7 := h1 (max x.lo (newest + 1)) (by omega) h6
      have h8 : has L (max x.lo (newest + 1)) = true := has_iff.2 ⟨x, hx, by omega, by omega⟩
      rw [h7] at h8
      cases h8
def manyL : List St → Nat
  | [] => 0
  | s :: r => (s.hi - s.lo + 1) + manyL r
theorem many_le : ∀ {L : List St} {x : Nat}, Canon L → (∀ s ∈ L, x < s.lo) → x ≤ 1099511627776 → manyL L + x ≤ 1099511627776
  | [], x, _, _, hx => by simp [manyL]; exact hx
  | s :: r, x, ⟨h1, h2, h3, h4, h5⟩, h, _ => by
    have := many_le (x := s.hi) h5 (fun t ht => by have := h4 t ht; omega) h3
    have := h s (List.mem_cons_self ..)
    rw [manyL]
    omega
end Go.Proofs.Ytfdabccdgcohjaa
