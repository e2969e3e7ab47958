/-
  THE LAYER chain (17), PLAIN: a link as the cells that it has in memory, with what its key and value read as; what stands at a loc, what a chain is. No program. Conditions: none.
-/
import Derived.Test.YtgeanonphjjgeaaLib
namespace Go.Proofs.Ytgeanonphjjgeaa
open Go.RowKit

/-- A link: the numbers of its loc and record, where key and value lie, what they read as. -/
structure Lk where
  seg : Int
  off : Int
  seq : Int
  kind : Int
  kA : Option Addr
  kn : Nat
  kc : Nat
  vA : Option Addr
  vn : Nat
  vc : Nat
  ps : Int
  po : Int
  kb : List UInt8
  vb : List UInt8

def Lk.cs (x : Lk) : List Value := [.int .u32 x.seg, .int .u32 x.off, .int .u64 x.seq, .int .i64 x.kind, .slice x.kA x.kn x.kc, .slice x.vA x.vn x.vc, .int .u32 x.ps, .int .u32 x.po]

/-- the record that is no record -/
def Lk.zero : Lk := ⟨0, 0, 0, 0, none, 0, 0, none, 0, 0, 0, 0, [], []⟩

/-- a row of links, in memory -/
structure RowAt (w : World) (B : Nat) (A : Option Addr) (xs : List Lk) : Prop where
  cells : Reads w B 8 A xs.length (xs.flatMap Lk.cs)
  keys : ∀ x ∈ xs, Bs w B x.kA x.kn x.kb
  vals : ∀ x ∈ xs, Bs w B x.vA x.vn x.vb

def atLoc (s o : Int) (x : Lk) : Bool := decide (x.seg = s) && decide (x.off = o)
def findAt (xs : List Lk) (s o : Int) : Option Lk := xs.find? (atLoc s o)

theorem flat_at {xs : List Lk} {k : Nat} {x : Lk} (h : xs[k]? = some x) (j : Nat) (hj : j < 8) : (xs.flatMap Lk.cs)[k * 8 + j]? = x.cs[j]? := by
  induction xs generalizing k with
  | nil => simp at h
  | cons y xs ih =>
    cases k with
    | zero =>
      simp at h
      subst h
      simp only [List.flatMap_cons, Nat.zero_mul, Nat.zero_add]
      rw [List.getElem?_append_left (by simp [Lk.cs]; omega)]
    | succ k =>
      simp at h
      have := ih h
      simp only [List.flatMap_cons]
      rw [List.getElem?_append_right (by simp [Lk.cs]; omega)]
      have e : (k + 1) * 8 + j - y.cs.length = k * 8 + j := by simp [Lk.cs]; omega
      rw [e]
      exact this

/-- the eight cells of the k-th link, as a walk asks for them -/
theorem RowAt.at_ {w : World} {B : Nat} {A : Option Addr} {xs : List Lk} (h : RowAt w B A xs) {k : Nat} (hk : k < xs.length) :
    ∃ ad x, A = some ad ∧ ad.block < B ∧ xs[k]? = some x ∧ x ∈ xs ∧
      w.cell? (ad.add (k * 8)) = some (.int .u32 x.seg) ∧ w.cell? ⟨(ad.add (k * 8)).block, (ad.add (k * 8)).off + 1, none⟩ = some (.int .u32 x.off) ∧
      w.cell? ⟨(ad.add (k * 8)).block, (ad.add (k * 8)).off + 2, none⟩ = some (.int .u64 x.seq) ∧ w.cell? ⟨(ad.add (k * 8)).block, (ad.add (k * 8)).off + 3, none⟩ = some (.int .i64 x.kind) ∧
      w.cell? ⟨(ad.add (k * 8)).block, (ad.add (k * 8)).off + 4, none⟩ = some (.slice x.kA x.kn x.kc) ∧ w.cell? ⟨(ad.add (k * 8)).block, (ad.add (k * 8)).off + 5, none⟩ = some (.slice x.vA x.vn x.vc) ∧
      w.cell? ⟨(ad.add (k * 8)).block, (ad.add (k * 8)).off + 6, none⟩ = some (.int .u32 x.ps) ∧ w.cell? ⟨(ad.add (k * 8)).block, (ad.add (k * 8)).off + 7, none⟩ = some (.int .u32 x.po) := by
  obtain ⟨ad, rfl, hb, hc⟩ := h.cells.addr (by rw [h.cells.1]; omega)
  have hx : xs[k]? = some xs[k] := List.getElem?_eq_getElem hk
  have key : ∀ j, j < 8 → ∀ u, (xs[k]).cs[j]? = some u → w.cell? ((ad.add (k * 8)).add j) = some u := by
    intro j hj u hu
    rw [add_add_]
    exact hc _ u (by rw [flat_at hx j hj]; exact hu)
  have far : ∀ j, 0 < j → (ad.add (k * 8)).add j = ⟨(ad.add (k * 8)).block, (ad.add (k * 8)).off + j, none⟩ := by
    intro j hj
    generalize ad.add (k * 8) = a
    unfold Addr.add
    rw [if_neg (by omega)]
  refine ⟨ad, xs[k], rfl, hb, hx, List.getElem_mem hk, ?_, ?_, ?_, ?_, ?_, ?_, ?_, ?_⟩
  · have := key 0 (by omega) _ rfl
    simpa [Addr.add] using this
  all_goals first
    | (have := key 1 (by omega) _ rfl; rw [far 1 (by omega)] at this; exact this)
    | (have := key 2 (by omega) _ rfl; rw [far 2 (by omega)] at this; exact this)
    | (have := key 3 (by omega) _ rfl; rw [far 3 (by omega)] at this; exact this)
    | (have := key 4 (by omega) _ rfl; rw [far 4 (by omega)] at this; exact this)
    | (have := key 5 (by omega) _ rfl; rw [far 5 (by omega)] at this; exact this)
    | (have := key 6 (by omega) _ rfl; rw [far 6 (by omega)] at this; exact this)
    | (have := key 7 (by omega) _ rfl; rw [far 7 (by omega)] at this; exact this)

theorem RowAt.below {w w' : World} {B : Nat} {A : Option Addr} {xs : List Lk} (h : RowAt w B A xs) (hb : Below B w w') : RowAt w' B A xs :=
  ⟨h.cells.below hb, fun x hx => (h.keys x hx).below hb, fun x hx => (h.vals x hx).below hb⟩
theorem RowAt.more {w : World} {B B' : Nat} {A : Option Addr} {xs : List Lk} (h : RowAt w B A xs) (hb : B ≤ B') : RowAt w B' A xs :=
  ⟨h.cells.more hb, fun x hx => (h.keys x hx).more hb, fun x hx => (h.vals x hx).more hb⟩

theorem find_hit {xs : List Lk} {p : Lk → Bool} {k : Nat} {x : Lk} (h : (xs.take k).find? p = none) (hx : xs[k]? = some x) (hp : p x = true) : xs.find? p = some x := by
  induction xs generalizing k with
  | nil => simp at hx
  | cons y xs ih =>
    cases k with
    | zero =>
      simp at hx
      subst hx
      simp [hp]
    | succ k =>
      simp at hx
      simp only [List.take_succ_cons, List.find?_cons] at h ⊢
      cases hy : p y with
      | true => simp [hy] at h
      | false => simp only [hy] at h ⊢; exact ih h hx
theorem find_miss {xs : List Lk} {p : Lk → Bool} {k : Nat} {x : Lk} (h : (xs.take k).find? p = none) (hx : xs[k]? = some x) (hp : p x = false) : (xs.take (k + 1)).find? p = none := by
  rw [List.take_add_one, hx, List.find?_append, h]
  simp [hp]


def mayKeyB (n : Nat) : Bool := decide (1 ≤ n) && decide (n ≤ 64)
def noneB (s o : Int) : Bool := decide (s = 0) && decide (o = 0)
def standsB (s o : Int) : Bool := decide (1 ≤ s) && decide (s ≤ 16777215) && decide (16 ≤ o) && decide (o ≤ 16777216)
def mayB (s o : Int) : Bool := noneB s o || standsB s o

/-- does a link hold? -/
def holdsB (kb : List UInt8) (below : Int) (x : Lk) : Bool := (x.kb == kb) && (decide (x.kind = 1) || decide (x.kind = 2)) && decide (1 ≤ x.seq) && decide (x.seq < below)
def linkRes (xs : List Lk) (s o : Int) (kb : List UInt8) (below : Int) : Lk × Bool :=
  if mayB s o then
    match findAt xs s o with
    | some x => (x, holdsB kb below x)
    | none => ({ Lk.zero with seg := s, off := o }, false)
  else (Lk.zero, false)


/-- what a range over links tells, from a loc on, below a number: as long as links hold, and the first that does not -/
def chainF (xs : List Lk) (kb : List UInt8) : Nat → Int → Int → Int → List (Lk × Bool)
  | 0, _, _, _ => []
  | f + 1, s, o, below =>
    if noneB s o then [] else
    (linkRes xs s o kb below) :: (if (linkRes xs s o kb below).2 then chainF xs kb f (linkRes xs s o kb below).1.ps (linkRes xs s o kb below).1.po (linkRes xs s o kb below).1.seq else [])
def chainL (xs : List Lk) (kb : List UInt8) (s o below : Int) : List (Lk × Bool) := chainF xs kb (below.toNat + 1) s o below

theorem linkRes_seq {xs : List Lk} {s o : Int} {kb : List UInt8} {below : Int} (h : (linkRes xs s o kb below).2 = true) : 1 ≤ (linkRes xs s o kb below).1.seq ∧ (linkRes xs s o kb below).1.seq < below := by
  unfold linkRes at h ⊢
  split at h
  · rename_i hm
    rw [if_pos hm]
    split at h
    · rename_i x hf
      simp only
      simp only [holdsB, Bool.and_eq_true, decide_eq_true_eq] at h
      exact ⟨h.1.2, h.2⟩
    · simp at h
  · simp at h

theorem chainF_more (xs : List Lk) (kb : List UInt8) : ∀ (f f' : Nat) (s o below : Int), below.toNat < f → below.toNat < f' → chainF xs kb f s o below = chainF xs kb f' s o below := by
  intro f
  induction f with
  | zero => intro f' s o below h; omega
  | succ f ih =>
    intro f' s o below h h'
    cases f' with
    | zero => omega
    | succ f' =>
      simp only [chainF]
      split
      · rfl
      · congr 1
        split
        · rename_i hh
          have := linkRes_seq hh
          exact ih f' _ _ _ (by omega) (by omega)
        · rfl

theorem chainL_none {xs : List Lk} {kb : List UInt8} {s o below : Int} (h : noneB s o = true) : chainL xs kb s o below = [] := by
  simp [chainL, chainF, h]
theorem chainL_cons {xs : List Lk} {kb : List UInt8} {s o below : Int} (h : noneB s o = false) :
    chainL xs kb s o below = (linkRes xs s o kb below) :: (if (linkRes xs s o kb below).2 then chainL xs kb (linkRes xs s o kb below).1.ps (linkRes xs s o kb below).1.po (linkRes xs s o kb below).1.seq else []) := by
  unfold chainL
  conv => lhs; rw [chainF]
  rw [if_neg (by simp [h])]
  congr 1
  split
  · rename_i hh
    have := linkRes_seq hh
    refine chainF_more xs kb _ _ _ _ _ ?_ ?_ <;> omega
  · rfl

/-- what Newest makes of what a range over links tells -/
def findN (sN : Int) : List (Lk × Bool) → Lk × Int
  | [] => (Lk.zero, 6)
  | (x, h) :: r => if h then (if x.seq ≤ sN then (x, 0) else findN sN r) else (Lk.zero, 36)
def goesOn (sN : Int) (pre : List (Lk × Bool)) : Prop := ∀ r, findN sN (pre ++ r) = findN sN r
theorem goesOn_nil (sN : Int) : goesOn sN [] := fun _ => rfl
theorem goesOn_snoc {sN : Int} {pre : List (Lk × Bool)} {x : Lk} (h : goesOn sN pre) (hx : sN < x.seq) : goesOn sN (pre ++ [(x, true)]) := fun r => by
  rw [List.append_assoc, h]
  simp only [List.singleton_append, findN, if_true]
  rw [if_neg (by omega)]
def stopsAt (sN : Int) (pre : List (Lk × Bool)) (y : Lk × Int) : Prop := ∀ r, findN sN (pre ++ r) = y
theorem stopsAt_bad {sN : Int} {pre : List (Lk × Bool)} {x : Lk} (h : goesOn sN pre) : stopsAt sN (pre ++ [(x, false)]) (Lk.zero, 36) := fun r => by
  rw [List.append_assoc, h]; rfl
theorem stopsAt_hit {sN : Int} {pre : List (Lk × Bool)} {x : Lk} (h : goesOn sN pre) (hx : x.seq ≤ sN) : stopsAt sN (pre ++ [(x, true)]) (x, 0) := fun r => by
  rw [List.append_assoc, h]
  simp only [List.singleton_append, findN, if_true]
  rw [if_pos hx]

/-- Newest of a reader over a row -/
def newestRes (xs : List Lk) (s o : Int) (kb : List UInt8) (sN : Int) : Lk × Int :=
  if mayKeyB kb.length then findN sN (chainL xs kb s o 1099511627777) else (Lk.zero, 30)

/-- what Walk makes of what a range over links tells -/
def walkN (most : Int) : List (Lk × Bool) → List Lk → List Lk × Int
  | [], acc => (acc, 0)
  | (x, h) :: r, acc => if h then (if ((acc ++ [x]).length : Int) = most then (acc ++ [x], 0) else walkN most r (acc ++ [x])) else ([], 36)
def walkGo (most : Int) (pre : List (Lk × Bool)) : Prop := ∀ r, walkN most (pre ++ r) [] = walkN most r (pre.map Prod.fst)
theorem walkGo_nil (most : Int) : walkGo most [] := fun _ => rfl
theorem walkGo_snoc {most : Int} {pre : List (Lk × Bool)} {x : Lk} (h : walkGo most pre) (hx : ((pre.length : Int) + 1 = most) = False) : walkGo most (pre ++ [(x, true)]) := fun r => by
  rw [List.append_assoc, h]
  simp only [List.singleton_append, walkN, if_true, List.map_append, List.map_cons, List.map_nil]
  rw [if_neg (by simp; simpa using hx)]
def walkStop (most : Int) (pre : List (Lk × Bool)) (y : List Lk × Int) : Prop := ∀ r, walkN most (pre ++ r) [] = y
theorem walkStop_bad {most : Int} {pre : List (Lk × Bool)} {x : Lk} (h : walkGo most pre) : walkStop most (pre ++ [(x, false)]) ([], 36) := fun r => by
  rw [List.append_assoc, h]; rfl
theorem walkStop_hit {most : Int} {pre : List (Lk × Bool)} {x : Lk} (h : walkGo most pre) (hx : (pre.length : Int) + 1 = most) : walkStop most (pre ++ [(x, true)]) (pre.map Prod.fst ++ [x], 0) := fun r => by
  rw [List.append_assoc, h]
  simp only [List.singleton_append, walkN, if_true]
  rw [if_pos (by simpa using hx)]
/-- Walk of a reader over a row -/
def walkRes (xs : List Lk) (s o : Int) (kb : List UInt8) (most : Int) : List Lk × Int :=
  if mayKeyB kb.length then (if most = 0 then ([], 0) else walkN most (chainL xs kb s o 1099511627777) []) else ([], 30)

theorem chainF_len (xs : List Lk) (kb : List UInt8) : ∀ (f : Nat) (s o below : Int), (chainF xs kb f s o below).length ≤ f := by
  intro f
  induction f with
  | zero => intro s o below; exact Nat.le_refl _
  | succ f ih =>
    intro s o below
    simp only [chainF]
    split
    · exact Nat.zero_le _
    · split
      · have := ih (linkRes xs s o kb below).1.ps (linkRes xs s o kb below).1.po (linkRes xs s o kb below).1.seq
        simp only [List.length_cons]
        omega
      · simp
theorem chainL_len (xs : List Lk) (kb : List UInt8) (s o below : Int) : (chainL xs kb s o below).length ≤ below.toNat + 1 := chainF_len xs kb _ s o below

end Go.Proofs.Ytgeanonphjjgeaa
