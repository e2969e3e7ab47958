/-
  ACTS IN MEMORY; a file that came behind a world. Conditions: none.
-/
import Derived.Test.YthkflglmgadlmaaFWakes
namespace Go.Proofs.Ythkflglmgadlmaa
open Go.RowKit

structure Ac where
  x : Int
  n : Int
  m : Int
  A : Option Addr
  bn : Nat
  bc : Nat
  l : List UInt8
def Ac.cs (a : Ac) : List Value := [.int .i64 a.x, .int .i64 a.n, .int .i64 a.m, .slice a.A a.bn a.bc]
structure ActsAt (w : World) (B : Nat) (A : Option Addr) (cs_ : List Ac) : Prop where
  cells : Reads w B 4 A cs_.length (cs_.flatMap Ac.cs)
  bs : ∀ a ∈ cs_, Bs w B a.A a.bn a.l
  cap : ∀ a ∈ cs_, a.bn ≤ a.bc ∧ a.bc ≤ 9223372036854775807
theorem ActsAt.below {w w' : World} {B : Nat} {A : Option Addr} {cs_ : List Ac} (h : ActsAt w B A cs_) (hb : Below B w w') : ActsAt w' B A cs_ :=
  ⟨h.cells.below hb, fun a ha => (h.bs a ha).below hb, h.cap⟩
theorem aflat_at {xs : List Ac} {k : Nat} {x : Ac} (h : xs[k]? = some x) (j : Nat) (hj : j < 4) : (xs.flatMap Ac.cs)[k * 4 + j]? = x.cs[j]? := by
  induction xs generalizing k with
  | nil => simp at h
  | cons y xs ih =>
    cases k with
    | zero =>
      simp at h
      subst h
      simp only [List.flatMap_cons, Nat.zero_mul, Nat.zero_add]
      rw [List.getElem?_append_left (by simp [Ac.cs]; omega)]
    | succ k =>
      simp at h
      have := ih h
      simp only [List.flatMap_cons]
      rw [List.getElem?_append_right (by simp [Ac.cs]; omega)]
      have e : (k + 1) * 4 + j - y.cs.length = k * 4 + j := by simp [Ac.cs]; omega
      rw [e]
      exact this
theorem ActsAt.at_ {w : World} {B : Nat} {A : Option Addr} {cs_ : List Ac} (h : ActsAt w B A cs_) {k : Nat} (hk : k < cs_.length) :
    ∃ ad a, A = some ad ∧ ad.block < B ∧ cs_[k]? = some a ∧ a ∈ cs_ ∧
      w.cell? (ad.add (k * 4)) = some (.int .i64 a.x) ∧ w.cell? ⟨(ad.add (k * 4)).block, (ad.add (k * 4)).off + 1, none⟩ = some (.int .i64 a.n) ∧
      w.cell? ⟨(ad.add (k * 4)).block, (ad.add (k * 4)).off + 2, none⟩ = some (.int .i64 a.m) ∧ w.cell? ⟨(ad.add (k * 4)).block, (ad.add (k * 4)).off + 3, none⟩ = some (.slice a.A a.bn a.bc) := by
  obtain ⟨ad, rfl, hb, hc⟩ := h.cells.addr (by rw [h.cells.1]; omega)
  have hx : cs_[k]? = some cs_[k] := List.getElem?_eq_getElem hk
  have key : ∀ j, j < 4 → ∀ u, (cs_[k]).cs[j]? = some u → w.cell? ((ad.add (k * 4)).add j) = some u := by
    intro j hj u hu
    rw [add_add_]
    exact hc _ u (by rw [aflat_at hx j hj]; exact hu)
  have far : ∀ j, 0 < j → (ad.add (k * 4)).add j = ⟨(ad.add (k * 4)).block, (ad.add (k * 4)).off + j, none⟩ := by
    intro j hj
    generalize ad.add (k * 4) = a
    unfold Addr.add
    rw [if_neg (by omega)]
  refine ⟨ad, cs_[k], rfl, hb, hx, List.getElem_mem hk, ?_, ?_, ?_, ?_⟩
  · have := key 0 (by omega) _ rfl
    simpa [Addr.add] using this
  · have := key 1 (by omega) _ rfl
    rw [far 1 (by omega)] at this
    exact this
  · have := key 2 (by omega) _ rfl
    rw [far 2 (by omega)] at this
    exact this
  · have := key 3 (by omega) _ rfl
    rw [far 3 (by omega)] at this
    exact this

/-- a file that came behind a world V -/
structure Sub (V W : World) (base q : Nat) (e : Option Nat) (G : Fl) : Prop where
  at_ : FlAt W base q e G
  below : Below V.heap.size V W
  hq : V.heap.size ≤ q
  he : ∀ g, e = some g → V.heap.size ≤ g
theorem Sub.step {V W W' : World} {base q : Nat} {e e' : Option Nat} {G G' : Fl} (h : Sub V W base q e G) (h2 : FlAt W' base q e' G') (S : Stp W W' q e) (hd : NewD W e e') : Sub V W' base q e' G' :=
  ⟨h2, h.below.trans (S.below h.hq h.he h.below.size), h.hq, fun g hg => by
    rcases hd g hg with e | e
    · exact h.he g e
    · exact Nat.le_trans h.below.size e⟩
theorem Sub.later {V W W' : World} {base q : Nat} {e : Option Nat} {G : Fl} (h : Sub V W base q e G) (hb : Below W.heap.size W W') : Sub V W' base q e G := ⟨h.at_.below hb, belFrom h.below hb, h.hq, h.he⟩
theorem Sub.new {w w' : World} {p : Nat} {d : Option Nat} {F : Fl} (h : FlAt w' w.heap.size p d F) (hb : Below w.heap.size w w') : Sub w w' w.heap.size p d F := ⟨h, hb, h.hp, fun g e => (h.dlt g e).1⟩
theorem Sub.turn {V W : World} {base q : Nat} {e : Option Nat} {G G' : Fl} {v : Value} {en : Ending} {W' : World} (h : Sub V W base q e G) (hp : TurnPost W base q e v G' en W') : en = .returned v ∧ ∃ e', Sub V W' base q e' G' := by
  obtain ⟨he, e', h2, S, hd⟩ := hp
  exact ⟨he, e', h.step h2 S hd⟩

theorem rest_crash0 (b : List UInt8) : (Fl.rest b).crash 0 = (0, .rest b) := by simp [Fl.crash, Fl.rest, crashL]
theorem rest_room (b : List UInt8) : (Fl.rest b).loose = 0 := rfl
theorem app1_crash5 (b : List UInt8) : ((Fl.rest b).app [1]).crash 5 = (1, .rest (b ++ [1])) := rfl
end Go.Proofs.Ythkflglmgadlmaa
