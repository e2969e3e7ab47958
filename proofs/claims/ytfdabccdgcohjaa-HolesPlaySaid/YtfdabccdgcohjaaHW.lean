/-
  HOLES IN MEMORY: a row of stretches as cells, the struct that holds it. Conditions: none.
-/
import Derived.Test.YtfdabccdgcohjaaHDef
import Derived.Test.YtfdabccdgcohjaaLib
namespace Go.Proofs.Ytfdabccdgcohjaa
open Go.RowKit

def St.cs (s : St) : List Value := [.int .u64 (s.lo : Int), .int .u64 (s.hi : Int)]
abbrev stc (L : List St) : List Value := L.flatMap St.cs
theorem stc_cons (s : St) (r : List St) : stc (s :: r) = .int .u64 (s.lo : Int) :: .int .u64 (s.hi : Int) :: stc r := rfl
theorem stc_len : ∀ L : List St, (stc L).length = L.length * 2
  | [] => rfl
  | s :: r => by
    rw [stc_cons, List.length_cons, List.length_cons, stc_len r, List.length_cons]
    omega
theorem stc_app (X Y : List St) : stc (X ++ Y) = stc X ++ stc Y := List.flatMap_append
theorem stc_one (L : List St) : ∀ u ∈ stc L, u.oneCell' = true := by
  intro u hu
  obtain ⟨s, _, hs⟩ := List.mem_flatMap.1 hu
  simp only [St.cs, List.mem_cons, List.not_mem_nil, or_false] at hs
  rcases hs with rfl | rfl <;> rfl
theorem stc_take : ∀ (L : List St) (i : Nat), (stc L).take (i * 2) = stc (L.take i)
  | [], i => by simp
  | s :: r, 0 => by simp
  | s :: r, i + 1 => by
    rw [List.take_succ_cons, stc_cons, stc_cons, ← stc_take r i, show (i + 1) * 2 = i * 2 + 2 by omega]
    rfl
theorem stc_drop : ∀ (L : List St) (i : Nat), (stc L).drop (i * 2) = stc (L.drop i)
  | [], i => by simp
  | s :: r, 0 => by simp
  | s :: r, i + 1 => by
    rw [List.drop_succ_cons, stc_cons, ← stc_drop r i, show (i + 1) * 2 = i * 2 + 2 by omega]
    rfl
theorem stc_at {L : List St} {k : Nat} {s : St} (h : L[k]? = some s) : (stc L)[k * 2]? = some (.int .u64 (s.lo : Int)) ∧ (stc L)[k * 2 + 1]? = some (.int .u64 (s.hi : Int)) := by
  induction L generalizing k with
  | nil => simp at h
  | cons y r ih =>
    cases k with
    | zero =>
      simp at h
      subst h
      exact ⟨rfl, rfl⟩
    | succ k =>
      simp at h
      obtain ⟨h1, h2⟩ := ih h
      rw [show (k + 1) * 2 = k * 2 + 2 by omega, show k * 2 + 2 + 1 = k * 2 + 1 + 2 by omega]
      exact ⟨h1, h2⟩

/-- a slice that reads as stretches -/
abbrev RdS (w : World) (B : Nat) (A : Option Addr) (L : List St) : Prop := Reads w B 2 A L.length (stc L)
/-- a row of stretches of the call's own -/
abbrev OwnS (w : World) (base : Nat) (v : Value) (L : List St) : Prop := w.ownsRow base 41 2 v L.length (stc L)
theorem RdS.at_ {w : World} {B : Nat} {A : Option Addr} {L : List St} (h : RdS w B A L) {k : Nat} {s : St} (hk : L[k]? = some s) :
    ∃ ad, A = some ad ∧ ad.block < B ∧ w.cell? (ad.add (k * 2)) = some (.int .u64 (s.lo : Int)) ∧ w.cell? ⟨(ad.add (k * 2)).block, (ad.add (k * 2)).off + 1, none⟩ = some (.int .u64 (s.hi : Int)) := by
  obtain ⟨h1, h2⟩ := stc_at hk
  obtain ⟨ad, rfl, hb, hc⟩ := h.2 _ _ h1
  obtain ⟨ad', e, _, hc2⟩ := h.2 _ _ h2
  cases e
  refine ⟨ad, rfl, hb, hc, ?_⟩
  rw [← add_add_] at hc2
  rw [← hc2]
  generalize ad.add (k * 2) = a
  unfold Addr.add
  rw [if_neg (by omega)]
theorem own_kept41 {w w' : World} {base : Nat} {v : Value} {L : List St} {p : Nat} {cs : Array Value} (h : OwnS w base v L) (hp : Mk w p 61 cs) (hg : w.grownBy w' (some p)) : OwnS w' base v L :=
  h.kept hg (.inr (by
    have := hp.ne_own h (by decide)
    exact fun e => this e.symm))

/-- holes at p -/
structure HoAt (w : World) (base p : Nat) (L : List St) : Prop where
  ex : ∃ v, Blk w p 61 #[v, .bool true] ∧ OwnS w base v L
  hp : base ≤ p
  ok : Canon L
end Go.Proofs.Ytfdabccdgcohjaa
