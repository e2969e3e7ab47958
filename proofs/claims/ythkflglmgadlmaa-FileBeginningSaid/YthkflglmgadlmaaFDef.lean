/-
  A FILE, PLAIN: safe bytes, all bytes, and the deeds between; what a crash leaves. No program. Conditions: none.
-/
import Derived.Test.YthkflglmgadlmaaLib
namespace Go.Proofs.Ythkflglmgadlmaa
open Go.RowKit

inductive Dd where
  | add (l : List UInt8)
  | cut (c : Nat)

def Dd.units : Dd → Nat
  | .add l => l.length
  | .cut _ => 1
def Dd.does : Dd → List UInt8 → Nat → List UInt8
  | .add l, b, n => b ++ l.take n
  | .cut c, b, n => if n = 0 then b else b.take c
def Dd.full (d : Dd) (b : List UInt8) : List UInt8 := d.does b d.units
def Dd.fits : Dd → List UInt8 → Prop
  | .add l, _ => 0 < l.length
  | .cut c, b => c < b.length
/-- deeds that lead from bytes to bytes -/
def okD : List UInt8 → List Dd → List UInt8 → Prop
  | b, [], n => b = n
  | b, d :: ds, n => d.fits b ∧ okD (d.full b) ds n
def loose : List Dd → Nat
  | [] => 0
  | d :: ds => d.units + loose ds
/-- what a crash that keeps so many units makes -/
def crashL : List Dd → Nat → Nat → List UInt8 → Nat × List UInt8
  | [], _, kept, b => (kept, b)
  | d :: ds, keep, kept, b => crashL ds keep (kept + min d.units (keep - kept)) (d.does b (min d.units (keep - kept)))

structure Fl where
  safe : List UInt8
  now : List UInt8
  deeds : List Dd
def Fl.loose (F : Fl) : Nat := Ythkflglmgadlmaa.loose F.deeds
def Fl.ok (F : Fl) : Prop := okD F.safe F.deeds F.now
def Fl.done (F : Fl) (d : Dd) : Fl := ⟨F.safe, d.full F.now, F.deeds ++ [d]⟩
def Fl.app (F : Fl) (l : List UInt8) : Fl := if l.length = 0 then F else F.done (.add l)
def Fl.cut (F : Fl) (c : Nat) : Fl := if c < F.now.length then F.done (.cut c) else F
def Fl.rest (b : List UInt8) : Fl := ⟨b, b, []⟩
def Fl.crash (F : Fl) (k : Nat) : Nat × Fl := ((crashL F.deeds k 0 F.safe).1, .rest (crashL F.deeds k 0 F.safe).2)

theorem okD_snoc {d : Dd} : ∀ {ds : List Dd} {b n : List UInt8}, okD b ds n → d.fits n → okD b (ds ++ [d]) (d.full n)
  | [], b, n, h, hf => by
    have h' : b = n := h
    subst h'
    exact ⟨hf, rfl⟩
  | e :: ds, b, n, h, hf => ⟨h.1, okD_snoc h.2 hf⟩
theorem Fl.ok_done {F : Fl} {d : Dd} (h : F.ok) (hf : d.fits F.now) : (F.done d).ok := okD_snoc h hf
theorem Fl.ok_rest (b : List UInt8) : (Fl.rest b).ok := rfl
theorem Fl.ok_app {F : Fl} (h : F.ok) (l : List UInt8) : (F.app l).ok := by
  unfold Fl.app
  split
  · exact h
  · exact Fl.ok_done h (by show 0 < l.length; omega)
theorem Fl.ok_cut {F : Fl} (h : F.ok) (c : Nat) : (F.cut c).ok := by
  unfold Fl.cut
  split
  · rename_i hc
    exact Fl.ok_done h hc
  · exact h
theorem loose_append (a b : List Dd) : loose (a ++ b) = loose a + loose b := by
  induction a with
  | nil => simp [loose]
  | cons d a ih => simp [loose, ih]; omega
theorem full_add (l b : List UInt8) : (Dd.add l).full b = b ++ l := by simp [Dd.full, Dd.does, Dd.units]
theorem full_cut (c : Nat) (b : List UInt8) : (Dd.cut c).full b = b.take c := by simp [Dd.full, Dd.does, Dd.units]
theorem does_le (d : Dd) (b : List UInt8) (n : Nat) (hn : n ≤ d.units) : (d.does b n).length ≤ b.length + n := by
  cases d with
  | add l => simp [Dd.does, Dd.units] at hn ⊢; omega
  | cut c =>
    simp only [Dd.does]
    split
    · omega
    · simp; omega
theorem okD_len : ∀ {ds : List Dd} {b n : List UInt8}, okD b ds n → n.length ≤ b.length + loose ds
  | [], b, n, h => by
    have h' : b = n := h
    subst h'
    simp [loose]
  | d :: ds, b, n, h => by
    have h1 := okD_len h.2
    have h2 := does_le d b d.units (Nat.le_refl _)
    simp only [loose]
    unfold Dd.full at h1
    omega
theorem okD_count : ∀ {ds : List Dd} {b n : List UInt8}, okD b ds n → ds.length ≤ loose ds
  | [], _, _, _ => Nat.le_refl _
  | d :: ds, b, n, h => by
    have h1 := okD_count h.2
    have h2 : 1 ≤ d.units := by
      have := h.1
      cases d with
      | add l => exact this
      | cut c => exact Nat.le_refl _
    simp only [loose, List.length_cons]
    omega
theorem Fl.len (F : Fl) (h : F.ok) : F.now.length ≤ F.safe.length + F.loose := okD_len h
theorem Fl.count (F : Fl) (h : F.ok) : F.deeds.length ≤ F.loose := okD_count h
theorem Fl.loose_done (F : Fl) (d : Dd) : (F.done d).loose = F.loose + d.units := by simp [Fl.loose, Fl.done, loose_append, Ythkflglmgadlmaa.loose]

/-- a crash that keeps all that there is -/
theorem crashL_all : ∀ (ds : List Dd) (keep kept : Nat) (b n : List UInt8), okD b ds n → kept + loose ds ≤ keep → crashL ds keep kept b = (kept + loose ds, n)
  | [], keep, kept, b, n, h, hk => by
    have h' : b = n := h
    subst h'
    simp [crashL, loose]
  | d :: ds, keep, kept, b, n, h, hk => by
    simp only [loose] at hk
    have e : min d.units (keep - kept) = d.units := by omega
    simp only [crashL, e]
    have := crashL_all ds keep (kept + d.units) (d.full b) n h.2 (by omega)
    unfold Dd.full at this
    rw [this]
    simp only [loose]
    congr 1
    omega
theorem does_zero (d : Dd) (b : List UInt8) : d.does b 0 = b := by cases d <;> simp [Dd.does]
/-- no more units to keep -/
theorem crashL_full : ∀ (ds : List Dd) (keep : Nat) (b : List UInt8), crashL ds keep keep b = (keep, b)
  | [], _, _ => rfl
  | d :: ds, keep, b => by
    simp only [crashL, Nat.sub_self, Nat.min_zero, Nat.add_zero, does_zero]
    exact crashL_full ds keep b
theorem crashL_kept : ∀ (ds : List Dd) (keep kept : Nat) (b : List UInt8), kept ≤ keep → (crashL ds keep kept b).1 = min keep (kept + loose ds)
  | [], keep, kept, b, h => by simp [crashL, loose]; omega
  | d :: ds, keep, kept, b, h => by
    simp only [crashL]
    rw [crashL_kept ds keep _ _ (by omega)]
    simp only [loose]
    omega
theorem crashL_len : ∀ (ds : List Dd) (keep kept : Nat) (b : List UInt8), (crashL ds keep kept b).2.length ≤ b.length + loose ds
  | [], keep, kept, b => by simp [crashL]
  | d :: ds, keep, kept, b => by
    simp only [crashL, loose]
    have h1 := crashL_len ds keep (kept + min d.units (keep - kept)) (d.does b (min d.units (keep - kept)))
    have h2 := does_le d b (min d.units (keep - kept)) (by omega)
    omega
end Go.Proofs.Ythkflglmgadlmaa
