/-
  BYTES OF SOME BLOCKS MAY HAVE TURNED. Conditions: as the theorems' premises say.
-/
import Derived.Test.YteiamfekdibkmaaOOwn
namespace Go.Proofs.Yteiamfekdibkmaa
open Go.RowKit Go.Shelf

structure Xd (P : Nat → Prop) (w w' : World) : Prop where
  os : w'.os = w.os
  tape : w'.tape = w.tape
  output : w'.output = w.output
  size : w'.heap.size = w.heap.size
  out : ∀ g, ¬ P g → w'.heap[g]? = w.heap[g]?
  byt : ∀ g cs, P g → Blk w g 5 cs → ∃ cs', Blk w' g 5 cs' ∧ ∀ (j : Nat) b, cs[j]? = some (.int .u8 b) → ∃ b', cs'[j]? = some (.int .u8 b')
theorem Xd.refl (P : Nat → Prop) (w : World) : Xd P w w := ⟨rfl, rfl, rfl, rfl, fun _ _ => rfl, fun _ cs _ h => ⟨cs, h, fun _ b h => ⟨b, h⟩⟩⟩
theorem Xd.bel {P : Nat → Prop} {w w' : World} (h : Xd P w w') {B : Nat} (hP : ∀ g, P g → B ≤ g) : Below B w w' :=
  ⟨h.os, h.tape, h.output, Nat.le_of_eq h.size.symm, fun k hk => h.out k (fun hp => by have := hP k hp; omega)⟩
theorem Xd.byte {P : Nat → Prop} {w w' : World} (h : Xd P w w') {base : Nat} {x : Hd} (ho : w.ownsRow base 5 1 x.v x.l.length (x.l.map bv)) (hp : ∀ g, x.v.ownBlock = some g → P g) {j : Nat} (hj : j < x.l.length) :
    ∃ g b cs, x.A = some ⟨g, 0, none⟩ ∧ P g ∧ Blk w' g 5 cs ∧ cs[j]? = some (.int .u8 b) := by
  have hn := ho.2
  rcases hn with ⟨_, h0⟩ | ⟨g, cap, cur, e, hb, hg, h1, h2, h3, h4⟩
  · omega
  · have hA : x.A = some ⟨g, 0, none⟩ := by have := e; simp [Hd.v] at this; exact this.1
    have hP : P g := hp g (by unfold Hd.v; rw [hA]; rfl)
    obtain ⟨cs', hb', hv⟩ := h.byt g cur hP hg
    have hc : cur[j]? = some (bv x.l[j]) := by
      have h5 : (cur.toList.take (x.l.length * 1))[j]? = (x.l.map bv)[j]? := by rw [h4]
      rw [List.getElem?_take_of_lt (by omega), Array.getElem?_toList, List.getElem?_map, List.getElem?_eq_getElem hj] at h5
      exact h5
    obtain ⟨b', hb2⟩ := hv j _ hc
    exact ⟨g, b', cs', hA, hP, hb', hb2⟩
theorem Xd.set {P : Nat → Prop} {w w' : World} (h : Xd P w w') {g j : Nat} {cs : Array Value} {b b0 : Int} (hp : P g) (hb : Blk w' g 5 cs) (hj : cs[j]? = some (.int .u8 b0)) : Xd P w (w'.setCell ⟨g, j, none⟩ (.int .u8 b)) := by
  refine ⟨h.os, h.tape, h.output, by rw [← h.size]; simp [World.setCell], fun q hq => ?_, fun q cs1 hq h1 => ?_⟩
  · rw [Below.heap_setCell w' ⟨g, j, none⟩ _ q (fun e => hq (by rw [e]; exact hp))]
    exact h.out q hq
  · obtain ⟨cs2, h2, h3⟩ := h.byt q cs1 hq h1
    by_cases hqg : q = g
    · subst hqg
      have e : cs2 = cs := by
        have := h2.symm.trans hb
        simpa using this
      subst e
      refine ⟨_, h2.set_ j _, fun i c hi => ?_⟩
      obtain ⟨c', hc'⟩ := h3 i c hi
      rw [Array.getElem?_setIfInBounds]
      by_cases hij : j = i
      · subst hij
        rw [if_pos rfl, if_pos (Array.getElem?_eq_some_iff.1 hc').1]
        exact ⟨_, rfl⟩
      · rw [if_neg hij]
        exact ⟨c', hc'⟩
    · exact ⟨cs2, h2.far hqg _, h3⟩
/-- rows of other blocks stay -/
theorem Xd.own {P : Nat → Prop} {w w' : World} (h : Xd P w w') {base : Nat} {e : TypeId} {s n : Nat} {v : Value} {xs : List Value} (ho : w.ownsRow base e s v n xs) (hp : ∀ g, v.ownBlock = some g → ¬ P g) : w'.ownsRow base e s v n xs := by
  refine ⟨ho.1, ?_⟩
  rcases ho.2 with hn | ⟨g, cap, cur, rfl, hb, hg, rest⟩
  · exact .inl hn
  · refine .inr ⟨g, cap, cur, rfl, hb, ?_, rest⟩
    rw [h.out g (hp g rfl)]
    exact hg
theorem own_blk {w : World} {base : Nat} {e : TypeId} {s n : Nat} {v : Value} {xs : List Value} (ho : w.ownsRow base e s v n xs) {g : Nat} (hg : v.ownBlock = some g) : ∃ cs, Blk w g e cs := by
  rcases ho.2 with ⟨rfl, _⟩ | ⟨g', cap, cur, rfl, hb, hgg, rest⟩
  · cases hg
  · cases hg
    exact ⟨cur, hgg⟩
/-- a row of another type lies in none of the blocks whose bytes may turn -/
theorem own_not5 {w : World} {base : Nat} {e : TypeId} {s n : Nat} {v : Value} {xs : List Value} (ho : w.ownsRow base e s v n xs) (he : e ≠ 5) {g : Nat} (hg : v.ownBlock = some g) : ¬ ∃ cs, Blk w g 5 cs := by
  rintro ⟨cs, h⟩
  obtain ⟨cs', h'⟩ := own_blk ho hg
  have := h'.symm.trans h
  simp at this
  exact he this.2
end Go.Proofs.Yteiamfekdibkmaa
