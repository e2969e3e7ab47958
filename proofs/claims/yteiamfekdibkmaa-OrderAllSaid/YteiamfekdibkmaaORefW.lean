/-
  THE REFERENCE's walk in memory; the walks of its Next and Seek. Conditions: as the theorems' premises say.
-/
import Derived.Test.YteiamfekdibkmaaORefAdd
import Derived.Test.YteiamfekdibkmaaOLeft
namespace Go.Proofs.Yteiamfekdibkmaa
open Go.RowKit Go.Shelf

/-- a header of integers -/
structure Ih where
  A : Option Addr
  c : Nat
  l : List Nat
instance : Inhabited Ih := ⟨⟨none, 0, []⟩⟩
def Ih.v (x : Ih) : Value := .slice x.A x.l.length x.c
theorem own_rd {w : World} {base : Nat} {A : Option Addr} {c : Nat} {L : List Hd} (h : OwnRow w base (.slice A L.length c) L) : RowR w w.heap.size A L :=
  ⟨by have h2 := h.row; exact Reads.of_own h2, fun x hx => good_own (h.bytes x hx)⟩
structure RefAt (w : World) (base ib p : Nat) (hs : List Hd) (is : List Ih) (at_ : Nat) : Prop where
  ex : ∃ kA kc iA ic, Blk w p 52 #[.slice kA hs.length kc, .slice iA is.length ic, .int .i64 (at_ : Int)] ∧ OwnRow w base (.slice kA hs.length kc) hs ∧ hs.length ≤ kc ∧ w.ownsRow ib 32 1 (.slice iA is.length ic) is.length (is.map Ih.v)
  ins : ∀ x ∈ is, w.ownsRow ib 3 1 x.v x.l.length (x.l.map iv)
  len : is.length = hs.length
  le : at_ ≤ hs.length
  few : hs.length ≤ 100000
theorem RefAt.below {w w' : World} {base ib p : Nat} {hs : List Hd} {is : List Ih} {a : Nat} (h : RefAt w base ib p hs is a) (hb : Below w.heap.size w w') : RefAt w' base ib p hs is a := by
  obtain ⟨kA, kc, iA, ic, h1, h2, h3, h4⟩ := h.ex
  exact ⟨⟨kA, kc, iA, ic, h1.below hb h1.lt, h2.later hb, h3, own_bel h4 hb⟩, fun x hx => own_bel (h.ins x hx) hb, h.len, h.le, h.few⟩
theorem RefAt.lt {w : World} {base ib p : Nat} {hs : List Hd} {is : List Ih} {a : Nat} (h : RefAt w base ib p hs is a) : p < w.heap.size := by
  obtain ⟨kA, kc, iA, ic, h1, _⟩ := h.ex
  exact h1.lt
/-- its number turns -/
theorem RefAt.set {w : World} {base ib p : Nat} {hs : List Hd} {is : List Ih} {a : Nat} (h : RefAt w base ib p hs is a) {b : Nat} (hb : b ≤ hs.length) : RefAt (w.setCell ⟨p, 2, none⟩ (.int .i64 (b : Int))) base ib p hs is b := by
  obtain ⟨kA, kc, iA, ic, h1, h2, h3, h4⟩ := h.ex
  have kp : ∀ {b e s m : Nat} {v : Value} {xs : List Value} (u : Value), w.ownsRow b e s v m xs → 52 ≠ e → (w.setCell ⟨p, 2, none⟩ u).ownsRow b e s v m xs := fun u ho he =>
    ho.kept (only_setCell (World.grownBy.refl _ _) (.inl rfl) _) (.inr (fun e => h1.mk_.ne_own ho he e.symm))
  refine ⟨⟨kA, kc, iA, ic, ?_, ⟨kp _ h2.row (by decide), fun x hx => kp _ (h2.bytes x hx) (by decide)⟩, h3, kp _ h4 (by decide)⟩, fun x hx => kp _ (h.ins x hx) (by decide), h.len, hb, h.few⟩
  have := h1.set_ 2 (.int .i64 (b : Int))
  simpa using this
theorem RefAt.drew {w : World} {base ib p : Nat} {hs : List Hd} {is : List Ih} {a : Nat} (h : RefAt w base ib p hs is a) (n : Nat) : RefAt (w.drewN n) base ib p hs is a := h.below (anyB _ _ _)
/-- what the reference's Next tells -/
def rnextP (w : World) (base ib p : Nat) (hs : List Hd) (is : List Ih) (a : Nat) (e : Ending) (w' : World) : Prop :=
  w.grownBy w' (some p) ∧ match hs[a]?, is[a]? with
  | some x, some y => e = .returned (.tuple #[.slice x.A x.l.length x.c, .slice y.A y.l.length y.c, .bool true]) ∧ RefAt w' base ib p hs is (a + 1)
  | _, _ => e = .returned (.tuple #[.slice none 0 0, .slice none 0 0, .bool false]) ∧ RefAt w' base ib p hs is a
set_option maxHeartbeats 2000000 in
theorem rwnext_any {w : World} {base ib p : Nat} {hs : List Hd} {is : List Ih} {a : Nat} (h : RefAt w base ib p hs is a) : Calls Try.prog 22 #[.pointer (some ⟨p, 0, none⟩)] w fun e w' => rnextP w base ib p hs is a e w' := by
  obtain ⟨kA, kc, iA, ic, h1, h2, h3, h4⟩ := h.ex
  have hle := h.le
  have hfew := h.few
  have hlen := h.len
  have H := hide h
  obtain ⟨q, hq⟩ : ∃ q, q = hs.length := ⟨_, rfl⟩
  rw [hlen] at h1 h4
  rw [← hq] at h1 hle hfew h4
  by_cases hlt : a < q
  · obtain ⟨x, hx⟩ : ∃ x, hs[a]? = some x := ⟨_, List.getElem?_eq_getElem (by rw [← hq]; exact hlt)⟩
    obtain ⟨y, hy⟩ : ∃ y, is[a]? = some y := ⟨_, List.getElem?_eq_getElem (by rw [hlen, ← hq]; exact hlt)⟩
    obtain ⟨g1, g2, g3⟩ := h1.facts
    obtain ⟨ad, rfl, _, c1⟩ := (own_rd h2).at_ hx
    obtain ⟨ad2, rfl, _, c2⟩ := (Reads.of_own h4).2 a y.v (by rw [List.getElem?_map, hy]; rfl)
    have hne1 : ad.block ≠ p := fun e => by
      have := h1.mk_.ne_own h2.row (by decide)
      exact this (by rw [← e]; rfl)
    have hne2 : ad2.block ≠ p := fun e => by
      have := h1.mk_.ne_own h4 (by decide)
      exact this (by rw [← e]; rfl)
    have HX := hide hx
    have HY := hide hy
    have HB1 := hide h1
    obtain ⟨xA, xc, xl⟩ := x
    obtain ⟨yA, yc, yl⟩ := y
    have c2' : w.cell? (ad2.add a) = some (.slice yA yl.length yc) := c2
    simp only at c1
    have haI : ¬ (a : Int) = (q : Int) := by omega
    have haB : ((a : Int) == (q : Int)) = false := by simp; omega
    have hw1 : (((a : Int) + 1) - 1) = (a : Int) := by omega
    have hwa : IntKind.i64.wrap ((a : Int) + 1) = (a : Int) + 1 := IntWalk.i64_in _ ⟨by omega, by omega⟩
    have hwb : IntKind.i64.wrap (a : Int) = (a : Int) := IntWalk.i64_in _ ⟨by omega, by omega⟩
    have haq : (a : Int) < (q : Int) := by omega
    clear h h1 h2 h4 hx hy c2 hlen
    go_enter Try.func22, Try.ntmps22
    go_upto_region 1 with fail
    go_quiet (fail)
    go_wp2_with fail
    have hb2 : Blk ((w.drewN nq).setCell ⟨p, 2, none⟩ (.int .i64 ((a : Int) + 1))) p 52 #[.slice (some ad) q kc, .slice (some ad2) q ic, .int .i64 ((a : Int) + 1)] := by
      have := (show Blk (w.drewN nq) p 52 _ from HB1.out).set_ 2 (.int .i64 ((a : Int) + 1))
      simpa using this
    have k0 := hb2.cell 0
    have k1 := hb2.cell 1
    have k2 := hb2.cell 2
    have k3 : ((w.drewN nq).setCell ⟨p, 2, none⟩ (.int .i64 ((a : Int) + 1))).cell? (ad.add a) = some (.slice xA xl.length xc) := (World.cell?_of_block (Below.heap_setCell _ _ _ _ (by rw [add_block]; exact hne1))).trans c1
    have k4 : ((w.drewN nq).setCell ⟨p, 2, none⟩ (.int .i64 ((a : Int) + 1))).cell? (ad2.add a) = some (.slice yA yl.length yc) := (World.cell?_of_block (Below.heap_setCell _ _ _ _ (by rw [add_block]; exact hne2))).trans c2'
    have HS : Hid (RefAt ((w.drewN nq).setCell ⟨p, 2, none⟩ (.int .i64 ((a : Int) + 1))) base ib p hs is (a + 1) ∧ w.grownBy ((w.drewN nq).setCell ⟨p, 2, none⟩ (.int .i64 ((a : Int) + 1))) (some p)) := hide ⟨(H.out.drew nq).set (b := a + 1) (by omega), (only_of_below (anyB w nq _) _).trans (only_setCell (World.grownBy.refl _ _) (.inl rfl) _)⟩
    clear hb2 g1 g2 g3 c1 c2'
    generalize (w.drewN nq).setCell ⟨p, 2, none⟩ (.int .i64 ((a : Int) + 1)) = W2 at k0 k1 k2 k3 k4 HS ⊢
    simp only [List.getElem?_toArray, List.getElem?_cons_zero, List.getElem?_cons_succ] at k0 k1 k2
    go_quiet (fail)
    go_wp2_with fail
    go_ret3
    refine ⟨HS.out.2.trans (only_of_below (anyB _ _ _) _), ?_⟩
    rw [HX.out, HY.out]
    exact ⟨rfl, HS.out.1.drew _⟩
  · obtain rfl : a = q := by omega
    obtain ⟨g1, g2, g3⟩ := h1.facts
    have hn : hs[a]? = none := List.getElem?_eq_none (by omega)
    have HN := hide hn
    have haB : ((a : Int) == (a : Int)) = true := by simp
    clear h h1 h2 h4 hlen hq hn
    go_enter Try.func22, Try.ntmps22
    go_upto_region 1 with fail
    go_quiet (fail)
    go_wp2_with fail
    go_ret3
    refine ⟨only_of_below (anyB _ _ _) _, ?_⟩
    rw [HN.out]
    exact ⟨rfl, H.out.drew _⟩
set_option maxHeartbeats 2000000 in
theorem rwseek_any {w : World} {base ib p : Nat} {hs : List Hd} {is : List Ih} {a : Nat} (h : RefAt w base ib p hs is a) (hok : RowOk (keys hs)) (A : Option Addr) (m d B : Nat) (k : Key) (hk : Bs w B A m k) :
    Calls Try.prog 23 #[.pointer (some ⟨p, 0, none⟩), .slice A m d] w fun e w' => e = .returned (.int .i64 (if mayK k then 0 else 1)) ∧ RefAt w' base ib p hs is (if mayK k then posL k (keys hs) else a) ∧ w.grownBy w' (some p) := by
  have C1 := hide (rmay1_any A m d k hk.len.symm w)
  cases hm : mayK k with
  | false =>
    rw [hm] at C1
    have H := hide h
    clear h hk hm hok
    go_enter Try.func23, Try.ntmps23
    go_wp2_with fail
    refine C1.out.mono ?_
    rintro e w1 ⟨rfl, rfl⟩
    go_wp2_with fail
    go_ret
    exact ⟨rfl, H.out, World.grownBy.refl _ _⟩
  | true =>
    rw [hm] at C1
    obtain ⟨kA, kc, iA, ic, h1, h2, h3, h4⟩ := h.ex
    have C2 := rsearch_any kA A hs.length kc m d w.heap.size B hs k w (own_rd h2) rfl (by have := h.few; omega) hk
    unfold searchO at C2
    rw [mayR_iff.2 hok, if_pos rfl] at C2
    simp only at C2
    obtain ⟨r, hr⟩ : ∃ r, r = posL k (keys hs) := ⟨_, rfl⟩
    have hrle := posL_le k (keys hs)
    rw [← hr, List.length_map] at hrle
    rw [← hr] at C2 ⊢
    generalize isL k (keys hs) = ib2 at C2
    have C2H := hide C2
    have H := hide h
    have HR := hide hrle
    obtain ⟨q, hq⟩ : ∃ q, q = hs.length := ⟨_, rfl⟩
    rw [← hq] at h1 C2H
    obtain ⟨g1, g2, g3⟩ := h1.facts
    clear h hk hm hok h1 h2 h3 h4 C2 hr hrle hq
    go_enter Try.func23, Try.ntmps23
    go_wp2_with fail
    refine C1.out.mono ?_
    rintro e w1 ⟨rfl, rfl⟩
    go_wp2_with fail
    refine C2H.out.mono ?_
    rintro e w2 ⟨rfl, hb2⟩
    have h2 := H.out.below (hb2 _)
    obtain ⟨kA', kc', iA', ic', h1', _⟩ := h2.ex
    obtain ⟨f1, f2, f3⟩ := h1'.facts
    have HS := hide (h2.set HR.out)
    have HG := hide (only_of_below (hb2 w.heap.size) (some p))
    clear h1' h2 hb2 g1 g2 g3
    go_wp2_with fail
    go_ret
    exact ⟨rfl, HS.out, HG.out.trans (only_setCell (World.grownBy.refl _ _) (.inl rfl) _)⟩
end Go.Proofs.Yteiamfekdibkmaa
