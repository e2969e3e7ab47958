/-
  THE WALK of HolesPlay. Conditions: as the theorems' premises say.
-/
import Derived.Test.YtfdabccdgcohjaaHRAsk
import Derived.Test.YtfdabccdgcohjaaHWakes
import Derived.Deep.RegionHeld3
namespace Go.Proofs.Ytfdabccdgcohjaa
open Go.RowKit Go.Shelf

theorem foundO_ok' (L : List St) {n : Nat} (h1 : 1 ≤ n) (h2 : n ≤ 1099511627776) : (foundO n L).1 = 0 := by
  unfold foundO
  rw [if_neg (by omega)]
  split
  · rfl
  · split <;> rfl
/-- a call of the argument -/
structure Ac where
  what : Int
  a : Nat
  b : Nat
def Ac.cs (x : Ac) : List Value := [.int .i64 x.what, .int .u64 (x.a : Int), .int .u64 (x.b : Int)]
abbrev acc (l : List Ac) : List Value := l.flatMap Ac.cs
theorem acc_cons (x : Ac) (r : List Ac) : acc (x :: r) = .int .i64 x.what :: .int .u64 (x.a : Int) :: .int .u64 (x.b : Int) :: acc r := rfl
theorem acc_at {L : List Ac} {k : Nat} {x : Ac} (h : L[k]? = some x) : (acc L)[k * 3]? = some (.int .i64 x.what) ∧ (acc L)[k * 3 + 1]? = some (.int .u64 (x.a : Int)) ∧ (acc L)[k * 3 + 2]? = some (.int .u64 (x.b : Int)) := by
  induction L generalizing k with
  | nil => simp at h
  | cons y r ih =>
    cases k with
    | zero =>
      simp at h
      subst h
      exact ⟨rfl, rfl, rfl⟩
    | succ k =>
      simp at h
      obtain ⟨h1, h2, h3⟩ := ih h
      rw [show (k + 1) * 3 = k * 3 + 3 by omega, show k * 3 + 3 + 1 = k * 3 + 1 + 3 by omega, show k * 3 + 3 + 2 = k * 3 + 2 + 3 by omega]
      exact ⟨h1, h2, h3⟩
abbrev RdA (w : World) (B : Nat) (A : Option Addr) (l : List Ac) : Prop := Reads w B 3 A l.length (acc l)
theorem RdA.at_ {w : World} {B : Nat} {A : Option Addr} {l : List Ac} (h : RdA w B A l) {k : Nat} {x : Ac} (hk : l[k]? = some x) :
    ∃ ad, A = some ad ∧ ad.block < B ∧ w.cell? (ad.add (k * 3)) = some (.int .i64 x.what) ∧ w.cell? ⟨(ad.add (k * 3)).block, (ad.add (k * 3)).off + 1, none⟩ = some (.int .u64 (x.a : Int)) ∧ w.cell? ⟨(ad.add (k * 3)).block, (ad.add (k * 3)).off + 2, none⟩ = some (.int .u64 (x.b : Int)) := by
  obtain ⟨h1, h2, h3⟩ := acc_at hk
  obtain ⟨ad, rfl, hb, hc⟩ := h.2 _ _ h1
  obtain ⟨ad', e, _, hc2⟩ := h.2 _ _ h2
  cases e
  obtain ⟨ad', e, _, hc3⟩ := h.2 _ _ h3
  cases e
  refine ⟨ad, rfl, hb, hc, ?_, ?_⟩
  · rw [← add_add_] at hc2
    rw [← hc2]
    generalize ad.add (k * 3) = a
    unfold Addr.add
    rw [if_neg (by omega)]
  · rw [← add_add_] at hc3
    rw [← hc3]
    generalize ad.add (k * 3) = a
    unfold Addr.add
    rw [if_neg (by omega)]
/-- both holes, of the call's own -/
structure PlayAt (w W : World) (p q : Nat) (L : List St) (S : List Sd) (i : Nat) : Prop where
  h : HoAt W w.heap.size p L
  r : RefAt W w.heap.size q S
  below : Below w.heap.size w W
  same : ∀ n, has L n = hasR S n
  ll : L.length ≤ i
  sl : S.length ≤ i
section
variable {w W W' : World} {p q i : Nat} {L : List St} {S : List Sd}
theorem PlayAt.later (h : PlayAt w W p q L S i) (hb : Below W.heap.size W W') : PlayAt w W' p q L S i :=
  ⟨h.h.below hb, h.r.below hb, belFrom h.below hb, h.same, h.ll, h.sl⟩
theorem PlayAt.more (h : PlayAt w W p q L S i) {j : Nat} (hj : i ≤ j) : PlayAt w W p q L S j :=
  ⟨h.h, h.r, h.below, h.same, Nat.le_trans h.ll hj, Nat.le_trans h.sl hj⟩
end

set_option maxRecDepth 100000 in
set_option maxHeartbeats 4000000 in
theorem play_any (w : World) (A : Option Addr) (m c : Nat) (l : List Ac) (hl : ∀ x ∈ l, x.a < 18446744073709551616 ∧ x.b < 18446744073709551616) (rd : RdA w w.heap.size A l) (hm : m = l.length) :
    Calls Try.prog 6 #[.slice A m c] w fun e w' => e = .returned (.bool true) ∧ Below w.heap.size w w' := by
  have RD := hide rd
  have HM := hide hm
  have HL := hide hl
  clear rd hm hl
  go_enter Try.func6, Try.ntmps6
  go_wp2_with fail
  refine (new_any w).mono ?_
  rintro e w1 ⟨p0, rfl, h1, hb1, -⟩
  have HO := hide (OwnH.new h1 hb1)
  clear h1 hb1
  go_upto_region 2 with fail
  have HQ0 : Hid (PlayAt w (w1.alloc (.cells #[.slice none 0 0] 50)) p0 w1.heap.size [] [] 0) :=
    hide ⟨HO.out.at_.below (bel1 _ _), ⟨⟨.slice none 0 0, Blk.new w1 50 _, World.ownsRow_nil _ _ _ _⟩, HO.out.below.size, fun x hx => by cases hx⟩, belFrom HO.out.below (bel1 _ _), fun n => rfl, Nat.le_refl _, Nat.le_refl _⟩
  clear HO
  generalize w1.alloc (.cells #[.slice none 0 0] 50) = w2 at HQ0 ⊢
  generalize w1.heap.size = q at HQ0 ⊢
  go_wp2_with fail
  go_loopw [3, 17] (fun v3 v17 W => ∃ (i p : Nat) (L : List St) (S : List Sd), i ≤ 40 ∧ i ≤ m ∧ v17 = .int .i64 i ∧ v3 = .pointer (some ⟨p, 0, none⟩) ∧ Hid (PlayAt w W p q L S i)) (fun _ v17 _ => m - (intOf v17).toNat)
  case atStart => exact ⟨0, p0, [], [], by omega, by omega, rfl, rfl, HQ0⟩
  case round =>
    obtain ⟨i, p, L, S, hi40, him, rfl, rfl, HP⟩ := hrel
    clear HQ0
    by_cases hlt : i < m
    · obtain ⟨x, hx⟩ : ∃ x, l[i]? = some x := ⟨_, List.getElem?_eq_getElem (by rw [← HM.out]; exact hlt)⟩
      obtain ⟨ad, rfl, hab, c1, c2, c3⟩ := RdA.at_ (RD.out.below HP.out.below) hx
      obtain ⟨ha, hb⟩ := HL.out x (List.mem_of_getElem? hx)
      have hiI : (i : Int) < (m : Int) := by omega
      obtain ⟨what, a, b⟩ := x
      simp only at c1 c2 c3 ha hb
      have hsz := HP.out.below.size
      clear hx
      by_cases h40 : i = 40
      · have h40' : ((i : Int) == 40) = true := by simp; omega
        clear h40 hi40
        go_wp2_with fail
        refine (wakes_any _).mono ?_
        rintro e wz ⟨rfl, hbz⟩
        go_wp2_with fail
        go_ret
        exact ⟨rfl, belFrom (belFrom HP.out.below (bel1 _ _)) hbz⟩
      · have h40' : ((i : Int) == 40) = false := by simp; omega
        have hi39 : i < 40 := by omega
        clear h40 hi40
        go_upto_region 7 with fail
        have HBX := hide (Blk.new wr 52 #[.int .i64 what, .int .u64 (a : Int), .int .u64 (b : Int)])
        have HP1 := hide (HP.out.later (bel1 wr (.cells #[.int .i64 what, .int .u64 (a : Int), .int .u64 (b : Int)] 52)))
        have hpb : wr.heap.size ≠ p := by have := HP.out.h.lt; omega
        have hbx : w.heap.size ≤ wr.heap.size := hsz
        clear c1 c2 c3 HP
        generalize wr.alloc (.cells #[.int .i64 what, .int .u64 (a : Int), .int .u64 (b : Int)] 52) = W1 at HBX HP1 ⊢
        generalize wr.heap.size = bx at HBX hpb hbx ⊢
        clear hsz hab
        obtain ⟨b1, b2, b3⟩ := HBX.out.facts
        go_upto_block 2 with fail
        clear b1 b2 b3
        go_cut [3, 7] (fun v3 v7 W => ∃ (p' : Nat) (L' : List St) (S' : List Sd), v3 = .pointer (some ⟨p', 0, none⟩) ∧ v7 = .bool true ∧ Hid (PlayAt w W p' q L' S' (i + 1)) ∧ Hid (Blk W bx 52 #[.int .i64 what, .int .u64 (a : Int), .int .u64 (b : Int)]))
        case first =>
          have B0 : Below W1.heap.size W1 W1.drew := ⟨rfl, rfl, rfl, Nat.le_refl _, fun _ _ => rfl⟩
          by_cases hw01 : what = 0 ∨ what = 1
          · obtain ⟨r1, hr1⟩ : ∃ r1, r1 = (addO a b L).1 := ⟨_, rfl⟩
            have hPd := HP1.out.later B0
            have C1 : Calls Try.prog 10 #[.pointer (some ⟨p, 0, none⟩), .int .u64 a, .int .u64 b] W1.drew fun e w' => e = .returned (.int .i64 r1) ∧ HoAt w' w.heap.size p (addO a b L).2 ∧ W1.drew.grownBy w' (some p) ∧ Blk w' bx 52 #[.int .i64 what, .int .u64 (a : Int), .int .u64 (b : Int)] :=
              (add_any hPd.h a b (by omega) (by omega) (by have := hPd.ll; omega)).mono fun e w' ⟨he, h2, hg⟩ => ⟨by rw [hr1]; exact he, h2, hg, Blk.grown (w := W1.drew) HBX.out hg (by simpa using hpb)⟩
            have C2 : ∀ w2, HoAt w2 w.heap.size p (addO a b L).2 → W1.drew.grownBy w2 (some p) → Blk w2 bx 52 #[.int .i64 what, .int .u64 (a : Int), .int .u64 (b : Int)] → Calls Try.prog 19 #[.pointer (some ⟨q, 0, none⟩), .int .u64 a, .int .u64 b] w2 fun e w' => e = .returned (.int .i64 r1) ∧ (∃ S', PlayAt w w' p q (addO a b L).2 S' (i + 1)) ∧ Blk w' bx 52 #[.int .i64 what, .int .u64 (a : Int), .int .u64 (b : Int)] := fun w2 h2 hg hbk => by
              have hr2 := hPd.r.other hPd.h hg
              have hbl := hPd.below.grown hg hPd.below.size (fun j hj => by cases hj; exact hPd.h.hp)
              refine (radd_any hr2 a b (by omega) (by omega) (by have := hPd.sl; omega) hbl.size).mono ?_
              have hlen := addO_len a b L
              rintro e w' (⟨hor, rfl, rfl⟩ | ⟨g1, g2, rfl, hr3, hc⟩)
              · have e1 : addO a b L = (1, L) := by unfold addO; rw [if_pos hor]
                rw [e1] at h2 hr1 ⊢
                exact ⟨by rw [hr1], ⟨S, ⟨h2, hr2, hbl, hPd.same, by show L.length ≤ i + 1; have := hPd.ll; omega, by have := hPd.sl; omega⟩⟩, hbk⟩
              · have e1 : (addO a b L).1 = 0 := by unfold addO; rw [if_neg (by omega)]; split <;> rfl
                exact ⟨by rw [hr1, e1], ⟨S ++ [⟨a, b, true⟩], ⟨h2.chg hc, hr3, hc.below hbl, hasR_add hPd.h.ok hPd.same g1 g2, by have := hPd.ll; omega, by have := hPd.sl; simp; omega⟩⟩, hc.blk hbk (by decide) (by decide)⟩
            have C1H := hide C1
            have C2H := hide C2
            clear C1 C2 hr1 hPd
            rcases hw01 with rfl | rfl
            all_goals (
              go_upto_region 10 with fail
              go_region_held3 (fun W => W.cell? ⟨bx, 1, none⟩ = some (.int .u64 (a : Int)) ∧ W.cell? ⟨bx, 2, none⟩ = some (.int .u64 (b : Int))) (first | exact ⟨HBX.out.cell 1, HBX.out.cell 2⟩ | exact ⟨hbx2.cell 1, hbx2.cell 2⟩ | exact ⟨hbx3.cell 1, hbx3.cell 2⟩ | fail) (first | (go_at_call 10; refine C1H.out.mono ?_; rintro e w2 ⟨rfl, h2, hg2, hbx2⟩) | (go_at_call 19; refine (C2H.out _ h2 hg2 hbx2).mono ?_; rintro e w3 ⟨rfl, ⟨S', hP3⟩, hbx3⟩) | fail)
              go_wp2_with fail
              go_meet
              case rel => exact ⟨p, _, S', rfl, rfl, hide hP3, hide hbx3⟩)
          · have hw0 : (what == 0) = false := by simpa using fun h => hw01 (.inl h)
            have hw1 : (what == 1) = false := by simpa using fun h => hw01 (.inr h)
            have hw0' : ¬ what = 0 := fun h => hw01 (.inl h)
            have hw1' : ¬ what = 1 := fun h => hw01 (.inr h)
            clear hw01
            by_cases hw2 : what = 2
            · obtain ⟨r1, hr1⟩ : ∃ r1, r1 = (foundO a L).1 := ⟨_, rfl⟩
              have hPd := HP1.out.later B0
              have C1 : Calls Try.prog 13 #[.pointer (some ⟨p, 0, none⟩), .int .u64 a] W1.drew fun e w' => e = .returned (.int .i64 r1) ∧ HoAt w' w.heap.size p (foundO a L).2 ∧ W1.drew.grownBy w' (some p) ∧ Blk w' bx 52 #[.int .i64 what, .int .u64 (a : Int), .int .u64 (b : Int)] :=
                (found_any hPd.h a (by omega) (by have := hPd.ll; omega)).mono fun e w' ⟨he, h2, hg⟩ => ⟨by rw [hr1]; exact he, h2, hg, Blk.grown (w := W1.drew) HBX.out hg (by simpa using hpb)⟩
              have C2 : ∀ w2, HoAt w2 w.heap.size p (foundO a L).2 → W1.drew.grownBy w2 (some p) → Blk w2 bx 52 #[.int .i64 what, .int .u64 (a : Int), .int .u64 (b : Int)] → Calls Try.prog 20 #[.pointer (some ⟨q, 0, none⟩), .int .u64 a] w2 fun e w' => e = .returned (.int .i64 r1) ∧ (∃ S', PlayAt w w' p q (foundO a L).2 S' (i + 1)) ∧ Blk w' bx 52 #[.int .i64 what, .int .u64 (a : Int), .int .u64 (b : Int)] := fun w2 h2 hg hbk => by
                have hr2 := hPd.r.other hPd.h hg
                have hbl := hPd.below.grown hg hPd.below.size (fun j hj => by cases hj; exact hPd.h.hp)
                refine (rfound_any hr2 a (by omega) (by have := hPd.sl; omega) hbl.size).mono ?_
                have hlen := foundO_len a L
                rintro e w' (⟨hor, rfl, rfl⟩ | ⟨g1, g2, rfl, hr3, hc⟩)
                · have e1 : foundO a L = (1, L) := by unfold foundO; rw [if_pos hor]
                  rw [e1] at h2 hr1 ⊢
                  exact ⟨by rw [hr1], ⟨S, ⟨h2, hr2, hbl, hPd.same, by show L.length ≤ i + 1; have := hPd.ll; omega, by have := hPd.sl; omega⟩⟩, hbk⟩
                · have e1 : (foundO a L).1 = 0 := foundO_ok' L g1 g2
                  exact ⟨by rw [hr1, e1], ⟨S ++ [⟨a, a, false⟩], ⟨h2.chg hc, hr3, hc.below hbl, hasR_found hPd.h.ok hPd.same g1 g2, by have := hPd.ll; omega, by have := hPd.sl; simp; omega⟩⟩, hc.blk hbk (by decide) (by decide)⟩
              have C1H := hide C1
              have C2H := hide C2
              clear C1 C2 hr1 hPd hw0 hw1 hw0' hw1'
              subst hw2
              go_upto_region 12 with fail
              go_region_held3 (fun W => W.cell? ⟨bx, 1, none⟩ = some (.int .u64 (a : Int)) ∧ W.cell? ⟨bx, 2, none⟩ = some (.int .u64 (b : Int))) (first | exact ⟨HBX.out.cell 1, HBX.out.cell 2⟩ | exact ⟨hbx2.cell 1, hbx2.cell 2⟩ | exact ⟨hbx3.cell 1, hbx3.cell 2⟩ | fail) (first | (go_at_call 13; refine C1H.out.mono ?_; rintro e w2 ⟨rfl, h2, hg2, hbx2⟩) | (go_at_call 20; refine (C2H.out _ h2 hg2 hbx2).mono ?_; rintro e w3 ⟨rfl, ⟨S', hP3⟩, hbx3⟩) | fail)
              go_wp2_with fail
              go_meet
              case rel => exact ⟨p, _, S', rfl, rfl, hide hP3, hide hbx3⟩
            · have hw2b : (what == 2) = false := by simpa using hw2
              by_cases hw3 : what = 3
              · have C1 := hide (copy_any HP1.out.h (by have := HP1.out.ll; omega))
                subst hw3
                clear hw0 hw1 hw0' hw1' hw2b hw2
                go_wp2_with fail
                refine C1.out.mono ?_
                rintro e w2 ⟨p', rfl, hn, hbn⟩
                have hpn : p' ≠ p := by have := hn.hp; have := HP1.out.h.lt; omega
                have hP2 := HP1.out.later hbn
                have hn2 := hn.mono HP1.out.below.size
                have hbk2 : Blk w2 bx 52 _ := HBX.out.below hbn HBX.out.lt
                have HPP := hide hP2
                have HNN := hide hn2
                have HBK := hide hbk2
                clear hn hbn hP2 hn2 hbk2 C1
                have C2 := hide (add_any HPP.out.h 1 1099511627776 (by omega) (by omega) (by have := HPP.out.ll; omega))
                go_wp2_with fail
                refine C2.out.mono ?_
                rintro e w3 ⟨rfl, h3, hg3⟩
                have hn3 := HNN.out.other HPP.out.h hg3 hpn
                have hr3 := HPP.out.r.other HPP.out.h hg3
                have hb3 := HPP.out.below.grown hg3 HPP.out.below.size (fun j hj => by cases hj; exact HPP.out.h.hp)
                have hbk3 := Blk.grown HBK.out hg3 (by simpa using hpb)
                obtain ⟨b1, b2, b3⟩ := hbk3.facts
                have HN3 := hide hn3
                have HR3 := hide hr3
                have HB3 := hide hb3
                have HK3 := hide hbk3
                have H3 := hide h3
                have hlen := addO_len 1 1099511627776 L
                have C3 := hide (found_any h3 a (by omega) (by have := HPP.out.ll; omega))
                clear hn3 hr3 hb3 hbk3 h3 hg3 C2 HNN
                go_wp2_with fail
                refine C3.out.mono ?_
                rintro e w4 ⟨rfl, h4, hg4⟩
                have hn4 := HN3.out.other H3.out hg4 hpn
                have hr4 := HR3.out.other H3.out hg4
                have hb4 := HB3.out.grown hg4 HB3.out.size (fun j hj => by cases hj; exact H3.out.hp)
                have hbk4 := Blk.grown HK3.out hg4 (by simpa using hpb)
                have hP4 : PlayAt w w4 p' q L S (i + 1) := ⟨hn4, hr4, hb4, HPP.out.same, by have := HPP.out.ll; omega, by have := HPP.out.sl; omega⟩
                have HP4 := hide hP4
                have HK4 := hide hbk4
                clear hn4 hr4 hb4 hbk4 hP4 h4 hg4 b1 b2 b3 C3
                go_wp2_with fail
                go_meet
                case rel => exact ⟨p', L, S, rfl, rfl, HP4, HK4⟩
              · have hw3b : (what == 3) = false := by simpa using hw3
                go_wp2_with fail
                go_meet
                case rel => exact ⟨p, L, S, rfl, rfl, hide (HP1.out.more (by omega)), HBX⟩
        case rest =>
          obtain ⟨p', L', S', rfl, rfl, HP2, HB2⟩ := hcut
          obtain ⟨i0, hi0', hz0, hz1, hz2⟩ := info_parts str_info
          clear HBX HP1 hpb
          have C1 := hide (list_any HP2.out.h (by have := HP2.out.ll; omega))
          go_wp2_with fail
          refine C1.out.mono ?_
          rintro e w3 ⟨v, rfl, ho, hb⟩
          obtain ⟨A3, c3, rfl, hr3⟩ := own_slice ho
          obtain ⟨ln, hln⟩ : ∃ ln, ln = L'.length := ⟨_, rfl⟩
          rw [← hln]
          have hln2 : ln ≤ 41 := by have := HP2.out.ll; omega
          have HP3 := hide (HP2.out.later hb)
          have HB3 := hide (HB2.out.below hb HB2.out.lt)
          have HR3 := hide hr3
          have HLN := hide hln
          clear ho hb hr3 hln C1 HP2 HB2
          go_wp2_with fail
          go_loopw [9, 67] (fun v9 v67 W => ∃ k : Nat, k ≤ ln ∧ v67 = .int .i64 k ∧ Hid (OwnR W w3.heap.size v9 (L'.take k)) ∧ Hid (Below w3.heap.size w3 W)) (fun _ v67 _ => ln - (intOf v67).toNat)
          case atStart => exact ⟨0, by omega, rfl, hide (World.ownsRow_nil _ _ _ _), hide (Below.refl _ _)⟩
          case round =>
            obtain ⟨k, hk, rfl, HO, HW⟩ := hrel
            obtain ⟨A9, c9, rfl, hr9⟩ := own_sliceR HO.out
            have htl : (L'.take k).length = k := by rw [List.length_take, ← HLN.out]; omega
            by_cases hkl : k < ln
            · obtain ⟨s, hs⟩ : ∃ s, L'[k]? = some s := ⟨_, List.getElem?_eq_getElem (by rw [← HLN.out]; exact hkl)⟩
              obtain ⟨ad3, rfl, hab3, c1, c2⟩ := RdS.at_ (HR3.out.below HW.out) hs
              have hkI : (k : Int) < (ln : Int) := by omega
              have hown : wr.ownsRow w3.heap.size 56 2 (.slice A9 k c9) k (stc (L'.take k)) := by
                have h := HO.out
                unfold OwnR at h
                rw [htl] at h
                exact h
              have HOWN := hide hown
              have hsz3 := HW.out.size
              have htk : L'.take (k + 1) = L'.take k ++ [s] := by rw [List.take_add_one, hs]; rfl
              have HTK := hide htk
              have HTL := hide htl
              rw [htl]
              have hab4 : ad3.block ≠ wr.heap.size := by omega
              clear hs hr9 hown htk htl HO
              go_wp2_with (at_builtin; refine wpList_append_any _ rfl (.tmp 71) (.tmp 73) 55 rfl w3.heap.size 56 i0 _ 2 16 el55 hi0' hz0 hz1 hz2 rfl (by omega) (.slice A9 k c9) k (stc (L'.take k)) rfl ((HOWN.out.alloc _).alloc _) (wr.heap.size + 1 + 1) (some ⟨wr.heap.size + 1, 0, none⟩) 1 1 s.cs rfl (Reads.ofBlk (Blk.new1 wr 56 _ _) rfl) (cs_one s) (by unfold maxLen; omega) (by omega) (by simp; omega) ?_; intro v4 w4 ho4 hg4 hat4; obtain ⟨A4, c4, rfl⟩ := slice_ofR ho4)
              have b4 : Below w3.heap.size w3 w4 := (balloc (balloc HW.out _) _).grown hg4 (by simp; omega) (fun j hj => (own_lt HOWN.out hj).1)
              have ho5 : OwnR w4 w3.heap.size (.slice A4 (k + 1) c4) (L'.take (k + 1)) := by
                show w4.ownsRow _ 56 2 _ (L'.take (k + 1)).length (stc (L'.take (k + 1)))
                rw [HTK.out, List.length_append, HTL.out, stc_app]
                exact ho4
              go_roundw
              case rel => exact ⟨k + 1, by omega, by go_num, hide ho5, hide b4⟩
              case measure => simp [intOf]; omega
            · obtain rfl : k = ln := by omega
              have htk : L'.take k = L' := List.take_of_length_le (by rw [HLN.out]; exact Nat.le_refl _)
              rw [htk] at hr9 ⊢
              rw [← HLN.out]
              have HP4 := hide (HP3.out.later HW.out)
              have HB4 := hide (HB3.out.below HW.out HB3.out.lt)
              have HR9 := hide hr9
              clear HP3 HB3 HR3 HW HO hr9 htk htl
              obtain ⟨mn, hmn⟩ : ∃ mn, mn = manyL L' := ⟨_, rfl⟩
              obtain ⟨hv, hhv⟩ : ∃ hv, hv = has L' a := ⟨_, rfl⟩
              obtain ⟨sv, hsv⟩ : ∃ sv, sv = sureL a b L' := ⟨_, rfl⟩
              obtain ⟨s0, hs0⟩ : ∃ s0, s0 = sureL 0 b L' := ⟨_, rfl⟩
              obtain ⟨rs, hrs⟩ : ∃ rs : Int → Bool, rs = fun n => sureL n.toNat b L' := ⟨_, rfl⟩
              have hrs1 : rs (a : Int) = sv := by rw [hrs, hsv]; show sureL ((a : Int).toNat) b L' = _; rw [Int.toNat_natCast]
              have hrs2 : rs 0 = s0 := by rw [hrs, hs0]; rfl
              have hok := HP4.out.h.ok
              have hsame := HP4.out.same
              have hll := HP4.out.ll
              have hsl := HP4.out.sl
              have K : ∀ W, Below wr.heap.size wr W → (W.cell? ⟨bx, 1, none⟩ = some (.int .u64 (a : Int)) ∧ W.cell? ⟨bx, 2, none⟩ = some (.int .u64 (b : Int)) ∧ Below wr.heap.size wr W) := fun W hW =>
                ⟨(HB4.out.below hW HB4.out.lt).cell 1, (HB4.out.below hW HB4.out.lt).cell 2, hW⟩
              have C23 : ∀ W, (W.cell? ⟨bx, 1, none⟩ = some (.int .u64 (a : Int)) ∧ W.cell? ⟨bx, 2, none⟩ = some (.int .u64 (b : Int)) ∧ Below wr.heap.size wr W) → Calls Try.prog 23 #[.pointer (some ⟨q, 0, none⟩)] W fun e w' => ∃ A4 c4, e = .returned (.slice A4 k c4) ∧ RdS w' w'.heap.size A4 L' ∧ Below wr.heap.size wr w' := fun W ⟨_, _, hW⟩ =>
                (rlist_any (HP4.out.later hW).r hok hsame (by omega)).mono fun e w' ⟨v, he, ho, hb⟩ => by
                  obtain ⟨A4, c4, rfl, hr⟩ := own_sliceR ho
                  exact ⟨A4, c4, by rw [HLN.out]; exact he, hr, belFrom hW hb⟩
              have C22 : ∀ W A4 c4, RdS W W.heap.size A4 L' → Below wr.heap.size wr W → Calls Try.prog 22 #[.slice A9 k c9, .slice A4 k c4] W fun e w' => e = .returned (.bool true) ∧ Below wr.heap.size wr w' := fun W A4 c4 hr hW =>
                (requal_any A9 A4 k c9 k c4 wr.heap.size W.heap.size L' L' W (HR9.out.below hW) hr HLN.out HLN.out (by omega) (by omega)).mono fun e w' ⟨he, h2⟩ => ⟨by rw [he, eqS_self], belFrom hW (bel_same h2)⟩
              have C17 : ∀ W, (W.cell? ⟨bx, 1, none⟩ = some (.int .u64 (a : Int)) ∧ W.cell? ⟨bx, 2, none⟩ = some (.int .u64 (b : Int)) ∧ Below wr.heap.size wr W) → Calls Try.prog 17 #[.pointer (some ⟨p', 0, none⟩)] W fun e w' => e = .returned (.int .u64 mn) ∧ Below wr.heap.size wr w' := fun W ⟨_, _, hW⟩ =>
                (many_any (HP4.out.later hW).h (by omega)).mono fun e w' ⟨he, hb⟩ => ⟨by rw [hmn]; exact he, belFrom hW hb⟩
              have C24 : ∀ W, (W.cell? ⟨bx, 1, none⟩ = some (.int .u64 (a : Int)) ∧ W.cell? ⟨bx, 2, none⟩ = some (.int .u64 (b : Int)) ∧ Below wr.heap.size wr W) → Calls Try.prog 24 #[.pointer (some ⟨q, 0, none⟩)] W fun e w' => e = .returned (.int .u64 mn) ∧ Below wr.heap.size wr w' := fun W ⟨_, _, hW⟩ =>
                (rmany_any (HP4.out.later hW).r hok hsame (by omega) (by omega)).mono fun e w' ⟨he, hb⟩ => ⟨by rw [hmn]; exact he, belFrom hW hb⟩
              have C14 : ∀ W, (W.cell? ⟨bx, 1, none⟩ = some (.int .u64 (a : Int)) ∧ W.cell? ⟨bx, 2, none⟩ = some (.int .u64 (b : Int)) ∧ Below wr.heap.size wr W) → Calls Try.prog 14 #[.pointer (some ⟨p', 0, none⟩), .int .u64 a] W fun e w' => e = .returned (.bool hv) ∧ Below wr.heap.size wr w' := fun W ⟨_, _, hW⟩ =>
                (has_any (HP4.out.later hW).h a (by omega)).mono fun e w' ⟨he, hb⟩ => ⟨by rw [hhv]; exact he, belFrom hW hb⟩
              have C25 : ∀ W, (W.cell? ⟨bx, 1, none⟩ = some (.int .u64 (a : Int)) ∧ W.cell? ⟨bx, 2, none⟩ = some (.int .u64 (b : Int)) ∧ Below wr.heap.size wr W) → Calls Try.prog 25 #[.pointer (some ⟨q, 0, none⟩), .int .u64 a] W fun e w' => e = .returned (.bool hv) ∧ Below wr.heap.size wr w' := fun W ⟨_, _, hW⟩ =>
                (rhas_any (HP4.out.later hW).r a (by omega)).mono fun e w' ⟨he, hb⟩ => ⟨by rw [hhv, hsame]; exact he, by rw [← hb]; exact hW⟩
              have C11 : ∀ W, (W.cell? ⟨bx, 1, none⟩ = some (.int .u64 (a : Int)) ∧ W.cell? ⟨bx, 2, none⟩ = some (.int .u64 (b : Int)) ∧ Below wr.heap.size wr W) → Calls Try.prog 11 #[.pointer (some ⟨p', 0, none⟩), .int .u64 a, .int .u64 b] W fun e w' => e = .returned (.bool sv) ∧ Below wr.heap.size wr w' := fun W ⟨_, _, hW⟩ =>
                (sure_any (HP4.out.later hW).h a b (by omega)).mono fun e w' ⟨he, hb⟩ => ⟨by rw [hsv]; exact he, belFrom hW hb⟩
              have C26 : ∀ W (n : Int), (W.cell? ⟨bx, 1, none⟩ = some (.int .u64 (a : Int)) ∧ W.cell? ⟨bx, 2, none⟩ = some (.int .u64 (b : Int)) ∧ Below wr.heap.size wr W) → (n = (a : Int) ∨ n = 0) → Calls Try.prog 26 #[.pointer (some ⟨q, 0, none⟩), .int .u64 n, .int .u64 b] W fun e w' => e = .returned (.bool (rs n)) ∧ Below wr.heap.size wr w' := fun W n ⟨_, _, hW⟩ hn => by
                have hn0 : 0 ≤ n := by omega
                have hn1 : n.toNat ≤ 18446744073709551615 := by omega
                have h : Calls Try.prog 26 #[.pointer (some ⟨q, 0, none⟩), .int .u64 (n.toNat : Int), .int .u64 b] W fun e w' => e = .returned (.bool (rs n)) ∧ Below wr.heap.size wr w' := (rsure_any (HP4.out.later hW).r hok hsame n.toNat b hn1 (by omega) (by omega)).mono fun e w' ⟨he, hb⟩ => ⟨by rw [hrs]; exact he, belFrom hW hb⟩
                rw [Int.toNat_of_nonneg hn0] at h
                exact h
              have C18 : ∀ W, (W.cell? ⟨bx, 1, none⟩ = some (.int .u64 (a : Int)) ∧ W.cell? ⟨bx, 2, none⟩ = some (.int .u64 (b : Int)) ∧ Below wr.heap.size wr W) → Calls Try.prog 18 #[.pointer (some ⟨p', 0, none⟩), .int .u64 b] W fun e w' => e = .returned (.bool (!s0)) ∧ Below wr.heap.size wr w' := fun W ⟨_, _, hW⟩ =>
                (any_any (HP4.out.later hW).h b (by omega)).mono fun e w' ⟨he, hb⟩ => ⟨by rw [hs0]; exact he, belFrom hW hb⟩
              have HKW := hide K
              have H23 := hide C23
              have H22 := hide C22
              have H17 := hide C17
              have H24 := hide C24
              have H14 := hide C14
              have H25 := hide C25
              have H11 := hide C11
              have H26 := hide C26
              have H18 := hide C18
              clear K C23 C22 C17 C24 C14 C25 C11 C26 C18 hmn hhv hsv hs0 hrs hsame hok
              go_upto_region 24 with fail
              have hs0n : ((!s0) == s0) = false := by cases s0 <;> rfl
              have hvn : (hv != hv) = false := by simp
              have hsvn : (sv != sv) = false := by simp
              go_region_held3 (fun W => W.cell? ⟨bx, 1, none⟩ = some (.int .u64 (a : Int)) ∧ W.cell? ⟨bx, 2, none⟩ = some (.int .u64 (b : Int)) ∧ Below wr.heap.size wr W) (first | exact HKW.out _ hbC | exact HKW.out _ ⟨rfl, rfl, rfl, Nat.le_refl _, fun _ _ => rfl⟩ | fail) (first | (go_at_call 23; refine (H23.out _ (by assumption)).mono ?_; rintro e w4 ⟨A4, c4, rfl, hr4, hbC⟩) | (go_at_call 22; refine (H22.out _ _ _ hr4 hbC).mono ?_; rintro e w5 ⟨rfl, hbC⟩) | (go_at_call 17; refine (H17.out _ (by assumption)).mono ?_; rintro e w5 ⟨rfl, hbC⟩) | (go_at_call 24; refine (H24.out _ (by assumption)).mono ?_; rintro e w5 ⟨rfl, hbC⟩) | (go_at_call 14; refine (H14.out _ (by assumption)).mono ?_; rintro e w5 ⟨rfl, hbC⟩) | (go_at_call 25; refine (H25.out _ (by assumption)).mono ?_; rintro e w5 ⟨rfl, hbC⟩) | (go_at_call 11; refine (H11.out _ (by assumption)).mono ?_; rintro e w5 ⟨rfl, hbC⟩) | (go_at_call 18; refine (H18.out _ (by assumption)).mono ?_; rintro e w5 ⟨rfl, hbC⟩) | (go_at_call 26; refine (H26.out _ _ (by assumption) (by first | exact .inl rfl | exact .inr rfl)).mono ?_; rintro e w5 ⟨rfl, hbC⟩; first | rw [hrs1] | rw [hrs2]) | fail)
              go_wp2_with fail
              go_roundw
              case rel => exact ⟨i + 1, p', L', S', by omega, by omega, by go_num, rfl, hide (HP4.out.later hbC)⟩
              case measure => simp [intOf]; omega
    · go_wp2_with fail
      refine (wakes_any _).mono ?_
      rintro e wz ⟨rfl, hbz⟩
      go_wp2_with fail
      go_ret
      exact ⟨rfl, belFrom HP.out.below hbz⟩
end Go.Proofs.Ytfdabccdgcohjaa
