/-
  THE WALK of HolesSure. Conditions: as the theorems' premises say.
-/
import Derived.Test.YtfdabccdgcohjaaHWakes
namespace Go.Proofs.Ytfdabccdgcohjaa
open Go.RowKit Go.Shelf

/-- a row of bools -/
abbrev RdB (w : World) (B : Nat) (A : Option Addr) (l : List Bool) : Prop := Reads w B 1 A l.length (l.map Value.bool)
def isB (l : List Bool) (n : Nat) : Bool := decide (n ≤ 200) && l.getD (n - 1) false
theorem is_any {w : World} {B : Nat} {A : Option Addr} {m c : Nat} {l : List Bool} (h : RdB w B A l) (hm : m = l.length) (n : Nat) (h1 : 1 ≤ n) (hn : n ≤ 1000) :
    Calls Try.prog 9 #[.slice A m c, .int .i64 n] w fun e w' => e = .returned (.bool (isB l n)) ∧ w = w' := by
  obtain ⟨j, hj⟩ : ∃ j : Nat, (n : Int) - 1 = (j : Int) := ⟨n - 1, by omega⟩
  have hjn : n - 1 = j := by omega
  unfold isB
  rw [hjn]
  by_cases hlt : j < m
  · have hlt' : (j : Int) < (m : Int) := by omega
    obtain ⟨b, hb⟩ : ∃ b, l[j]? = some b := ⟨_, List.getElem?_eq_getElem (by rw [← hm]; exact hlt)⟩
    have hgd : l.getD j false = b := by rw [List.getD_eq_getElem?_getD, hb]; rfl
    rw [hgd]
    obtain ⟨ad, rfl, hab, hc⟩ := h.2 j (.bool b) (by rw [List.getElem?_map, hb]; rfl)
    by_cases h2 : n ≤ 200
    · have h2' : (n : Int) ≤ 200 := by omega
      have hd : decide (n ≤ 200) = true := by simpa using h2
      rw [hd]
      clear hgd hb h hm
      go_enter Try.func9, Try.ntmps9
      go_wp2_with fail
      go_ret
      exact ⟨rfl, rfl⟩
    · have h2' : ¬ (n : Int) ≤ 200 := by omega
      have hd : decide (n ≤ 200) = false := by simpa using h2
      rw [hd]
      clear hgd hb h hm
      go_enter Try.func9, Try.ntmps9
      go_wp2_with fail
      go_ret
      exact ⟨rfl, rfl⟩
  · have hlt' : ¬ (j : Int) < (m : Int) := by omega
    have hgd : l.getD j false = false := by rw [List.getD_eq_getElem?_getD, List.getElem?_eq_none (by omega)]; rfl
    rw [hgd, Bool.and_false]
    clear hgd h hm
    go_enter Try.func9, Try.ntmps9
    go_wp2_with fail
    go_ret
    exact ⟨rfl, rfl⟩
theorem sure_law {L : List St} {lost : List Bool} {nw s : Nat} (h : Canon L) (hh : ∀ n, has L n = (decide (1 ≤ n) && decide (n ≤ 200) && isB lost n)) {bt : Bool} (hb : bt = true ↔ ∃ m, nw < m ∧ m ≤ min s 200 ∧ isB lost m = true) : sureL nw s L = !bt := by
  cases hbt : bt with
  | true =>
    rw [hbt] at hb
    obtain ⟨m, h1, h2, h3⟩ := hb.1 rfl
    cases hs : sureL nw s L with
    | false => rfl
    | true =>
      have := (sure_iff h).1 hs m h1 (by omega)
      rw [hh, h3] at this
      simp at this
      omega
  | false =>
    rw [hbt] at hb
    show _ = true
    rw [sure_iff h]
    intro n h1 h2
    rw [hh]
    cases hi : isB lost n with
    | false => simp
    | true =>
      by_cases h3 : n ≤ 200
      · exact absurd (hb.2 ⟨n, h1, by omega, hi⟩) (by simp)
      · simp; omega

/-- the state of the first loop: the numbers below k are asked -/
structure SureAt (w W : World) (p k : Nat) (lost : List Bool) : Prop where
  ex : ∃ L, OwnH w W p L ∧ L.length ≤ 1 + k ∧ ∀ n, has L n = (decide (1 ≤ n) && decide (n < k) && isB lost n)

set_option maxRecDepth 100000 in
set_option maxHeartbeats 4000000 in
theorem sureLaw_any (w : World) (A1 : Option Addr) (m1 c1 : Nat) (lost : List Bool) (A2 : Option Addr) (m2 c2 : Nat) (ans : List Bool) (s : Nat) (hs : s < 256)
    (r1 : RdB w w.heap.size A1 lost) (e1 : m1 = lost.length) (r2 : RdB w w.heap.size A2 ans) (e2 : m2 = ans.length) :
    Calls Try.prog 3 #[.slice A1 m1 c1, .slice A2 m2 c2, .int .u8 s] w fun e w' => e = .returned (.bool true) ∧ Below w.heap.size w w' := by
  have eg : ∀ args w, (callFunc 9 args).run Try.prog w = .ok (.enter 9 args) w := enters_of Try.func9 (by kernel_rfl) rfl
  have R1 := hide r1
  have R2 := hide r2
  have E1 := hide e1
  have E2 := hide e2
  clear r1 r2 e1 e2
  go_enter Try.func3, Try.ntmps3
  go_wp2_with fail
  refine (new_any w).mono ?_
  rintro e w1 ⟨p, rfl, h1, hb1, -⟩
  have HO := hide (OwnH.new h1 hb1)
  clear h1 hb1
  have HS0 : Hid (SureAt w w1 p 1 lost) := hide ⟨[], HO.out, by simp, fun n => by simp [has]; omega⟩
  clear HO
  go_wp2_with fail
  go_loopw [9] (fun v9 W => ∃ k : Nat, 1 ≤ k ∧ k ≤ 201 ∧ v9 = .int .i64 k ∧ Hid (SureAt w W p k lost)) (fun v9 _ => 201 - (intOf v9).toNat)
  case atStart => exact ⟨1, by omega, by omega, rfl, HS0⟩
  case round =>
    obtain ⟨k, hk1, hk2, rfl, HK⟩ := hrel
    obtain ⟨L, ho, hl, hh⟩ := HK.out.ex
    have HO := hide ho
    have HH := hide hh
    have HL := hide hl
    clear ho hh hl
    by_cases hlt : k ≤ 200
    · have hlt' : (k : Int) ≤ 200 := by omega
      have C1 := hide (is_any (c := c1) (R1.out.below HO.out.below) E1.out k hk1 (by omega))
      cases hi : isB lost k with
      | true =>
        rw [hi] at C1
        have HI := hide hi
        clear hi
        go_wp2_with fail
        refine C1.out.mono ?_
        rintro e w2 ⟨rfl, rfl⟩
        have C2 := hide (add_any HO.out.at_ k k (by omega) (by omega) (by have := HL.out; omega))
        have ea : (addO k k L).1 = 0 := by unfold addO; rw [if_neg (by omega), if_neg (by omega)]
        rw [ea] at C2
        clear ea
        go_wp2_with fail
        refine C2.out.mono ?_
        rintro e w3 ⟨rfl, h3, hg⟩
        have HO3 := hide (HO.out.step h3 hg)
        clear h3 hg
        go_wp2_with fail
        go_roundw
        case rel =>
          refine ⟨k + 1, by omega, by omega, by go_num, hide ⟨_, HO3.out, ?_, ?_⟩⟩
          · have h1 := addO_len k k L
            have h2 := HL.out
            omega
          · intro n
            rw [addO_has HO.out.at_.ok (by omega) (by omega), HH.out]
            have h3 := HI.out
            by_cases hn : n = k
            · subst hn
              rw [h3]
              simp
              omega
            · have e3 : (decide (k ≤ n) && decide (n ≤ k)) = false := by simp; omega
              rw [e3, Bool.or_false]
              congr 2
              exact decide_eq_decide.2 (by omega)
        case measure => simp [intOf]; omega
      | false =>
        rw [hi] at C1
        have HI := hide hi
        clear hi
        go_wp2_with fail
        refine C1.out.mono ?_
        rintro e w2 ⟨rfl, rfl⟩
        go_wp2_with fail
        go_roundw
        case rel =>
          refine ⟨k + 1, by omega, by omega, by go_num, hide ⟨_, HO.out, ?_, ?_⟩⟩
          · have h2 := HL.out
            omega
          · intro n
            rw [HH.out]
            have h3 := HI.out
            by_cases hn : n = k
            · subst hn
              rw [h3]
              simp
            · congr 2
              exact decide_eq_decide.2 (by omega)
        case measure => simp [intOf]; omega
    · obtain rfl : k = 201 := by omega
      rw [show ((201 : Nat) : Int) = 201 from rfl]
      obtain ⟨mn, hmn⟩ : ∃ mn : Nat, min (s : Int) 200 = (mn : Int) := ⟨min s 200, by omega⟩
      have hmn2 : mn = min s 200 := by omega
      have HMN := hide hmn2
      have hmn3 : mn ≤ 200 := by omega
      clear hlt hk1 hk2 hmn2
      go_wp2_with fail
      go_loopw [10, 11, 12] (fun v10 v11 v12 W => ∃ k nw gr : Nat, 1 ≤ k ∧ k ≤ mn + 1 ∧ v10 = .int .i64 nw ∧ v11 = .int .i64 gr ∧ v12 = .int .i64 k ∧ Hid (nw ≤ gr ∧ gr < k ∧ (nw < gr → isB lost gr = true)) ∧ Hid (OwnH w W p L)) (fun _ _ v12 _ => mn + 1 - (intOf v12).toNat)
      case atStart => exact ⟨1, 0, 0, by omega, by omega, rfl, rfl, rfl, hide ⟨by omega, by omega, by omega⟩, HO⟩
      case round =>
        obtain ⟨k, nw, gr, hk1, hk2, rfl, rfl, rfl, HI, HO2⟩ := hrel
        clear HO
        by_cases hlt : k ≤ mn
        · have hlt' : (k : Int) ≤ (mn : Int) := by omega
          have C1 := hide (is_any (c := c2) (R2.out.below HO2.out.below) E2.out k hk1 (by omega))
          cases hi : isB ans k with
          | true =>
            rw [hi] at C1
            clear hi
            have C2 := hide (is_any (c := c1) (R1.out.below HO2.out.below) E1.out k hk1 (by omega))
            cases hi2 : isB lost k with
            | true =>
              rw [hi2] at C2
              have HI2 := hide hi2
              clear hi2
              go_wp2_with fail
              refine C1.out.mono ?_
              rintro e w2 ⟨rfl, rfl⟩
              go_wp2_with fail
              refine C2.out.mono ?_
              rintro e w2 ⟨rfl, rfl⟩
              go_wp2_with fail
              go_roundw
              case rel => exact ⟨k + 1, nw, k, by omega, by omega, rfl, rfl, by go_num, hide ⟨by have := HI.out; omega, by omega, fun _ => HI2.out⟩, HO2⟩
              case measure => simp [intOf]; omega
            | false =>
              rw [hi2] at C2
              clear hi2
              go_wp2_with fail
              refine C1.out.mono ?_
              rintro e w2 ⟨rfl, rfl⟩
              go_wp2_with fail
              refine C2.out.mono ?_
              rintro e w2 ⟨rfl, rfl⟩
              go_wp2_with fail
              go_roundw
              case rel => exact ⟨k + 1, k, k, by omega, by omega, rfl, rfl, by go_num, hide ⟨by omega, by omega, by omega⟩, HO2⟩
              case measure => simp [intOf]; omega
          | false =>
            rw [hi] at C1
            clear hi
            go_wp2_with fail
            refine C1.out.mono ?_
            rintro e w2 ⟨rfl, rfl⟩
            go_wp2_with fail
            go_roundw
            case rel => exact ⟨k + 1, nw, gr, by omega, by omega, rfl, rfl, by go_num, hide ⟨by have := HI.out; omega, by have := HI.out; omega, HI.out.2.2⟩, HO2⟩
            case measure => simp [intOf]; omega
        · obtain rfl : k = mn + 1 := by omega
          have hnl : ¬ ((mn + 1 : Nat) : Int) ≤ (mn : Int) := by omega
          have hgr := HI.out
          have hnw : nw ≤ 200 := by omega
          have hgr2 : gr ≤ 200 := by omega
          have HG := hide hgr
          clear hlt hk1 hk2 HI hgr
          have C3 := hide (sure_any HO2.out.at_ nw s (by have := HL.out; omega))
          go_wp2_with fail
          refine C3.out.mono ?_
          rintro e w2 ⟨rfl, hb⟩
          have HO3 := hide (HO2.out.later hb)
          clear hb C3 HO2
          obtain ⟨sr, hsr⟩ : ∃ sr, sr = sureL nw s L := ⟨_, rfl⟩
          rw [← hsr]
          have HSR := hide hsr
          clear hsr
          go_wp2_with fail
          go_loopw [14, 15] (fun v14 v15 W => ∃ (k : Nat) (bt : Bool), nw + 1 ≤ k ∧ (k ≤ mn + 1 ∨ k = nw + 1) ∧ v14 = .bool bt ∧ v15 = .int .i64 k ∧ Hid (bt = true ↔ ∃ m, nw < m ∧ m < k ∧ isB lost m = true) ∧ Hid (OwnH w W p L)) (fun _ v15 _ => mn + 1 - (intOf v15).toNat)
          case atStart => exact ⟨nw + 1, false, by omega, .inr rfl, rfl, by go_num, hide ⟨fun h => (by cases h), fun ⟨m, h1, h2, _⟩ => (by omega)⟩, HO3⟩
          case round =>
            obtain ⟨k, bt, hk1, hk2, rfl, rfl, HB, HO4⟩ := hrel
            clear HO3
            by_cases hlt : k ≤ mn
            · have hlt' : (k : Int) ≤ (mn : Int) := by omega
              cases bt with
              | true =>
                go_wp2_with fail
                go_roundw
                case rel => exact ⟨k + 1, true, by omega, by omega, rfl, by go_num, hide ⟨fun _ => (by obtain ⟨m, h1, h2, h3⟩ := HB.out.1 rfl; exact ⟨m, h1, by omega, h3⟩), fun _ => rfl⟩, HO4⟩
                case measure => simp [intOf]; omega
              | false =>
                have C1 := hide (is_any (c := c1) (R1.out.below HO4.out.below) E1.out k (by omega) (by omega))
                obtain ⟨ib, hib⟩ : ∃ ib, ib = isB lost k := ⟨_, rfl⟩
                rw [← hib] at C1
                have HIB := hide hib
                clear hib
                go_wp2_with fail
                refine C1.out.mono ?_
                rintro e w2 ⟨rfl, rfl⟩
                go_wp2_with fail
                go_roundw
                case rel =>
                  refine ⟨k + 1, ib, by omega, by omega, rfl, by go_num, hide ⟨fun h => ⟨k, by omega, by omega, by rw [← HIB.out]; exact h⟩, ?_⟩, HO4⟩
                  rintro ⟨m, h1, h2, h3⟩
                  by_cases hm : m = k
                  · subst hm; rw [HIB.out]; exact h3
                  · exact absurd (HB.out.2 ⟨m, h1, by omega, h3⟩) (by simp)
                case measure => simp [intOf]; omega
            · have hlt' : ¬ (k : Int) ≤ (mn : Int) := by omega
              have hkk : k = mn + 1 ∨ (k = nw + 1 ∧ mn < k) := by omega
              have hlaw : sr = !bt := by
                rw [HSR.out]
                refine sure_law (lost := lost) HO4.out.at_.ok (fun n => ?_) ?_
                · rw [HH.out]
                  congr 2
                  exact decide_eq_decide.2 (by omega)
                · rw [HB.out, ← HMN.out]
                  constructor
                  · rintro ⟨m, h1, h2, h3⟩; exact ⟨m, h1, by omega, h3⟩
                  · rintro ⟨m, h1, h2, h3⟩; exact ⟨m, h1, by omega, h3⟩
              subst hlaw
              have heq : bt = false → nw = gr := by
                intro hf
                have := HG.out
                by_cases hne : nw = gr
                · exact hne
                · have h3 := this.2.2 (by omega)
                  have := HB.out.2 ⟨gr, by omega, by omega, h3⟩
                  rw [hf] at this
                  cases this
              clear hkk hk2 HB
              cases bt with
              | true =>
                go_wp2_with fail
                refine (wakes_any _).mono ?_
                rintro e wz ⟨rfl, hb⟩
                replace HO4 := hide (HO4.out.later hb)
                clear hb
                go_wp2_with fail
                go_ret
                exact ⟨rfl, HO4.out.below⟩
              | false =>
                obtain rfl := heq rfl
                clear heq
                go_wp2_with fail
                refine (wakes_any _).mono ?_
                rintro e wz ⟨rfl, hb⟩
                replace HO4 := hide (HO4.out.later hb)
                clear hb
                go_wp2_with fail
                go_ret
                exact ⟨rfl, HO4.out.below⟩
end Go.Proofs.Ytfdabccdgcohjaa
