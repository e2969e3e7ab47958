/-
  THE WALKS of the reference: its May and Compare of keys. Conditions: as the theorems' premises say.
-/
import Derived.Test.YteiamfekdibkmaaOUndoD
import Derived.Deep.RegionHeld3
import Derived.Deep.CutBlock
import Derived.BigQuiet
namespace Go.Proofs.Yteiamfekdibkmaa
open Go.RowKit Go.Shelf

theorem rmay1_any (A : Option Addr) (n c : Nat) (l : Key) (hn : n = l.length) (w : World) : Calls Try.prog 42 #[.slice A n c] w fun e w' => e = .returned (.bool (mayK l)) ∧ w = w' := by
  unfold mayK
  rw [← hn]
  clear hn
  by_cases h1 : 1 ≤ n
  · have h1' : (0 : Int) < (n : Int) := by omega
    by_cases h2 : n ≤ 64
    · have h2' : (n : Int) < 65 := by omega
      rw [decide_eq_true h1, decide_eq_true h2]
      go_enter Try.func42, Try.ntmps42
      go_wp2
      go_ret
      exact ⟨rfl, rfl⟩
    · have h2' : ¬ (n : Int) < 65 := by omega
      rw [decide_eq_true h1, decide_eq_false h2]
      go_enter Try.func42, Try.ntmps42
      go_wp2
      go_ret
      exact ⟨rfl, rfl⟩
  · have h1' : ¬ (0 : Int) < (n : Int) := by omega
    rw [decide_eq_false h1, Bool.false_and]
    go_enter Try.func42, Try.ntmps42
    go_wp2
    go_ret
    exact ⟨rfl, rfl⟩
theorem cmp_step {l l' : Key} {i : Nat} {a b : UInt8} (ha : l[i]? = some a) (hb : l'[i]? = some b) : cmpK (l.drop i) (l'.drop i) = if a < b then -1 else if b < a then 1 else cmpK (l.drop (i + 1)) (l'.drop (i + 1)) := by
  obtain ⟨h1, e1⟩ := List.getElem?_eq_some_iff.1 ha
  obtain ⟨h2, e2⟩ := List.getElem?_eq_some_iff.1 hb
  rw [List.drop_eq_getElem_cons h1, List.drop_eq_getElem_cons h2, e1, e2]
  rfl
theorem anyB (w : World) (z : Nat) : ∀ B, Below B w (w.drewN z) := fun _ => ⟨rfl, rfl, rfl, Nat.le_refl _, fun _ _ => rfl⟩
set_option maxHeartbeats 1000000 in
theorem rcmp_any (A A' : Option Addr) (n c m d B B' : Nat) (l l' : Key) (w : World) (h : Bs w B A n l) (h' : Bs w B' A' m l') (hsm : n ≤ maxLen) :
    Calls Try.prog 43 #[.slice A n c, .slice A' m d] w fun e w' => e = .returned (.int .i64 (cmpK l l')) ∧ ∀ B, Below B w w' := by
  have H1 := hide h
  have H2 := hide h'
  have hn : n = l.length := by have := h.len; simpa using this.symm
  have hm : m = l'.length := by have := h'.len; simpa using this.symm
  have HN := hide hn
  have HM := hide hm
  clear h h' hn hm
  unfold maxLen at hsm
  go_enter Try.func43, Try.ntmps43
  go_wp2_with fail
  go_loopw [5] (fun v5 W => ∃ i : Nat, i ≤ n ∧ i ≤ m ∧ v5 = .int .i64 i ∧ Hid (cmpK l l' = cmpK (l.drop i) (l'.drop i)) ∧ Hid (∀ B, Below B w W)) (fun v5 _ => n - (intOf v5).toNat)
  case atStart => exact ⟨0, by omega, by omega, rfl, hide rfl, hide (fun B => Below.refl _ _)⟩
  case round =>
    obtain ⟨i, hi, him, rfl, HC, HW⟩ := hrel
    by_cases hlt : i < n ∧ i < m
    · obtain ⟨a, ha⟩ : ∃ a, l[i]? = some a := ⟨_, List.getElem?_eq_getElem (by rw [← HN.out]; exact hlt.1)⟩
      obtain ⟨b, hb⟩ : ∃ b, l'[i]? = some b := ⟨_, List.getElem?_eq_getElem (by rw [← HM.out]; exact hlt.2)⟩
      obtain ⟨ad, rfl, _, c1⟩ := (Reads.below H1.out (HW.out B) : Bs wr B A n l).2 i (bv a) (by rw [List.getElem?_map, ha]; rfl)
      obtain ⟨ad', rfl, _, c2⟩ := (Reads.below H2.out (HW.out B') : Bs wr B' A' m l').2 i (bv b) (by rw [List.getElem?_map, hb]; rfl)
      have hst := cmp_step ha hb
      rw [← HC.out] at hst
      have HS := hide hst
      simp only [bv] at c1 c2
      obtain ⟨x, hx⟩ : ∃ x : Nat, x = a.toNat := ⟨_, rfl⟩
      obtain ⟨y, hy⟩ : ∃ y : Nat, y = b.toNat := ⟨_, rfl⟩
      rw [← hx] at c1
      rw [← hy] at c2
      have HAX := hide hx
      have HBY := hide hy
      have hiI : (i : Int) < (n : Int) := by omega
      have hiM : (i : Int) < (m : Int) := by omega
      clear ha hb hst hx hy
      by_cases h1 : x < y
      · have h1I : (x : Int) < (y : Int) := by omega
        have hres : cmpK l l' = -1 := by rw [HS.out, if_pos (by rw [UInt8.lt_iff_toNat_lt, ← HAX.out, ← HBY.out]; exact h1)]
        have HR := hide hres
        clear hres
        go_wp2_with fail
        go_quiet (fail)
        go_wp2_with fail
        go_ret
        exact ⟨ret_int HR.out.symm, fun B => (HW.out B).trans (anyB _ _ _)⟩
      · have h1I : ¬ (x : Int) < (y : Int) := by omega
        have hn1 : ¬ a < b := by rw [UInt8.lt_iff_toNat_lt, ← HAX.out, ← HBY.out]; exact h1
        rw [if_neg hn1] at HS
        by_cases h2 : y < x
        · have h2I : (y : Int) < (x : Int) := by omega
          have hres : cmpK l l' = 1 := by rw [HS.out, if_pos (by rw [UInt8.lt_iff_toNat_lt, ← HAX.out, ← HBY.out]; exact h2)]
          have HR := hide hres
          clear hres hn1
          go_wp2_with fail
          go_quiet (fail)
          go_wp2_with fail
          go_quiet (fail)
          go_wp2_with fail
          go_ret
          exact ⟨ret_int HR.out.symm, fun B => ((HW.out B).trans (anyB _ _ _)).trans (anyB _ _ _)⟩
        · have h2I : ¬ (y : Int) < (x : Int) := by omega
          rw [if_neg (by rw [UInt8.lt_iff_toNat_lt, ← HAX.out, ← HBY.out]; exact h2)] at HS
          clear hn1
          go_wp2_with fail
          go_quiet (fail)
          go_wp2_with fail
          go_quiet (fail)
          go_wp2_with fail
          go_roundw
          case rel => exact ⟨i + 1, by omega, by omega, by go_num, HS, hide (fun B => (HW.out B).trans (anyB _ _ _))⟩
          case measure => simp [intOf]; omega
    · have HE := HC
      by_cases hin : i < n
      · have him2 : i = m := by omega
        have hres : cmpK l l' = 1 := by
          rw [HC.out, List.drop_eq_getElem_cons (by rw [← HN.out]; exact hin), List.drop_of_length_le (l := l') (by rw [← HM.out]; omega)]
          rfl
        have HR := hide hres
        have hiI : (i : Int) < (n : Int) := by omega
        have hiM : ¬ (i : Int) < (m : Int) := by omega
        have hnm : ¬ (n : Int) < (m : Int) := by omega
        have hmn : (m : Int) < (n : Int) := by omega
        clear hres him2
        go_wp2_with fail
        go_ret
        exact ⟨ret_int HR.out.symm, HW.out⟩
      · have hin2 : i = n := by omega
        have hiI : ¬ (i : Int) < (n : Int) := by omega
        by_cases him2 : i < m
        · have hres : cmpK l l' = -1 := by
            rw [HC.out, List.drop_of_length_le (l := l) (by rw [← HN.out]; omega), List.drop_eq_getElem_cons (by rw [← HM.out]; exact him2)]
            rfl
          have HR := hide hres
          have hnm : (n : Int) < (m : Int) := by omega
          clear hres hin2
          go_wp2_with fail
          go_ret
          exact ⟨ret_int HR.out.symm, HW.out⟩
        · have hres : cmpK l l' = 0 := by
            rw [HC.out, List.drop_of_length_le (l := l) (by rw [← HN.out]; omega), List.drop_of_length_le (by rw [← HM.out]; omega)]
            rfl
          have HR := hide hres
          have hnm : ¬ (n : Int) < (m : Int) := by omega
          have hmn : ¬ (m : Int) < (n : Int) := by omega
          clear hres hin2
          go_wp2_with fail
          go_ret
          exact ⟨ret_int HR.out.symm, HW.out⟩
set_option maxHeartbeats 1000000 in
theorem rmay_any (A : Option Addr) (n c B : Nat) (hs : List Hd) (w : World) (h : RowR w B A hs) (hn : n = hs.length) (hsm : n ≤ maxLen) :
    Calls Try.prog 29 #[.slice A n c] w fun e w' => e = .returned (.bool (mayR (keys hs))) ∧ ∀ B, Below B w w' := by
  have HR := hide h
  have HN := hide hn
  clear h hn
  unfold maxLen at hsm
  go_enter Try.func29, Try.ntmps29
  go_wp2_with fail
  go_loopw [3] (fun v7 W => ∃ i : Nat, i ≤ n ∧ v7 = .int .i64 i ∧ Hid (RowOk ((keys hs).take i)) ∧ Hid (∀ B, Below B w W)) (fun v7 _ => n - (intOf v7).toNat)
  case atStart => exact ⟨0, by omega, rfl, hide ⟨fun k hk => (by simp at hk), (by simp)⟩, hide (fun B => Below.refl _ _)⟩
  case round =>
    obtain ⟨i, hi, rfl, HO, HW⟩ := hrel
    by_cases hlt : i < n
    · have hrr := HR.out.below (HW.out B)
      obtain ⟨x, hx⟩ : ∃ x, hs[i]? = some x := ⟨_, List.getElem?_eq_getElem (by rw [← HN.out]; exact hlt)⟩
      have hkx : (keys hs)[i]? = some x.l := by rw [List.getElem?_map, hx]; rfl
      obtain ⟨ad, rfl, hab, c1⟩ := hrr.at_ hx
      have hgx := hrr.good x (List.mem_of_getElem? hx)
      have hiI : (i : Int) < (n : Int) := by omega
      have C1 := hide (rmay1_any x.A x.l.length x.c x.l rfl wr)
      have HKX := hide hkx
      have HGX := hide hgx
      have HRR := hide hrr
      have HX := hide hx
      clear hx hkx hgx hrr
      cases hm : mayK x.l with
      | false =>
        rw [hm] at C1
        have HM := hide hm
        clear hm
        go_wp2_with fail
        refine C1.out.mono ?_
        rintro e w2 ⟨rfl, rfl⟩
        go_wp2_with fail
        go_ret
        refine ⟨ret_bool ?_, HW.out⟩
        rw [mayR_false]
        intro hok
        have := hok.1 _ (List.mem_of_getElem? HKX.out)
        rw [HM.out] at this
        cases this
      | true =>
        rw [hm] at C1
        have HM := hide hm
        clear hm
        by_cases hi0 : i = 0
        · have hi0' : ¬ 0 < i := by omega
          have hi1' : decide (0 < i) = false := by simpa using hi0
          have HI0 := hide hi0
          clear hi0
          go_wp2_with fail
          refine C1.out.mono ?_
          rintro e w2 ⟨rfl, rfl⟩
          go_upto_region 6 with fail
          go_quiet (fail)
          go_wp2_with fail
          go_roundw
          case rel => exact ⟨i + 1, by omega, by go_num, hide (rowOk_next HO.out HKX.out HM.out (fun j p hj _ => by have := HI0.out; omega)), hide (fun B => (HW.out B).trans (anyB _ _ _))⟩
          case measure => simp [intOf]; omega
        · obtain ⟨j, hj⟩ : ∃ j : Nat, (i : Int) - 1 = (j : Int) := ⟨i - 1, by omega⟩
          have hjn : i = j + 1 := by omega
          obtain ⟨y, hy⟩ : ∃ y, hs[j]? = some y := ⟨_, List.getElem?_eq_getElem (by rw [← HN.out]; omega)⟩
          have hky : (keys hs)[j]? = some y.l := by rw [List.getElem?_map, hy]; rfl
          obtain ⟨ad', hade, _, c2⟩ := HRR.out.at_ hy
          cases hade
          have C2 := hide (fun (W : World) (hb : ∀ B, Below B wr W) => rcmp_any y.A x.A y.l.length y.c x.l.length x.c B B y.l x.l W ((HRR.out.below (hb B)).good y (List.mem_of_getElem? hy)).1 ((HRR.out.below (hb B)).good x (List.mem_of_getElem? HX.out)).1 (by have := HRR.out.good y (List.mem_of_getElem? hy); exact Nat.le_trans this.2.1 this.2.2))
          have hi0' : 0 < i := by omega
          have hi1' : decide (0 < i) = true := by simpa using hi0'
          have hjI : (j : Int) < (n : Int) := by omega
          have hwr : IntKind.i64.wrap (j : Int) = (j : Int) := IntWalk.i64_in _ ⟨by omega, by omega⟩
          have hwr2 : IntKind.i64.wrap ((i : Int) - 1) = (j : Int) := by rw [hj]; exact hwr
          have HJN := hide hjn
          have HKY := hide hky
          have HKC := hide (fun (W : World) (hb : ∀ B, Below B wr W) => (show W.cell? (ad.add j) = some (.slice y.A y.l.length y.c) ∧ W.cell? (ad.add i) = some (.slice x.A x.l.length x.c) ∧ (∀ B, Below B wr W) from by
            obtain ⟨a1, e1, _, c3⟩ := (HRR.out.below (hb B)).at_ hy
            cases e1
            obtain ⟨a2, e2, _, c4⟩ := (HRR.out.below (hb B)).at_ HX.out
            cases e2
            exact ⟨c3, c4, hb⟩))
          obtain ⟨r, hr⟩ : ∃ r, r = cmpK y.l x.l := ⟨_, rfl⟩
          rw [← hr] at C2
          have HCR := hide hr
          obtain ⟨xA, xc, xl⟩ := x
          obtain ⟨yA, yc, yl⟩ := y
          simp only at HKC C2 HCR C1 c1 c2
          clear hy hky hi0 hjn HX
          by_cases hlk : r = -1
          · have hrn : (r != -1) = false := by rw [hlk]; rfl
            have HL : Hid (ltK yl xl) := hide (by unfold ltK; rw [← hr, hlk]; decide)
            subst hlk
            clear hr
            go_wp2_with fail
            refine C1.out.mono ?_
            rintro e w2 ⟨rfl, rfl⟩
            go_upto_region 6 with fail
            go_region_held3 (fun W => W.cell? (ad.add j) = some (.slice yA yl.length yc) ∧ W.cell? (ad.add i) = some (.slice xA xl.length xc) ∧ (∀ B, Below B wr W)) (first | exact HKC.out _ (fun B => ⟨rfl, rfl, rfl, Nat.le_refl _, fun _ _ => rfl⟩) | exact HKC.out _ (fun B => (show Below B wr wr.drew from ⟨rfl, rfl, rfl, Nat.le_refl _, fun _ _ => rfl⟩).trans (hb3 B)) | fail) (first | (go_at_call 43; refine (C2.out _ (by exact fun B => ⟨rfl, rfl, rfl, Nat.le_refl _, fun _ _ => rfl⟩)).mono ?_; rintro e w3 ⟨rfl, hb3⟩) | fail)
            have HW3 := hide (fun B => ((HW.out B).trans (show Below B wr wr.drew from ⟨rfl, rfl, rfl, Nat.le_refl _, fun _ _ => rfl⟩)).trans (hb3 B))
            clear hb3 c1 c2
            go_wp2_with fail
            go_roundw
            case rel =>
              refine ⟨i + 1, by omega, by go_num, hide (rowOk_next HO.out HKX.out HM.out (fun j' p hj' hp => ?_)), HW3⟩
              have h1 := HJN.out
              obtain rfl : j' = j := by omega
              rw [HKY.out] at hp
              cases hp
              exact HL.out
            case measure => simp [intOf]; omega
          · have hrn : (r != -1) = true := by simpa using hlk
            have HL : Hid (¬ ltK yl xl) := hide (by
              intro hl
              have h3 := cmp_three yl xl
              unfold ltK at hl
              have h4 := HCR.out
              rw [← h4] at hl h3
              omega)
            clear hr
            go_wp2_with fail
            refine C1.out.mono ?_
            rintro e w2 ⟨rfl, rfl⟩
            go_upto_region 6 with fail
            go_region_held3 (fun W => W.cell? (ad.add j) = some (.slice yA yl.length yc) ∧ W.cell? (ad.add i) = some (.slice xA xl.length xc) ∧ (∀ B, Below B wr W)) (first | exact HKC.out _ (fun B => ⟨rfl, rfl, rfl, Nat.le_refl _, fun _ _ => rfl⟩) | exact HKC.out _ (fun B => (show Below B wr wr.drew from ⟨rfl, rfl, rfl, Nat.le_refl _, fun _ _ => rfl⟩).trans (hb3 B)) | fail) (first | (go_at_call 43; refine (C2.out _ (by exact fun B => ⟨rfl, rfl, rfl, Nat.le_refl _, fun _ _ => rfl⟩)).mono ?_; rintro e w3 ⟨rfl, hb3⟩) | fail)
            have HW3 := hide (fun B => ((HW.out B).trans (show Below B wr wr.drew from ⟨rfl, rfl, rfl, Nat.le_refl _, fun _ _ => rfl⟩)).trans (hb3 B))
            clear hb3 c1 c2
            go_wp2_with fail
            go_ret
            refine ⟨ret_bool ?_, HW3.out⟩
            rw [mayR_false]
            intro hok
            have h1 := HJN.out
            exact HL.out (pair_lt hok.2 (by omega) HKY.out HKX.out)
    · obtain rfl : i = n := by omega
      have hnl : ¬ (i : Int) < i := by omega
      go_wp2_with fail
      go_ret
      refine ⟨ret_bool ?_, HW.out⟩
      have h1 := HO.out
      rw [List.take_of_length_le (by rw [List.length_map, ← HN.out]; exact Nat.le_refl _)] at h1
      rw [mayR_iff.2 h1]
theorem search_at {l : List Key} {k x : Key} {i : Nat} (hx : l[i]? = some x) (hlt : ∀ j y, j < i → l[j]? = some y → ltK y k) (h : ¬ ltK x k) : posL k l = i ∧ isL k l = decide (cmpK x k = 0) := by
  have hp : posL k l = i := posL_eq (Nat.le_of_lt (List.getElem?_eq_some_iff.1 hx).1) hlt (fun y hy => by rw [hx] at hy; cases hy; exact h)
  refine ⟨hp, ?_⟩
  by_cases he : cmpK x k = 0
  · rw [decide_eq_true he, isL_iff, hp, hx, cmp_zero.1 he]
  · rw [decide_eq_false he]
    cases hi : isL k l with
    | false => rfl
    | true =>
      rw [isL_iff, hp, hx] at hi
      cases hi
      exact absurd (cmp_zero.2 rfl) he
theorem search_end {l : List Key} {k : Key} (hlt : ∀ (j : Nat) y, l[j]? = some y → ltK y k) : posL k l = l.length ∧ isL k l = false := by
  have hp : posL k l = l.length := posL_eq (Nat.le_refl _) (fun j y _ hy => hlt j y hy) (fun y hy => by simp at hy)
  refine ⟨hp, ?_⟩
  cases hi : isL k l with
  | false => rfl
  | true =>
    rw [isL_iff, hp] at hi
    simp at hi
set_option maxHeartbeats 1000000 in
theorem rsearch_any (A A' : Option Addr) (n c m d B B' : Nat) (hs : List Hd) (k : Key) (w : World) (h : RowR w B A hs) (hn : n = hs.length) (hsm : n ≤ 1000000) (hk : Bs w B' A' m k) :
    Calls Try.prog 24 #[.slice A n c, .slice A' m d] w fun e w' => e = .returned (.tuple #[.int .i64 (searchO k (keys hs)).1, .bool (searchO k (keys hs)).2]) ∧ ∀ B, Below B w w' := by
  have C1 := hide (rmay_any A n c B hs w h hn (by unfold maxLen; omega))
  have HR := hide h
  have HN := hide hn
  have HK := hide hk
  clear h hn hk
  unfold searchO
  cases hm : mayR (keys hs) with
  | false =>
    rw [hm] at C1
    go_enter Try.func24, Try.ntmps24
    go_wp2_with fail
    refine C1.out.mono ?_
    rintro e w1 ⟨rfl, hb1⟩
    have HB := hide hb1
    clear hb1
    go_wp2_with fail
    go_ret2
    exact ⟨rfl, HB.out⟩
  | true =>
    rw [hm] at C1
    rw [if_pos rfl]
    clear hm
    go_enter Try.func24, Try.ntmps24
    go_wp2_with fail
    refine C1.out.mono ?_
    rintro e w1 ⟨rfl, hb1⟩
    have HB := hide hb1
    clear hb1 C1
    go_wp2_with fail
    go_loopw [6] (fun v6 W => ∃ i : Nat, i ≤ n ∧ v6 = .int .i64 i ∧ Hid (∀ (j : Nat) y, j < i → (keys hs)[j]? = some y → ltK y k) ∧ Hid (∀ B, Below B w W)) (fun v6 _ => n - (intOf v6).toNat)
    case atStart => exact ⟨0, by omega, rfl, hide (fun j y hj => by omega), HB⟩
    case round =>
      obtain ⟨i, hi, rfl, HJ, HW⟩ := hrel
      by_cases hlt : i < n
      · have hrr := HR.out.below (HW.out B)
        obtain ⟨x, hx⟩ : ∃ x, hs[i]? = some x := ⟨_, List.getElem?_eq_getElem (by rw [← HN.out]; exact hlt)⟩
        have hkx : (keys hs)[i]? = some x.l := by rw [List.getElem?_map, hx]; rfl
        obtain ⟨ad, rfl, hab, c1⟩ := hrr.at_ hx
        have hgx := hrr.good x (List.mem_of_getElem? hx)
        have hiI : (i : Int) < (n : Int) := by omega
        have C2 := rcmp_any x.A A' x.l.length x.c m d B B' x.l k wr hgx.1 (Reads.below HK.out (HW.out B')) (Nat.le_trans hgx.2.1 hgx.2.2)
        obtain ⟨r, hr⟩ : ∃ r, r = cmpK x.l k := ⟨_, rfl⟩
        rw [← hr] at C2
        have C2H := hide C2
        have HKX := hide hkx
        have HCR := hide hr
        clear C2 hrr hgx hx hkx hr
        by_cases hge : (0 : Int) ≤ r
        · have hpi := search_at HKX.out HJ.out (by unfold ltK; rw [← HCR.out]; omega)
          rw [← HCR.out] at hpi
          have HPI := hide hpi
          clear hpi
          go_wp2_with fail
          refine C2H.out.mono ?_
          rintro e w2 ⟨rfl, hb2⟩
          have HW2 := hide (fun B => (HW.out B).trans (hb2 B))
          clear hb2
          go_wp2_with fail
          go_ret2
          refine ⟨?_, HW2.out⟩
          rw [HPI.out.1, HPI.out.2]
          rfl
        · have hl : ltK x.l k := by unfold ltK; rw [← HCR.out]; omega
          have HL := hide hl
          clear hl
          go_wp2_with fail
          refine C2H.out.mono ?_
          rintro e w2 ⟨rfl, hb2⟩
          have HW2 := hide (fun B => (HW.out B).trans (hb2 B))
          clear hb2
          go_wp2_with fail
          go_roundw
          case rel =>
            refine ⟨i + 1, by omega, by go_num, hide (fun j y hj hy => ?_), HW2⟩
            rcases Nat.lt_or_ge j i with h1 | h1
            · exact HJ.out j y h1 hy
            · obtain rfl : j = i := by omega
              rw [HKX.out] at hy
              cases hy
              exact HL.out
          case measure => simp [intOf]; omega
      · obtain rfl : i = n := by omega
        have hnl : ¬ (i : Int) < i := by omega
        go_wp2_with fail
        go_ret2
        obtain ⟨e1, e2⟩ := search_end (l := keys hs) (k := k) (fun j y hy => HJ.out j y (by have := (List.getElem?_eq_some_iff.1 hy).1; rw [List.length_map, ← HN.out] at this; exact this) hy)
        refine ⟨?_, HW.out⟩
        rw [e1, e2, List.length_map, ← HN.out]
        rfl
/-- what is behind a key, as the reference seeks it -/
theorem next_at {l : List Key} {k x : Key} {i : Nat} (h : RowOk l) (hx : l[i]? = some x) (hle : ∀ j y, j < i → l[j]? = some y → cmpK y k ≠ 1) (hg : cmpK x k = 1) : nextK k l = some x := by
  unfold nextK
  rw [mayR_iff.2 h, if_pos rfl]
  have hxk : ltK k x := by unfold ltK; rw [cmp_anti, hg]; omega
  rcases Nat.eq_zero_or_pos i with rfl | h0
  · have hs := search_at hx (fun j y hj => by omega) (ltK_asymm hxk)
    rw [hs.1, hs.2, hg]
    exact hx
  · obtain ⟨j, rfl⟩ : ∃ j, i = j + 1 := ⟨i - 1, by omega⟩
    obtain ⟨y, hy⟩ : ∃ y, l[j]? = some y := ⟨_, List.getElem?_eq_getElem (by have := (List.getElem?_eq_some_iff.1 hx).1; omega)⟩
    have h1 := hle j y (by omega) hy
    have h2 := cmp_three y k
    by_cases he : cmpK y k = 0
    · have hs := search_at hy (fun j' y' hj' hy' => by have := pair_lt h.2 hj' hy' hy; rwa [cmp_zero.1 he] at this) (by unfold ltK; omega)
      rw [hs.1, hs.2, decide_eq_true he]
      exact hx
    · have hyk : ltK y k := by unfold ltK; omega
      have hs := search_at hx (fun j' y' hj' hy' => by
        by_cases hjj : j' = j
        · subst hjj
          rw [hy] at hy'
          cases hy'
          exact hyk
        · exact ltK_trans (pair_lt h.2 (by omega) hy' hy) hyk) (ltK_asymm hxk)
      rw [hs.1, hs.2, hg]
      exact hx
theorem next_end {l : List Key} {k : Key} (h : RowOk l) (hle : ∀ (j : Nat) y, l[j]? = some y → cmpK y k ≠ 1) : nextK k l = none := by
  cases hn : nextK k l with
  | none => rfl
  | some x =>
    unfold nextK at hn
    rw [mayR_iff.2 h, if_pos rfl] at hn
    exfalso
    have h1 := hle _ _ hn
    have h2 := cmp_three x k
    cases hi : isL k l with
    | true =>
      rw [hi] at hn
      have h3 := pair_lt h.2 (by simp) (isL_iff.1 hi) hn
      unfold ltK at h3
      rw [cmp_anti] at h3
      omega
    | false =>
      rw [hi] at hn
      have h3 := posL_not (k := k) hn
      unfold ltK at h3
      have h4 : x = k := cmp_zero.1 (by omega)
      subst h4
      rw [isL_iff.2 hn] at hi
      cases hi
set_option maxHeartbeats 1000000 in
theorem rnext_any (A A' : Option Addr) (n c m d B B' : Nat) (hs : List Hd) (k : Key) (w : World) (h : RowR w B A hs) (hn : n = hs.length) (hsm : n ≤ 1000000) (hk : Bs w B' A' m k) :
    Calls Try.prog 26 #[.slice A n c, .slice A' m d] w fun e w' => ∃ A2 c2, e = .returned (.tuple #[.slice A2 ((nextK k (keys hs)).getD []).length c2, .bool (nextK k (keys hs)).isSome]) ∧ Bs w' B A2 ((nextK k (keys hs)).getD []).length ((nextK k (keys hs)).getD []) ∧ ∀ B, Below B w w' := by
  have C1 := hide (rmay_any A n c B hs w h hn (by unfold maxLen; omega))
  have HR := hide h
  have HN := hide hn
  have HK := hide hk
  clear h hn hk
  cases hm : mayR (keys hs) with
  | false =>
    rw [hm] at C1
    rw [show nextK k (keys hs) = none by unfold nextK; rw [hm]; rfl]
    go_enter Try.func26, Try.ntmps26
    go_wp2_with fail
    refine C1.out.mono ?_
    rintro e w1 ⟨rfl, hb1⟩
    have HB := hide hb1
    clear hb1
    go_wp2_with fail
    go_ret2
    exact ⟨_, _, rfl, Reads.none_, HB.out⟩
  | true =>
    rw [hm] at C1
    have HM := hide (mayR_iff.1 hm)
    clear hm
    go_enter Try.func26, Try.ntmps26
    go_wp2_with fail
    refine C1.out.mono ?_
    rintro e w1 ⟨rfl, hb1⟩
    have HB := hide hb1
    clear hb1 C1
    go_wp2_with fail
    go_loopw [6] (fun v6 W => ∃ i : Nat, i ≤ n ∧ v6 = .int .i64 i ∧ Hid (∀ (j : Nat) y, j < i → (keys hs)[j]? = some y → cmpK y k ≠ 1) ∧ Hid (∀ B, Below B w W)) (fun v6 _ => n - (intOf v6).toNat)
    case atStart => exact ⟨0, by omega, rfl, hide (fun j y hj => by omega), HB⟩
    case round =>
      obtain ⟨i, hi, rfl, HJ, HW⟩ := hrel
      by_cases hlt : i < n
      · have hrr := HR.out.below (HW.out B)
        obtain ⟨x, hx⟩ : ∃ x, hs[i]? = some x := ⟨_, List.getElem?_eq_getElem (by rw [← HN.out]; exact hlt)⟩
        have hkx : (keys hs)[i]? = some x.l := by rw [List.getElem?_map, hx]; rfl
        obtain ⟨ad, rfl, hab, c1⟩ := hrr.at_ hx
        have hgx := hrr.good x (List.mem_of_getElem? hx)
        have hiI : (i : Int) < (n : Int) := by omega
        have C2 := rcmp_any x.A A' x.l.length x.c m d B B' x.l k wr hgx.1 (Reads.below HK.out (HW.out B')) (Nat.le_trans hgx.2.1 hgx.2.2)
        obtain ⟨r, hr⟩ : ∃ r, r = cmpK x.l k := ⟨_, rfl⟩
        rw [← hr] at C2
        have C2H := hide C2
        have HKX := hide hkx
        have HCR := hide hr
        have HX := hide hx
        clear C2 hrr hgx hx hkx hr
        by_cases hge : r = 1
        · have hpi := next_at HM.out HKX.out HJ.out (HCR.out.symm.trans hge)
          have HPI := hide hpi
          clear hpi
          go_wp2_with fail
          refine C2H.out.mono ?_
          rintro e w2 ⟨rfl, hb2⟩
          have hw2 := fun B => (HW.out B).trans (hb2 B)
          have HW2 := hide hw2
          obtain ⟨ad', hade, _, c2⟩ := (HR.out.below (hw2 B)).at_ HX.out
          cases hade
          clear hb2 hw2 c1
          go_wp2_with fail
          go_ret2
          rw [HPI.out]
          exact ⟨x.A, x.c, rfl, ((HR.out.below (HW2.out B)).good x (List.mem_of_getElem? HX.out)).1, HW2.out⟩
        · have hl : cmpK x.l k ≠ 1 := by rw [← HCR.out]; exact hge
          have HL := hide hl
          clear hl
          go_wp2_with fail
          refine C2H.out.mono ?_
          rintro e w2 ⟨rfl, hb2⟩
          have HW2 := hide (fun B => (HW.out B).trans (hb2 B))
          clear hb2
          go_wp2_with fail
          go_roundw
          case rel =>
            refine ⟨i + 1, by omega, by go_num, hide (fun j y hj hy => ?_), HW2⟩
            rcases Nat.lt_or_ge j i with h1 | h1
            · exact HJ.out j y h1 hy
            · obtain rfl : j = i := by omega
              rw [HKX.out] at hy
              cases hy
              exact HL.out
          case measure => simp [intOf]; omega
      · obtain rfl : i = n := by omega
        have hnl : ¬ (i : Int) < i := by omega
        go_wp2_with fail
        go_ret2
        rw [next_end HM.out (fun j y hy => HJ.out j y (by have := (List.getElem?_eq_some_iff.1 hy).1; rw [List.length_map, ← HN.out] at this; exact this) hy)]
        exact ⟨none, ⟨0, rfl⟩, Reads.none_, HW.out⟩
end Go.Proofs.Yteiamfekdibkmaa
