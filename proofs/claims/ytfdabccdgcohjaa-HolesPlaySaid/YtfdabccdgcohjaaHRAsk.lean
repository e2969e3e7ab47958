/-
  THE WALKS of the document's Many, Sure, and of slices.Equal at its stretches. Conditions: as the theorems' premises say.
-/
import Derived.Test.YtfdabccdgcohjaaHRList
import Derived.Laws.StructEq
namespace Go.Proofs.Ytfdabccdgcohjaa
open Go.RowKit Go.Shelf

theorem neq56 (a b c d : Nat) (w : World) : (binOp .neq 56 (.agg #[.int .u64 (a : Int), .int .u64 (b : Int)]) (.agg #[.int .u64 (c : Int), .int .u64 (d : Int)])).run Try.prog w = .ok (.bool (!(decide (a = c) && decide (b = d)))) w := by
  have hS : Try.prog.underlying 56 = some (.struct (Try.prog.fieldsOf 56)) := by kernel_rfl
  have hp : Try.prog.stoodInHeld 56 = false := by kernel_rfl
  have u28 := Try.underlying28
  rw [run_neq_struct, show (10000 : Nat) = 9999 + 1 from rfl, run_equalIn_agg w 9999 56 _ _ hS hp]
  simp only [Program.fieldsOf, Try.underlying56]
  go_simp
  by_cases h1 : a = c <;> by_cases h2 : b = d <;> simp [h1, h2] <;> omega
set_option maxHeartbeats 400000 in
theorem requal_any (A A' : Option Addr) (n c m d B B' : Nat) (L K : List St) (w : World) (h : RdS w B A L) (h' : RdS w B' A' K) (hn : n = L.length) (hm : m = K.length) (hsm : n ≤ 1000000) (hsm2 : m ≤ 1000000) :
    Calls Try.prog 22 #[.slice A n c, .slice A' m d] w fun e w' => e = .returned (.bool (eqS L K)) ∧ w'.heap = w.heap ∧ w'.os = w.os ∧ w'.tape = w.tape ∧ w'.output = w.output := by
  have H1 := hide h
  have H2 := hide h'
  have HN := hide hn
  have HM := hide hm
  clear h h' hn hm
  by_cases hnm : n = m
  · subst hnm
    go_enter Try.func22, Try.ntmps22
    go_wp2_with fail
    go_loopw [5, 13] (fun _ v13 W => ∃ i : Nat, i ≤ n ∧ v13 = .int .i64 i ∧ Hid (∀ (j : Nat) a b, j < i → L[j]? = some a → K[j]? = some b → a = b) ∧ Hid (W.heap = w.heap ∧ W.os = w.os ∧ W.tape = w.tape ∧ W.output = w.output)) (fun _ v13 _ => n - (intOf v13).toNat)
    case atStart => exact ⟨0, by omega, rfl, hide (fun j a b hj => by omega), hide ⟨rfl, rfl, rfl, rfl⟩⟩
    case round =>
      obtain ⟨i, hi, rfl, HJ, HW⟩ := hrel
      by_cases hlt : i < n
      · obtain ⟨a, ha⟩ : ∃ a, L[i]? = some a := ⟨_, List.getElem?_eq_getElem (by rw [← HN.out]; exact hlt)⟩
        obtain ⟨b, hb⟩ : ∃ b, K[i]? = some b := ⟨_, List.getElem?_eq_getElem (by rw [← HM.out]; exact hlt)⟩
        have hk : ∀ p : Addr, wr.cell? p = w.cell? p := fun p => World.cell?_of_block (by rw [HW.out.1])
        obtain ⟨ad, rfl, _, c1, c2⟩ := RdS.at_ (H1.out.keep (w' := wr) fun p _ => hk p) ha
        obtain ⟨ad', rfl, _, c3, c4⟩ := RdS.at_ (H2.out.keep (w' := wr) fun p _ => hk p) hb
        have HA := hide ha
        have HB := hide hb
        have nq := neq56 a.lo a.hi b.lo b.hi
        by_cases heq : a.lo = b.lo ∧ a.hi = b.hi
        · have e1 : (decide (a.lo = b.lo) && decide (a.hi = b.hi)) = true := by simp [heq]
          rw [e1] at nq
          have HE := hide heq
          clear ha hb hk heq e1
          go_wp2_with fail
          go_quiet (fail)
          go_wp2_with fail
          go_roundw
          case rel =>
            refine ⟨i + 1, by omega, by go_num, hide (fun j x y hj hx hy => ?_), HW⟩
            rcases Nat.lt_or_ge j i with h1 | h1
            · exact HJ.out j x y h1 hx hy
            · obtain rfl : j = i := by omega
              rw [HA.out] at hx
              rw [HB.out] at hy
              cases hx
              cases hy
              exact St.ext' HE.out.1 HE.out.2
          case measure => simp [intOf]; omega
        · have e1 : (decide (a.lo = b.lo) && decide (a.hi = b.hi)) = false := by
            rw [Bool.eq_false_iff]
            simpa using heq
          rw [e1] at nq
          have HE := hide heq
          clear ha hb hk heq e1
          go_wp2_with fail
          go_quiet (fail)
          go_wp2_with fail
          go_ret
          refine ⟨ret_bool ?_, HW.out⟩
          rw [eqS_take_false HA.out HB.out HE.out]
      · obtain rfl : i = n := by omega
        have hnl : ¬ (i : Int) < i := by omega
        go_wp2_with fail
        go_ret
        refine ⟨ret_bool ?_, HW.out⟩
        rw [eq_comm, eqS_iff]
        refine List.ext_getElem? fun j => ?_
        rcases Nat.lt_or_ge j i with h1 | h1
        · rw [List.getElem?_eq_getElem (by rw [← HN.out]; exact h1), List.getElem?_eq_getElem (by rw [← HM.out]; exact h1)]
          rw [HJ.out j _ _ h1 (List.getElem?_eq_getElem (by rw [← HN.out]; exact h1)) (List.getElem?_eq_getElem (by rw [← HM.out]; exact h1))]
        · rw [List.getElem?_eq_none (by rw [← HN.out]; exact h1), List.getElem?_eq_none (by rw [← HM.out]; exact h1)]
  · have hnI : ¬ ((n : Int) = (m : Int)) := by omega
    go_enter Try.func22, Try.ntmps22
    go_wp2_with fail
    go_ret
    refine ⟨ret_bool ?_, rfl, rfl, rfl, rfl⟩
    cases h : eqS L K with
    | false => rfl
    | true =>
      rw [eqS_iff] at h
      subst h
      exact absurd (HN.out.trans HM.out.symm) hnm

set_option maxHeartbeats 800000 in
theorem rmany_any {w : World} {base q : Nat} {S : List Sd} {L : List St} (h : RefAt w base q S) (hc : Canon L) (hh : ∀ n, has L n = hasR S n) (hsm : S.length ≤ 1000) (hlb : L.length ≤ 100000) :
    Calls Try.prog 24 #[.pointer (some ⟨q, 0, none⟩)] w fun e w' => e = .returned (.int .u64 (manyL L)) ∧ Below w.heap.size w w' := by
  have C2 := hide (rlist_any h hc hh hsm)
  have HOK := hide hc
  have hmm : manyL L ≤ 1099511627776 := by
    have := many_le (x := 0) hc (fun s hs => by have := hc.mem hs; omega) (by omega)
    omega
  clear h hc hh hsm
  go_enter Try.func24, Try.ntmps24
  go_wp2_with fail
  refine C2.out.mono ?_
  rintro e w1 ⟨v, rfl, ho, hb⟩
  obtain ⟨A, c, rfl, hr⟩ := own_sliceR ho
  obtain ⟨m, hm⟩ : ∃ m, m = L.length := ⟨_, rfl⟩
  rw [← hm] at hlb ⊢
  have HM := hide hm
  have HR := hide hr
  have HB := hide hb
  clear ho hr hm hb C2
  go_wp2_with fail
  go_loopw [3, 5] (fun v3 v5 W => ∃ i : Nat, i ≤ m ∧ v5 = .int .i64 i ∧ v3 = .int .u64 (manyL (L.take i)) ∧ Hid (Below w1.heap.size w1 W)) (fun _ v5 _ => m - (intOf v5).toNat)
  case atStart => exact ⟨0, by omega, rfl, rfl, hide (Below.refl _ _)⟩
  case round =>
    obtain ⟨i, hi, rfl, rfl, HW⟩ := hrel
    by_cases hlt : i < m
    · obtain ⟨s, hs⟩ : ∃ s, L[i]? = some s := ⟨_, List.getElem?_eq_getElem (by rw [← HM.out]; exact hlt)⟩
      obtain ⟨ad, rfl, hab, c1, c2⟩ := RdS.at_ (HR.out.below HW.out) hs
      have h1 := many_take hs
      have h2 := many_take_le L (i + 1)
      have h3 := HOK.out.mem (List.mem_of_getElem? hs)
      obtain ⟨t, ht⟩ : ∃ t, t = manyL (L.take i) := ⟨_, rfl⟩
      rw [← ht] at h1 ⊢
      obtain ⟨slo, shi⟩ := s
      simp only at *
      have HT2 := hide h1
      have hiI : (i : Int) < (m : Int) := by omega
      obtain ⟨z1, hz1⟩ : ∃ z : Nat, (t : Int) + (shi : Int) = (z : Int) := ⟨t + shi, by omega⟩
      obtain ⟨z2, hz2⟩ : ∃ z : Nat, (z1 : Int) - (slo : Int) = (z : Int) := ⟨z1 - slo, by omega⟩
      obtain ⟨z3, hz3⟩ : ∃ z : Nat, (z2 : Int) + 1 = (z : Int) := ⟨z2 + 1, by omega⟩
      have e1 : IntKind.u64.wrap (z1 : Int) = (z1 : Int) := IntWalk.u64_in _ ⟨by omega, by omega⟩
      have e2 : IntKind.u64.wrap (z2 : Int) = (z2 : Int) := IntWalk.u64_in _ ⟨by omega, by omega⟩
      have e3 : IntKind.u64.wrap (z3 : Int) = (z3 : Int) := IntWalk.u64_in _ ⟨by omega, by omega⟩
      have HZ : Hid (z3 = manyL (L.take (i + 1))) := hide (by omega)
      clear hs h1 ht h2
      go_wp2_with fail
      go_quiet (fail)
      have HW2 := hide (HW.out.trans (c := wr.drewN nq) ⟨rfl, rfl, rfl, Nat.le_refl _, fun _ _ => rfl⟩)
      clear c1 c2
      generalize wr.drewN nq = W2 at HW2 ⊢
      go_wp2_with fail
      go_roundw
      case rel => exact ⟨i + 1, by omega, by go_num, congrArg (Value.int IntKind.u64) (by rw [← HZ.out]), HW2⟩
      case measure => simp [intOf]; omega
    · obtain rfl : i = m := by omega
      have hnl : ¬ (i : Int) < i := by omega
      go_wp2_with fail
      go_ret
      refine ⟨ret_int ?_, belFrom HB.out HW.out⟩
      rw [List.take_of_length_le (by rw [HM.out]; exact Nat.le_refl _)]

set_option maxHeartbeats 800000 in
theorem rsure_any {w : World} {base q : Nat} {S : List Sd} {L : List St} (h : RefAt w base q S) (hc : Canon L) (hh : ∀ n, has L n = hasR S n) (nw s : Nat) (hnw : nw ≤ 18446744073709551615) (hsm : S.length ≤ 1000) (hlb : L.length ≤ 100000) :
    Calls Try.prog 26 #[.pointer (some ⟨q, 0, none⟩), .int .u64 nw, .int .u64 s] w fun e w' => e = .returned (.bool (sureL nw s L)) ∧ Below w.heap.size w w' := by
  have C2 := hide (rlist_any h hc hh hsm)
  have HOK := hide hc
  clear h hc hh hsm
  go_enter Try.func26, Try.ntmps26
  go_wp2_with fail
  refine C2.out.mono ?_
  rintro e w1 ⟨v, rfl, ho, hb⟩
  obtain ⟨A, c, rfl, hr⟩ := own_sliceR ho
  obtain ⟨m, hm⟩ : ∃ m, m = L.length := ⟨_, rfl⟩
  rw [← hm] at hlb ⊢
  have HM := hide hm
  have HR := hide hr
  have HB := hide hb
  clear ho hr hm hb C2
  go_wp2_with fail
  go_loopw [8] (fun v8 W => ∃ i : Nat, i ≤ m ∧ v8 = .int .i64 i ∧ Hid (∀ j x, j < i → L[j]? = some x → sureB nw s x = false) ∧ Hid (W = w1)) (fun v8 _ => m - (intOf v8).toNat)
  case atStart => exact ⟨0, by omega, rfl, hide (fun j x hj => by omega), hide rfl⟩
  case round =>
    obtain ⟨i, hi, rfl, HJ, HW⟩ := hrel
    by_cases hlt : i < m
    · obtain ⟨x, hx⟩ : ∃ x, L[i]? = some x := ⟨_, List.getElem?_eq_getElem (by rw [← HM.out]; exact hlt)⟩
      obtain ⟨ad, rfl, hab, c1, c2⟩ := RdS.at_ HR.out hx
      rw [← HW.out] at c1 c2
      have h3 := HOK.out.mem (List.mem_of_getElem? hx)
      have hiI : (i : Int) < (m : Int) := by omega
      have HX := hide hx
      have hgo : sureB nw s x = false → ∀ j y, j < i + 1 → L[j]? = some y → sureB nw s y = false := fun hb j y hj hy => by
        by_cases h : j = i
        · subst h
          rw [HX.out] at hy
          cases hy
          exact hb
        · exact HJ.out j y (by omega) hy
      have HGO := hide hgo
      clear hgo hx
      by_cases g1 : nw < x.hi
      · have g1I : (nw : Int) < (x.hi : Int) := by omega
        obtain ⟨n1, hn1⟩ : ∃ n1 : Nat, (nw : Int) + 1 = (n1 : Int) := ⟨nw + 1, by omega⟩
        have e1 : IntKind.u64.wrap (n1 : Int) = (n1 : Int) := IntWalk.u64_in _ ⟨by omega, by omega⟩
        by_cases g2 : x.lo ≤ nw
        · have g2I : (x.lo : Int) ≤ (nw : Int) := by omega
          have g3I : (n1 : Int) ≤ (x.hi : Int) := by omega
          by_cases g4 : n1 ≤ s
          · have g4I : (n1 : Int) ≤ (s : Int) := by omega
            have HBT : Hid (sureB nw s x = true) := hide (by simp [sureB]; omega)
            clear g4
            go_wp2_with fail
            go_ret
            refine ⟨ret_bool ?_, by rw [HW.out]; exact HB.out⟩
            show false = !(L.any (sureB nw s))
            rw [List.any_eq_true.2 ⟨x, List.mem_of_getElem? HX.out, HBT.out⟩]
            rfl
          · have g4I : ¬ (n1 : Int) ≤ (s : Int) := by omega
            have HBT : Hid (sureB nw s x = false) := hide (by simp [sureB]; omega)
            clear g4
            go_wp2_with fail
            go_roundw
            case rel => exact ⟨i + 1, by omega, by go_num, hide (HGO.out HBT.out), HW⟩
            case measure => simp [intOf]; omega
        · have g2I : ¬ (x.lo : Int) ≤ (nw : Int) := by omega
          have g3I : (x.lo : Int) ≤ (x.hi : Int) := by omega
          by_cases g4 : x.lo ≤ s
          · have g4I : (x.lo : Int) ≤ (s : Int) := by omega
            have HBT : Hid (sureB nw s x = true) := hide (by simp [sureB]; omega)
            clear g4
            go_wp2_with fail
            go_ret
            refine ⟨ret_bool ?_, by rw [HW.out]; exact HB.out⟩
            show false = !(L.any (sureB nw s))
            rw [List.any_eq_true.2 ⟨x, List.mem_of_getElem? HX.out, HBT.out⟩]
            rfl
          · have g4I : ¬ (x.lo : Int) ≤ (s : Int) := by omega
            have HBT : Hid (sureB nw s x = false) := hide (by simp [sureB]; omega)
            clear g4
            go_wp2_with fail
            go_roundw
            case rel => exact ⟨i + 1, by omega, by go_num, hide (HGO.out HBT.out), HW⟩
            case measure => simp [intOf]; omega
      · have g1I : ¬ (nw : Int) < (x.hi : Int) := by omega
        have g2I : (x.lo : Int) ≤ (nw : Int) := by omega
        have HBT : Hid (sureB nw s x = false) := hide (by simp [sureB]; omega)
        clear g1
        go_wp2_with fail
        go_roundw
        case rel => exact ⟨i + 1, by omega, by go_num, hide (HGO.out HBT.out), HW⟩
        case measure => simp [intOf]; omega
    · obtain rfl : i = m := by omega
      have hnl : ¬ (i : Int) < i := by omega
      go_wp2_with fail
      go_ret
      refine ⟨ret_bool ?_, by rw [HW.out]; exact HB.out⟩
      show true = !(L.any (sureB nw s))
      cases hany : L.any (sureB nw s) with
      | false => rfl
      | true =>
        obtain ⟨x, hx, hb⟩ := List.any_eq_true.1 hany
        obtain ⟨j, hj⟩ := List.mem_iff_getElem?.1 hx
        rw [HJ.out j x (by rw [HM.out]; exact (List.getElem?_eq_some_iff.1 hj).1) hj] at hb
        cases hb
end Go.Proofs.Ytfdabccdgcohjaa
