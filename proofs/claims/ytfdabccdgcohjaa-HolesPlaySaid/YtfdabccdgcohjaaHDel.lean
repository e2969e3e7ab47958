/-
  THE WALKS of slices.Delete, slices.Clone, slices.Equal at stretches. Conditions: as the theorems' premises say.
-/
import Derived.Test.YtfdabccdgcohjaaHIns
import Derived.Laws.StructEq
import Derived.BigQuiet
import Derived.StillTailTactics
namespace Go.Proofs.Ytfdabccdgcohjaa
open Go.RowKit Go.Shelf

theorem step_append_at {P : Program} {ops : Array Oper} {o : Oper} {a : Act} {w : World} {K : Act → World → Prop} {Q : Exit → Act → World → Prop} {E : Prop}
    (hg : o.guard = none) (d x : Operand) (dT sT : TypeId) (hop : o.op = Op.call { callee := Callee.builtin Builtin.append, args := #[d, x], argTypes := #[dT, sT] })
    (v u : Value) (hd : a.eval d = v) (hx : a.eval x = u) {v' : Value} {w' : World} (hr : (Builtin.append_ #[dT, sT] o.type #[v, u]).run P w = .ok v' w') (hK : K (a.put o.dst v') w') :
    if Region.wanted o (yielded ops a.tmps) = true then Oper.wp P o a w K Q else E := by
  have hw : Region.wanted o (yielded ops a.tmps) = true := by simp [Region.wanted, hg]
  rw [if_pos hw]
  unfold Oper.wp
  simp [execOp, hop, resolve, invoke, builtin, hd, hx, hr, Result.andThen]
  exact hK
theorem run_clear1 (w : World) (ty : TypeId) (g o c : Nat) (cur : Array Value) (t : TypeId) (hg : w.heap[g]? = some (.cells cur t (0, 0))) (hfit : o + 2 ≤ cur.size) :
    (Builtin.clear_ #[38] ty #[.slice (some ⟨g, o, none⟩) 1 c]).run Try.prog w = .ok (.tuple #[]) (w.setRow g (cur.toList.take o ++ ([.int .u64 0, .int .u64 0] : List Value) ++ cur.toList.drop (o + 2)).toArray) := by
  have hst := run_storeCells_at Try.prog g o t [.int .u64 0, .int .u64 0] 0 cur w hg (by simpa using hfit) (by intro v hv; simp at hv; rcases hv with rfl | rfl <;> rfl)
  have hzc : (Builtin.zeroCells (Value.agg #[.int .u64 0, .int .u64 0]).cells 1).toList = [.int .u64 0, .int .u64 0] := by kernel_rfl
  simp [Builtin.clear_, run_underlying el38', hzc] at hst ⊢
  simp [hst]

set_option maxRecDepth 100000 in
set_option maxHeartbeats 2000000 in
theorem delete_any {w : World} {base g n cap k : Nat} {L : List St} (h : OwnS w base (.slice (some ⟨g, 0, none⟩) n cap) L) (hn : n = L.length) (hk : k < n) :
    Calls Try.prog 35 #[.slice (some ⟨g, 0, none⟩) n cap, .int .i64 k, .int .i64 ((k : Int) + 1)] w fun e w' => ∃ v', e = .returned v' ∧ OwnS w' base v' (L.take k ++ L.drop (k + 1)) ∧ w.grownBy w' (some g) := by
  rcases h.2 with ⟨h', _⟩ | ⟨g', cap', cur, h', hbg, hg, hnc, hcm, hcs, htake⟩
  · simp at h'
  simp only [Value.slice.injEq, Option.some.injEq, Addr.mk.injEq, and_true] at h'
  obtain ⟨rfl, h9, rfl⟩ := h'
  clear h9
  have hL := stc_len L
  rw [← hn] at htake hL hnc
  obtain ⟨i0, hi0, hz0, hzs, hzb⟩ := info_parts st_info
  have hcell : ∀ (j : Nat) v, (stc L)[j]? = some v → w.cell? ⟨g, j, none⟩ = some v := fun j v hj => by
    rw [cell_of_row w g j cur 41 (0, 0) hg]
    have hj2 := (List.getElem?_eq_some_iff.1 hj).1
    rw [← htake, List.getElem?_take, if_pos (by omega)] at hj
    simpa using hj
  have hdl : ((stc L).drop ((k + 1) * 2)).length = (n - (k + 1)) * 2 := by rw [List.length_drop, hL]; omega
  have hd1 : ∀ v ∈ (stc L).drop ((k + 1) * 2), v.oneCell' = true := fun v hv => stc_one L v (List.mem_of_mem_drop hv)
  obtain ⟨A, hA, hsrc⟩ : ∃ A : Addr, (∀ w, (Instr.slice 38 (.slice (some ⟨g, 0, none⟩) n cap) (some (.int .i64 ((k : Int) + 1))) none none).run Try.prog w = .ok (.slice (some A) (n - (k + 1)) (cap - (k + 1))) w) ∧ ∀ W : World, W.heap = w.heap → ∀ j u, ((stc L).drop ((k + 1) * 2))[j]? = some u → W.cell? (A.add j) = some u := by
    rcases Nat.lt_or_ge (k + 1) cap with hc | hc
    · refine ⟨⟨g, (k + 1) * 2, none⟩, sl_from g n cap ((k : Int) + 1) (k + 1) (by omega) (by omega) hc, fun W hW j u hj => ?_⟩
      rw [List.getElem?_drop] at hj
      have e : W.cell? ⟨g, (k + 1) * 2 + j, none⟩ = w.cell? ⟨g, (k + 1) * 2 + j, none⟩ := World.cell?_of_block (by rw [hW])
      rw [Addr.add_lit, e]
      exact hcell _ u hj
    · refine ⟨⟨g, 0, none⟩, fun w => ?_, fun W hW j u hj => ?_⟩
      · rw [run_slice_l w 38 _ n cap el38 .i64 ((k : Int) + 1) (by omega) (by omega), sz38]
        have e : ((k : Int) + 1).toNat = k + 1 := by omega
        simp only [Result.andThen, sliced, e]
        rw [if_pos (by omega)]
      · have := (List.getElem?_eq_some_iff.1 hj).1
        omega
  obtain ⟨c1, hc1⟩ : ∃ c, c = (cur.toList.take (k * 2) ++ (stc L).drop ((k + 1) * 2) ++ cur.toList.drop (k * 2 + (n - (k + 1)) * 2)).toArray := ⟨_, rfl⟩
  have hs1 : c1.size = cap * 2 := by
    rw [hc1]
    simp only [List.size_toArray, List.length_append, List.length_take, List.length_drop, Array.length_toList, hdl]
    omega
  have ap : ∀ W : World, W.heap = w.heap → ∀ ty, (Builtin.append_ #[38, 38] ty #[.slice (some ⟨g, 0, none⟩) k cap, .slice (some A) (n - (k + 1)) (cap - (k + 1))]).run Try.prog W = .ok (.slice (some ⟨g, 0, none⟩) (n - 1) cap) (W.setRow g c1) := fun W hW ty => by
    have := run_append_room (P := Try.prog) W 38 ty 41 i0 el38' hi0 g k cap cur (by rw [hW]; exact hg) A (n - (k + 1)) (cap - (k + 1)) ((stc L).drop ((k + 1) * 2)) (by rw [hdl, hzs]) (hsrc W hW) hd1 (by omega) (by rw [hdl, hzs]; omega)
    rw [this, hdl, hzs, hc1, show k + (n - (k + 1)) = n - 1 by omega]
  obtain ⟨c2, hc2⟩ : ∃ c, c = (c1.toList.take ((n - 1) * 2) ++ ([.int .u64 0, .int .u64 0] : List Value) ++ c1.toList.drop ((n - 1) * 2 + 2)).toArray := ⟨_, rfl⟩
  have hs2 : c2.size = cap * 2 := by
    rw [hc2]
    simp only [List.size_toArray, List.length_append, List.length_take, List.length_drop, Array.length_toList, List.length_cons, List.length_nil]
    omega
  have cl : ∀ W : World, W.heap = (w.setRow g c1).heap → ∀ ty, (Builtin.clear_ #[38] ty #[.slice (some ⟨g, (n - 1) * 2, none⟩) 1 (cap - (n - 1))]).run Try.prog W = .ok (.tuple #[]) (W.setRow g c2) := fun W hW ty => by
    rw [run_clear1 W ty g ((n - 1) * 2) (cap - (n - 1)) c1 41 (by rw [hW]; exact setRow_heap w g cur c1 41 (0, 0) hg) (by omega), hc2]
  have hfin : ∀ W : World, W.heap = ((w.setRow g c1).setRow g c2).heap → W.os = w.os → W.tape = w.tape → W.output = w.output → OwnS W base (.slice (some ⟨g, 0, none⟩) (n - 1) cap) (L.take k ++ L.drop (k + 1)) ∧ w.grownBy W (some g) := fun W hW h1 h2 h3 => by
    have hlen : (L.take k ++ L.drop (k + 1)).length = n - 1 := by simp; omega
    refine ⟨?_, h1, h2, h3, by rw [hW]; simp [World.setRow], fun j hj hjg => ?_⟩
    · show W.ownsRow base 41 2 _ (L.take k ++ L.drop (k + 1)).length _
      rw [hlen]
      refine ⟨by rw [stc_len, hlen], .inr ⟨g, cap, c2, rfl, hbg, by rw [hW]; exact setRow_heap _ g c1 c2 41 (0, 0) (setRow_heap w g cur c1 41 (0, 0) hg), by omega, hcm, hs2, ?_⟩⟩
      rw [stc_app, ← stc_take, ← stc_drop, hc2]
      have e1 : cur.toList.take (k * 2) = (stc L).take (k * 2) := by
        rw [← htake, List.take_take]
        congr 1
        omega
      show List.take ((n - 1) * 2) (c1.toList.take ((n - 1) * 2) ++ ([.int .u64 0, .int .u64 0] : List Value) ++ c1.toList.drop ((n - 1) * 2 + 2)) = _
      rw [List.append_assoc, List.take_left' (by rw [List.length_take, Array.length_toList]; omega), hc1]
      show List.take ((n - 1) * 2) (cur.toList.take (k * 2) ++ (stc L).drop ((k + 1) * 2) ++ cur.toList.drop (k * 2 + (n - (k + 1)) * 2)) = _
      rw [List.take_left' (by rw [List.length_append, hdl, List.length_take, Array.length_toList]; omega), e1]
    · rw [hW, setRow_other _ g j _ (fun e => hjg (by rw [e])), setRow_other _ g j _ (fun e => hjg (by rw [e]))]
  obtain ⟨z, hz⟩ : ∃ z, ∀ w, (Instr.slice 38 (.slice (some ⟨g, 0, none⟩) n cap) (some (.int .i64 k)) (some (.int .i64 ((k : Int) + 1))) (some (.int .i64 n))).run Try.prog w = .ok z w :=
    ⟨_, fun w => by rw [run_slice_lhm w 38 _ n cap el38 .i64 .i64 .i64 k ((k : Int) + 1) n (by omega) (by omega) (by omega) (by omega), sz38]; rfl⟩
  have sl1 := sl_to (some ⟨g, 0, none⟩) n cap (k : Int) k rfl (by omega)
  have sl2 : ∀ w, (Instr.slice 38 (.slice (some ⟨g, 0, none⟩) (n - 1) cap) (some (.int .i64 ((n - 1 : Nat) : Int))) (some (.int .i64 n)) none).run Try.prog w = .ok (.slice (some ⟨g, (n - 1) * 2, none⟩) 1 (cap - (n - 1))) w := fun w => by
    rw [run_slice_lh w 38 _ (n - 1) cap el38 .i64 .i64 ((n - 1 : Nat) : Int) n (by omega) (by omega) (by omega), sz38]
    simp only [Result.andThen, sliced, Int.toNat_natCast]
    rw [if_neg (by omega), show n - (n - 1) = 1 by omega]
    simp [add_lit2]
  unfold maxLen at hcm
  have hnk : ¬ ((k : Int) = (k : Int) + 1) := by omega
  have hn63 : n ≤ 9223372036854775807 := by omega
  have hk0 : (0 : Int) ≤ (k : Int) + 1 := by omega
  have hkn : k ≤ n := by omega
  have hkc : k ≤ cap := by omega
  have hkni : (k : Int) + 1 ≤ (n : Int) := by omega
  have hkt : ((k : Int) + 1).toNat = k + 1 := by omega
  have AP := hide ap
  have CL := hide cl
  have HF := hide hfin
  clear ap cl hfin hcell htake hcs hs1 hs2 hc1 hc2 hdl hd1 hg hbg hnc hn h hL hi0 hz0 hzs hzb hsrc
  obtain ⟨nd, hnd⟩ : ∃ nd, nd = n - 1 := ⟨_, rfl⟩
  rw [← hnd] at AP CL HF sl2
  have hnd2 : nd ≤ 9223372036854775807 := by omega
  clear hnd
  go_enter Try.func35, Try.ntmps35
  go_wp2_with fail
  go_region_law (refine step_append_at rfl _ _ 38 38 rfl _ _ (by simp [Act.eval, Act.put]) (by simp [Act.eval, Act.put]) (AP.out w.drew rfl _) ?_)
  have e2 := CL.out (w.drew.setRow g c1) rfl
  go_wp2_with fail
  go_ret
  obtain ⟨h1, h2⟩ := HF.out ((w.drew.setRow g c1).setRow g c2) rfl rfl rfl rfl
  exact ⟨_, rfl, h1, h2⟩
set_option maxHeartbeats 400000 in
theorem clone_any (A : Option Addr) (n c B : Nat) (L : List St) (w : World) (h : RdS w B A L) (hn : n = L.length) (hsm : n ≤ 1000000) (hB : B ≤ w.heap.size) :
    Calls Try.prog 36 #[.slice A n c] w fun e w' => ∃ v, e = .returned v ∧ OwnS w' w.heap.size v L ∧ Below w.heap.size w w' := by
  obtain ⟨i0, hi, hz0, hz1, hz2⟩ := info_parts st_info
  have q := fun (w : World) (a : Option Addr) (n c n' c' : Nat) => Lib.run_eql_slice_nil (P := Try.prog) w 38 41 a n c n' c' el38'
  have hL := stc_len L
  rw [← hn] at hL
  rcases A with _ | ad
  · have hl : L = [] := by
      cases L with
      | nil => rfl
      | cons s r =>
        obtain ⟨_, h1, _⟩ := h.addr (by rw [stc_len]; simp)
        cases h1
    subst hl
    obtain rfl : n = 0 := hn
    clear h hL
    go_enter Try.func36, Try.ntmps36
    go_wp2
    go_ret
    exact ⟨_, rfl, ⟨rfl, .inl ⟨rfl, rfl⟩⟩, Below.refl _ _⟩
  · have h2 : Reads (w.alloc (.cells #[] 41)) B 2 (some ad) n (stc L) := by rw [hn]; exact Reads.alloc h hB _
    have h1 := stc_one L
    have HF : Hid (∀ W v, W.ownsRow w.heap.size 41 2 v n (stc L) → OwnS W w.heap.size v L) := hide (fun W v hh => by
      show W.ownsRow w.heap.size 41 2 v L.length (stc L)
      rw [← hn]
      exact hh)
    clear h hn hL
    go_enter Try.func36, Try.ntmps36
    go_wp2_with (at_builtin; refine wpList_append_any _ rfl (.tmp 5) (.tmp 6) 38 rfl w.heap.size 41 i0 _ 2 16 el38' hi hz0 hz1 hz2 rfl (by omega) (.slice (some ⟨w.heap.size, 0, none⟩) 0 0) 0 [] rfl (World.ownsRow_made w #[] 0 (Nat.le_refl _) (Nat.zero_le _) (by simp)) B (some ad) n c (stc L) rfl h2 h1 (by unfold maxLen; omega) (by omega) (by simp) ?_; intro v1 w1 hown hg hat)
    go_ret
    exact ⟨v1, rfl, HF.out _ _ (by simpa using hown), (bel1 _ _).grown hg (by simp) (by intro k hk; simp [Value.ownBlock] at hk; omega)⟩
def eqS : List St → List St → Bool
  | [], [] => true
  | a :: L, b :: K => (decide (a.lo = b.lo) && decide (a.hi = b.hi)) && eqS L K
  | _, _ => false
theorem eqS_iff : ∀ {L K : List St}, eqS L K = true ↔ L = K
  | [], [] => by simp [eqS]
  | [], b :: K => by simp [eqS]
  | a :: L, [] => by simp [eqS]
  | a :: L, b :: K => by
    rw [eqS, Bool.and_eq_true, Bool.and_eq_true, decide_eq_true_iff, decide_eq_true_iff, eqS_iff, List.cons.injEq]
    constructor
    · rintro ⟨⟨h1, h2⟩, h3⟩
      exact ⟨St.ext' h1 h2, h3⟩
    · rintro ⟨rfl, rfl⟩
      exact ⟨⟨rfl, rfl⟩, rfl⟩
theorem eqS_self (L : List St) : eqS L L = true := eqS_iff.2 rfl
theorem neq41 (a b c d : Nat) (w : World) : (binOp .neq 41 (.agg #[.int .u64 (a : Int), .int .u64 (b : Int)]) (.agg #[.int .u64 (c : Int), .int .u64 (d : Int)])).run Try.prog w = .ok (.bool (!(decide (a = c) && decide (b = d)))) w := by
  have hS : Try.prog.underlying 41 = some (.struct (Try.prog.fieldsOf 41)) := by kernel_rfl
  have hp : Try.prog.stoodInHeld 41 = false := by kernel_rfl
  have u28 := Try.underlying28
  rw [run_neq_struct, show (10000 : Nat) = 9999 + 1 from rfl, run_equalIn_agg w 9999 41 _ _ hS hp]
  simp only [Program.fieldsOf, Try.underlying41]
  go_simp
  by_cases h1 : a = c <;> by_cases h2 : b = d <;> simp [h1, h2] <;> omega
theorem eql41 (a b c d : Nat) (w : World) : (binOp .eql 41 (.agg #[.int .u64 (a : Int), .int .u64 (b : Int)]) (.agg #[.int .u64 (c : Int), .int .u64 (d : Int)])).run Try.prog w = .ok (.bool (decide (a = c) && decide (b = d))) w := by
  have hS : Try.prog.underlying 41 = some (.struct (Try.prog.fieldsOf 41)) := by kernel_rfl
  have hp : Try.prog.stoodInHeld 41 = false := by kernel_rfl
  have u28 := Try.underlying28
  rw [run_eql_struct, show (10000 : Nat) = 9999 + 1 from rfl, run_equalIn_agg w 9999 41 _ _ hS hp]
  simp only [Program.fieldsOf, Try.underlying41]
  go_simp
  by_cases h1 : a = c <;> by_cases h2 : b = d <;> simp [h1, h2] <;> omega
theorem eqS_take_false : ∀ {L K : List St} {i : Nat} {a b : St}, L[i]? = some a → K[i]? = some b → ¬ (a.lo = b.lo ∧ a.hi = b.hi) → eqS L K = false := fun {L K i a b} ha hb hne => by
  cases h : eqS L K with
  | false => rfl
  | true =>
    rw [eqS_iff] at h
    subst h
    rw [ha] at hb
    cases hb
    exact absurd ⟨rfl, rfl⟩ hne
set_option maxHeartbeats 400000 in
theorem equal_any (A A' : Option Addr) (n c m d B B' : Nat) (L K : List St) (w : World) (h : RdS w B A L) (h' : RdS w B' A' K) (hn : n = L.length) (hm : m = K.length) (hsm : n ≤ 1000000) (hsm2 : m ≤ 1000000) :
    Calls Try.prog 16 #[.slice A n c, .slice A' m d] w fun e w' => e = .returned (.bool (eqS L K)) ∧ w'.heap = w.heap ∧ w'.os = w.os ∧ w'.tape = w.tape ∧ w'.output = w.output := by
  have H1 := hide h
  have H2 := hide h'
  have HN := hide hn
  have HM := hide hm
  clear h h' hn hm
  by_cases hnm : n = m
  · subst hnm
    go_enter Try.func16, Try.ntmps16
    go_wp2_with fail
    go_loopw [5, 13] (fun _ v13 W => ∃ i : Nat, i ≤ n ∧ v13 = .int .i64 i ∧ Hid (∀ (j : Nat) a b, j < i → L[j]? = some a → K[j]? = some b → a = b) ∧ Hid (W.heap = w.heap ∧ W.os = w.os ∧ W.tape = w.tape ∧ W.output = w.output)) (fun _ v13 _ => n - (intOf v13).toNat)
    case atStart => exact ⟨0, by omega, rfl, hide (fun j a b hj => by omega), hide ⟨rfl, rfl, rfl, rfl⟩⟩
    case round =>
      obtain ⟨i, hi, rfl, HJ, HW⟩ := hrel
      by_cases hlt : i < n
      · obtain ⟨a, ha⟩ : ∃ a, L[i]? = some a := ⟨_, List.getElem?_eq_getElem (by rw [← HN.out]; exact hlt)⟩
        obtain ⟨b, hb⟩ : ∃ b, K[i]? = some b := ⟨_, List.getElem?_eq_getElem (by rw [← HM.out]; exact hlt)⟩
        have hk : ∀ p : Addr, wr.cell? p = w.cell? p := fun p => World.cell?_of_block (by rw [HW.out.1])
        obtain ⟨ad, rfl, _, c1, c2⟩ := RdS.at_ (H1.out.keep (w' := wr) fun p _ => hk p) ha
        obtain ⟨ad', rfl, _, c3, c4⟩ := RdS.at_ (H2.out.keep (w' := wr) fun p _ => hk p) hb
        have HA := hide ha
        have HB := hide hb
        have nq := neq41 a.lo a.hi b.lo b.hi
        by_cases heq : a.lo = b.lo ∧ a.hi = b.hi
        · have e1 : (decide (a.lo = b.lo) && decide (a.hi = b.hi)) = true := by simp [heq]
          rw [e1] at nq
          have HE := hide heq
          clear ha hb hk heq e1
          go_wp2_with fail
          go_quiet (fail)
          go_wp2_with fail
          go_roundw
          case rel =>
            refine ⟨i + 1, by omega, by go_num, hide (fun j x y hj hx hy => ?_), HW⟩
            rcases Nat.lt_or_ge j i with h1 | h1
            · exact HJ.out j x y h1 hx hy
            · obtain rfl : j = i := by omega
              rw [HA.out] at hx
              rw [HB.out] at hy
              cases hx
              cases hy
              exact St.ext' HE.out.1 HE.out.2
          case measure => simp [intOf]; omega
        · have e1 : (decide (a.lo = b.lo) && decide (a.hi = b.hi)) = false := by
            rw [Bool.eq_false_iff]
            simpa using heq
          rw [e1] at nq
          have HE := hide heq
          clear ha hb hk heq e1
          go_wp2_with fail
          go_quiet (fail)
          go_wp2_with fail
          go_ret
          refine ⟨ret_bool ?_, HW.out⟩
          rw [eqS_take_false HA.out HB.out HE.out]
      · obtain rfl : i = n := by omega
        have hnl : ¬ (i : Int) < i := by omega
        go_wp2_with fail
        go_ret
        refine ⟨ret_bool ?_, HW.out⟩
        rw [eq_comm, eqS_iff]
        refine List.ext_getElem? fun j => ?_
        rcases Nat.lt_or_ge j i with h1 | h1
        · rw [List.getElem?_eq_getElem (by rw [← HN.out]; exact h1), List.getElem?_eq_getElem (by rw [← HM.out]; exact h1)]
          rw [HJ.out j _ _ h1 (List.getElem?_eq_getElem (by rw [← HN.out]; exact h1)) (List.getElem?_eq_getElem (by rw [← HM.out]; exact h1))]
        · rw [List.getElem?_eq_none (by rw [← HN.out]; exact h1), List.getElem?_eq_none (by rw [← HM.out]; exact h1)]
  · have hnI : ¬ ((n : Int) = (m : Int)) := by omega
    go_enter Try.func16, Try.ntmps16
    go_wp2_with fail
    go_ret
    refine ⟨ret_bool ?_, rfl, rfl, rfl, rfl⟩
    cases h : eqS L K with
    | false => rfl
    | true =>
      rw [eqS_iff] at h
      subst h
      exact absurd (HN.out.trans HM.out.symm) hnm
end Go.Proofs.Ytfdabccdgcohjaa
