/-
  THE WALK of slices.Delete at headers. Conditions: as the theorems' premises say.
-/
import Derived.Test.YteiamfekdibkmaaOIns
namespace Go.Proofs.Yteiamfekdibkmaa
open Go.RowKit Go.Shelf

theorem step_append_at {P : Program} {ops : Array Oper} {o : Oper} {a : Act} {w : World} {K : Act → World → Prop} {Q : Exit → Act → World → Prop} {E : Prop}
    (hg : o.guard = none) (d x : Operand) (dT sT : TypeId) (hop : o.op = Op.call { callee := Callee.builtin Builtin.append, args := #[d, x], argTypes := #[dT, sT] })
    (v u : Value) (hd : a.eval d = v) (hx : a.eval x = u) {v' : Value} {w' : World} (hr : (Builtin.append_ #[dT, sT] o.type #[v, u]).run P w = .ok v' w') (hK : K (a.put o.dst v') w') :
    if Region.wanted o (yielded ops a.tmps) = true then Oper.wp P o a w K Q else E := by
  have hw : Region.wanted o (yielded ops a.tmps) = true := by simp [Region.wanted, hg]
  rw [if_pos hw]
  unfold Oper.wp
  simp [execOp, hop, resolve, invoke, builtin, hd, hx, hr, Result.andThen]
  exact hK
theorem run_clear1 (w : World) (ty : TypeId) (g o c : Nat) (cur : Array Value) (t : TypeId) (hg : w.heap[g]? = some (.cells cur t (0, 0))) (hfit : o + 1 ≤ cur.size) :
    (Builtin.clear_ #[25] ty #[.slice (some ⟨g, o, none⟩) 1 c]).run Try.prog w = .ok (.tuple #[]) (w.setRow g (cur.toList.take o ++ ([.slice none 0 0] : List Value) ++ cur.toList.drop (o + 1)).toArray) := by
  have hst := run_storeCells_at Try.prog g o t [.slice none 0 0] 0 cur w hg (by simpa using hfit) (by intro v hv; simp at hv; subst hv; rfl)
  have hzc : (Builtin.zeroCells (Value.slice none 0 0).cells 1).toList = [.slice none 0 0] := by kernel_rfl
  simp [Builtin.clear_, run_underlying el25', hzc] at hst ⊢
  simp [hst]

set_option maxRecDepth 100000 in
set_option maxHeartbeats 2000000 in
theorem delete_any {w : World} {base g n cap k : Nat} {L : List Hd} (h : OwnH w base (.slice (some ⟨g, 0, none⟩) n cap) L) (hn : n = L.length) (hk : k < n) :
    Calls Try.prog 41 #[.slice (some ⟨g, 0, none⟩) n cap, .int .i64 k, .int .i64 ((k : Int) + 1)] w fun e w' => ∃ v', e = .returned v' ∧ OwnH w' base v' (L.take k ++ L.drop (k + 1)) ∧ w.grownBy w' (some g) := by
  rcases h.2 with ⟨h', _⟩ | ⟨g', cap', cur, h', hbg, hg, hnc, hcm, hcs, htake⟩
  · simp at h'
  simp only [Value.slice.injEq, Option.some.injEq, Addr.mk.injEq, and_true] at h'
  obtain ⟨rfl, h9, rfl⟩ := h'
  clear h9
  have hL := hdc_len L
  rw [← hn] at htake hL hnc
  rw [Nat.mul_one] at htake hcs
  obtain ⟨i0, hi0, hz0, hzs, hzb⟩ := info_parts hd_info
  have hcell : ∀ (j : Nat) v, (hdc L)[j]? = some v → w.cell? ⟨g, j, none⟩ = some v := fun j v hj => by
    rw [cell_of_row w g j cur 23 (0, 0) hg]
    have hj2 := (List.getElem?_eq_some_iff.1 hj).1
    rw [← htake, List.getElem?_take, if_pos (by omega)] at hj
    simpa using hj
  have hdl : ((hdc L).drop ((k + 1))).length = (n - (k + 1)) := by rw [List.length_drop, hL]
  have hd1 : ∀ v ∈ (hdc L).drop ((k + 1)), v.oneCell' = true := fun v hv => hdc_one L v (List.mem_of_mem_drop hv)
  obtain ⟨A, hA, hsrc⟩ : ∃ A : Addr, (∀ w, (Instr.slice 25 (.slice (some ⟨g, 0, none⟩) n cap) (some (.int .i64 ((k : Int) + 1))) none none).run Try.prog w = .ok (.slice (some A) (n - (k + 1)) (cap - (k + 1))) w) ∧ ∀ W : World, W.heap = w.heap → ∀ j u, ((hdc L).drop ((k + 1)))[j]? = some u → W.cell? (A.add j) = some u := by
    rcases Nat.lt_or_ge (k + 1) cap with hc | hc
    · refine ⟨⟨g, (k + 1), none⟩, sl_from g n cap ((k : Int) + 1) (k + 1) (by omega) (by omega) hc, fun W hW j u hj => ?_⟩
      rw [List.getElem?_drop] at hj
      have e : W.cell? ⟨g, (k + 1) + j, none⟩ = w.cell? ⟨g, (k + 1) + j, none⟩ := World.cell?_of_block (by rw [hW])
      rw [Addr.add_lit, e]
      exact hcell _ u hj
    · refine ⟨⟨g, 0, none⟩, fun w => ?_, fun W hW j u hj => ?_⟩
      · rw [run_slice_l w 25 _ n cap el25 .i64 ((k : Int) + 1) (by omega) (by omega), sz25]
        have e : ((k : Int) + 1).toNat = k + 1 := by omega
        simp only [Result.andThen, sliced, e]
        rw [if_pos (by omega)]
      · have := (List.getElem?_eq_some_iff.1 hj).1
        omega
  obtain ⟨c1, hc1⟩ : ∃ c, c = (cur.toList.take (k) ++ (hdc L).drop ((k + 1)) ++ cur.toList.drop (k + (n - (k + 1)))).toArray := ⟨_, rfl⟩
  have hs1 : c1.size = cap := by
    rw [hc1]
    simp only [List.size_toArray, List.length_append, List.length_take, List.length_drop, Array.length_toList, hdl]
    omega
  have ap : ∀ W : World, W.heap = w.heap → ∀ ty, (Builtin.append_ #[25, 25] ty #[.slice (some ⟨g, 0, none⟩) k cap, .slice (some A) (n - (k + 1)) (cap - (k + 1))]).run Try.prog W = .ok (.slice (some ⟨g, 0, none⟩) (n - 1) cap) (W.setRow g c1) := fun W hW ty => by
    have := run_append_room (P := Try.prog) W 25 ty 23 i0 el25' hi0 g k cap cur (by rw [hW]; exact hg) A (n - (k + 1)) (cap - (k + 1)) ((hdc L).drop ((k + 1))) (by rw [hdl, hzs, Nat.mul_one]) (hsrc W hW) hd1 (by omega) (by rw [hdl, hzs]; omega)
    rw [this, hdl, hzs, hc1, Nat.mul_one, show k + (n - (k + 1)) = n - 1 by omega]
  obtain ⟨c2, hc2⟩ : ∃ c, c = (c1.toList.take ((n - 1)) ++ ([.slice none 0 0] : List Value) ++ c1.toList.drop ((n - 1) + 1)).toArray := ⟨_, rfl⟩
  have hs2 : c2.size = cap := by
    rw [hc2]
    simp only [List.size_toArray, List.length_append, List.length_take, List.length_drop, Array.length_toList, List.length_cons, List.length_nil]
    omega
  have cl : ∀ W : World, W.heap = (w.setRow g c1).heap → ∀ ty, (Builtin.clear_ #[25] ty #[.slice (some ⟨g, (n - 1), none⟩) 1 (cap - (n - 1))]).run Try.prog W = .ok (.tuple #[]) (W.setRow g c2) := fun W hW ty => by
    rw [run_clear1 W ty g ((n - 1)) (cap - (n - 1)) c1 23 (by rw [hW]; exact setRow_heap w g cur c1 23 (0, 0) hg) (by omega), hc2]
  have hfin : ∀ W : World, W.heap = ((w.setRow g c1).setRow g c2).heap → W.os = w.os → W.tape = w.tape → W.output = w.output → OwnH W base (.slice (some ⟨g, 0, none⟩) (n - 1) cap) (L.take k ++ L.drop (k + 1)) ∧ w.grownBy W (some g) := fun W hW h1 h2 h3 => by
    have hlen : (L.take k ++ L.drop (k + 1)).length = n - 1 := by simp; omega
    refine ⟨?_, h1, h2, h3, by rw [hW]; simp [World.setRow], fun j hj hjg => ?_⟩
    · show W.ownsRow base 23 1 _ (L.take k ++ L.drop (k + 1)).length _
      rw [hlen]
      refine ⟨by rw [hdc_len, hlen, Nat.mul_one], .inr ⟨g, cap, c2, rfl, hbg, by rw [hW]; exact setRow_heap _ g c1 c2 23 (0, 0) (setRow_heap w g cur c1 23 (0, 0) hg), by omega, hcm, by rw [Nat.mul_one]; exact hs2, ?_⟩⟩
      rw [Nat.mul_one, hdc_app, ← hdc_take, ← hdc_drop, hc2]
      have e1 : cur.toList.take (k) = (hdc L).take (k) := by
        rw [← htake, List.take_take]
        congr 1
        omega
      show List.take ((n - 1)) (c1.toList.take ((n - 1)) ++ ([.slice none 0 0] : List Value) ++ c1.toList.drop ((n - 1) + 1)) = _
      rw [List.append_assoc, List.take_left' (by rw [List.length_take, Array.length_toList]; omega), hc1]
      show List.take ((n - 1)) (cur.toList.take (k) ++ (hdc L).drop ((k + 1)) ++ cur.toList.drop (k + (n - (k + 1)))) = _
      rw [List.take_left' (by rw [List.length_append, hdl, List.length_take, Array.length_toList]; omega), e1]
    · rw [hW, setRow_other _ g j _ (fun e => hjg (by rw [e])), setRow_other _ g j _ (fun e => hjg (by rw [e]))]
  obtain ⟨z, hz⟩ : ∃ z, ∀ w, (Instr.slice 25 (.slice (some ⟨g, 0, none⟩) n cap) (some (.int .i64 k)) (some (.int .i64 ((k : Int) + 1))) (some (.int .i64 n))).run Try.prog w = .ok z w :=
    ⟨_, fun w => by rw [run_slice_lhm w 25 _ n cap el25 .i64 .i64 .i64 k ((k : Int) + 1) n (by omega) (by omega) (by omega) (by omega), sz25]; rfl⟩
  have sl1 := sl_to (some ⟨g, 0, none⟩) n cap (k : Int) k rfl (by omega)
  have sl2 : ∀ w, (Instr.slice 25 (.slice (some ⟨g, 0, none⟩) (n - 1) cap) (some (.int .i64 ((n - 1 : Nat) : Int))) (some (.int .i64 n)) none).run Try.prog w = .ok (.slice (some ⟨g, (n - 1), none⟩) 1 (cap - (n - 1))) w := fun w => by
    rw [run_slice_lh w 25 _ (n - 1) cap el25 .i64 .i64 ((n - 1 : Nat) : Int) n (by omega) (by omega) (by omega), sz25]
    simp only [Result.andThen, sliced, Int.toNat_natCast]
    rw [if_neg (by omega), show n - (n - 1) = 1 by omega]
    simp [add_lit2]
  unfold maxLen at hcm
  have hnk : ¬ ((k : Int) = (k : Int) + 1) := by omega
  have hn63 : n ≤ 9223372036854775807 := by omega
  have hk0 : (0 : Int) ≤ (k : Int) + 1 := by omega
  have hkn : k ≤ n := by omega
  have hkc : k ≤ cap := by omega
  have hkni : (k : Int) + 1 ≤ (n : Int) := by omega
  have hkt : ((k : Int) + 1).toNat = k + 1 := by omega
  have AP := hide ap
  have CL := hide cl
  have HF := hide hfin
  clear ap cl hfin hcell htake hcs hs1 hs2 hc1 hc2 hdl hd1 hg hbg hnc hn h hL hi0 hz0 hzs hzb hsrc
  obtain ⟨nd, hnd⟩ : ∃ nd, nd = n - 1 := ⟨_, rfl⟩
  rw [← hnd] at AP CL HF sl2
  have hnd2 : nd ≤ 9223372036854775807 := by omega
  clear hnd
  go_enter Try.func41, Try.ntmps41
  go_wp2_with fail
  go_region_law (refine step_append_at rfl _ _ 25 25 rfl _ _ (by simp [Act.eval, Act.put]) (by simp [Act.eval, Act.put]) (AP.out w.drew rfl _) ?_)
  have e2 := CL.out (w.drew.setRow g c1) rfl
  go_wp2_with fail
  go_ret
  obtain ⟨h1, h2⟩ := HF.out ((w.drew.setRow g c1).setRow g c2) rfl rfl rfl rfl
  exact ⟨_, rfl, h1, h2⟩
end Go.Proofs.Yteiamfekdibkmaa
