/-
  THE WALK of slices.Insert at headers: one header put into a row of the call's own. Conditions: as the theorems' premises say.
-/
import Derived.Test.YteiamfekdibkmaaOOwn
import Derived.Shelf.Spec.SlicesInsertGrow
import Derived.Deep.RegionLaw
namespace Go.Proofs.Yteiamfekdibkmaa
open Go.RowKit Go.Shelf

theorem sz25 (w : World) : (sizeOf (Try.prog.elem 25)).run Try.prog w = .ok 1 w := by kernel_rfl
theorem add_lit2 (g k : Nat) : (⟨g, 0, none⟩ : Addr).add (k) = ⟨g, k, none⟩ := add_flat g (k)
/-- 's[i:]' -/
theorem sl_from (g n c : Nat) (i : Int) (k : Nat) (hik : i = (k : Int)) (h : k ≤ n) (hc : k < c) (w : World) :
    (Instr.slice 25 (.slice (some ⟨g, 0, none⟩) n c) (some (.int .i64 i)) none none).run Try.prog w = .ok (.slice (some ⟨g, k, none⟩) (n - k) (c - k)) w := by
  subst hik
  rw [run_slice_l w 25 _ n c el25 .i64 k (by omega) (by omega), sz25]
  simp only [Result.andThen, sliced, Int.toNat_natCast]
  rw [if_neg (by omega)]
  simp [add_lit2]
/-- 's[:j]' -/
theorem sl_to (A : Option Addr) (n c : Nat) (i : Int) (k : Nat) (hik : i = (k : Int)) (h : k ≤ c) (w : World) :
    (Instr.slice 25 (.slice A n c) none (some (.int .i64 i)) none).run Try.prog w = .ok (.slice A k c) w := by
  subst hik
  rw [run_slice_h w 25 _ n c el25 .i64 k (by omega) (by omega), sz25]
  simp only [Result.andThen, sliced, Int.toNat_natCast]
  by_cases h0 : c = 0
  · simp [h0]
  · rw [if_neg h0]
    cases A <;> simp [Addr.add]
/-- 'copy' at elements of two cells onto a plain row -/
theorem run_copy2 (w : World) (ty : TypeId) (g o dLen dCap : Nat) (a : Addr) (sLen sCap : Nat) (cur : Array Value) (t : TypeId) (cs : List Value)
    (hg : w.heap[g]? = some (.cells cur t (0, 0))) (hn : cs.length = Nat.min sLen dLen)
    (hsrc : ∀ j v, cs[j]? = some v → w.cell? (a.add j) = some v) (hfit : o + cs.length ≤ cur.size) (h1 : ∀ v ∈ cs, v.oneCell' = true) :
    (Builtin.copy_ #[25, 25] ty #[.slice (some ⟨g, o, none⟩) dLen dCap, .slice (some a) sLen sCap]).run Try.prog w =
      .ok (goInt (Nat.min sLen dLen)) (w.setRow g (cur.toList.take o ++ cs ++ cur.toList.drop (o + cs.length)).toArray) := by
  have hl := run_loadCells_list (P := Try.prog) w a cs hsrc
  have hst := run_storeCells_at Try.prog g o t cs 0 cur w hg (by simpa using hfit) h1
  obtain ⟨i, hq, _, hi, _⟩ := info_parts hd_info
  simp [Builtin.copy_, run_underlying el25', Builtin.lenOf, Builtin.firstCells, sizeOf, typeInfo, hq, hi, ← hn, hl, hst]
theorem cs_len (x : Hd) : x.cs.length = 1 := rfl
theorem cs_one (x : Hd) : ∀ u ∈ x.cs, u.oneCell' = true := by
  intro u hu
  simp only [Hd.cs, List.mem_cons, List.not_mem_nil, or_false] at hu
  rcases hu with rfl | rfl <;> rfl
theorem blk_src {w : World} {vb : Nat} {x : Hd} (h : Blk w vb 23 x.cs.toArray) : ∀ j v, x.cs[j]? = some v → w.cell? ((⟨vb, 0, none⟩ : Addr).add j) = some v := fun j v hj => by
  rw [add_flat, h.cell]
  simpa using hj

set_option maxHeartbeats 400000 in
/-- at the end -/
theorem insert_end {w : World} {base : Nat} {v : Value} {L : List Hd} {vb : Nat} {x : Hd} (h : OwnH w base v L) (hb : Blk w vb 23 x.cs.toArray) (hbase : base ≤ w.heap.size) (hsm : L.length ≤ 1000000) (n : Nat) (hn : n = L.length) :
    Calls Try.prog 40 #[v, .int .i64 n, .slice (some ⟨vb, 0, none⟩) 1 1] w fun e w' => ∃ v', e = .returned v' ∧ OwnH w' base v' (L ++ [x]) ∧ w.grownBy w' v.ownBlock ∧ (v'.ownBlock = v.ownBlock ∨ v'.ownBlock = some w.heap.size) := by
  obtain ⟨i0, hi, hz0, hz1, hz2⟩ := info_parts hd_info
  have hrd : Reads w (vb + 1) 1 (some ⟨vb, 0, none⟩) 1 x.cs := Reads.ofBlk (size := 1) (n := 1) hb rfl
  have hx1 := cs_one x
  have hle : n ≤ 1000000 := by omega
  have ho : w.ownsRow base 23 1 v n (hdc L) := by rw [hn]; exact h
  have hfin : ∀ {w' v'}, w'.ownsRow base 23 1 v' (n + 1) (hdc L ++ x.cs) → OwnH w' base v' (L ++ [x]) := fun {w' v'} hh => by
    show w'.ownsRow base 23 1 v' (L ++ [x]).length (hdc (L ++ [x]))
    rw [List.length_append, ← hn, hdc_app]
    exact hh
  have HF := hide (fun w' v' => @hfin w' v')
  have hvs : ∃ A c, v = .slice A n c := by
    rcases h.2 with ⟨rfl, h0⟩ | ⟨g, cap, cur, rfl, _⟩
    · exact ⟨none, 0, by rw [hn, h0]⟩
    · exact ⟨_, _, by rw [hn]⟩
  obtain ⟨A, c, rfl⟩ := hvs
  obtain ⟨z, hz⟩ : ∃ z, ∀ w, (Instr.slice 25 (.slice A n c) (some (.int .i64 n)) none none).run Try.prog w = .ok z w :=
    ⟨_, fun w => by rw [run_slice_l w 25 _ n c el25 .i64 n (by omega) (by omega), sz25]; rfl⟩
  clear h hn hfin
  go_enter Try.func40, Try.ntmps40
  go_wp2_with (at_builtin; refine wpList_append_any _ rfl _ _ 25 rfl base 23 i0 _ 1 24 el25' hi hz0 hz1 hz2 rfl (by omega) (.slice A n c) n (hdc L) rfl ho (vb + 1) (some ⟨vb, 0, none⟩) 1 1 x.cs rfl hrd hx1 (by unfold maxLen; omega) (by omega) hbase ?_; intro v1 w1 hown hg hat)
  go_ret
  exact ⟨v1, rfl, HF.out _ _ hown, hg, hat⟩

theorem ins_list (c xs ab rest : List Value) (k n : Nat) (hxs : xs = c.take (n)) (hk : k < n) (hab : ab.length = 1) (hc : (n + 1) ≤ c.length) (c1 : List Value) (hc1 : c1 = c.take ((k + 1)) ++ xs.drop (k) ++ rest) :
    (c1.take (k) ++ ab ++ c1.drop (k + 1)).take ((n + 1)) = xs.take (k) ++ ab ++ xs.drop (k) := by
  have e1 : c1.take (k) = c.take (k) := by
    rw [hc1, List.append_assoc, List.take_append_of_le_length (by rw [List.length_take]; omega), List.take_take]
    congr 1
    omega
  have e2 : c1.drop (k + 1) = xs.drop (k) ++ rest := by
    rw [hc1, List.append_assoc, List.drop_left' (by rw [List.length_take]; omega)]
  have e3 : xs.take (k) = c.take (k) := by
    rw [hxs, List.take_take]
    congr 1
    omega
  have e4 : xs.length = n := by rw [hxs, List.length_take]; omega
  rw [e1, e2, e3, ← List.append_assoc, List.take_left']
  rw [List.length_append, List.length_append, List.length_take, List.length_drop, e4, hab]
  omega
set_option maxRecDepth 100000 in
set_option maxHeartbeats 2000000 in
/-- within, with room -/
theorem insert_room {w : World} {base g n cap k : Nat} {L : List Hd} {vb : Nat} {x : Hd} (h : OwnH w base (.slice (some ⟨g, 0, none⟩) n cap) L) (hb : Blk w vb 23 x.cs.toArray) (hne : vb ≠ g) (hn : n = L.length) (hk : k < n) (hroom : n + 1 ≤ cap) :
    Calls Try.prog 40 #[.slice (some ⟨g, 0, none⟩) n cap, .int .i64 k, .slice (some ⟨vb, 0, none⟩) 1 1] w fun e w' => e = .returned (.slice (some ⟨g, 0, none⟩) (n + 1) cap) ∧ OwnH w' base (.slice (some ⟨g, 0, none⟩) (n + 1) cap) (L.take k ++ x :: L.drop k) ∧ w.grownBy w' (some g) := by
  rcases h.2 with ⟨h', _⟩ | ⟨g', cap', cur, h', hbg, hg, hnc, hcm, hcs, htake⟩
  · simp at h'
  simp only [Value.slice.injEq, Option.some.injEq, Addr.mk.injEq, and_true] at h'
  obtain ⟨rfl, h9, rfl⟩ := h'
  clear h9
  have hL := hdc_len L
  rw [← hn] at htake hL
  rw [Nat.mul_one] at htake hcs
  have hgt := hb.lt
  have hglt : g < w.heap.size := (Array.getElem?_eq_some_iff.1 hg).1
  have hcell : ∀ (j : Nat) v, (hdc L)[j]? = some v → w.cell? ⟨g, j, none⟩ = some v := fun j v hj => by
    rw [cell_of_row w g j cur 23 (0, 0) hg]
    have hj2 := (List.getElem?_eq_some_iff.1 hj).1
    rw [← htake, List.getElem?_take, if_pos (by omega)] at hj
    simpa using hj
  have hdl : ((hdc L).drop (k)).length = (n - k) := by rw [List.length_drop, hL]
  have hd1 : ∀ v ∈ (hdc L).drop (k), v.oneCell' = true := fun v hv => hdc_one L v (List.mem_of_mem_drop hv)
  obtain ⟨cur1, hc1⟩ : ∃ c, c = (cur.toList.take ((k + 1)) ++ (hdc L).drop (k) ++ cur.toList.drop ((k + 1) + (n - k))).toArray := ⟨_, rfl⟩
  have hs1 : cur1.size = cap := by
    rw [hc1]
    simp only [List.size_toArray, List.length_append, List.length_take, List.length_drop, Array.length_toList, hdl]
    omega
  have cp1 : ∀ W : World, W.heap = w.heap → ∀ ty, (Builtin.copy_ #[25, 25] ty #[.slice (some ⟨g, (k + 1), none⟩) (n - k) (cap - (k + 1)), .slice (some ⟨g, k, none⟩) (n + 1 - k) (cap - k)]).run Try.prog W = .ok (goInt ((n - k : Nat))) (W.setRow g cur1) := fun W hW ty => by
    have := run_copy2 W ty g ((k + 1)) (n - k) (cap - (k + 1)) ⟨g, k, none⟩ (n + 1 - k) (cap - k) cur 23 ((hdc L).drop (k)) (by rw [hW]; exact hg) (by rw [hdl]; simp only [Nat.min_def]; split <;> omega)
      (fun j v hj => by
        rw [List.getElem?_drop] at hj
        have e : W.cell? ⟨g, k + j, none⟩ = w.cell? ⟨g, k + j, none⟩ := World.cell?_of_block (by rw [hW])
        rw [Addr.add_lit, e]
        exact hcell _ v hj) (by rw [hdl]; omega) hd1
    rw [this, hdl, hc1]
    congr 2
    simp only [Nat.min_def]
    split <;> omega
  obtain ⟨cur2, hc2⟩ : ∃ c, c = (cur1.toList.take (k) ++ x.cs ++ cur1.toList.drop (k + 1)).toArray := ⟨_, rfl⟩
  have hs2 : cur2.size = cap := by
    rw [hc2]
    simp only [List.size_toArray, List.length_append, List.length_take, List.length_drop, Array.length_toList, cs_len]
    omega
  have cp2 : ∀ W : World, W.heap = (w.setRow g cur1).heap → ∀ ty, (Builtin.copy_ #[25, 25] ty #[.slice (some ⟨g, k, none⟩) (n + 1 - k) (cap - k), .slice (some ⟨vb, 0, none⟩) 1 1]).run Try.prog W = .ok (goInt (1 : Nat)) (W.setRow g cur2) := fun W hW ty => by
    have hb1 : W.heap[vb]? = w.heap[vb]? := by rw [hW]; exact setRow_other w g vb cur1 hne
    have := run_copy2 W ty g (k) (n + 1 - k) (cap - k) ⟨vb, 0, none⟩ 1 1 cur1 23 x.cs (by rw [hW]; exact setRow_heap w g cur cur1 23 (0, 0) hg) (by rw [cs_len]; simp only [Nat.min_def]; split <;> omega)
      (fun j v hj => by
        rw [World.cell?_of_block (w := w) (w' := W) (by rw [add_block]; exact hb1)]
        exact blk_src hb j v hj) (by rw [cs_len]; omega) (cs_one x)
    rw [this, cs_len, hc2]
    congr 2
    simp only [Nat.min_def]
    split <;> omega
  have hfin : ∀ W : World, W.heap = ((w.setRow g cur1).setRow g cur2).heap → W.os = w.os → W.tape = w.tape → W.output = w.output → OwnH W base (.slice (some ⟨g, 0, none⟩) (n + 1) cap) (L.take k ++ x :: L.drop k) ∧ w.grownBy W (some g) := fun W hW h1 h2 h3 => by
    have hlen : (L.take k ++ x :: L.drop k).length = n + 1 := by simp; omega
    refine ⟨?_, h1, h2, h3, by rw [hW]; simp [World.setRow], fun j hj hjg => ?_⟩
    · show W.ownsRow base 23 1 _ (L.take k ++ x :: L.drop k).length _
      rw [hlen]
      refine ⟨by rw [hdc_len, hlen, Nat.mul_one], .inr ⟨g, cap, cur2, rfl, hbg, by rw [hW]; exact setRow_heap _ g cur1 cur2 23 (0, 0) (setRow_heap w g cur cur1 23 (0, 0) hg), hroom, hcm, by rw [Nat.mul_one]; exact hs2, ?_⟩⟩
      rw [Nat.mul_one, hdc_app, hdc_cons, ← hdc_take, ← hdc_drop, hc2]
      have := ins_list cur.toList (hdc L) x.cs (cur.toList.drop ((k + 1) + (n - k))) k n htake.symm hk (cs_len x) (by rw [Array.length_toList]; omega) cur1.toList (by rw [hc1])
      simpa [Hd.cs] using this
    · rw [hW, setRow_other _ g j _ (fun e => hjg (by rw [e])), setRow_other _ g j _ (fun e => hjg (by rw [e]))]
  have sl1 := sl_from g n cap (k : Int) k rfl (by omega) (by omega)
  have sl2 := sl_to (some ⟨g, 0, none⟩) n cap ((n : Int) + 1) (n + 1) (by omega) hroom
  have sl3 := sl_from g (n + 1) cap ((k : Int) + 1) (k + 1) (by omega) (by omega) (by omega)
  rw [Nat.add_sub_add_right] at sl3
  have sl4 := sl_from g (n + 1) cap (k : Int) k rfl (by omega) (by omega)
  have hov : (callFunc 48 #[.slice (some ⟨vb, 0, none⟩) 1 1, .slice (some ⟨g, (k + 1), none⟩) (n - k) (cap - (k + 1))]).run Try.prog w = .ok (.value (.bool false)) w := by
    have hb' : w.heap[vb]? = some (.cells x.cs.toArray 23 (0, 0)) := hb
    rw [run_callFunc_extern Try.func48 (by kernel_rfl) (by kernel_rfl) (by kernel_rfl) (e := Extern.SlicesOverlaps.overlaps #[25, 25] #[4]) (by kernel_rfl),
      Lib.run_overlaps_apart w 25 4 23 el25' 1 (fun w => by kernel_rfl) ⟨vb, 0, none⟩ ⟨g, (k + 1), none⟩ 1 1 (n - k) (cap - (k + 1)) hne 23 23 1 cur.size (by simp [World.shape?, hb', Hd.cs]) (by simp [World.shape?, hg]) (by omega) (by simp [World.frozen?, hb']) (by simp [World.frozen?, hb'])]
    rfl
  have hnk : ¬ ((k : Int) = (n : Int)) := by omega
  have hge : ¬ ((cap : Int) < (n : Int) + 1) := by omega
  have hkw : IntKind.i64.wrap ((k : Int) + 1) = (k : Int) + 1 := IntWalk.i64_in _ ⟨by omega, by unfold maxLen at hcm; omega⟩
  have hk0 : (0 : Int) ≤ (k : Int) + 1 := by omega
  have hkn : k ≤ n := by omega
  have hkn1 : k ≤ n + 1 := by omega
  have hkni : (k : Int) ≤ (n : Int) + 1 := by omega
  have hkt : ((k : Int) + 1).toNat = k + 1 := by omega
  have hkc : ¬ cap = k + 1 := by omega
  have hkc2 : ¬ cap = k := by omega
  have hnn : n + 1 - (k + 1) = n - k := by omega
  have hcap63 : cap ≤ 9223372036854775807 := by unfold maxLen at hcm; omega
  have CP1 := hide cp1
  have CP2 := hide cp2
  have HF := hide hfin
  clear cp1 cp2 hfin hcell htake hcs hs1 hs2 hc1 hc2 hdl hd1 hb hg hbg hnc hn h hL
  go_enter Try.func40, Try.ntmps40
  go_wp2_with (simp only [hov])

  go_region_law (refine step_copy_runI rfl _ _ 25 25 rfl _ _ (by simp [Act.eval, Act.put]) (by simp [Act.eval, Act.put]) (CP1.out w.drew rfl _) ?_)
  have e2 := CP2.out (w.drew.setRow g cur1) rfl 3
  go_wp2_with fail
  go_ret
  exact ⟨rfl, HF.out _ rfl rfl rfl rfl⟩
theorem ins_list2 (row xs ab rest rest1 : List Value) (k n : Nat) (hxs : xs.length = n) (hk : k < n) (hab : ab.length = 1) (h1 : row.take (k) = xs.take (k)) (c1 : List Value) (hc1 : c1 = row.take (k) ++ ab ++ rest1) :
    (c1.take ((k + 1)) ++ xs.drop (k) ++ rest).take ((n + 1)) = xs.take (k) ++ ab ++ xs.drop (k) := by
  have e1 : c1.take ((k + 1)) = xs.take (k) ++ ab := by
    rw [hc1, h1, List.take_left']
    rw [List.length_append, List.length_take, hab]
    omega
  rw [e1, List.take_left']
  rw [List.length_append, List.length_append, List.length_take, List.length_drop, hab]
  omega
set_option maxRecDepth 100000 in
set_option maxHeartbeats 2000000 in
/-- within, without room -/
theorem insert_grow {w : World} {base g n cap k : Nat} {L : List Hd} {vb : Nat} {x : Hd} (h : OwnH w base (.slice (some ⟨g, 0, none⟩) n cap) L) (hb : Blk w vb 23 x.cs.toArray) (hbase : base ≤ w.heap.size) (hn : n = L.length) (hk : k < n) (hroom : cap < n + 1) (hsm : n ≤ 1000000) :
    Calls Try.prog 40 #[.slice (some ⟨g, 0, none⟩) n cap, .int .i64 k, .slice (some ⟨vb, 0, none⟩) 1 1] w fun e w' => ∃ v', e = .returned v' ∧ OwnH w' base v' (L.take k ++ x :: L.drop k) ∧ Below w.heap.size w w' ∧ v'.ownBlock = some w.heap.size := by
  rcases h.2 with ⟨h', _⟩ | ⟨g', cap', cur, h', hbg, hg, hnc, hcm, hcs, htake⟩
  · simp at h'
  simp only [Value.slice.injEq, Option.some.injEq, Addr.mk.injEq, and_true] at h'
  obtain ⟨rfl, h9, rfl⟩ := h'
  clear h9
  have hL := hdc_len L
  rw [← hn] at htake hL hnc
  rw [Nat.mul_one] at htake hcs
  have hglt : g < w.heap.size := (Array.getElem?_eq_some_iff.1 hg).1
  have hvlt := hb.lt
  have hcell : ∀ (j : Nat) v, (hdc L)[j]? = some v → w.cell? ⟨g, j, none⟩ = some v := fun j v hj => by
    rw [cell_of_row w g j cur 23 (0, 0) hg]
    have hj2 := (List.getElem?_eq_some_iff.1 hj).1
    rw [← htake, List.getElem?_take, if_pos (by omega)] at hj
    simpa using hj
  obtain ⟨i0, hi0, hz0, hzs, hzb⟩ := info_parts hd_info
  have hold : (Builtin.firstCells i0.size k (.slice (some ⟨g, 0, none⟩) k cap)).run Try.prog w.drew = .ok ((hdc L).take (k)).toArray w.drew := by
    rw [hzs]
    exact run_firstCells_some w.drew 1 k ⟨g, 0, none⟩ k cap _ (by rw [List.length_take]; omega) (fun j v hj => by
      rw [add_flat]
      rw [List.getElem?_take] at hj
      split at hj
      · exact hcell j v hj
      · cases hj)
  obtain ⟨G, hG⟩ : ∃ G, G = grownCap w (n + 1) cap 23 := ⟨_, rfl⟩
  have hGn : n + 1 ≤ G := by rw [hG]; exact grownCap_ge w _ _ _
  have hGm : G ≤ maxLen := by rw [hG]; exact grownCap_le_maxLen w (n + 1) cap 23 (by unfold maxLen; omega)
  obtain ⟨ROW, hROW⟩ : ∃ ROW : Array Value, ROW = ((hdc L).take (k)).toArray ++ Builtin.zeroCells (Value.slice none 0 0).cells (n + 1 - k) ++ Builtin.zeroCells (Value.slice none 0 0).cells (G - (n + 1)) := ⟨_, rfl⟩
  have hxl : ((hdc L).take (k)).length = k := by rw [List.length_take, hL]; omega
  have hRs : ROW.size = G := by
    rw [hROW]
    simp only [Array.size_append, List.size_toArray, hxl]
    simp [Builtin.zeroCells, Value.cells]
    omega
  have hRt : ROW.toList.take (k) = (hdc L).take (k) := by
    rw [hROW, Array.toList_append, Array.toList_append, List.append_assoc]
    rw [List.take_left' hxl]
  have hrz : ∀ ty, (Builtin.append_ #[25, 3] ty #[.slice (some ⟨g, 0, none⟩) k cap, .int .i64 ((n : Int) + 1 - (k : Int))]).run Try.prog w = .ok (.slice (some ⟨w.heap.size, 0, none⟩) (n + 1) G) (w.drew.alloc (.cells ROW 23)) := fun ty => by
    have h := Lib.run_append_grow_zeros w 25 3 ty 23 i0 _ .i64 .i64 el25' Try.underlying3 hi0 hz0 (some ⟨g, 0, none⟩) k cap _ hold (n + 1 - k) (by omega) (by omega) (by omega) (by omega) (by rw [hzb]; omega)
      (by rw [hzb, show k + (n + 1 - k) = n + 1 by omega]; exact growslice_fits hroom (by omega))
    rw [show k + (n + 1 - k) = n + 1 by omega, ← hG, ← hROW] at h
    rw [show (n : Int) + 1 - (k : Int) = ((n + 1 - k : Nat) : Int) by omega]
    exact h
  obtain ⟨W1, hW1⟩ : ∃ W1, W1 = w.drew.alloc (.cells ROW 23) := ⟨_, rfl⟩
  rw [← hW1] at hrz
  have hN : W1.heap[w.heap.size]? = some (.cells ROW 23 (0, 0)) := by rw [hW1]; exact heap_alloc_new w.drew _
  have hBw : Below w.heap.size w W1 := by
    rw [hW1]
    exact (bel1 w.drew (.cells ROW 23)).mono (Nat.le_refl _) |> fun h => ⟨h.os, h.tape, h.output, h.size, h.block⟩
  have hsrcv : ∀ j v, x.cs[j]? = some v → W1.cell? ((⟨vb, 0, none⟩ : Addr).add j) = some v := fun j v hj => by
    rw [hBw.cell (by rw [add_block]; exact hvlt)]
    exact blk_src hb j v hj
  obtain ⟨c1, hc1⟩ : ∃ c, c = (ROW.toList.take (k) ++ x.cs ++ ROW.toList.drop (k + 1)).toArray := ⟨_, rfl⟩
  have hs1 : c1.size = G := by
    rw [hc1]
    simp only [List.size_toArray, List.length_append, List.length_take, List.length_drop, Array.length_toList, cs_len]
    omega
  have cpA : ∀ ty, (Builtin.copy_ #[25, 25] ty #[.slice (some ⟨w.heap.size, k, none⟩) (n + 1 - k) (G - k), .slice (some ⟨vb, 0, none⟩) 1 1]).run Try.prog W1 = .ok (goInt (1 : Nat)) (W1.setRow w.heap.size c1) := fun ty => by
    have := run_copy2 W1 ty w.heap.size (k) (n + 1 - k) (G - k) ⟨vb, 0, none⟩ 1 1 ROW 23 x.cs hN (by rw [cs_len]; simp only [Nat.min_def]; split <;> omega) hsrcv (by rw [cs_len]; omega) (cs_one x)
    rw [this, cs_len, hc1]
    congr 2
    simp only [Nat.min_def]
    split <;> omega
  obtain ⟨W2, hW2⟩ : ∃ W2, W2 = W1.setRow w.heap.size c1 := ⟨_, rfl⟩
  rw [← hW2] at cpA
  have hN2 : W2.heap[w.heap.size]? = some (.cells c1 23 (0, 0)) := by rw [hW2]; exact setRow_heap W1 _ ROW c1 23 (0, 0) hN
  have hBw2 : Below w.heap.size w W2 := by
    rw [hW2]
    exact ⟨hBw.os, hBw.tape, hBw.output, by simpa [World.setRow] using hBw.size, fun j hj => (setRow_other W1 _ j c1 (by omega)).trans (hBw.block j hj)⟩
  have hdl : ((hdc L).drop (k)).length = (n - k) := by rw [List.length_drop, hL]
  have hd1 : ∀ v ∈ (hdc L).drop (k), v.oneCell' = true := fun v hv => hdc_one L v (List.mem_of_mem_drop hv)
  obtain ⟨c2, hc2⟩ : ∃ c, c = (c1.toList.take ((k + 1)) ++ (hdc L).drop (k) ++ c1.toList.drop ((k + 1) + (n - k))).toArray := ⟨_, rfl⟩
  have hs2 : c2.size = G := by
    rw [hc2]
    simp only [List.size_toArray, List.length_append, List.length_take, List.length_drop, Array.length_toList, hdl]
    omega
  have cpB : ∀ W, W.heap = W2.heap → ∀ ty, (Builtin.copy_ #[25, 25] ty #[.slice (some ⟨w.heap.size, (k + 1), none⟩) (n - k) (G - (k + 1)), .slice (some ⟨g, k, none⟩) (n - k) (cap - k)]).run Try.prog W = .ok (goInt ((n - k : Nat))) (W.setRow w.heap.size c2) := fun W hW ty => by
    have := run_copy2 W ty w.heap.size ((k + 1)) (n - k) (G - (k + 1)) ⟨g, k, none⟩ (n - k) (cap - k) c1 23 ((hdc L).drop (k)) (by rw [hW]; exact hN2) (by rw [hdl]; simp only [Nat.min_def]; split <;> omega)
      (fun j v hj => by
        rw [List.getElem?_drop] at hj
        have e : W.cell? ⟨g, k + j, none⟩ = w.cell? ⟨g, k + j, none⟩ := World.cell?_of_block (by rw [hW]; exact hBw2.block g hglt)
        rw [Addr.add_lit, e]
        exact hcell _ v hj) (by rw [hdl]; omega) hd1
    rw [this, hdl, hc2]
    congr 2
    simp only [Nat.min_def]
    split <;> omega
  have hfin : ∀ W : World, W.heap = (W2.setRow w.heap.size c2).heap → W.os = W2.os → W.tape = W2.tape → W.output = W2.output → OwnH W base (.slice (some ⟨w.heap.size, 0, none⟩) (n + 1) G) (L.take k ++ x :: L.drop k) ∧ Below w.heap.size w W := fun W hW h1 h2 h3 => by
    have hlen : (L.take k ++ x :: L.drop k).length = n + 1 := by simp; omega
    refine ⟨?_, h1.trans hBw2.os, h2.trans hBw2.tape, h3.trans hBw2.output, by rw [hW]; simpa [World.setRow] using hBw2.size, fun j hj => ?_⟩
    · show W.ownsRow base 23 1 _ (L.take k ++ x :: L.drop k).length _
      rw [hlen]
      refine ⟨by rw [hdc_len, hlen, Nat.mul_one], .inr ⟨w.heap.size, G, c2, rfl, hbase, by rw [hW]; exact setRow_heap _ _ c1 c2 23 (0, 0) hN2, hGn, hGm, by rw [Nat.mul_one]; exact hs2, ?_⟩⟩
      rw [Nat.mul_one, hdc_app, hdc_cons, ← hdc_take, ← hdc_drop, hc2]
      have := ins_list2 ROW.toList (hdc L) x.cs (c1.toList.drop ((k + 1) + (n - k))) (ROW.toList.drop (k + 1)) k n hL hk (cs_len x) hRt c1.toList (by rw [hc1])
      simpa [Hd.cs] using this
    · rw [hW, setRow_other _ _ j _ (by omega)]
      exact hBw2.block j hj
  obtain ⟨N, hNN⟩ : ∃ N, N = w.heap.size := ⟨_, rfl⟩
  rw [← hNN] at hrz cpA cpB hfin hbase hN hN2 ⊢
  have sl1 := sl_from g n cap (k : Int) k rfl (by omega) (by omega)
  have sl2 := sl_to (some ⟨g, 0, none⟩) n cap (k : Int) k rfl (by omega)
  have sl3 := sl_from N (n + 1) G (k : Int) k rfl (by omega) (by omega)
  have sl4 := sl_from N (n + 1) G ((k : Int) + 1) (k + 1) (by omega) (by omega) (by omega)
  rw [Nat.add_sub_add_right] at sl4
  unfold maxLen at hcm hGm
  have hnk : ¬ ((k : Int) = (n : Int)) := by omega
  have hge : (cap : Int) < (n : Int) + 1 := by omega
  have hkw : IntKind.i64.wrap ((k : Int) + 1) = (k : Int) + 1 := IntWalk.i64_in _ ⟨by omega, by omega⟩
  have hkw2 : IntKind.i64.wrap ((n : Int) + 1 - (k : Int)) = (n : Int) + 1 - (k : Int) := IntWalk.i64_in _ ⟨by omega, by omega⟩
  have hk0 : (0 : Int) ≤ (k : Int) + 1 := by omega
  have hkn : k ≤ n := by omega
  have hkn1 : k ≤ n + 1 := by omega
  have hkni : (k : Int) ≤ (n : Int) + 1 := by omega
  have hkt : ((k : Int) + 1).toNat = k + 1 := by omega
  have hkc : ¬ G = k + 1 := by omega
  have hkc2 : ¬ cap = k := by omega
  have hkc3 : ¬ G = k := by omega
  have hnn : n + 1 - (k + 1) = n - k := by omega
  have HF := hide hfin
  have CPB := hide cpB
  clear cpB hfin hxl hcell htake hcs hs1 hs2 hc1 hc2 hdl hd1 hb hg hbg hnc hn h hL hW1 hW2 hROW hG hold hRs hRt hN hN2 hBw hBw2 hsrcv hNN hi0 hz0 hzs hzb
  go_enter Try.func40, Try.ntmps40
  go_wp2_with (at_builtin; refine Lib.wpList_append_run _ rfl _ _ _ _ rfl _ _ rfl rfl _ _ (hrz _) ?_)
  go_region_law (refine step_copy_runI rfl _ _ 25 25 rfl _ _ (by simp [Act.eval, Act.put]) (by simp [Act.eval, Act.put]) (CPB.out W2.drew rfl _) ?_)
  go_wp2_with fail
  go_ret
  obtain ⟨hf1, hf2⟩ := HF.out (W2.drew.setRow N c2) rfl rfl rfl rfl
  exact ⟨_, rfl, hf1, hf2, rfl⟩
/-- at whatever place -/
theorem insert_any {w : World} {base k : Nat} {v : Value} {L : List Hd} {vb : Nat} {x : Hd} (h : OwnH w base v L) (hb : Blk w vb 23 x.cs.toArray) (hne : v.ownBlock ≠ some vb) (hbase : base ≤ w.heap.size) (hsm : L.length ≤ 1000000) (hk : k ≤ L.length) :
    Calls Try.prog 40 #[v, .int .i64 k, .slice (some ⟨vb, 0, none⟩) 1 1] w fun e w' => ∃ v', e = .returned v' ∧ OwnH w' base v' (L.take k ++ x :: L.drop k) ∧ w.grownBy w' v.ownBlock := by
  rcases Nat.lt_or_ge k L.length with hlt | hge
  · obtain ⟨g, cap, rfl, _, _⟩ := own_form h (by omega)
    have hne' : vb ≠ g := fun e => hne (by rw [e]; rfl)
    rcases Nat.lt_or_ge cap (L.length + 1) with hc | hc
    · refine (insert_grow h hb hbase rfl hlt hc hsm).mono ?_
      rintro e w' ⟨v', he, ho, hbl, _⟩
      exact ⟨v', he, ho, only_of_below hbl _⟩
    · refine (insert_room h hb hne' rfl hlt hc).mono ?_
      rintro e w' ⟨he, ho, hg⟩
      exact ⟨_, he, ho, hg⟩
  · obtain rfl : k = L.length := by omega
    refine (insert_end h hb hbase hsm _ rfl).mono ?_
    rintro e w' ⟨v', he, ho, hg, _⟩
    exact ⟨v', he, by rw [List.take_length, List.drop_length]; exact ho, hg⟩
end Go.Proofs.Yteiamfekdibkmaa
