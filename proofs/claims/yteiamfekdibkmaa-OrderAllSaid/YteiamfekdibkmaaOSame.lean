/-
  THE WALKS of same, laid. Conditions: as the theorems' premises say.
-/
import Derived.Test.YteiamfekdibkmaaOEnds
namespace Go.Proofs.Yteiamfekdibkmaa
open Go.RowKit Go.Shelf

set_option maxHeartbeats 1000000 in
theorem same_any (A A' : Option Addr) (n c m d B B' : Nat) (hs ks : List Hd) (w : World) (h : RowR w B A hs) (h' : RowR w B' A' ks) (hn : n = hs.length) (hm : m = ks.length) (hsm : n ≤ 1000000) (hsm2 : m ≤ 1000000) :
    Calls Try.prog 30 #[.slice A n c, .slice A' m d] w fun e w' => e = .returned (.bool (decide (keys hs = keys ks))) ∧ Below w.heap.size w w' := by
  have H1 := hide h
  have H2 := hide h'
  have HN := hide hn
  have HM := hide hm
  clear h h' hn hm
  by_cases hnm : n = m
  · subst hnm
    go_enter Try.func30, Try.ntmps30
    go_wp2_with fail
    go_loopw [5] (fun v5 W => ∃ i : Nat, i ≤ n ∧ v5 = .int .i64 i ∧ Hid (∀ (j : Nat) a b, j < i → hs[j]? = some a → ks[j]? = some b → a.l = b.l) ∧ Hid (∀ B, Below B w W)) (fun v5 _ => n - (intOf v5).toNat)
    case atStart => exact ⟨0, by omega, rfl, hide (fun j a b hj => by omega), hide (fun B => Below.refl _ _)⟩
    case round =>
      obtain ⟨i, hi, rfl, HJ, HW⟩ := hrel
      by_cases hlt : i < n
      · obtain ⟨a, ha⟩ : ∃ a, hs[i]? = some a := ⟨_, List.getElem?_eq_getElem (by rw [← HN.out]; exact hlt)⟩
        obtain ⟨b, hb⟩ : ∃ b, ks[i]? = some b := ⟨_, List.getElem?_eq_getElem (by rw [← HM.out]; exact hlt)⟩
        have r1 := H1.out.below (HW.out B)
        have r2 := H2.out.below (HW.out B')
        obtain ⟨ad, rfl, _, c1⟩ := r1.at_ ha
        obtain ⟨ad', rfl, _, c2⟩ := r2.at_ hb
        have g1 := r1.good a (List.mem_of_getElem? ha)
        have g2 := r2.good b (List.mem_of_getElem? hb)
        have k1 := fun q => conv_bytes (P := Try.prog) (Reads.below g1.1 (show Below B wr (wr.drewN q) from ⟨rfl, rfl, rfl, Nat.le_refl _, fun _ _ => rfl⟩) : Bs (wr.drewN q) B _ _ _) a.c 23 5 9 Try.underlying23 Try.underlying5 Try.underlying9
        have k2 := fun q => conv_bytes (P := Try.prog) (Reads.below g2.1 (show Below B' wr (wr.drewN q) from ⟨rfl, rfl, rfl, Nat.le_refl _, fun _ _ => rfl⟩) : Bs (wr.drewN q) B' _ _ _) b.c 23 5 9 Try.underlying23 Try.underlying5 Try.underlying9
        have HA := hide ha
        have HBB := hide hb
        have hiI : (i : Int) < (n : Int) := by omega
        clear r1 r2 g1 g2 ha hb
        by_cases heq : a.l = b.l
        · have HE := hide heq
          have hs1 : strOf a.l = strOf b.l := by rw [heq]
          obtain ⟨sa, hsa⟩ : ∃ sa, sa = strOf a.l := ⟨_, rfl⟩
          simp only [← hs1, ← hsa] at k2
          simp only [← hsa] at k1
          clear heq hs1 hsa
          go_wp2_with fail
          go_quiet (fail)
          have HW2 := hide (fun B => (HW.out B).trans (c := wr.drewN nq) ⟨rfl, rfl, rfl, Nat.le_refl _, fun _ _ => rfl⟩)
          clear k1 k2 c1 c2
          generalize wr.drewN nq = W2 at HW2 ⊢
          go_wp2_with fail
          go_roundw
          case rel =>
            refine ⟨i + 1, by omega, by go_num, hide (fun j x y hj hx hy => ?_), HW2⟩
            rcases Nat.lt_or_ge j i with h1 | h1
            · exact HJ.out j x y h1 hx hy
            · obtain rfl : j = i := by omega
              rw [HA.out] at hx
              rw [HBB.out] at hy
              cases hx
              cases hy
              exact HE.out
          case measure => simp [intOf]; omega
        · have hs1 : ¬ strOf a.l = strOf b.l := fun e => heq (strOf_inj.1 e)
          have HE := hide heq
          have hta := strOf_toList a.l
          have htb := strOf_toList b.l
          have hne2 : (a.l == b.l) = false := by simpa using heq
          have hne3 : (a.l != b.l) = true := by simpa using heq
          go_wp2_with fail
          go_quiet (fail)
          have HW2 := hide (fun B => (HW.out B).trans (c := wr.drewN nq) ⟨rfl, rfl, rfl, Nat.le_refl _, fun _ _ => rfl⟩)
          go_wp2_with fail
          go_ret
          refine ⟨ret_bool ?_, HW2.out _⟩
          rw [decide_eq_false]
          intro e
          have h1 : (keys hs)[i]? = some a.l := by rw [List.getElem?_map, HA.out]; rfl
          have h2 : (keys ks)[i]? = some b.l := by rw [List.getElem?_map, HBB.out]; rfl
          rw [e, h2] at h1
          exact HE.out (Option.some.inj h1).symm
      · obtain rfl : i = n := by omega
        have hnl : ¬ (i : Int) < i := by omega
        go_wp2_with fail
        go_ret
        refine ⟨ret_bool ?_, HW.out _⟩
        rw [decide_eq_true]
        refine List.ext_getElem? fun j => ?_
        rw [List.getElem?_map, List.getElem?_map]
        rcases Nat.lt_or_ge j i with h1 | h1
        · obtain ⟨a, ha⟩ : ∃ a, hs[j]? = some a := ⟨_, List.getElem?_eq_getElem (by rw [← HN.out]; exact h1)⟩
          obtain ⟨b, hb⟩ : ∃ b, ks[j]? = some b := ⟨_, List.getElem?_eq_getElem (by rw [← HM.out]; exact h1)⟩
          rw [ha, hb]
          show some a.l = some b.l
          rw [HJ.out j a b h1 ha hb]
        · rw [List.getElem?_eq_none (by rw [← HN.out]; exact h1), List.getElem?_eq_none (by rw [← HM.out]; exact h1)]
  · have hnI : ¬ ((n : Int) = (m : Int)) := by omega
    go_enter Try.func30, Try.ntmps30
    go_wp2_with fail
    go_ret
    refine ⟨ret_bool ?_, Below.refl _ _⟩
    rw [decide_eq_false]
    intro e
    have := congrArg List.length e
    rw [List.length_map, List.length_map, ← HN.out, ← HM.out] at this
    exact hnm this
def layK (row : List Key) (k : Key) : List Key := if (addK (k.take 64) row).1 = 0 then (addK (k.take 64) row).2 else row
def laidL (l : List Key) : List Key := (l.take 30).foldl layK []
theorem withL_len (k : Key) (l : List Key) : (withL k l).length = l.length + 1 := by
  have := posL_le k l
  unfold withL
  simp
  omega
theorem layK_len (row : List Key) (k : Key) : (layK row k).length ≤ row.length + 1 := by
  unfold layK
  split
  · rename_i h
    unfold addK at h ⊢
    split
    · simp
    · split
      · simp
      · rw [withL_len]; exact Nat.le_refl _
  · omega
theorem el23 : Try.prog.underlying 23 = some (.slice (Try.prog.elem 23)) := by kernel_rfl
theorem sz23 (w : World) : (sizeOf (Try.prog.elem 23)).run Try.prog w = .ok 1 w := by kernel_rfl
theorem sl23_to (A : Option Addr) (n c k : Nat) (h : k ≤ c) (w : World) :
    (Instr.slice 23 (.slice A n c) none (some (.int .i64 k)) none).run Try.prog w = .ok (.slice A k c) w := by
  rw [run_slice_h w 23 _ n c el23 .i64 k (by omega) (by omega), sz23]
  simp only [Result.andThen, sliced, Int.toNat_natCast]
  by_cases h0 : c = 0
  · simp [h0]
  · rw [if_neg h0]
    cases A <;> simp [Addr.add]
theorem bs_take {w : World} {B : Nat} {A : Option Addr} {n m : Nat} {l : Key} (h : Bs w B A n l) (hm : m ≤ n) : Bs w B A m (l.take m) :=
  ⟨by have := h.len; rw [List.length_map, List.length_take]; omega, fun j u hu => by
    rw [List.getElem?_map, List.getElem?_take] at hu
    split at hu
    · exact h.2 j u (by rw [List.getElem?_map]; exact hu)
    · cases hu⟩
set_option maxHeartbeats 1000000 in
theorem laid_any (A : Option Addr) (n c B : Nat) (hs : List Hd) (w : World) (h : RowR w B A hs) (hn : n = hs.length) (hB : B ≤ w.heap.size) (hsm : n ≤ maxLen) :
    Calls Try.prog 8 #[.slice A n c] w fun e w' => ∃ v, e = .returned v ∧ ∃ hs', OwnRow w' w.heap.size v hs' ∧ keys hs' = laidL (keys hs) ∧ Below w.heap.size w w' := by
  have HR := hide h
  have HN := hide hn
  clear h hn
  unfold maxLen at hsm
  go_enter Try.func8, Try.ntmps8
  go_wp2_with fail
  go_loopw [3, 4] (fun v3 v4 W => ∃ (i : Nat) (hs' : List Hd), i ≤ n ∧ i ≤ 30 ∧ v4 = .int .i64 i ∧ Hid (OwnRow W w.heap.size v3 hs') ∧ Hid (keys hs' = ((keys hs).take i).foldl layK []) ∧ Hid (hs'.length ≤ i) ∧ Hid (Below w.heap.size w W)) (fun _ v4 _ => n - (intOf v4).toNat)
  case atStart => exact ⟨0, [], by omega, by omega, rfl, hide (OwnRow.nil _ _), hide rfl, hide (by simp), hide (Below.refl _ _)⟩
  case round =>
    obtain ⟨i, hs', hi, hi30, rfl, HO, HK, HLE, HW⟩ := hrel
    obtain ⟨A3, c3, rfl, hr3, _, _⟩ := HO.out.slice_
    by_cases hlt : i < n ∧ i < 30
    · obtain ⟨x, hx⟩ : ∃ x, hs[i]? = some x := ⟨_, List.getElem?_eq_getElem (by rw [← HN.out]; exact hlt.1)⟩
      have hkx : (keys hs)[i]? = some x.l := by rw [List.getElem?_map, hx]; rfl
      have hrr := HR.out.below (HW.out.mono hB)
      obtain ⟨ad, rfl, hab, c1⟩ := hrr.at_ hx
      have hgx := hrr.good x (List.mem_of_getElem? hx)
      have hiI : (i : Int) < (n : Int) := by omega
      have hi3 : (i : Int) < 30 := by omega
      obtain ⟨xA, xc, xl⟩ := x
      simp only at c1 hkx
      obtain ⟨xn, hxn⟩ : ∃ xn, xn = xl.length := ⟨_, rfl⟩
      obtain ⟨mk, hmk⟩ : ∃ mk : Nat, min (xn : Int) 64 = (mk : Int) := ⟨min xn 64, by omega⟩
      have hmk2 : mk ≤ xn := by omega
      have hb1 : Bs wr B xA mk (xl.take 64) := by
        have h := bs_take hgx.1 (m := mk) (by show mk ≤ xl.length; omega)
        have e : xl.take mk = xl.take 64 := by
          by_cases h64 : xn ≤ 64
          · rw [List.take_of_length_le (by omega), List.take_of_length_le (by omega)]
          · rw [show mk = 64 by omega]
        simp only at h
        rw [e] at h
        exact h
      have hsl := sl23_to xA xn xc mk (by have := hgx.2.1; simp only at this; omega)
      rw [← hxn] at c1
      have B0 : Below wr.heap.size wr wr.drew := ⟨rfl, rfl, rfl, Nat.le_refl _, fun _ _ => rfl⟩
      have C1 := hide (add_any A3 xA hs'.length c3 mk xc wr.heap.size wr.heap.size hs' (xl.take 64) wr.drew (hr3.below B0) rfl (by have := HLE.out; omega) (Reads.below (Reads.more hb1 (Nat.le_trans hB HW.out.size)) B0) (Nat.le_refl _) (Nat.le_refl _))
      have HKX := hide hkx
      have hx63 : xn ≤ 9223372036854775807 := by have h1 := hgx.2.1; have h2 := hgx.2.2; unfold maxLen at h2; simp only at h1 h2; omega
      have hc0 : ∀ W : World, W.heap = wr.heap → W.cell? (ad.add i) = some (.slice xA xn xc) := fun W hW => (World.cell?_of_block (by rw [hW])).trans c1
      obtain ⟨ln, hln⟩ : ∃ ln, ln = hs'.length := ⟨_, rfl⟩
      rw [← hln] at C1 ⊢
      have HLN := hide hln
      have HX := hide hxn
      have hsz := HW.out.size
      clear hx hkx hrr hgx hb1 hln hxn hr3 hlt B0
      go_upto_region 5 with fail
      go_region_held3 (fun W => W.cell? (ad.add i) = some (.slice xA xn xc)) (first | exact hc0 _ rfl | exact hcell | fail) (first | (go_at_call 18; refine C1.out.mono ?_; rintro e w2 ⟨v2, rfl, hs2, ho2, hk2, hb2⟩; obtain ⟨A2, c2, rfl, _⟩ := ho2.slice_; have hcell : w2.cell? (ad.add i) = some (.slice xA xn xc) := (World.cell?_of_block (hb2.block _ (by rw [add_block]; show ad.block < wr.heap.size; omega))).trans c1) | fail)
      have hb3 : Below wr.heap.size wr w2 := ⟨hb2.os, hb2.tape, hb2.output, hb2.size, hb2.block⟩
      have hstep : ((keys hs).take (i + 1)).foldl layK [] = layK (keys hs') xl := by
        rw [List.take_add_one, HKX.out, List.foldl_append, ← HK.out]
        rfl
      have hlen2 := layK_len (keys hs') xl
      by_cases hz : (addK (xl.take 64) (keys hs')).1 = 0
      · rw [hz]
        have hk3 : keys hs2 = layK (keys hs') xl := by unfold layK; rw [if_pos hz]; exact hk2
        have HOX := hide (ho2.mono hsz : OwnRow w2 w.heap.size _ hs2)
        have HKX2 := hide (hk3.trans hstep.symm)
        have HLX : Hid (hs2.length ≤ i + 1) := hide (by
          have h1 := congrArg List.length hk3
          rw [List.length_map] at h1
          have h2 := HLE.out
          rw [List.length_map] at hlen2
          omega)
        have HBX := hide (belFrom HW.out hb3)
        clear hz hk3 ho2 hk2 hb2 hb3 hstep hlen2 hcell hc0 c1 C1
        go_wp2_with fail
        go_roundw
        case rel => exact ⟨i + 1, hs2, by omega, by omega, by go_num, HOX, HKX2, HLX, HBX⟩
        case measure => simp [intOf]; omega
      · have hk3 : keys hs' = layK (keys hs') xl := by unfold layK; rw [if_neg hz]
        have hz2 : ((addK (xl.take 64) (keys hs')).1 == 0) = false := by simpa using hz
        have HOX := hide (HO.out.later hb3)
        have HKX2 := hide (hk3.trans hstep.symm)
        have HBX := hide (belFrom HW.out hb3)
        generalize (addK (xl.take 64) (keys hs')).1 = z at hz hz2 ⊢
        clear hk3 ho2 hk2 hb2 hb3 hstep hlen2 hcell hc0 c1 C1 HO
        rw [← HLN.out] at HOX
        go_wp2_with fail
        go_roundw
        case rel => exact ⟨i + 1, hs', by omega, by omega, by go_num, HOX, HKX2, hide (by have := HLE.out; omega), HBX⟩
        case measure => simp [intOf]; omega
    · have hfin : (keys hs).take i = (keys hs).take 30 := by
        by_cases h30 : i = 30
        · rw [h30]
        · rw [List.take_of_length_le (by rw [List.length_map, ← HN.out]; omega), List.take_of_length_le (by rw [List.length_map, ← HN.out]; omega)]
      have HFIN := hide hfin
      clear hfin
      by_cases hin : i < n
      · have hiI : (i : Int) < (n : Int) := by omega
        have hi3 : ¬ (i : Int) < 30 := by omega
        clear hlt
        go_wp2_with fail
        go_ret
        exact ⟨_, rfl, hs', HO.out, by rw [HK.out, HFIN.out]; rfl, HW.out⟩
      · have hiI : ¬ (i : Int) < (n : Int) := by omega
        clear hlt
        go_wp2_with fail
        go_ret
        exact ⟨_, rfl, hs', HO.out, by rw [HK.out, HFIN.out]; rfl, HW.out⟩
end Go.Proofs.Yteiamfekdibkmaa
