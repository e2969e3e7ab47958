/-
  THE WALKS of step, Next of a walk. Conditions: as the theorems' premises say.
-/
import Derived.Test.YteiamfekdibkmaaOWalkD
import Derived.Deep.RegionHeld3
namespace Go.Proofs.Yteiamfekdibkmaa
open Go.RowKit Go.Shelf

abbrev OwnI (w : World) (base : Nat) (v : Value) (L : List Nat) : Prop := w.ownsRow base 3 1 v L.length (L.map iv)
theorem i_info : (Try.prog.info? 3).map (fun i => (i.zero, i.size, i.bytes)) = some (some (.int .i64 0), 1, 8) := by kernel_rfl
theorem el32 : Try.prog.underlying 32 = some (.slice 3) := by kernel_rfl
theorem grown_trans_own {w w1 w2 : World} {g' : Nat} {v : Value} (h : w.grownBy w1 (some g')) (h2 : w1.grownBy w2 v.ownBlock) (hv : ∀ j, v.ownBlock = some j → w.heap.size ≤ j) : w.grownBy w2 (some g') :=
  ⟨h2.os.trans h.os, h2.tape.trans h.tape, h2.output.trans h.output, Nat.le_trans h.size h2.size, fun k hk hne => (h2.block k (by have := h.size; omega) (fun e => by have := hv k e.symm; omega)).trans (h.block k hk hne)⟩
theorem good_kept {w w' : World} {base base' g' cap' : Nat} {t : List Nat} {x : Hd} (hx : w.ownsRow base 5 1 x.v x.l.length (x.l.map bv)) (ha : AtsAt w base' g' cap' t) (hg : w.grownBy w' (some g')) : w'.ownsRow base 5 1 x.v x.l.length (x.l.map bv) :=
  hx.kept hg (own_types hx ha.row (by decide))
set_option maxHeartbeats 1000000 in
theorem step_any {w : World} {base base' p g cap n g' cap' : Nat} {rs : List Rw} {t : List Nat} {y : Hd} (h : WalkAt w base p g cap rs n) (ha : AtsAt w base' g' cap' t) (hn : n = rs.length) (ht : t.length = n) (hsm : n ≤ 1000) (hrl : ∀ r ∈ rs, r.hs.length ≤ 100000) (hal : ∀ a ∈ t, a ≤ 1000000) (hy : w.ownsRow base 5 1 y.v y.l.length (y.l.map bv)) :
    Calls Try.prog 35 #[.pointer (some ⟨p, 0, none⟩), .slice (some ⟨g', 0, none⟩) n cap', y.v] w fun e w' => ∃ v, e = .returned v ∧ OwnI w' w.heap.size v (inL (rws rs) t y.l n) ∧ AtsAt w' base' g' cap' (stepT (rws rs) t y.l n) ∧ w.grownBy w' (some g') := by
  obtain ⟨i0, hi0, hz0, hz1, hz2⟩ := info_parts i_info
  obtain ⟨vr, h1, h2⟩ := h.ex
  obtain ⟨Ar, cr, rfl⟩ := slice_ofH h2
  rw [← hn] at h1
  obtain ⟨g1, g2, g3⟩ := h1.facts
  have hg'lt := (own_lt (g := g') ha.row rfl).2
  have HB1 := hide h1
  have HROW0 := hide h2
  have HW := hide h
  have HA := hide ha
  have HY := hide hy
  have HN := hide hn
  have HT := hide ht
  have HRL := hide hrl
  have HAL := hide hal
  obtain ⟨yA, yc, yl⟩ := y
  show Calls Try.prog 35 #[_, _, .slice yA yl.length yc] w _
  obtain ⟨ym, hym⟩ : ∃ ym, ym = yl.length := ⟨_, rfl⟩
  rw [← hym]
  have HYM := hide hym
  clear h ha h1 h2 hn ht hrl hal hy hym
  go_enter Try.func35, Try.ntmps35
  go_wp2_with fail
  go_loopw [7, 15] (fun v7 v15 W => ∃ i : Nat, i ≤ n ∧ v15 = .int .i64 i ∧ Hid (OwnI W w.heap.size v7 (inL (rws rs) t yl i)) ∧ Hid (AtsAt W base' g' cap' (stepT (rws rs) t yl i)) ∧ Hid (w.grownBy W (some g'))) (fun _ v15 _ => n - (intOf v15).toNat)
  case atStart => exact ⟨0, by omega, rfl, hide (World.ownsRow_nil _ _ _ _), hide (by rw [stepT_zero]; exact HA.out), hide (World.grownBy.refl _ _)⟩
  case round =>
    obtain ⟨i, hi, rfl, HI, HA2, HGr⟩ := hrel
    obtain ⟨A7, c7, rfl⟩ := slice_ofH HI.out
    have hle := inL_len (rws rs) t yl i
    obtain ⟨il, hil⟩ : ∃ il, il = (inL (rws rs) t yl i).length := ⟨_, rfl⟩
    rw [← hil] at hle ⊢
    have HIL := hide hil
    clear hil
    by_cases hlt : i < n
    · obtain ⟨r, hr⟩ : ∃ r, rs[i]? = some r := ⟨_, List.getElem?_eq_getElem (by rw [← HN.out]; exact hlt)⟩
      obtain ⟨a, hat⟩ : ∃ a, t[i]? = some a := ⟨_, List.getElem?_eq_getElem (by rw [HT.out]; exact hlt)⟩
      have hrm := List.mem_of_getElem? hr
      have hWk := HW.out.beside HA.out HGr.out
      have hrr : Reads wr wr.heap.size 1 Ar rs.length (rs.map Rw.v) := Reads.of_own (HROW0.out.kept HGr.out (own_types HROW0.out HA.out.row (by decide)))
      obtain ⟨ad, rfl, hab, c1⟩ := hrr.2 i r.v (by rw [List.getElem?_map, hr]; rfl)
      have hgT : t.getD i 0 = a := by rw [List.getD_eq_getElem?_getD, hat]; rfl
      have htl : i < t.length := by rw [HT.out]; exact hlt
      have hat2 : (stepT (rws rs) t yl i)[i]? = some a := by
        have h1 := stepT_at (R := rws rs) (t := t) (k := yl) (m := i) htl
        rw [if_neg (by omega), hgT, List.getD_eq_getElem?_getD] at h1
        obtain ⟨z, hz⟩ : ∃ z, (stepT (rws rs) t yl i)[i]? = some z := ⟨_, List.getElem?_eq_getElem (by rw [stepT_len]; exact htl)⟩
        rw [hz] at h1 ⊢
        exact congrArg some h1
      obtain ⟨c2, f2, s2⟩ := HA2.out.at_ hat2
      have hrow := (hWk.rows r hrm).rowR
      have hrl := HRL.out r hrm
      have hal := HAL.out a (List.mem_of_getElem? hat)
      have hiI : (i : Int) < (n : Int) := by omega
      have hgR : (rws rs).getD i [] = keys r.hs := by rw [List.getD_eq_getElem?_getD, List.getElem?_map, hr]; rfl
      have hyk := good_own (good_kept HY.out HA.out HGr.out)
      have hsz := HGr.out.size
      obtain ⟨rA, rc, rhs⟩ := r
      have c1' : wr.cell? (ad.add i) = some (.slice rA rhs.length rc) := c1
      simp only at hrl hgR hrow
      have HGR := hide hgR
      have HGT := hide hgT
      have HROW := hide hrow
      have HTL := hide htl
      have HYK := hide hyk
      clear c1 hr hat hat2 hrow hgR hgT hrm hrr hWk hyk htl
      by_cases hax : a < rhs.length
      · obtain ⟨x, hx⟩ : ∃ x, rhs[a]? = some x := ⟨_, List.getElem?_eq_getElem hax⟩
        obtain ⟨ad2, rfl, hab2, c3⟩ := HROW.out.at_ hx
        have hgx := HROW.out.good x (List.mem_of_getElem? hx)
        have C1 := hide (bytesEqual_any x.A yA x.l.length x.c ym yc wr.heap.size wr.heap.size x.l yl wr hgx.1 (by rw [HYM.out]; exact HYK.out.1))
        have hst : standsB (rws rs) t yl i = (x.l == yl) := by
          unfold standsB
          rw [HGR.out, HGT.out, List.getElem?_map, hx, Bool.eq_iff_iff]
          simp
        rw [← hst] at C1
        have haI : (a : Int) < (rhs.length : Int) := by omega
        obtain ⟨rn, hrn⟩ : ∃ rn, rn = rhs.length := ⟨_, rfl⟩
        rw [← hrn] at c1' haI hrl
        clear hx hgx hst hax hrn
        cases hb : standsB (rws rs) t yl i with
        | true =>
          rw [hb] at C1
          have HBT := hide hb
          clear hb
          obtain ⟨a1, ha1⟩ : ∃ a1 : Nat, (a : Int) + 1 = (a1 : Int) := ⟨a + 1, by omega⟩
          have hset := HA2.out.set i a1
          have e1 : (stepT (rws rs) t yl i).set i a1 = stepT (rws rs) t yl (i + 1) := by rw [stepT_yes HTL.out HBT.out, HGT.out, show a1 = a + 1 by omega]
          rw [e1] at hset
          have HSET := hide hset.1
          have HSG := hide hset.2
          have hown : (wr.setCell ⟨g', i, none⟩ (.int .i64 (a1 : Int))).ownsRow w.heap.size 3 1 (.slice A7 il c7) il ((inL (rws rs) t yl i).map iv) := by
            have h := HI.out
            unfold OwnI at h
            rw [← HIL.out] at h
            exact h.kept hset.2 (.inr (fun e => by have := (own_lt h e).1; omega))
          have HOWN := hide hown
          clear hset e1 hown
          go_upto_region 7 with (first | (refine C1.out.mono ?_; rintro e w2 ⟨rfl, rfl⟩) | fail)
          generalize wr.setCell ⟨g', i, none⟩ (.int .i64 (a1 : Int)) = W1 at HOWN HSET HSG ⊢
          have hg1 : w.grownBy W1 (some g') := HGr.out.trans HSG.out
          have hsz1 := hg1.size
          have HG1 := hide hg1
          clear c1' c2 c3 f2 s2 hg1
          go_wp2_with (at_builtin; refine wpList_append_any _ rfl (.tmp 44) (.tmp 46) 32 rfl w.heap.size 3 i0 _ 1 8 el32 hi0 hz0 hz1 hz2 rfl (by omega) (.slice A7 il c7) il ((inL (rws rs) t yl i).map iv) rfl (HOWN.out.alloc _) (W1.heap.size + 1) (some ⟨W1.heap.size, 0, none⟩) 1 1 [iv i] rfl (Reads.ofBlk (Blk.new W1 3 _) rfl) (fun u hu => by rw [List.mem_singleton.1 hu]; rfl) (by unfold maxLen; omega) (by omega) (by simp; omega) ?_; intro v4 w4 ho4 hg4 hat4; obtain ⟨A4, c4, rfl⟩ := slice_ofH ho4)
          have hgn : w.grownBy w4 (some g') := grown_trans_own (only_alloc HG1.out _) hg4 (fun j hj => (own_lt HOWN.out hj).1)
          have hats : AtsAt w4 base' g' cap' (stepT (rws rs) t yl (i + 1)) := ⟨(HSET.out.row.alloc _).kept hg4 (.inr (fun e => by
            have h1 : some g' = (Value.slice A7 il c7).ownBlock := e
            have := (own_lt HOWN.out h1.symm).1
            omega))⟩
          go_roundw
          case rel =>
            refine ⟨i + 1, by omega, by go_num, hide ?_, hide hats, hide hgn⟩
            show w4.ownsRow _ 3 1 _ (inL (rws rs) t yl (i + 1)).length ((inL (rws rs) t yl (i + 1)).map iv)
            rw [inL_yes HBT.out, List.length_append, List.map_append, ← HIL.out]
            exact ho4
          case measure => simp [intOf]; omega
        | false =>
          rw [hb] at C1
          have HBT := hide hb
          clear hb
          go_wp2_with fail
          refine C1.out.mono ?_
          rintro e w2 ⟨rfl, rfl⟩
          go_wp2_with fail
          go_roundw
          case rel => exact ⟨i + 1, by omega, by go_num, hide (by rw [inL_no HBT.out, HIL.out]; exact HI.out), hide (by rw [stepT_no HBT.out]; exact HA2.out), HGr⟩
          case measure => simp [intOf]; omega
      · have haI : ¬ (a : Int) < (rhs.length : Int) := by omega
        have hst : standsB (rws rs) t yl i = false := by
          unfold standsB
          rw [HGR.out, HGT.out, List.getElem?_eq_none (by rw [List.length_map]; omega)]
          rfl
        have HBT := hide hst
        obtain ⟨rn, hrn⟩ : ∃ rn, rn = rhs.length := ⟨_, rfl⟩
        rw [← hrn] at c1' haI hrl
        clear hst hax hrn
        go_wp2_with fail
        go_roundw
        case rel => exact ⟨i + 1, by omega, by go_num, hide (by rw [inL_no HBT.out, HIL.out]; exact HI.out), hide (by rw [stepT_no HBT.out]; exact HA2.out), HGr⟩
        case measure => simp [intOf]; omega
    · obtain rfl : i = n := by omega
      have hnl : ¬ (i : Int) < i := by omega
      go_wp2_with fail
      go_ret
      exact ⟨_, rfl, by rw [HIL.out]; exact HI.out, HA2.out, HGr.out⟩
end Go.Proofs.Yteiamfekdibkmaa
