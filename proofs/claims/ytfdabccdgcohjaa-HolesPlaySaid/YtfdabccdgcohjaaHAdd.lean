/-
  THE WALKS of holes: Add, Found. Conditions: as the theorems' premises say.
-/
import Derived.Test.YtfdabccdgcohjaaHOps
namespace Go.Proofs.Ytfdabccdgcohjaa
open Go.RowKit Go.Shelf

theorem own_set2 {w : World} {g : Nat} {v : Value} {L : List St} (h : OwnS w (g + 1) v L) (u1 u2 : Value) : OwnS ((w.setCell ⟨g, 0, none⟩ u1).setCell ⟨g, 1, none⟩ u2) (g + 1) v L := by
  have hg : w.grownBy ((w.setCell ⟨g, 0, none⟩ u1).setCell ⟨g, 1, none⟩ u2) (some g) := only_setCell (p := ⟨g, 1, none⟩) (only_setCell (p := ⟨g, 0, none⟩) (World.grownBy.refl w _) (.inl rfl) u1) (.inl rfl) u2
  exact h.kept hg (.inr (fun e => own_ne h (Nat.lt_succ_self g) e.symm))
set_option maxHeartbeats 2000000 in
theorem add_any {w : World} {base p : Nat} {L : List St} (h : HoAt w base p L) (lo hi : Nat) (hlo : lo ≤ 18446744073709551615) (hhi : hi ≤ 18446744073709551615) (hsm : L.length ≤ 100000) :
    Calls Try.prog 10 #[.pointer (some ⟨p, 0, none⟩), .int .u64 lo, .int .u64 hi] w fun e w' => e = .returned (.int .i64 (addO lo hi L).1) ∧ HoAt w' base p (addO lo hi L).2 ∧ w.grownBy w' (some p) := by
  obtain ⟨v, h1, h2⟩ := h.ex
  have C1 := hide (none_no h1)
  have H := hide h
  by_cases hl0 : lo = 0
  · subst hl0
    have e : addO 0 hi L = (1, L) := by unfold addO; rw [if_pos (.inl rfl)]
    rw [e]
    clear h h1 h2 e
    go_enter Try.func10, Try.ntmps10
    go_wp2_with fail
    refine C1.out.mono ?_
    rintro e w1 ⟨rfl, rfl⟩
    go_wp2_with fail
    go_ret
    exact ⟨rfl, H.out, World.grownBy.refl _ _⟩
  by_cases hh0 : 1099511627776 < hi
  · have e : addO lo hi L = (1, L) := by unfold addO; rw [if_pos (.inr hh0)]
    rw [e]
    have hl1 : ¬ ((lo : Int) = 0) := by omega
    have hl2 : ((lo : Int) == 0) = false := by simp; omega
    have hh1 : (1099511627776 : Int) < (hi : Int) := by omega
    clear h h1 h2 e
    go_enter Try.func10, Try.ntmps10
    go_wp2_with fail
    refine C1.out.mono ?_
    rintro e w1 ⟨rfl, rfl⟩
    go_wp2_with fail
    go_ret
    exact ⟨rfl, H.out, World.grownBy.refl _ _⟩
  have hl1 : ¬ ((lo : Int) = 0) := by omega
  have hl2 : ((lo : Int) == 0) = false := by simp; omega
  have hh1 : ¬ (1099511627776 : Int) < (hi : Int) := by omega
  have hh2 : decide ((1099511627776 : Int) < (hi : Int)) = false := by simp; omega
  by_cases hlh : hi < lo
  · have e : addO lo hi L = (0, L) := by unfold addO; rw [if_neg (by omega), if_pos hlh]
    rw [e]
    have hlh1 : (hi : Int) < (lo : Int) := by omega
    clear h h1 h2 e
    go_enter Try.func10, Try.ntmps10
    go_wp2_with fail
    refine C1.out.mono ?_
    rintro e w1 ⟨rfl, rfl⟩
    go_wp2_with fail
    go_ret
    exact ⟨rfl, H.out, World.grownBy.refl _ _⟩
  have e : addO lo hi L = (0, addL ⟨lo, hi⟩ L) := by unfold addO; rw [if_neg (by omega), if_neg hlh]
  have hgo := goL_eq (L := L) (a := ⟨lo, hi⟩) (acc := []) (by simpa using h.ok) (by show lo ≤ hi; omega) (fun x hx => by cases hx)
  have hadd : Canon (addL ⟨lo, hi⟩ L) := addL_canon h.ok (by show 1 ≤ lo; omega) (by show lo ≤ hi; omega) (by show hi ≤ _; omega)
  rw [e]
  rw [List.nil_append] at hgo
  have HGO := hide hgo
  have HADD := hide hadd
  have hlh1 : ¬ (hi : Int) < (lo : Int) := by omega
  obtain ⟨A, c, rfl, hr⟩ := own_slice h2
  obtain ⟨m, hm⟩ : ∃ m, m = L.length := ⟨_, rfl⟩
  rw [← hm] at h1 hsm
  obtain ⟨g1, g2, g3⟩ := h1.facts
  have eg : ∀ args w, (callFunc 28 args).run Try.prog w = .ok (.enter 28 args) w := enters_of Try.func28 (by kernel_rfl) rfl
  have hpne : p ≠ w.heap.size := by have := h1.lt; omega
  have HM := hide hm
  have HR := hide hr
  have H1 := hide h1
  clear h h1 h2 e hgo hadd hm hr
  obtain ⟨i0, hi0, hz0, hz1, hz2⟩ := info_parts st_info
  go_enter Try.func10, Try.ntmps10
  go_wp2_with fail
  refine C1.out.mono ?_
  rintro e w1 ⟨rfl, rfl⟩
  go_wp2_with fail
  go_loopw [9, 11, 36] (fun v9 _ v36 W => ∃ (i : Nat) (acc : List St) (a : St), i ≤ m ∧ v36 = .int .i64 i ∧ Hid (goL a acc (L.drop i) = goL ⟨lo, hi⟩ [] L) ∧ Hid (Blk W w.heap.size 41 #[.int .u64 (a.lo : Int), .int .u64 (a.hi : Int)]) ∧ Hid (OwnS W (w.heap.size + 1) v9 acc) ∧ Hid (Below w.heap.size w W) ∧ a.hi ≤ 1099511627776 ∧ acc.length ≤ i) (fun _ _ v36 _ => m - (intOf v36).toNat)
  case atStart => exact ⟨0, [], ⟨lo, hi⟩, by omega, rfl, hide rfl, hide (Blk.new w 41 _), hide ⟨rfl, .inl ⟨rfl, rfl⟩⟩, hide (bel1 _ _), by show hi ≤ _; omega, Nat.le_refl _⟩
  case round =>
    obtain ⟨i, acc, a, hi36, rfl, HG, HBA, HO, HW, hahi, hacc⟩ := hrel
    obtain ⟨AL, cl, rfl, hrl⟩ := own_slice HO.out
    by_cases hlt : i < m
    · obtain ⟨s, hs⟩ : ∃ s, L[i]? = some s := ⟨_, List.getElem?_eq_getElem (by rw [← HM.out]; exact hlt)⟩
      have hd : L.drop i = s :: L.drop (i + 1) := by
        obtain ⟨hh, e⟩ := List.getElem?_eq_some_iff.1 hs
        rw [← e, List.drop_eq_getElem_cons]
      obtain ⟨ad, rfl, hab, c1, c2⟩ := RdS.at_ (HR.out.below HW.out) hs
      have hsz := HW.out.size
      have hmem := H.out.ok.mem (List.mem_of_getElem? hs)
      have hbs : Blk (wr.alloc (.cells #[.int .u64 (s.lo : Int), .int .u64 (s.hi : Int)] 41)) wr.heap.size 41 #[.int .u64 (s.lo : Int), .int .u64 (s.hi : Int)] := Blk.new wr 41 _
      have hba := HBA.out.alloc (.cells #[.int .u64 (s.lo : Int), .int .u64 (s.hi : Int)] 41)
      have C2 := hide (touch_any (s := s) (a := a) hba hmem.2.2 hahi)
      have hgo := HG.out
      rw [hd, goL] at hgo
      have HGO2 := hide hgo
      have HMEM := hide hmem
      have HBS := hide hbs
      have HBA2 := hide hba
      have HWa := hide (balloc HW.out (.cells #[.int .u64 (s.lo : Int), .int .u64 (s.hi : Int)] 41))
      have HOa := hide (own_bel HO.out (bel1 wr (.cells #[.int .u64 (s.lo : Int), .int .u64 (s.hi : Int)] 41)))
      obtain ⟨d1, d2, d3⟩ := hbs.facts
      have hne : w.heap.size ≠ wr.heap.size := by have := HBA.out.lt; omega
      clear hs hd hgo hmem hbs hba hrl
      go_wp2_with fail
      refine C2.out.mono ?_
      rintro e w2 ⟨rfl, hb2⟩
      have HBS2 := hide (HBS.out.below hb2 HBS.out.lt)
      have HBA3 := hide (HBA2.out.below hb2 HBA2.out.lt)
      have HW2 := hide (belFrom HWa.out hb2)
      have HO2 := hide (own_bel HOa.out hb2)
      clear d1 d2 d3 c1 c2
      obtain ⟨d1, d2, d3⟩ := HBS2.out.facts
      obtain ⟨e1, e2, e3⟩ := HBA3.out.facts
      clear HBS HBA2 HWa HOa C2 hb2
      cases ht : touch s a with
      | true =>
        have hgo := HGO2.out
        rw [ht, if_pos rfl] at hgo
        have HG3 := hide hgo
        clear hgo ht
        obtain ⟨ml, hml⟩ : ∃ ml : Nat, min (s.lo : Int) (a.lo : Int) = ml := ⟨min s.lo a.lo, by omega⟩
        obtain ⟨mh, hmh⟩ : ∃ mh : Nat, max (s.hi : Int) (a.hi : Int) = mh := ⟨max s.hi a.hi, by omega⟩
        go_wp2_with fail
        go_roundw
        case rel =>
          have em : merge s a = ⟨ml, mh⟩ := by
            have h1 : min s.lo a.lo = ml := by omega
            have h2 : max s.hi a.hi = mh := by omega
            exact St.ext' h1 h2
          rw [em] at HG3
          have := HMEM.out
          exact ⟨i + 1, acc, ⟨ml, mh⟩, by omega, by go_num, HG3, hide (by simpa using (HBA3.out.set_ 0 (.int .u64 (ml : Int))).set_ 1 (.int .u64 (mh : Int))), hide (own_set2 HO2.out _ _), hide (bset (bset HW2.out (Nat.le_refl _) 0 _) (Nat.le_refl _) 1 _), by show mh ≤ _; omega, by omega⟩
        case measure => simp [intOf]; omega
      | false =>
        have hgo := HGO2.out
        rw [ht, if_neg (by simp)] at hgo
        have HG3 := hide hgo
        clear hgo ht
        have hsz2 := HW2.out.size
        go_wp2_with (at_builtin; refine wpList_append_any _ rfl (.tmp 54) (.tmp 56) 38 rfl (w.heap.size + 1) 41 i0 _ 2 16 el38' hi0 hz0 hz1 hz2 rfl (by omega) (.slice AL acc.length cl) acc.length (stc acc) rfl (HO2.out.alloc _) (w2.heap.size + 1) (some ⟨w2.heap.size, 0, none⟩) 1 1 s.cs rfl (Reads.ofBlk (Blk.new w2 41 _) rfl) (cs_one s) (by unfold maxLen; omega) (by omega) (by simp; omega) ?_; intro v3 w3 hown hg hat)
        have hnb : some w.heap.size ≠ (Value.slice AL acc.length cl).ownBlock := own_ne HO2.out (Nat.lt_succ_self _)
        have el : (acc ++ [s]).length = acc.length + 1 := by simp
        go_roundw
        case rel => exact ⟨i + 1, acc ++ [s], a, by omega, by go_num, HG3, hide ((HBA3.out.alloc _).grown hg hnb), hide (by show w3.ownsRow _ 41 2 _ (acc ++ [s]).length _; rw [el, stc_app]; exact hown), hide ((balloc HW2.out _).grown hg (by simp; omega) (fun j hj => by have := (own_lt HO2.out hj).1; omega)), hahi, by rw [el]; omega⟩
        case measure => simp [intOf]; omega
    · obtain rfl : i = m := by omega
      have hnl : ¬ (i : Int) < i := by omega
      have hgo := HG.out
      rw [HM.out, List.drop_length, goL] at hgo
      have hins := HGO.out
      rw [← hgo] at hins
      have eg30 : ∀ args w, (callFunc 30 args).run Try.prog w = .ok (.enter 30 args) w := enters_of Try.func30 (by kernel_rfl) rfl
      have hcon := indexFunc_any (fun s => decide (a.hi < s.lo)) 30 #[.pointer (some ⟨w.heap.size, 0, none⟩)] eg30 AL cl wr.heap.size acc.length acc wr rfl
        (fun W s hW _ => (behind_any (HBA.out.below hW HBA.out.lt)).mono fun e w' ⟨he, hb⟩ => ⟨he, belFrom hW hb⟩) hrl (Nat.le_refl _) (by omega)
      have hwlt := HBA.out.lt
      have C5 : ∀ W, Below wr.heap.size wr W → Calls Try.prog 31 #[.slice AL acc.length cl, .int .i64 (placeL a acc), .slice (some ⟨W.heap.size, 0, none⟩) 1 1] (W.alloc (.cells #[.int .u64 (a.lo : Int), .int .u64 (a.hi : Int)] 41)) fun e w' => ∃ v', e = .returned v' ∧ OwnS w' (w.heap.size + 1) v' (addL ⟨lo, hi⟩ L) ∧ w.heap.size ≤ w'.heap.size ∧ Below w.heap.size w w' := fun W hW => by
        have hsz := hW.size
        have ho : OwnS (W.alloc (.cells #[.int .u64 (a.lo : Int), .int .u64 (a.hi : Int)] 41)) (w.heap.size + 1) (.slice AL acc.length cl) acc := own_bel (own_bel HO.out hW) (bel1 _ _)
        have hne : (Value.slice AL acc.length cl).ownBlock ≠ some W.heap.size := fun e => by have := (own_lt HO.out e).2; omega
        refine (insert_any (x := a) ho (Blk.new W 41 _) hne (by simp; omega) (by omega) (placeL_le a acc)).mono ?_
        rintro e w' ⟨v', he, ho', hg⟩
        have hB : Below w.heap.size w w' := (balloc (belFrom HW.out hW) _).grown hg (by simp; have := HW.out.size; omega) (fun j hj => by have := (own_lt HO.out hj).1; omega)
        exact ⟨v', he, by rw [← hins]; exact ho', hB.size, hB⟩
      have hpl := idxP_place a acc
      have hlt5 := fun k (h : idxP (fun s => decide (a.hi < s.lo)) acc = some k) => idxP_lt h
      have hfin : ∀ W v', OwnS W (w.heap.size + 1) v' (addL ⟨lo, hi⟩ L) → Below w.heap.size w W → HoAt (W.setCell ⟨p, 0, none⟩ v') base p (addL ⟨lo, hi⟩ L) ∧ w.grownBy (W.setCell ⟨p, 0, none⟩ v') (some p) := fun W v' ho hB => by
        have hg : W.grownBy (W.setCell ⟨p, 0, none⟩ v') (some p) := only_setCell (p := ⟨p, 0, none⟩) (World.grownBy.refl W _) (.inl rfl) v'
        have hpw := H1.out.lt
        have hbp := H.out.hp
        exact ⟨⟨⟨v', by simpa using (H1.out.below hB hpw).set_ 0 v', own_mono (ho.kept hg (.inr (fun e => own_ne ho (g := p) (by omega) e.symm))) (by omega)⟩, hbp, HADD.out⟩, only_setCell (p := ⟨p, 0, none⟩) (only_of_below hB _) (.inl rfl) v'⟩
      have C5H := hide C5
      have HF := hide hfin
      clear C5 hfin hrl hins hgo
      unfold idxI at hcon
      cases hq : idxP (fun s => decide (a.hi < s.lo)) acc with
      | none =>
        rw [hq] at hcon hpl
        simp only [Option.getD_none] at hpl hcon
        have HC := hide hcon
        rw [← hpl] at C5H
        clear hcon hq hpl hlt5
        go_wp2_with fail
        refine HC.out.mono ?_
        rintro e w3 ⟨rfl, hb3⟩
        obtain ⟨e1, e2, e3⟩ := (HBA.out.below hb3 HBA.out.lt).facts
        have C6 := hide (C5H.out w3 hb3)
        clear C5H
        go_wp2_with fail
        refine C6.out.mono ?_
        rintro e w5 ⟨v', rfl, ho5, hs5, hb5⟩
        obtain ⟨f1, f2, f3⟩ := (H1.out.below hb5 H1.out.lt).facts
        obtain ⟨A5, c5, rfl, _⟩ := own_slice ho5
        have HF5 := hide (HF.out _ _ ho5 hb5)
        clear ho5 hb5
        go_wp2_with fail
        go_ret
        exact ⟨rfl, HF5.out⟩
      | some k =>
        rw [hq] at hcon hpl
        have hk5 := hlt5 k hq
        simp only [Option.getD_some] at hpl hcon
        have HC := hide hcon
        rw [← hpl] at C5H
        have hk0 : ¬ (k : Int) < 0 := by omega
        clear hcon hq hpl hlt5
        go_wp2_with fail
        refine HC.out.mono ?_
        rintro e w3 ⟨rfl, hb3⟩
        obtain ⟨e1, e2, e3⟩ := (HBA.out.below hb3 HBA.out.lt).facts
        have C6 := hide (C5H.out w3 hb3)
        clear C5H
        go_wp2_with fail
        refine C6.out.mono ?_
        rintro e w5 ⟨v', rfl, ho5, hs5, hb5⟩
        obtain ⟨f1, f2, f3⟩ := (H1.out.below hb5 H1.out.lt).facts
        obtain ⟨A5, c5, rfl, _⟩ := own_slice ho5
        have HF5 := hide (HF.out _ _ ho5 hb5)
        clear ho5 hb5
        go_wp2_with fail
        go_ret
        exact ⟨rfl, HF5.out⟩
end Go.Proofs.Ytfdabccdgcohjaa
