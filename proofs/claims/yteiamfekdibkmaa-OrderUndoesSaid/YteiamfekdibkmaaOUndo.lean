/-
  THE WALK of OrderUndoes. Conditions: as the theorems' premises say.
-/
import Derived.Test.YteiamfekdibkmaaOUndoD
namespace Go.Proofs.Yteiamfekdibkmaa
open Go.RowKit Go.Shelf

set_option maxRecDepth 100000 in
set_option maxHeartbeats 4000000 in
theorem undo_any (A A' : Option Addr) (n c m d : Nat) (hs : List Hd) (k : Key) (w : World) (h : RowR w w.heap.size A hs) (hn : n = hs.length) (hsm : n ≤ maxLen) (hk : Bs w w.heap.size A' m k) (hmd : m ≤ d) (hd : d ≤ maxLen) :
    Calls Try.prog 7 #[.slice A n c, .slice A' m d] w fun e w' => e = .returned (.bool true) ∧ Below w.heap.size w w' := by
  have C1 := hide (laid_any A n c w.heap.size hs w h hn (Nat.le_refl _) hsm)
  obtain ⟨mk, hmk⟩ : ∃ mk : Nat, min (m : Int) 64 = (mk : Int) := ⟨min m 64, by omega⟩
  have hsl := sl23_to A' m d mk (by omega)
  have hb1 : Bs w w.heap.size A' mk (k.take 64) := by
    have h := bs_take hk (m := mk) (by omega)
    have hkl := hk.len
    have e : k.take mk = k.take 64 := by
      by_cases h64 : m ≤ 64
      · rw [List.take_of_length_le (by omega), List.take_of_length_le (by omega)]
      · rw [show mk = 64 by omega]
    rw [e] at h
    exact h
  obtain ⟨b, hb⟩ : ∃ b : Nat, min (n : Int) 30 = (b : Int) := ⟨min n 30, by omega⟩
  have hbn : b ≤ n := by omega
  have hb30 : b ≤ 30 := by omega
  have HB := hide (show b = min n 30 by omega)
  obtain ⟨i0, hi0, hz0, hz1, hz2⟩ := info_parts hd_info
  unfold maxLen at hsm hd
  have hd63 : m ≤ 9223372036854775807 := by omega
  have HR := hide h
  have HN := hide hn
  have HK := hide hb1
  obtain ⟨k2, hk2⟩ : ∃ k2, k2 = k.take 64 := ⟨_, rfl⟩
  have hk64 : k2.length ≤ 64 := by rw [hk2, List.length_take]; omega
  rw [← hk2] at HK
  clear h hn hk hb1 hk2
  go_enter Try.func7, Try.ntmps7
  go_wp2_with fail
  refine C1.out.mono ?_
  rintro e w1 ⟨v1, rfl, hs1, ho1, hk1, hb1⟩
  obtain ⟨A1, c1, rfl, hr1, _⟩ := ho1.slice_
  have hok := laid_ok (keys hs)
  have hl1 : hs1.length ≤ 30 := by
    have h1 := congrArg List.length hk1
    rw [List.length_map] at h1
    have := laid_len (keys hs)
    omega
  obtain ⟨q, hq⟩ : ∃ q, q = hs1.length := ⟨_, rfl⟩
  rw [← hq] at hl1 ⊢
  have HR1 := hide hr1
  have HK1 := hide hk1
  have HB1 := hide hb1
  have HQ := hide hq
  have hok1 : RowOk (keys hs1) := by rw [hk1]; exact hok
  have HOK := hide hok1
  clear ho1 hr1 hk1 hb1 hq hok hok1 C1
  go_wp2_with fail
  go_loopw [6, 7] (fun v6 v7 W => ∃ (i : Nat) (bs : List Hd), i ≤ b ∧ v7 = .int .i64 ((i : Int) - 1) ∧ Hid (OwnH W w1.heap.size v6 bs) ∧ Hid (bs = ((hs.take b).drop i).reverse) ∧ Hid (Below w1.heap.size w1 W)) (fun _ v7 _ => ((intOf v7) + 1).toNat)
  case atStart => exact ⟨b, [], Nat.le_refl _, rfl, hide (World.ownsRow_nil _ _ _ _), hide (by rw [List.drop_of_length_le (by rw [List.length_take]; omega)]; rfl), hide (Below.refl _ _)⟩
  case round =>
    obtain ⟨i, bs, hib, rfl, HO, HBS, HW⟩ := hrel
    obtain ⟨A6, c6, rfl⟩ := slice_ofH HO.out
    have hbl : bs.length = b - i := by rw [HBS.out, List.length_reverse, List.length_drop, List.length_take, ← HN.out]; omega
    by_cases hi0' : 1 ≤ i
    · obtain ⟨j, rfl⟩ : ∃ j, i = j + 1 := ⟨i - 1, by omega⟩
      have hj : ((j + 1 : Nat) : Int) - 1 = (j : Int) := by omega
      rw [hj]
      have hjn : (j : Int) < (n : Int) := by omega
      have hj0 : (0 : Int) ≤ (j : Int) := by omega
      obtain ⟨x, hx⟩ : ∃ x, hs[j]? = some x := ⟨_, List.getElem?_eq_getElem (by rw [← HN.out]; omega)⟩
      have hrr := (HR.out.below HB1.out).below (HW.out.mono HB1.out.size)
      obtain ⟨ad, rfl, hab, c2⟩ := hrr.at_ hx
      have hsz := HW.out.size
      have hdr : (hs.take b).drop j = x :: (hs.take b).drop (j + 1) := by
        have h1 : (hs.take b)[j]? = some x := by rw [List.getElem?_take, if_pos (by omega)]; exact hx
        obtain ⟨h2, e⟩ := List.getElem?_eq_some_iff.1 h1
        rw [← e, List.drop_eq_getElem_cons]
      have HDR := hide hdr
      obtain ⟨bl, hbl2⟩ : ∃ bl, bl = bs.length := ⟨_, rfl⟩
      have hown : wr.ownsRow w1.heap.size 23 1 (.slice A6 bl c6) bl (hdc bs) := by rw [hbl2]; exact HO.out
      have HOWN := hide hown
      rw [← hbl2] at hbl ⊢
      have HBL := hide hbl2
      have hbl30 : bl ≤ 30 := by omega
      obtain ⟨xA, xc, xl⟩ := x
      clear hx hrr hown hdr hbl2 hj hbl
      go_wp2_with (at_builtin; refine wpList_append_any _ rfl (.tmp 36) (.tmp 41) 25 rfl w1.heap.size 23 i0 _ 1 24 el25' hi0 hz0 hz1 hz2 rfl (by omega) (.slice A6 bl c6) bl (hdc bs) rfl (HOWN.out.alloc _) (wr.heap.size + 1) (some ⟨wr.heap.size, 0, none⟩) 1 1 [.slice xA xl.length xc] rfl (Reads.ofBlk (Blk.new wr 23 _) rfl) (fun u hu => by rw [List.mem_singleton.1 hu]; rfl) (by unfold maxLen; omega) (by omega) (by simp; omega) ?_; intro v4 w4 ho4 hg4 hat4; obtain ⟨A4, c4, rfl⟩ := slice_ofH ho4)
      have hb4 : Below w1.heap.size w1 w4 := (balloc HW.out _).grown hg4 (by simp; omega) (fun _ hj => (own_lt HOWN.out hj).1)
      go_roundw
      case rel =>
        refine ⟨j, bs ++ [⟨xA, xc, xl⟩], by omega, by go_num, hide ?_, hide ?_, hide hb4⟩
        · show w4.ownsRow _ 23 1 _ (bs ++ [(⟨xA, xc, xl⟩ : Hd)]).length (hdc (bs ++ [⟨xA, xc, xl⟩]))
          rw [List.length_append, hdc_app, ← HBL.out]
          exact ho4
        · rw [HBS.out, HDR.out, List.reverse_cons]
      case measure => simp [intOf]
    · obtain rfl : i = 0 := by omega
      have hbs : bs = (hs.take b).reverse := by rw [HBS.out, List.drop_zero]
      have hbk : keys bs = ((keys hs).take 30).reverse := by
        have e : hs.take b = hs.take 30 := by
          by_cases h30 : b = 30
          · rw [h30]
          · have := HB.out
            rw [List.take_of_length_le (by rw [← HN.out]; omega), List.take_of_length_le (by rw [← HN.out]; omega)]
        rw [hbs, e]
        show ((hs.take 30).reverse).map Hd.l = _
        rw [List.map_reverse, List.map_take]
      obtain ⟨bl, hbl2⟩ : ∃ bl, bl = bs.length := ⟨_, rfl⟩
      rw [← hbl2]
      have hrb : RowR wr wr.heap.size A6 bs := by
        refine ⟨Reads.of_own HO.out, fun x hx => ?_⟩
        have hxm : x ∈ hs := by rw [hbs] at hx; exact List.mem_of_mem_take (List.mem_reverse.1 hx)
        exact (((HR.out.below HB1.out).below (HW.out.mono HB1.out.size)).good x hxm).more (Nat.le_trans HB1.out.size HW.out.size)
      have C2 := hide (may_any A1 q c1 wr.heap.size hs1 wr ((HR1.out.below HW.out).more HW.out.size) HQ.out (by unfold maxLen; omega))
      have C3 := laid_any A6 bl c6 wr.heap.size bs wr hrb hbl2 (Nat.le_refl _) (by unfold maxLen; rw [hbl2, hbs, List.length_reverse, List.length_take]; omega)
      rw [hbk, laid_back, ← HK1.out] at C3
      have C3H := hide C3
      rw [mayR_iff.2 HOK.out] at C2
      clear C3 hbk hbs hbl hrb hbl2 HO HBS
      rw [show ((0 : Nat) : Int) - 1 = -1 from rfl]
      go_wp2_with fail
      refine C2.out.mono ?_
      rintro e w2 ⟨rfl, rfl⟩
      go_wp2_with fail
      refine C3H.out.mono ?_
      rintro e w2 ⟨v2, rfl, hs2, ho2, hk2, hb2⟩
      obtain ⟨A2, c2, rfl, hr2, _⟩ := ho2.slice_
      have hl2 : hs2.length = q := by rw [HQ.out]; exact keys_len hk2
      have HW2 := hide (HW.out.trans (hb2.mono HW.out.size))
      have C4 := same_any A2 A1 q c2 q c1 w2.heap.size w1.heap.size hs2 hs1 w2 hr2 (HR1.out.below HW2.out) hl2.symm HQ.out (by omega) (by omega)
      rw [hl2]
      rw [hk2, decide_eq_true rfl] at C4
      have C4H := hide C4
      clear C4 ho2 hr2 hk2 hb2 C2 C3H hl2
      go_wp2_with fail
      refine C4H.out.mono ?_
      rintro e w3 ⟨rfl, hb3⟩
      have HW3 := hide (HW2.out.trans (hb3.mono HW2.out.size))
      clear hb3 C4H HW2 HW
      go_wp2_with fail
      go_loopw [8] (fun v8 W => ∃ i : Nat, i ≤ q ∧ v8 = .int .i64 i ∧ Hid (Below w1.heap.size w1 W)) (fun v8 _ => q - (intOf v8).toNat)
      case atStart => exact ⟨0, by omega, rfl, HW3⟩
      case round =>
        obtain ⟨i, hiq, rfl, HW⟩ := hrel
        have hR1 := (HR1.out.below HW.out).more HW.out.size
        by_cases hlt : i < q
        · obtain ⟨x, hx⟩ : ∃ x, hs1[i]? = some x := ⟨_, List.getElem?_eq_getElem (by rw [← HQ.out]; exact hlt)⟩
          have hkx : (keys hs1)[i]? = some x.l := by rw [List.getElem?_map, hx]; rfl
          obtain ⟨ad, rfl, hab, c2'⟩ := hR1.at_ hx
          have hgx := hR1.good x (List.mem_of_getElem? hx)
          obtain ⟨hs_, hn_⟩ := sought HOK.out hkx
          have D1 := Search_any (some ad) x.A q c1 x.l.length x.c wr.heap.size wr.heap.size hs1 x.l wr hR1 HQ.out (by omega) hgx.1
          have D2 := next_any (some ad) x.A q c1 x.l.length x.c wr.heap.size wr.heap.size hs1 x.l wr hR1 HQ.out (by omega) hgx.1 (Nat.le_refl _)
          rw [hs_] at D1
          rw [hn_] at D2
          have hiI : (i : Int) < (q : Int) := by omega
          obtain ⟨i1, hi1⟩ : ∃ i1 : Nat, (i : Int) + 1 = (i1 : Int) := ⟨i + 1, by omega⟩
          have hi1n : i1 = i + 1 := by omega
          have D1H := hide D1
          obtain ⟨xA, xc, xl⟩ := x
          simp only at c2' D1H D2
          by_cases hlt2 : i1 < q
          · obtain ⟨y, hy⟩ : ∃ y, hs1[i1]? = some y := ⟨_, List.getElem?_eq_getElem (by rw [← HQ.out]; exact hlt2)⟩
            have hky : (keys hs1)[i + 1]? = some y.l := by rw [← hi1n, List.getElem?_map, hy]; rfl
            rw [hky] at D2
            simp only [Option.isSome_some, Option.getD_some] at D2
            have D2H := hide D2
            have hq1 : (i1 : Int) < (q : Int) := by omega
            have HR2 := hide hR1
            have HY := hide hy
            have hI1 := hide hi1n
            clear hx hkx hgx hs_ hn_ D1 D2 hy hky hi1n hlt hR1
            go_wp2_with fail
            refine D1H.out.mono ?_
            rintro e w4 ⟨rfl, rfl⟩
            go_wp2_with fail
            refine D2H.out.mono ?_
            rintro e w5 ⟨v5, rfl, ho5, hb5⟩
            obtain ⟨A5, c5, rfl⟩ := slice_ofH ho5
            have hR5 := HR2.out.below hb5
            obtain ⟨ad', hade, _, d1⟩ := hR5.at_ HY.out
            cases hade
            have gy := hR5.good y (List.mem_of_getElem? HY.out)
            have bd : ∀ z B, Below B w5 (w5.drewN z) := fun z B => ⟨rfl, rfl, rfl, Nat.le_refl _, fun _ _ => rfl⟩
            have q1 := fun z => conv_bytes (P := Try.prog) (Reads.below gy.1 (bd z _) : Bs (w5.drewN z) _ _ _ _) y.c 23 5 9 Try.underlying23 Try.underlying5 Try.underlying9
            have q2 := fun z => conv_bytes (P := Try.prog) (Reads.below (Reads.of_own ho5) (bd z _) : Bs (w5.drewN z) _ A5 y.l.length y.l) c5 23 5 9 Try.underlying23 Try.underlying5 Try.underlying9
            have d1' : w5.cell? (ad.add i1) = some (.slice y.A y.l.length y.c) := d1
            have HW5 := hide (HW.out.trans (hb5.mono HW.out.size))
            clear d1 gy bd hR5 ho5 hb5 D1H D2H c2'
            go_wp2_with fail
            go_quiet (fail)
            have HW6 := hide (HW5.out.trans (c := w5.drewN nq) ⟨rfl, rfl, rfl, Nat.le_refl _, fun _ _ => rfl⟩)
            clear q1 q2 d1'
            generalize w5.drewN nq = w6 at HW6 ⊢
            go_wp2_with fail
            go_roundw
            case rel => exact ⟨i1, by omega, by go_num, HW6⟩
            case measure => have := hI1.out; simp [intOf]; omega
          · have hky : (keys hs1)[i + 1]? = none := List.getElem?_eq_none (by rw [List.length_map, ← HQ.out]; omega)
            rw [hky] at D2
            simp only [Option.isSome_none] at D2
            have D2H := hide D2
            have hq1 : ¬ (i1 : Int) < (q : Int) := by omega
            have hI1 := hide hi1n
            clear hx hkx hgx hs_ hn_ D1 D2 hky hi1n hlt hR1
            go_wp2_with fail
            refine D1H.out.mono ?_
            rintro e w4 ⟨rfl, rfl⟩
            go_wp2_with fail
            refine D2H.out.mono ?_
            rintro e w5 ⟨v5, rfl, ho5, hb5⟩
            obtain ⟨A5, c5, rfl⟩ := slice_ofH ho5
            have HW5 := hide (HW.out.trans (hb5.mono HW.out.size))
            clear ho5 hb5 D1H D2H c2'
            go_wp2_with fail
            go_quiet (fail)
            have HW6 := hide (HW5.out.trans (c := w5.drewN nq) ⟨rfl, rfl, rfl, Nat.le_refl _, fun _ _ => rfl⟩)
            generalize w5.drewN nq = w6 at HW6 ⊢
            go_wp2_with fail
            go_roundw
            case rel => exact ⟨i1, by have := hI1.out; omega, by go_num, HW6⟩
            case measure => have := hI1.out; simp [intOf]; omega
        · obtain rfl : i = q := by omega
          have HWA := hide (belFrom HB1.out HW.out)
          have hkl : mk = k2.length := by have := HK.out.len; simpa using this.symm
          have hR1H := hide hR1
          clear hR1 hlt hiq
          by_cases hm0 : mk = 0
          · have hkn := knows_any wr
            have hm0I : ((mk : Int) = 0) := by omega
            go_wp2_with fail
            refine hkn.mono ?_
            rintro e w4 ⟨rfl, hb4⟩
            have HW4 := hide (belFrom HWA.out hb4)
            clear hb4 hkn
            go_wp2_with fail
            go_ret
            exact ⟨rfl, HW4.out⟩
          · have hm0I : ¬ ((mk : Int) = 0) := by omega
            have hmay : mayK k2 = true := mayK_iff.2 ⟨by omega, hk64⟩
            have hK := Reads.below HK.out HWA.out
            have a1 := add_any A1 A' i c1 mk d wr.heap.size w.heap.size hs1 k2 wr hR1H.out HQ.out (by omega) hK (Nat.le_refl _) HWA.out.size
            rw [addK_ok HOK.out hmay] at a1
            have HMAY := hide hmay
            have HKL := hide hkl
            clear hK hmay hkl hm0
            by_cases hin : k2 ∈ keys hs1
            · rw [if_pos hin] at a1
              have a1H := hide a1
              have HIN := hide hin
              clear a1 hin
              go_wp2_with fail
              refine a1H.out.mono ?_
              rintro e w4 ⟨v4, rfl, _, _, _, hb4⟩
              have HW4 := hide (HW.out.trans (hb4.mono HW.out.size))
              have HA4 := hide (belFrom HWA.out hb4)
              have a2 := drop_any A1 A' i c1 mk d w1.heap.size w.heap.size hs1 k2 w4 (HR1.out.below HW4.out) HQ.out (by omega) (Reads.below HK.out HA4.out) HW4.out.size
              rw [dropK_ok HOK.out HMAY.out, if_pos HIN.out] at a2
              have a2H := hide a2
              clear a1H a2 hb4
              go_wp2_with fail
              refine a2H.out.mono ?_
              rintro e w5 ⟨v5, rfl, hs5, ho5, hk5, hb5⟩
              obtain ⟨A5, c5, rfl, hr5, _, _⟩ := ho5.slice_
              obtain ⟨g1, g2, g3, g4⟩ := with_less HOK.out HIN.out
              have hlen : hs5.length + 1 = i := by
                have h1 := congrArg List.length hk5
                rw [List.length_map] at h1
                have h2 : (keys hs1).length = hs1.length := List.length_map _
                rw [HQ.out]
                omega
              obtain ⟨q5, hq5⟩ : ∃ q5, q5 = hs5.length := ⟨_, rfl⟩
              rw [← hq5] at hlen ⊢
              have hlI : (i : Int) - 1 = (q5 : Int) := by omega
              have HW5 := hide (HW4.out.trans (hb5.mono HW4.out.size))
              have HA5 := hide (belFrom HA4.out hb5)
              have a3 := add_any A5 A' q5 c5 mk d w5.heap.size w.heap.size hs5 k2 w5 hr5 hq5 (by omega) (Reads.below HK.out HA5.out) (Nat.le_refl _) HA5.out.size
              rw [hk5, addK_ok g1 HMAY.out, if_neg g2] at a3
              simp only [g3] at a3
              have a3H := hide a3
              clear a2H a3 hb5 hlen hq5 g1 g2 g3 g4 hk5 hr5 ho5
              go_wp2_with fail
              refine a3H.out.mono ?_
              rintro e w6 ⟨v6, rfl, hs6, ho6, hk6, hb6⟩
              obtain ⟨A6', c6', rfl, hr6, _, _⟩ := ho6.slice_
              have hl6 : hs6.length = i := by rw [HQ.out]; exact keys_len hk6
              have HW6 := hide (HW5.out.trans (hb6.mono HW5.out.size))
              have HA6 := hide (belFrom HA5.out hb6)
              have a4 := same_any A6' A1 i c6' i c1 w6.heap.size w1.heap.size hs6 hs1 w6 hr6 (HR1.out.below HW6.out) hl6.symm HQ.out (by omega) (by omega)
              rw [hl6]
              rw [show keys hs6 = keys hs1 from hk6, decide_eq_true rfl] at a4
              have a4H := hide a4
              clear a3H a4 hb6 hl6 hk6 hr6 ho6
              go_wp2_with fail
              refine a4H.out.mono ?_
              rintro e w7 ⟨rfl, hb7⟩
              have HA7 := hide (belFrom HA6.out hb7)
              have a5 := knows_any w7
              clear a4H hb7
              go_wp2_with fail
              refine a5.mono ?_
              rintro e w8 ⟨rfl, hb8⟩
              have HA8 := hide (belFrom HA7.out hb8)
              clear a5 hb8
              go_wp2_with fail
              go_ret
              exact ⟨rfl, HA8.out⟩
            · rw [if_neg hin] at a1
              have a1H := hide a1
              have HIN := hide hin
              clear a1 hin
              go_wp2_with fail
              refine a1H.out.mono ?_
              rintro e w4 ⟨v4, rfl, hs4, ho4, hk4, hb4⟩
              obtain ⟨A4, c4, rfl, hr4, _, _⟩ := ho4.slice_
              have hlen : hs4.length = i + 1 := by
                have h1 := congrArg List.length hk4
                rw [List.length_map, withL_len] at h1
                have h2 : (keys hs1).length = hs1.length := List.length_map _
                rw [HQ.out]
                omega
              obtain ⟨q4, hq4⟩ : ∃ q4, q4 = hs4.length := ⟨_, rfl⟩
              rw [← hq4] at hlen ⊢
              have hlI : (i : Int) + 1 = (q4 : Int) := by omega
              have HW4 := hide (HW.out.trans (hb4.mono HW.out.size))
              have HA4 := hide (belFrom HWA.out hb4)
              have HR4 := hide hr4
              have HQ4 := hide hq4
              have HK4 := hide hk4
              have hq31 : q4 ≤ 31 := by omega
              have a2 := drop_any A1 A' i c1 mk d w1.heap.size w.heap.size hs1 k2 w4 (HR1.out.below HW4.out) HQ.out (by omega) (Reads.below HK.out HA4.out) HW4.out.size
              rw [dropK_ok HOK.out HMAY.out, if_neg HIN.out] at a2
              have a2H := hide a2
              clear a1H a2 hb4 hlen hq4 hk4 hr4 ho4
              go_wp2_with fail
              refine a2H.out.mono ?_
              rintro e w5 ⟨v5, rfl, _, _, _, hb5⟩
              have HW5 := hide (HW4.out.trans (hb5.mono HW4.out.size))
              have HA5 := hide (belFrom HA4.out hb5)
              have hok4 := with_ok HOK.out HMAY.out HIN.out
              have hin4 : k2 ∈ withL k2 (keys hs1) := with_mem.2 (.inl rfl)
              have a3 := drop_any A4 A' q4 c4 mk d w4.heap.size w.heap.size hs4 k2 w5 (HR4.out.below hb5) HQ4.out (by omega) (Reads.below HK.out HA5.out) hb5.size
              rw [HK4.out, dropK_ok hok4 HMAY.out, if_pos hin4, less_with] at a3
              have a3H := hide a3
              clear a2H a3 hb5 hok4 hin4
              go_wp2_with fail
              refine a3H.out.mono ?_
              rintro e w6 ⟨v6, rfl, hs6, ho6, hk6, hb6⟩
              obtain ⟨A6', c6', rfl, hr6, _, _⟩ := ho6.slice_
              have hl6 : hs6.length = i := by rw [HQ.out]; exact keys_len hk6
              have HW6 := hide (HW5.out.trans (hb6.mono HW5.out.size))
              have HA6 := hide (belFrom HA5.out hb6)
              have a4 := same_any A6' A1 i c6' i c1 w6.heap.size w1.heap.size hs6 hs1 w6 hr6 (HR1.out.below HW6.out) hl6.symm HQ.out (by omega) (by omega)
              rw [hl6]
              rw [show keys hs6 = keys hs1 from hk6, decide_eq_true rfl] at a4
              have a4H := hide a4
              clear a3H a4 hb6 hl6 hk6 hr6 ho6
              go_wp2_with fail
              refine a4H.out.mono ?_
              rintro e w7 ⟨rfl, hb7⟩
              have HA7 := hide (belFrom HA6.out hb7)
              have a5 := knows_any w7
              clear a4H hb7
              go_wp2_with fail
              refine a5.mono ?_
              rintro e w8 ⟨rfl, hb8⟩
              have HA8 := hide (belFrom HA7.out hb8)
              clear a5 hb8
              go_wp2_with fail
              go_ret
              exact ⟨rfl, HA8.out⟩
end Go.Proofs.Yteiamfekdibkmaa
