/-
  THE WALK of copied. Conditions: as the theorems' premises say.
-/
import Derived.Test.YteiamfekdibkmaaORef
namespace Go.Proofs.Yteiamfekdibkmaa
open Go.RowKit Go.Shelf

def copK (l : List Key) : List Key := (l.take 30).map (·.take 70)
theorem copK_len (l : List Key) : (copK l).length ≤ 30 := by
  unfold copK
  rw [List.length_map, List.length_take]
  omega
theorem copK_le {l : List Key} {k : Key} (h : k ∈ copK l) : k.length ≤ 70 := by
  obtain ⟨x, _, rfl⟩ := List.mem_map.1 h
  rw [List.length_take]
  omega
set_option maxHeartbeats 1000000 in
theorem copied_any (A : Option Addr) (n c B : Nat) (hs : List Hd) (w : World) (h : RowR w B A hs) (hn : n = hs.length) (hB : B ≤ w.heap.size) (hsm : n ≤ maxLen) :
    Calls Try.prog 20 #[.slice A n c] w fun e w' => ∃ v, e = .returned v ∧ ∃ hs', OwnRow w' w.heap.size v hs' ∧ keys hs' = copK (keys hs) ∧ Below w.heap.size w w' := by
  obtain ⟨iu, hu, hu0, hu1, hu2⟩ := info_parts u8_info
  obtain ⟨i0, hi0, hz0, hz1, hz2⟩ := info_parts hd_info
  have HR := hide h
  have HN := hide hn
  clear h hn
  unfold maxLen at hsm
  go_enter Try.func20, Try.ntmps20
  go_wp2_with fail
  go_loopw [3, 4] (fun v3 v4 W => ∃ (i : Nat) (hs' : List Hd), i ≤ n ∧ i ≤ 30 ∧ v4 = .int .i64 i ∧ Hid (OwnRow W w.heap.size v3 hs') ∧ Hid (keys hs' = ((keys hs).take i).map (·.take 70)) ∧ Hid (Below w.heap.size w W)) (fun _ v4 _ => n - (intOf v4).toNat)
  case atStart => exact ⟨0, [], by omega, by omega, rfl, hide (OwnRow.nil _ _), hide rfl, hide (Below.refl _ _)⟩
  case round =>
    obtain ⟨i, hs', hi, hi30, rfl, HO, HK, HW⟩ := hrel
    have hl' : hs'.length = i := by
      have := congrArg List.length HK.out
      rw [List.length_map, List.length_map, List.length_take, List.length_map, ← HN.out] at this
      omega
    obtain ⟨A3, c3, rfl, hr3, _, _⟩ := HO.out.slice_
    by_cases hlt : i < n ∧ i < 30
    · obtain ⟨x, hx⟩ : ∃ x, hs[i]? = some x := ⟨_, List.getElem?_eq_getElem (by rw [← HN.out]; exact hlt.1)⟩
      have hkx : (keys hs)[i]? = some x.l := by rw [List.getElem?_map, hx]; rfl
      have hrr := HR.out.below (HW.out.mono hB)
      obtain ⟨ad, rfl, hab, c1⟩ := hrr.at_ hx
      have hgx := hrr.good x (List.mem_of_getElem? hx)
      have hiI : (i : Int) < (n : Int) := by omega
      have hi3 : (i : Int) < 30 := by omega
      obtain ⟨xA, xc, xl⟩ := x
      simp only at c1 hkx
      obtain ⟨xn, hxn⟩ : ∃ xn, xn = xl.length := ⟨_, rfl⟩
      obtain ⟨mk, hmk⟩ : ∃ mk : Nat, min (xn : Int) 70 = (mk : Int) := ⟨min xn 70, by omega⟩
      have hmk2 : mk ≤ xn := by omega
      have hb1 : Bs wr B xA mk (xl.take 70) := by
        have h := bs_take hgx.1 (m := mk) (by show mk ≤ xl.length; omega)
        have e : xl.take mk = xl.take 70 := by
          by_cases h64 : xn ≤ 70
          · rw [List.take_of_length_le (by omega), List.take_of_length_le (by omega)]
          · rw [show mk = 70 by omega]
        simp only at h
        rw [e] at h
        exact h
      have hml : (xl.take 70).length = mk := hb1.len
      have hsl := sl23_to xA xn xc mk (by have := hgx.2.1; simp only at this; omega)
      rw [← hxn] at c1
      have hsz := HW.out.size
      have B0 : Below wr.heap.size wr wr.drew := ⟨rfl, rfl, rfl, Nat.le_refl _, fun _ _ => rfl⟩
      obtain ⟨v2, w2, hrun, ho2, hg2, _⟩ := run_append_any (P := Try.prog) wr.drew w.heap.size 23 23 5 iu _ 1 1 Try.underlying23 hu hu0 hu1 hu2 rfl (by omega) (.slice none 0 0) 0 [] (World.ownsRow_nil _ _ _ _) wr.heap.size xA mk xc ((xl.take 70).map bv) (Reads.below (Reads.more hb1 (Nat.le_trans hB hsz)) B0) (bv_one _) (by unfold maxLen; omega) (by omega) hsz
      rw [Nat.zero_add, List.nil_append] at ho2
      obtain ⟨A2, c2, rfl⟩ := slice_ofH ho2
      have hb2 : Below wr.heap.size wr w2 := B0.grown hg2 (Nat.le_refl _) (fun j hj => by cases hj)
      have hor : OwnRow w2 w.heap.size (.slice A3 hs'.length c3) hs' := HO.out.later hb2
      have hrow : w2.ownsRow w.heap.size 23 1 (.slice A3 hs'.length c3) hs'.length (hdc hs') := hor.row
      rw [hl'] at hor hrow
      have hxo : w2.ownsRow w.heap.size 5 1 (Hd.v ⟨A2, c2, xl.take 70⟩) (Hd.l ⟨A2, c2, xl.take 70⟩).length ((Hd.l ⟨A2, c2, xl.take 70⟩).map bv) := by
        show w2.ownsRow w.heap.size 5 1 (.slice A2 (xl.take 70).length c2) (xl.take 70).length ((xl.take 70).map bv)
        rw [hml]
        exact ho2
      have hsz2 := hb2.size
      obtain ⟨v4, w4, hrun4, ho4, hg4, _⟩ := run_append_any (P := Try.prog) (w2.alloc (.cells #[.slice A2 mk c2] 23)) w.heap.size 25 25 23 i0 _ 1 24 el25' hi0 hz0 hz1 hz2 rfl (by omega) (.slice A3 i c3) i (hdc hs') (hrow.alloc _) (w2.heap.size + 1) (some ⟨w2.heap.size, 0, none⟩) 1 1 [.slice A2 mk c2] (Reads.ofBlk (Blk.new w2 23 _) rfl) (fun u hu => by rw [List.mem_singleton.1 hu]; rfl) (by unfold maxLen; omega) (by omega) (by simp; omega)
      obtain ⟨A4, c4, rfl⟩ := slice_ofH ho4
      have hpush : OwnRow w4 w.heap.size (.slice A4 (i + 1) c4) (hs' ++ [⟨A2, c2, xl.take 70⟩]) := by
        refine hor.push hxo (bel1 w2 (.cells #[.slice A2 mk c2] 23)) ?_ hg4
        rw [hl']
        show w4.ownsRow w.heap.size 23 1 _ _ (hdc hs' ++ [.slice A2 (xl.take 70).length c2])
        rw [hml]
        exact ho4
      have hb4 : Below w.heap.size w w4 := (balloc (belFrom HW.out hb2) _).grown hg4 (by simp; omega) (fun j hj => (own_lt hrow hj).1)
      have hkeys : keys (hs' ++ [(⟨A2, c2, xl.take 70⟩ : Hd)]) = ((keys hs).take (i + 1)).map (·.take 70) := by
        show (hs' ++ [(⟨A2, c2, xl.take 70⟩ : Hd)]).map Hd.l = _
        have e1 : (keys hs).take (i + 1) = (keys hs).take i ++ [xl] := by rw [List.take_add_one, hkx]; rfl
        rw [List.map_append, e1, List.map_append, ← HK.out]
        rfl
      have HKW : Hid (∀ W : World, Below w.heap.size wr W → W.cell? (ad.add i) = some (.slice xA xn xc)) := hide (fun W hW => (hW.cell (by rw [add_block]; omega)).trans c1)
      have BA := hide (B0.mono hsz)
      have B2 := hide (hb2.mono hsz)
      have B3 := hide ((hb2.mono hsz).alloc (by omega) (.cells #[.slice A2 mk c2] 23))
      have B4 := hide (B3.out.grown hg4 (by simp; omega) (fun j hj => (own_lt hrow hj).1))
      have HRUN2 := hide hrun
      have HRUN4 := hide hrun4
      have HPUSH := hide hpush
      have HB4 := hide hb4
      have HKEYS := hide hkeys
      have hx63 : xn ≤ 9223372036854775807 := by have h1 := hgx.2.1; have h2 := hgx.2.2; unfold maxLen at h2; simp only at h1 h2; omega
      rw [hl']
      clear hx hkx hrr hgx hb1 hxn hr3 hlt B0 hrun ho2 hg2 hor hrow hxo hrun4 ho4 hg4 hpush hb4 hkeys hml c1 hb2 hl' HO HK
      go_upto_region 5 with fail
      go_region_held3 (fun W => W.cell? (ad.add i) = some (.slice xA xn xc)) (first | exact HKW.out _ BA.out | exact HKW.out _ B2.out | exact HKW.out _ B3.out | exact HKW.out _ B4.out | fail) (first | (refine step_append_at rfl _ _ 23 23 rfl _ _ (by simp [Act.eval]) (by simp [Act.eval]) HRUN2.out ?_) | (refine step_append_at rfl _ _ 25 25 rfl _ _ (by simp [Act.eval]) (by simp [Act.eval]) HRUN4.out ?_) | fail)
      go_wp2_with fail
      go_roundw
      case rel => exact ⟨i + 1, _, by omega, by omega, by go_num, HPUSH, HKEYS, HB4⟩
      case measure => simp [intOf]; omega
    · have hfin : (keys hs).take i = (keys hs).take 30 := by
        by_cases h30 : i = 30
        · rw [h30]
        · rw [List.take_of_length_le (by rw [List.length_map, ← HN.out]; omega), List.take_of_length_le (by rw [List.length_map, ← HN.out]; omega)]
      have HFIN := hide hfin
      clear hfin
      by_cases hin : i < n
      · have hiI : (i : Int) < (n : Int) := by omega
        have hi3 : ¬ (i : Int) < 30 := by omega
        clear hlt hl'
        go_wp2_with fail
        go_ret
        exact ⟨_, rfl, hs', HO.out, by rw [HK.out, HFIN.out]; rfl, HW.out⟩
      · have hiI : ¬ (i : Int) < (n : Int) := by omega
        clear hlt hl'
        go_wp2_with fail
        go_ret
        exact ⟨_, rfl, hs', HO.out, by rw [HK.out, HFIN.out]; rfl, HW.out⟩
end Go.Proofs.Yteiamfekdibkmaa
