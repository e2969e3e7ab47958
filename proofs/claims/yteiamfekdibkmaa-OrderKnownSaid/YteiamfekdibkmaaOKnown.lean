/-
  THE WALK of OrderKnown. Conditions: none.
-/
import Derived.Test.YteiamfekdibkmaaOEnds
namespace Go.Proofs.Yteiamfekdibkmaa
open Go.RowKit Go.Shelf

theorem o1_ : ofOk [[[98], [97]]] = false := by decide
theorem o2_ : ofOk [[[97]], [[97], [97]]] = false := by decide
theorem o3_ : ofOk [[[]]] = false := by decide
theorem a1_ : addK [] [[98]] = (1, []) := by decide
theorem d1_ (k : Key) (h : k.length = 65) : dropK k [[97], [98]] = (1, []) := by
  have : mayK k = false := by unfold mayK; rw [h]; rfl
  unfold dropK
  rw [this, Bool.and_false, if_pos rfl]
theorem s1_ : searchO [97] [[98], [97]] = (0, false) := by decide
theorem s2_ : searchO [] [] = (0, false) := by decide
theorem rowR_none (w : World) (B : Nat) : RowR w B none [] := ⟨Reads.none_, fun x hx => by cases hx⟩
/-- Of that is refused, Of of nothing -/
theorem of_no {A : Option Addr} {n c B : Nat} {rs : List Rw} {w : World} {R : List (List Key)} (h : RowsR w B A rs) (hB : B ≤ w.heap.size) (hn : n = rs.length) (hsm : n ≤ 1000) (hl : ∀ r ∈ rs, r.hs.length ≤ 100000) (hR : rws rs = R) (ho : ofOk R = false) :
    Calls Try.prog 9 #[.slice A n c] w fun e w' => e = .returned (.tuple #[.pointer none, .int .i64 1]) ∧ Below w.heap.size w w' := by
  refine (of_any A n c B rs w h hB hn hsm hl).mono fun e w' he => ?_
  unfold ofP at he
  rw [hR, ho] at he
  rcases he with ⟨_, h1, h2⟩ | ⟨h1, _⟩
  · exact ⟨h1, h2⟩
  · cases h1
theorem of_nil (w : World) : Calls Try.prog 9 #[.slice none 0 0] w fun e w' => ∃ p g rs, e = .returned (.tuple #[.pointer (some ⟨p, 0, none⟩), .int .i64 0]) ∧ rws rs = [] ∧ WkAt w' w.heap.size p g rs [] ∧ Below w.heap.size w w' := by
  refine (of_any none 0 0 w.heap.size [] w ⟨Reads.none_, fun r hr => by cases hr⟩ (Nat.le_refl _) rfl (by omega) (fun r hr => by cases hr)).mono fun e w' he => ?_
  unfold ofP at he
  rcases he with ⟨h, _⟩ | ⟨_, p, g, rs, h1, h2, h3, h4⟩
  · cases h
  · exact ⟨p, g, rs, h1, h2, h3, h4⟩
/-- letters, as they are asked -/
theorem letters_rd (s : List UInt8) (hsm : s.length ≤ 1000) (w : World) : Calls Try.prog 17 #[.string ⟨s.toArray⟩] w fun e w' => ∃ A c hs, e = .returned (.slice A s.length c) ∧ hs.length = s.length ∧ RowR w' w'.heap.size A hs ∧ keys hs = s.map (fun b => [b]) ∧ Below w.heap.size w w' := by
  refine (letters_any s hsm w).mono fun e w' ⟨v, he, hs, ho, hk, hb⟩ => ?_
  obtain ⟨A, c, rfl, hr, _⟩ := ho.slice_
  have hl : hs.length = s.length := by have := congrArg List.length hk; simpa using this
  exact ⟨A, c, hs, by rw [← hl]; exact he, hl, hr, hk, hb⟩
theorem mk65 (w : World) : (Instr.makeSlice 23 (.int .i64 65) (.int .i64 65)).run Try.prog w = .ok (.slice (some ⟨w.heap.size, 0, none⟩) 65 65) (w.alloc (.cells ((List.replicate 65 (0 : UInt8)).map bv).toArray 5)) := by
  obtain ⟨i0, hi, hz0, hz1, hz2⟩ := info_parts u8_info
  have h := run_make_rowN (P := Try.prog) 23 5 i0 _ Try.underlying23 hi hz0 .i64 .i64 65 65 (Nat.le_refl _) (by rw [hz2]; omega) (by omega) w
  have hz : madeCells (Value.int IntKind.u8 0).cells (65 * 1) = ((List.replicate 65 (0 : UInt8)).map bv).toArray := by
    apply Array.ext'
    rw [Nat.mul_one, show (Value.int IntKind.u8 0).cells = #[Value.int IntKind.u8 0] from rfl, toList_madeCells_one]
    simp [bv]
  rw [hz1, hz] at h
  exact h
theorem drop65 {W : World} {Al : Option Addr} {cl K : Nat} {hsl : List Hd} {Z : Array Value} (hZ : Z = ((List.replicate 65 (0 : UInt8)).map bv).toArray) (hr : RowR W W.heap.size Al hsl) (hk : keys hsl = [[97], [98]]) (hm : Mk W K 5 Z) :
    Calls Try.prog 19 #[.slice Al 2 cl, .slice (some ⟨K, 0, none⟩) 65 65] W fun e w' => ∃ A n c, e = .returned (.tuple #[.slice A n c, .int .i64 1]) ∧ Below W.heap.size W w' := by
  subst hZ
  have hl : hsl.length = 2 := by have := congrArg List.length hk; simpa using this
  have hb : Bs W (K + 1) (some ⟨K, 0, none⟩) 65 (List.replicate 65 0) := Reads.ofMk hm (by simp)
  have h := drop_any Al (some ⟨K, 0, none⟩) hsl.length cl 65 65 W.heap.size (K + 1) hsl (List.replicate 65 0) W hr rfl (by omega) hb (Nat.le_refl _)
  rw [hk, d1_ _ (by simp), hl] at h
  refine h.mono fun e w' ⟨v, he, hs', ho, _, hbl⟩ => ?_
  obtain ⟨A, c, rfl, _⟩ := ho.slice_
  exact ⟨A, _, c, he, hbl⟩
set_option maxRecDepth 100000 in
set_option maxHeartbeats 4000000 in
theorem known_any (w : World) : Calls Try.prog 4 #[] w fun e w' => e = .returned (.bool true) ∧ Below w.heap.size w w' := by
  have kc := run_conv_const (P := Try.prog) 23 5 Try.underlying23 Try.underlying5
  go_enter Try.func4, Try.ntmps4
  go_upto_region 3 with fail
  have HZ := hide (Blk.new w 43 #[.slice none 0 0, .slice none 0 0])
  have HB := hide (bel1 w (.cells #[.slice none 0 0, .slice none 0 0] 43))
  generalize w.alloc (.cells #[.slice none 0 0, .slice none 0 0] 43) = w0 at HZ HB ⊢
  go_wp2_with fail
  refine (wnext_nil _).mono ?_
  rintro e w1 ⟨rfl, rfl⟩
  go_wp2_with fail
  refine (wnext_zero HZ.out).mono ?_
  rintro e w1 ⟨rfl, rfl⟩
  go_wp2_with fail
  refine (seek_nil _ _).mono ?_
  rintro e w1 ⟨rfl, rfl⟩
  have HZ1 := hide (HZ.out.alloc (.cells #[.int .u8 97] 5 (1, 2)))
  go_wp2_with fail
  refine (left_zero HZ1.out).mono ?_
  rintro e w1 ⟨rfl, rfl⟩
  have HB1 := hide (balloc HB.out (.cells #[.int .u8 97] 5 (1, 2)))
  go_wp2_with fail
  generalize w0.alloc (.cells #[.int .u8 97] 5 (1, 2)) = w1 at HB1 ⊢
  clear HZ HZ1 HB
  refine (of_nil _).mono ?_
  rintro e w2 ⟨p, g, rs, rfl, hrs, hwk, hb⟩
  have HWK := hide hwk
  have HRS := hide hrs
  have HB2 := hide (belFrom HB1.out hb)
  clear hwk hrs hb HB1
  go_wp2_with fail
  -- Of(letters("ba"))
  refine (letters_rd [98, 97] (by simp) w2).mono ?_
  rintro e w3 ⟨A3, c3, hs3, rfl, hl3, hr3, hk3, hb3⟩
  have C := hide (of_no (R := [[[98], [97]]]) (c := 1) (rows_lit (rs := [⟨A3, c3, hs3⟩]) (Mk.new w3 25 #[.slice A3 2 c3] (0, 0)) (by show _ = #[Value.slice A3 hs3.length c3]; rw [hl3]; rfl) (fun r hr => by rw [List.mem_singleton.1 hr]; exact (hr3.below (bel1 w3 _)).more (Nat.le_succ _))) (by simp) (n := 1) rfl (by omega) (fun r hr => by rw [List.mem_singleton.1 hr]; show hs3.length ≤ _; rw [hl3]; simp) (by show [keys hs3] = _; rw [hk3]; rfl) o1_)
  have HWK3 := hide (HWK.out.below (belFrom hb3 (bel1 w3 (.cells #[.slice A3 2 c3] 25))))
  have HB3 := hide (belFrom HB2.out (belFrom hb3 (bel1 w3 (.cells #[.slice A3 2 c3] 25))))
  clear hl3 hr3 hk3 hb3 HWK HB2
  go_wp2_with fail
  refine C.out.mono ?_
  rintro e w4 ⟨rfl, hb4⟩
  have HWK4 := hide (HWK3.out.below hb4)
  have HB4 := hide (belFrom HB3.out hb4)
  clear hb4 C HWK3 HB3
  go_wp2_with fail
  -- Of(letters("a"), letters("aa"))
  refine (letters_rd [97] (by simp) w4).mono ?_
  rintro e w5 ⟨A5, c5, hs5, rfl, hl5, hr5, hk5, hb5⟩
  have HR5 := hide hr5
  have HL5 := hide hl5
  have HK5 := hide hk5
  have HWK5 := hide (HWK4.out.below hb5)
  have HB5 := hide (belFrom HB4.out hb5)
  clear hl5 hr5 hk5 hb5 HWK4 HB4
  go_wp2_with fail
  refine (letters_rd [97, 97] (by simp) w5).mono ?_
  rintro e w6 ⟨A6, c6, hs6, rfl, hl6, hr6, hk6, hb6⟩
  have C := hide (of_no (R := [[[97]], [[97], [97]]]) (c := 2) (rows_lit (rs := [⟨A5, c5, hs5⟩, ⟨A6, c6, hs6⟩]) (Mk.new w6 25 #[.slice A5 1 c5, .slice A6 2 c6] (0, 0)) (by show _ = #[Value.slice A5 hs5.length c5, Value.slice A6 hs6.length c6]; rw [hl6, HL5.out]; rfl) (fun r hr => by
      rcases List.mem_cons.1 hr with rfl | hr
      · exact ((HR5.out.below hb6).more hb6.size |>.below (bel1 w6 _)).more (Nat.le_succ _)
      · rw [List.mem_singleton.1 hr]; exact (hr6.below (bel1 w6 _)).more (Nat.le_succ _))) (by simp) (n := 2) rfl (by omega) (fun r hr => by
      rcases List.mem_cons.1 hr with rfl | hr
      · show hs5.length ≤ _; rw [HL5.out]; simp
      · rw [List.mem_singleton.1 hr]; show hs6.length ≤ _; rw [hl6]; simp) (by show [keys hs5, keys hs6] = _; rw [HK5.out, hk6]; rfl) o2_)
  have HWK6 := hide (HWK5.out.below (belFrom hb6 (bel1 w6 (.cells #[.slice A5 1 c5, .slice A6 2 c6] 25))))
  have HB6 := hide (belFrom HB5.out (belFrom hb6 (bel1 w6 (.cells #[.slice A5 1 c5, .slice A6 2 c6] 25))))
  clear hl6 hr6 hk6 hb6 HWK5 HB5 HR5 HL5 HK5
  go_wp2_with fail
  refine C.out.mono ?_
  rintro e w7 ⟨rfl, hb7⟩
  have HWK7 := hide (HWK6.out.below hb7)
  have HB7 := hide (belFrom HB6.out hb7)
  clear hb7 C HWK6 HB6
  -- Of([][]byte{nil})
  have C := hide (of_no (R := [[[]]]) (c := 1) (rows_lit (rs := [⟨some ⟨w7.heap.size, 0, none⟩, 1, [⟨none, 0, []⟩]⟩]) (Mk.newAt (w := w7.alloc (.cells #[.slice none 0 0] 23)) (t := 25) (cs := #[.slice (some ⟨w7.heap.size, 0, none⟩) 1 1]) (fr := (0, 0)) (n := w7.heap.size + 1) (by simp)) rfl (fun r hr => by
      rw [List.mem_singleton.1 hr]
      exact ⟨(Reads.ofMk ((Mk.new w7 23 #[.slice none 0 0] (0, 0)).alloc _) rfl : Reads _ (w7.heap.size + 1) 1 _ 1 [.slice none 0 0]).more (by omega), fun x hx => by rw [List.mem_singleton.1 hx]; exact ⟨Reads.none_, Nat.le_refl _, Nat.zero_le _⟩⟩)) (by simp) (n := 1) rfl (by omega) (fun r hr => by rw [List.mem_singleton.1 hr]; show (1 : Nat) ≤ _; omega) rfl o3_)
  have HWK8 := hide (HWK7.out.below (bel2 w7 (.cells #[.slice none 0 0] 23) (.cells #[.slice (some ⟨w7.heap.size, 0, none⟩) 1 1] 25)))
  have HB8 := hide (belFrom HB7.out (bel2 w7 (.cells #[.slice none 0 0] 23) (.cells #[.slice (some ⟨w7.heap.size, 0, none⟩) 1 1] 25)))
  clear HWK7 HB7
  go_wp2_with fail
  refine C.out.mono ?_
  rintro e w9 ⟨rfl, hb9⟩
  have HWK9 := hide (HWK8.out.below hb9)
  have HB9 := hide (belFrom HB8.out hb9)
  clear hb9 C HWK8 HB8
  go_wp2_with fail
  -- Add(letters("b"), nil)
  refine (letters_rd [98] (by simp) w9).mono ?_
  rintro e wa ⟨Aa, ca, hsa, rfl, hla, hra, hka, hba⟩
  have C := add_any Aa none hsa.length ca 0 0 wa.heap.size wa.heap.size hsa [] wa hra rfl (by rw [hla]; simp) Reads.none_ (Nat.le_refl _) (Nat.le_refl _)
  rw [hka, show [98].map (fun b : UInt8 => [b]) = [[98]] from rfl, a1_] at C
  rw [hla] at C
  have CH := hide C
  have HWKa := hide (HWK9.out.below hba)
  have HBa := hide (belFrom HB9.out hba)
  clear hla hra hka hba C HWK9 HB9
  go_wp2_with fail
  refine CH.out.mono ?_
  rintro e wb ⟨vb, rfl, hsb, hob, _, hbb⟩
  obtain ⟨Ab, cb, rfl, _⟩ := hob.slice_
  have HWKb := hide (HWKa.out.below hbb)
  have HBb := hide (belFrom HBa.out hbb)
  clear hob hbb CH HWKa HBa
  go_wp2_with fail
  obtain ⟨Z, hZ⟩ : ∃ Z, Z = ((List.replicate 65 (0 : UInt8)).map bv).toArray := ⟨_, rfl⟩
  have hmk := mk65
  rw [← hZ] at hmk
  have HZ := hide hZ
  clear hZ
  have hfin : ∀ W, Below wb.heap.size wb W → WkAt W w1.heap.size p g rs [] ∧ Below w.heap.size w W := fun W hW => ⟨HWKb.out.below hW, belFrom HBb.out hW⟩
  have HF := hide hfin
  clear hfin HWKb HBb
  have hsz1 : ∀ wl : World, wl.heap.size < (wl.alloc (.cells Z 5)).heap.size := fun wl => by simp
  have hlt65 : wb.heap.size < (wb.alloc (.cells Z 5)).drew.heap.size := by
    show wb.heap.size < (wb.alloc (.cells Z 5)).heap.size
    simp
  go_region_held3 (fun W => 0 ≤ W.heap.size) (first | exact Nat.zero_le _ | fail) (first | (go_at_call 17; refine (letters_rd [97, 98] (by simp) _).mono ?_; rintro e wl ⟨Al, cl, hsl, rfl, hll, hrl, hkl, hbl⟩) | (go_at_call 19; refine (drop65 HZ.out (by first | exact hrl | exact (hrl.below (bel1 wl (.cells Z 5))).more (Nat.le_of_lt (hsz1 wl))) hkl (by first | exact Mk.new wl 5 Z (0, 0) | exact Mk.below (w := (wb.alloc (.cells Z 5)).drew) (Mk.new wb 5 Z (0, 0)) hbl hlt65)).mono ?_; rintro e wm ⟨Am, nm, cm, rfl, hbm⟩) | fail)
  all_goals (
    have hbw : Below wb.heap.size wb wm := by
      first
        | exact belFrom (belFrom (⟨hbl.os, hbl.tape, hbl.output, hbl.size, hbl.block⟩ : Below wb.heap.size wb wl) (bel1 wl _)) hbm
        | exact belFrom (belFrom (bel1 wb (.cells Z 5)) (⟨hbl.os, hbl.tape, hbl.output, hbl.size, hbl.block⟩ : Below (wb.alloc (.cells Z 5)).heap.size (wb.alloc (.cells Z 5)) wl)) hbm
        | exact belFrom ((fun h : Below wb.heap.size wb.drew wl => (⟨h.os, h.tape, h.output, h.size, h.block⟩ : Below wb.heap.size wb wl)) ((bel1 wb.drew (.cells Z 5)).trans (hbl.mono (by simp)))) hbm
    obtain ⟨hwkm, hbm2⟩ := HF.out _ hbw
    have HWKm := hide hwkm
    have HBm := hide hbm2
    clear hwkm hbm2 hbw hbm hbl hrl hkl hll
    go_wp2_with fail
    refine (letters_rd [98, 97] (by simp) wm).mono ?_
    rintro e wn ⟨An, cn, hsn, rfl, hln, hrn, hkn, hbn⟩
    have hq := Search_any An (some ⟨wn.heap.size, 0, none⟩) hsn.length cn 1 1 wn.heap.size (wn.heap.size + 1) hsn [97] (wn.alloc (.cells #[.int .u8 97] 5 (1, 2))) (hrn.below (bel1 wn _)) rfl (by rw [hln]; simp) (Reads.ofMk (Mk.new wn 5 #[.int .u8 97] (1, 2)) rfl)
    rw [hkn, show [98, 97].map (fun b : UInt8 => [b]) = [[98], [97]] from rfl, s1_, hln] at hq
    have HQ := hide hq
    have HWKn := hide (HWKm.out.below (belFrom hbn (bel1 wn (.cells #[.int .u8 97] 5 (1, 2)))))
    have HBn := hide (belFrom HBm.out (belFrom hbn (bel1 wn (.cells #[.int .u8 97] 5 (1, 2)))))
    clear hq hln hrn hkn hbn HWKm HBm
    go_wp2_with fail
    generalize wn.alloc (.cells #[.int .u8 97] 5 (1, 2)) = wo at HQ HWKn HBn ⊢
    refine HQ.out.mono ?_
    rintro e wo2 ⟨rfl, rfl⟩
    have hq2 := Search_any none none 0 0 0 0 0 0 [] [] wo (rowR_none wo 0) rfl (by omega) Reads.none_
    rw [show keys [] = [] from rfl, s2_] at hq2
    have HQ2 := hide hq2
    clear hq2 HQ
    go_wp2_with fail
    refine HQ2.out.mono ?_
    rintro e wo3 ⟨rfl, rfl⟩
    have hrs0 : rs = [] := by simpa using HRS.out
    have CL := hide (left_none HWKn.out (by rw [hrs0]; rfl))
    clear hrs0 HQ2
    go_wp2_with fail
    refine CL.out.mono ?_
    rintro e wp ⟨rfl, hbp⟩
    have HBp := hide (belFrom HBn.out hbp)
    have CM := hide (may_any none 0 0 0 [] wp (rowR_none wp 0) rfl (by unfold maxLen; omega))
    clear hbp CL HWKn HBn
    go_wp2_with fail
    refine CM.out.mono ?_
    rintro e wq ⟨rfl, rfl⟩
    rw [show mayR (keys []) = true from rfl]
    go_wp2_with fail
    refine (knows_any _).mono ?_
    rintro e wr ⟨rfl, hbr⟩
    have HBr := hide (belFrom HBp.out hbr)
    clear hbr
    go_wp2_with fail
    go_ret
    exact ⟨rfl, HBr.out⟩)
end Go.Proofs.Yteiamfekdibkmaa
