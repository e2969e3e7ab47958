/-
  THE WALK of the document's List. Conditions: as the theorems' premises say.
-/
import Derived.Test.YtfdabccdgcohjaaHREdge
import Derived.Deep.RegionHeld3
namespace Go.Proofs.Ytfdabccdgcohjaa
open Go.RowKit Go.Shelf

/-- a row of the document's stretches of the call's own -/
abbrev OwnR (w : World) (base : Nat) (v : Value) (L : List St) : Prop := w.ownsRow base 56 2 v L.length (stc L)
theorem str_info : (Try.prog.info? 56).map (fun i => (i.zero, i.size, i.bytes)) = some (some (.agg #[.int .u64 0, .int .u64 0]), 2, 16) := by kernel_rfl
theorem el55 : Try.prog.underlying 55 = some (.slice 56) := by kernel_rfl
theorem own_sliceR {w : World} {base : Nat} {v : Value} {L : List St} (h : OwnR w base v L) : ∃ A c, v = .slice A L.length c ∧ RdS w w.heap.size A L := by
  rcases h.2 with ⟨rfl, h0⟩ | ⟨g, cap, cur, rfl, _⟩
  · refine ⟨none, 0, by rw [h0], ?_⟩
    have : L = [] := List.eq_nil_of_length_eq_zero h0
    subst this
    exact Reads.none_
  · exact ⟨_, _, rfl, Reads.of_own h⟩
theorem slice_ofR {w : World} {base n : Nat} {v : Value} {xs : List Value} (h : w.ownsRow base 56 2 v n xs) : ∃ A c, v = .slice A n c := by
  rcases h.2 with ⟨rfl, h0⟩ | ⟨g, cap, cur, rfl, _⟩
  · exact ⟨none, 0, by rw [h0]⟩
  · exact ⟨_, _, rfl⟩
theorem own_formR {w : World} {base : Nat} {v : Value} {L : List St} (h : OwnR w base v L) (hn : 0 < L.length) : ∃ g c, v = .slice (some ⟨g, 0, none⟩) L.length c ∧ base ≤ g ∧ g < w.heap.size := by
  rcases h.2 with ⟨_, h0⟩ | ⟨g, cap, cur, rfl, hb, hg, _⟩
  · omega
  · exact ⟨_, _, rfl, hb, (Array.getElem?_eq_some_iff.1 hg).1⟩
theorem stc_set (X : List St) (s : St) (h : Nat) : (stc (X ++ [s])).set (X.length * 2 + 1) (.int .u64 (h : Int)) = stc (X ++ [⟨s.lo, h⟩]) := by
  rw [stc_app, stc_app, List.set_append_right _ _ (by rw [stc_len]; omega), stc_len, Nat.add_sub_cancel_left]
  rfl

set_option maxRecDepth 100000 in
set_option maxHeartbeats 4000000 in
theorem rlist_any {w : World} {base q : Nat} {S : List Sd} {L : List St} (h : RefAt w base q S) (hc : Canon L) (hh : ∀ n, has L n = hasR S n) (hsm : S.length ≤ 1000) :
    Calls Try.prog 23 #[.pointer (some ⟨q, 0, none⟩)] w fun e w' => ∃ v, e = .returned v ∧ OwnR w' w.heap.size v L ∧ Below w.heap.size w w' := by
  have CE := hide (edges_any h hsm)
  have HQ := hide h
  have HHL := hide (And.intro hc hh)
  obtain ⟨i0, hi0', hz0, hz1, hz2⟩ := info_parts str_info
  clear h hc hh
  go_enter Try.func23, Try.ntmps23
  go_wp2_with fail
  refine CE.out.mono ?_
  rintro e w1 ⟨v, E, rfl, hoE, hE, hb1⟩
  obtain ⟨AE, cE, rfl, hrE, _⟩ := own_sliceN hoE
  have hlE := hE.len
  obtain ⟨ln, hln⟩ : ∃ ln, ln = E.length := ⟨_, rfl⟩
  rw [← hln] at hrE hlE ⊢
  have HRE := hide hrE
  have HE := hide hE
  have HLN := hide hln
  have HB1 := hide hb1
  have hlnb : ln ≤ 2000 := by omega
  clear hoE hE hb1 hrE hln hlE CE
  go_wp2_with fail
  go_loopw [3, 5] (fun v3 v5 W => ∃ (i : Nat) (out : List St), i ≤ ln ∧ v5 = .int .i64 i ∧ (i = 0 ∨ i + 1 ≤ ln) ∧ Hid (OwnR W w1.heap.size v3 out) ∧ Hid (RowUp S E i out) ∧ Hid (Below w1.heap.size w1 W)) (fun _ v5 _ => ln - (intOf v5).toNat)
  case atStart => exact ⟨0, [], by omega, rfl, .inl rfl, hide (World.ownsRow_nil _ _ _ _), hide (RowUp.start HE.out), hide (Below.refl _ _)⟩
  case round =>
    obtain ⟨i, out, hi, rfl, hi0, HO, HR, HW⟩ := hrel
    obtain ⟨i1, hi1⟩ : ∃ i1 : Nat, (i : Int) + 1 = (i1 : Int) := ⟨i + 1, by omega⟩
    have hi1n : i1 = i + 1 := by omega
    by_cases hlt : i1 < ln
    · have hltI : (i1 : Int) < (ln : Int) := by omega
      have hltI0 : (i : Int) < (ln : Int) := by omega
      obtain ⟨e, he⟩ : ∃ e, E[i]? = some e := ⟨_, List.getElem?_eq_getElem (by rw [← HLN.out]; omega)⟩
      obtain ⟨e', he'⟩ : ∃ e, E[i1]? = some e := ⟨_, List.getElem?_eq_getElem (by rw [← HLN.out]; omega)⟩
      have hre := HRE.out.below HW.out
      rw [HLN.out] at hre
      obtain ⟨adE, rfl, habE, cE1⟩ := rd1_at hre he
      obtain ⟨adE', hadE, _, cE2⟩ := rd1_at hre he'
      cases hadE
      rw [hi1n] at he'
      have b1 := HE.out.ok e (List.mem_of_getElem? he)
      have b2 := HE.out.ok e' (List.mem_of_getElem? he')
      have hlt2 := HE.out.up.lt (Nat.lt_succ_self i) he he'
      have HE1 := hide he
      have HE2 := hide he'
      obtain ⟨h1, hh1⟩ : ∃ h1 : Nat, (e' : Int) - 1 = (h1 : Int) := ⟨e' - 1, by omega⟩
      have hh1n : h1 = e' - 1 := by omega
      have hwi : IntKind.i64.wrap (i1 : Int) = (i1 : Int) := IntWalk.i64_in _ ⟨by omega, by omega⟩
      have hwh : IntKind.u64.wrap (h1 : Int) = (h1 : Int) := IntWalk.u64_in _ ⟨by omega, by omega⟩
      have C1 := hide (rhas_any (HQ.out.below (belFrom HB1.out HW.out)) e (by omega))
      have hsz := HW.out.size
      have hI1 := hide hi1n
      have HH1 := hide hh1n
      clear he he' hre hi0 hi1n hh1n
      cases hb : hasR S e with
      | false =>
        rw [hb] at C1
        have HB := hide hb
        clear hb cE2
        go_wp2_with fail
        refine C1.out.mono ?_
        rintro e w2 ⟨rfl, rfl⟩
        go_wp2_with fail
        go_roundw
        case rel => exact ⟨i1, out, by omega, rfl, .inr (by omega), HO, hide (by rw [hI1.out]; exact HR.out.skip HE.out HE1.out HE2.out HB.out), HW⟩
        case measure => have := hI1.out; simp [intOf]; omega
      | true =>
        rw [hb] at C1
        have HB := hide hb
        clear hb
        rcases List.eq_nil_or_concat out with rfl | ⟨X, s, hX⟩
        · obtain ⟨A3, c3, rfl, _⟩ := own_sliceR HO.out
          go_wp2_with fail
          refine C1.out.mono ?_
          rintro e w2 ⟨rfl, rfl⟩
          go_upto_region 8 with fail
          go_quiet (fail)
          have HO1 : Hid (OwnR (wr.drewN nq) w1.heap.size (.slice A3 0 c3) []) := HO
          have HW1 := hide (HW.out.trans (c := wr.drewN nq) ⟨rfl, rfl, rfl, Nat.le_refl _, fun _ _ => rfl⟩)
          have d1 : (wr.drewN nq).cell? (adE.add i) = some (.int .u64 (e : Int)) := cE1
          have d2 : (wr.drewN nq).cell? (adE.add i1) = some (.int .u64 (e' : Int)) := cE2
          have hsz1 : w1.heap.size ≤ (wr.drewN nq).heap.size := hsz
          have HNE : Hid (∀ s ∈ ([] : List St), s.hi + 1 ≠ e) := hide fun s hs => by cases hs
          clear cE1 cE2 HO HW
          generalize wr.drewN nq = W1 at HO1 HW1 d1 d2 hsz1 ⊢
          go_upto_region 10 with fail
          have KW : ∀ W, Below w1.heap.size W1 W → W.cell? (adE.add i) = some (.int .u64 (e : Int)) ∧ W.cell? (adE.add i1) = some (.int .u64 (e' : Int)) := fun W hW => ⟨(hW.cell (by rw [add_block]; exact habE)).trans d1, (hW.cell (by rw [add_block]; exact habE)).trans d2⟩
          have HKW := hide KW
          have BA := hide ((Below.refl w1.heap.size W1).drew)
          obtain ⟨v3, w3, hrun, ho3, hg3, hat3⟩ := run_append_any (P := Try.prog) (W1.drew.alloc (.cells #[.int .u64 (e : Int), .int .u64 (h1 : Int)] 56)) w1.heap.size 55 55 56 i0 _ 2 16 el55 hi0' hz0 hz1 hz2 rfl (by omega) (.slice A3 0 c3) 0 (stc (([] : List St))) (HO1.out.drew.alloc _) (W1.heap.size + 1) (some ⟨W1.heap.size, 0, none⟩) 1 1 (St.cs ⟨e, h1⟩) (Reads.ofBlk (Blk.new W1.drew 56 _) rfl) (cs_one _) (by unfold maxLen; omega) (by omega) (by simp; omega)
          obtain ⟨A4, c4, rfl⟩ := slice_ofR ho3
          have HRUN := hide hrun
          have HO3 := hide ho3
          have HG3 := hide hg3
          have B3 := hide ((BA.out.alloc hsz1 (.cells #[.int .u64 (e : Int), .int .u64 (h1 : Int)] 56)).grown hg3 (by simp; omega) (fun j hj => (own_lt HO1.out hj).1))
          clear KW hrun ho3 hg3 hat3 d1 d2
          go_region_held3 (fun W => W.cell? (adE.add i) = some (.int .u64 (e : Int)) ∧ W.cell? (adE.add i1) = some (.int .u64 (e' : Int))) (first | exact HKW.out _ BA.out | exact HKW.out _ (BA.out.alloc hsz1 _) | exact HKW.out _ B3.out | fail) (first | (refine step_append_at rfl _ _ 55 55 rfl _ _ (by simp [Act.eval]) (by simp [Act.eval]) HRUN.out ?_) | fail)
          have ho3 := HO3.out
          have hg3 := HG3.out
          have b3 : Below w1.heap.size w1 w3 := (balloc HW1.out.drew _).grown hg3 (by simp; omega) (fun j hj => (own_lt HO1.out hj).1)
          have ho4 : OwnR w3 w1.heap.size (.slice A4 (0 + 1) c4) ((([] : List St)) ++ [(⟨e, h1⟩ : St)]) := by
            show w3.ownsRow _ 56 2 _ ((([] : List St)) ++ [(⟨e, h1⟩ : St)]).length (stc ((([] : List St)) ++ [(⟨e, h1⟩ : St)]))
            rw [List.length_append, stc_app]
            exact ho3
          go_wp2_with fail
          go_roundw
          case rel => exact ⟨i1, _, by omega, rfl, .inr (by omega), hide ho4, hide (by rw [hI1.out, HH1.out]; exact HR.out.put HE.out HE1.out HE2.out HB.out HNE.out), hide b3⟩
          case measure => have := hI1.out; simp [intOf]; omega

        · rw [List.concat_eq_append] at hX
          obtain ⟨k, hk⟩ : ∃ k, k = X.length := ⟨_, rfl⟩
          obtain ⟨n, hn⟩ : ∃ n, n = k + 1 := ⟨_, rfl⟩
          have hol : out.length = n := by rw [hX, List.length_append, hn, hk]; rfl
          obtain ⟨g, c3, rfl, hgb, hgl⟩ := own_formR HO.out (by omega)
          have hos : out[k]? = some s := by rw [hX, hk]; simp
          obtain ⟨ad, hade, _, e1, e2⟩ := RdS.at_ (Reads.of_own HO.out) hos
          cases hade
          have hsm2 := HR.out.ok.mem (List.mem_of_getElem? hos)
          have hle := HR.out.len
          rw [hol] at hle ⊢
          have hfz := HO.out.frozenAt (k * 2 + 1)
          rw [hol] at HO
          rw [add_flat] at e1 e2
          have hkn : (n : Int) - 1 = (k : Int) := by omega
          have hkI : (k : Int) < (n : Int) := by omega
          have hnN : 0 < n := by omega
          have hnd : decide (0 < n) = true := by simpa using hnN
          have hnI : (0 : Int) < (n : Int) := by omega
          have hnb : n ≤ 2001 := by omega
          obtain ⟨slo, shi⟩ := s
          simp only at e1 e2 hsm2
          have HK := hide hk
          have HN := hide hn
          have HX := hide hX
          have HOL := hide hol
          clear hk hn hX hol hos
          by_cases heq : shi + 1 = e
          · have hs1 : (shi : Int) + 1 = (e : Int) := by omega
            have HEQ := hide heq
            clear heq
            go_wp2_with fail
            refine C1.out.mono ?_
            rintro e w2 ⟨rfl, rfl⟩
            go_upto_region 8 with fail
            go_quiet (fail)
            have HO1 : Hid (w1.heap.size ≤ g ∧ World.ownsRow (wr.drewN nq) w1.heap.size 56 2 (.slice (some ⟨g, 0, none⟩) n c3) n (stc out)) := hide ⟨hgb, by have h := HO.out; unfold OwnR at h; rw [HOL.out] at h; exact h⟩
            have HW1 := hide (HW.out.trans (c := wr.drewN nq) ⟨rfl, rfl, rfl, Nat.le_refl _, fun _ _ => rfl⟩)
            have d2 : (wr.drewN nq).cell? (adE.add i1) = some (.int .u64 (e' : Int)) := cE2
            have d3 : (wr.drewN nq).cell? ⟨g, k * 2 + 1, none⟩ = some (.int .u64 (shi : Int)) := e2
            have d4 : (wr.drewN nq).frozen? ⟨g, k * 2 + 1, none⟩ = false := hfz
            have d5 : g < (wr.drewN nq).heap.size := hgl
            clear cE1 cE2 HO HW e1 e2 hfz
            generalize wr.drewN nq = W1 at HO1 HW1 d2 d3 d4 d5 ⊢
            go_wp2_with fail
            have hst := HO1.out.2.stored (k * 2 + 1) (.int .u64 (h1 : Int))
            go_roundw
            case rel =>
              refine ⟨i1, X ++ [⟨slo, h1⟩], by omega, rfl, .inr (by omega), hide ?_, hide ?_, hide (bset HW1.out hgb _ _)⟩
              · have h2 := hst.1
                rw [HX.out] at h2
                conv at h2 => arg 7; rw [HK.out, stc_set]
                show World.ownsRow _ _ 56 2 _ (X ++ [(⟨slo, h1⟩ : St)]).length _
                rw [List.length_append, ← HK.out]
                show World.ownsRow _ _ 56 2 _ (k + 1) _
                rw [← HN.out]
                exact h2
              · rw [hI1.out, HH1.out]
                exact HR.out.grow HE.out HE1.out HE2.out HX.out HB.out HEQ.out
            case measure => have := hI1.out; simp [intOf]; omega
          · obtain ⟨q1, hq1⟩ : ∃ q1 : Nat, (shi : Int) + 1 = (q1 : Int) := ⟨shi + 1, by omega⟩
            have hne : ¬ (q1 : Int) = (e : Int) := by omega
            have hneb : ((q1 : Int) == (e : Int)) = false := by simpa using hne
            have HNE : Hid (∀ s ∈ out, s.hi + 1 ≠ e) := hide fun z hz hze => by
              rw [HX.out] at hz
              have hcan := HR.out.ok
              rw [HX.out] at hcan
              rcases List.mem_append.1 hz with hz | hz
              · have h1 := (Canon.app.1 hcan).2.2 z hz _ (List.mem_singleton.2 rfl)
                have h2 := HR.out.his HE1.out (s := ⟨slo, shi⟩) (by rw [HX.out]; simp)
                simp only at h1 h2
                omega
              · rw [List.mem_singleton.1 hz] at hze
                exact heq hze
            clear heq
            go_wp2_with fail
            refine C1.out.mono ?_
            rintro e w2 ⟨rfl, rfl⟩
            go_upto_region 8 with fail
            go_quiet (fail)
            have HO1 : Hid (World.ownsRow (wr.drewN nq) w1.heap.size 56 2 (.slice (some ⟨g, 0, none⟩) n c3) n (stc out)) := hide (by have h := HO.out; unfold OwnR at h; rw [HOL.out] at h; exact h)
            have HW1 := hide (HW.out.trans (c := wr.drewN nq) ⟨rfl, rfl, rfl, Nat.le_refl _, fun _ _ => rfl⟩)
            have d1 : (wr.drewN nq).cell? (adE.add i) = some (.int .u64 (e : Int)) := cE1
            have d2 : (wr.drewN nq).cell? (adE.add i1) = some (.int .u64 (e' : Int)) := cE2
            have hsz1 : w1.heap.size ≤ (wr.drewN nq).heap.size := hsz
            clear cE1 cE2 HO HW e1 e2 hfz
            generalize wr.drewN nq = W1 at HO1 HW1 d1 d2 hsz1 ⊢
            go_upto_region 10 with fail
            have KW : ∀ W, Below w1.heap.size W1 W → W.cell? (adE.add i) = some (.int .u64 (e : Int)) ∧ W.cell? (adE.add i1) = some (.int .u64 (e' : Int)) := fun W hW => ⟨(hW.cell (by rw [add_block]; exact habE)).trans d1, (hW.cell (by rw [add_block]; exact habE)).trans d2⟩
            have HKW := hide KW
            have BA := hide ((Below.refl w1.heap.size W1).drew)
            obtain ⟨v3, w3, hrun, ho3, hg3, hat3⟩ := run_append_any (P := Try.prog) (W1.drew.alloc (.cells #[.int .u64 (e : Int), .int .u64 (h1 : Int)] 56)) w1.heap.size 55 55 56 i0 _ 2 16 el55 hi0' hz0 hz1 hz2 rfl (by omega) (.slice (some ⟨g, 0, none⟩) n c3) n (stc (out)) (HO1.out.drew.alloc _) (W1.heap.size + 1) (some ⟨W1.heap.size, 0, none⟩) 1 1 (St.cs ⟨e, h1⟩) (Reads.ofBlk (Blk.new W1.drew 56 _) rfl) (cs_one _) (by unfold maxLen; omega) (by omega) (by simp; omega)
            obtain ⟨A4, c4, rfl⟩ := slice_ofR ho3
            have HRUN := hide hrun
            have HO3 := hide ho3
            have HG3 := hide hg3
            have B3 := hide ((BA.out.alloc hsz1 (.cells #[.int .u64 (e : Int), .int .u64 (h1 : Int)] 56)).grown hg3 (by simp; omega) (fun j hj => (own_lt HO1.out hj).1))
            clear KW hrun ho3 hg3 hat3 d1 d2
            go_region_held3 (fun W => W.cell? (adE.add i) = some (.int .u64 (e : Int)) ∧ W.cell? (adE.add i1) = some (.int .u64 (e' : Int))) (first | exact HKW.out _ BA.out | exact HKW.out _ (BA.out.alloc hsz1 _) | exact HKW.out _ B3.out | fail) (first | (refine step_append_at rfl _ _ 55 55 rfl _ _ (by simp [Act.eval]) (by simp [Act.eval]) HRUN.out ?_) | fail)
            have ho3 := HO3.out
            have hg3 := HG3.out
            have b3 : Below w1.heap.size w1 w3 := (balloc HW1.out.drew _).grown hg3 (by simp; omega) (fun j hj => (own_lt HO1.out hj).1)
            have ho4 : OwnR w3 w1.heap.size (.slice A4 (n + 1) c4) ((out) ++ [(⟨e, h1⟩ : St)]) := by
              show w3.ownsRow _ 56 2 _ ((out) ++ [(⟨e, h1⟩ : St)]).length (stc ((out) ++ [(⟨e, h1⟩ : St)]))
              rw [List.length_append, stc_app]
              rw [HOL.out]
              exact ho3
            go_wp2_with fail
            go_roundw
            case rel => exact ⟨i1, _, by omega, rfl, .inr (by omega), hide ho4, hide (by rw [hI1.out, HH1.out]; exact HR.out.put HE.out HE1.out HE2.out HB.out HNE.out), hide b3⟩
            case measure => have := hI1.out; simp [intOf]; omega

    · have hnl : ¬ (i1 : Int) < (ln : Int) := by omega
      have hout : out = L := canon_ext HR.out.ok HHL.out.1 fun z => by
        rw [HR.out.end_ HE.out ?_ z, HHL.out.2 z]
        rcases hi0 with h0 | h0
        · by_cases hl0 : ln = 0
          · exact .inl (List.eq_nil_of_length_eq_zero (by rw [← HLN.out]; exact hl0))
          · exact .inr (by rw [← HLN.out]; omega)
        · exact .inr (by rw [← HLN.out]; omega)
      subst hout
      have hsz := HB1.out.size
      clear hi1n hi0
      go_wp2_with fail
      go_ret
      exact ⟨_, rfl, own_mono HO.out hsz, belFrom HB1.out HW.out⟩
end Go.Proofs.Ytfdabccdgcohjaa
