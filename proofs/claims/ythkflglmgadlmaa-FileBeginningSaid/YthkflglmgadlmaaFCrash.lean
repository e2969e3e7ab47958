/-
  THE WALKS of Crash and Flip. Conditions: as the theorems' premises say.
-/
import Derived.Test.YthkflglmgadlmaaFTurn
import Derived.Laws.BitsAllLaws
namespace Go.Proofs.Ythkflglmgadlmaa
open Go.RowKit

/-- where a crash stands: behind i deeds, so many units kept, so many bytes -/
structure CrAt (F : Fl) (keep i kept : Nat) (b : List UInt8) : Prop where
  le : kept ≤ keep
  is : crashL (F.deeds.drop i) keep kept b = crashL F.deeds keep 0 F.safe
  ok : okD b (F.deeds.drop i) F.now ∨ kept = keep
  len : b.length ≤ F.safe.length + loose (F.deeds.take i)
theorem CrAt.zero (F : Fl) (keep : Nat) (h : F.ok) : CrAt F keep 0 0 F.safe := ⟨Nat.zero_le _, rfl, .inl h, by simp⟩
theorem CrAt.next {F : Fl} {keep i kept : Nat} {b : List UInt8} {d : Dd} (h : CrAt F keep i kept b) (hd : F.deeds[i]? = some d) : CrAt F keep (i + 1) (kept + min d.units (keep - kept)) (d.does b (min d.units (keep - kept))) := by
  have hi : F.deeds.drop i = d :: F.deeds.drop (i + 1) := by
    rw [List.drop_eq_getElem_cons (List.getElem?_eq_some_iff.1 hd).1, (List.getElem?_eq_some_iff.1 hd).2]
  have h1 := h.is
  have h2 := h.ok
  rw [hi] at h1 h2
  refine ⟨by have := h.le; omega, h1, ?_, ?_⟩
  · rcases h2 with h2 | h2
    · by_cases hu : d.units ≤ keep - kept
      · left
        rw [Nat.min_eq_left hu]
        exact h2.2
      · right
        have := h.le
        omega
    · right
      omega
  · have := h.len
    have h3 := does_le d b (min d.units (keep - kept)) (by omega)
    rw [loose_take _ _ _ hd]
    omega
theorem CrAt.cut_ {F : Fl} {keep i kept : Nat} {b : List UInt8} {c : Nat} (h : CrAt F keep i kept b) (hd : F.deeds[i]? = some (.cut c)) (hk : kept < keep) : c < b.length := by
  have hi : F.deeds.drop i = .cut c :: F.deeds.drop (i + 1) := by
    rw [List.drop_eq_getElem_cons (List.getElem?_eq_some_iff.1 hd).1, (List.getElem?_eq_some_iff.1 hd).2]
  have h2 := h.ok
  rw [hi] at h2
  rcases h2 with h2 | h2
  · exact h2.1
  · omega

theorem cutDoes_z (c : Int) (v : Value) (z : Int) (hz : z = 0) (w : World) : Calls Try.prog 44 #[.int .i64 c, v, .int .i64 z] w fun e w' => e = .returned v ∧ w = w' := by
  subst hz
  exact cutDoes_zero c v w

set_option maxHeartbeats 1000000 in
theorem crash_any {base p : Nat} {d : Option Nat} {F : Fl} {w : World} (h : FlAt w base p d F) (keep : Nat) (hk : keep ≤ 4611686018427387904) (hsm : F.safe.length + F.loose ≤ 1000000) :
    Calls Try.prog 12 #[.pointer (some ⟨p, 0, none⟩), .int .i64 keep] w (TurnPost w base p d (.tuple #[.int .i64 (F.crash keep).1, .int .i64 0]) (F.crash keep).2) := by
  obtain ⟨sA, sc, nA, nc, D, dv, h1, h2, h3, h4, h5, h6⟩ := h.ex
  obtain ⟨c1, f1, s1⟩ := h1.facts
  have hdl := h6.len
  have hcount := F.count h.ok
  have hlen : dv.length ≤ 1000000 := by omega
  have hsl : ∃ A c, D = .slice A dv.length c := by
    rcases h4.2 with ⟨rfl, h0⟩ | ⟨g, cap, cur, rfl, _⟩
    · exact ⟨_, _, by rw [h0]⟩
    · exact ⟨_, _, rfl⟩
  obtain ⟨DA, dc, rfl⟩ := hsl
  have hsafe : F.safe.length ≤ 1000000 := by omega
  have HH := hide h
  have H1 := hide h1
  have H2 := hide h2
  have H4 := hide h4
  have H6 := hide h6
  obtain ⟨m, hm⟩ : ∃ m, m = dv.length := ⟨_, rfl⟩
  rw [← hm] at hlen c1
  have HM := hide hm
  have HDL := hide hdl
  unfold Fl.loose at hsm
  clear h h1 h2 h3 h4 h5 h6 hm hdl hcount
  have hk0 : ¬ (keep : Int) < 0 := by omega
  go_enter Try.func12, Try.ntmps12
  go_wp2_with fail
  refine (clone5 H2.out (by omega)).mono ?_
  rintro e w1 ⟨A1, a1, rfl, ho1, hb1⟩
  have HO1 := hide ho1
  obtain ⟨c2, f2, s2⟩ := (H1.out.below hb1 s1).facts
  rw [← HM.out] at c2
  clear c1 f1 ho1
  go_wp2_with fail
  go_loopw [6, 7, 9, 10, 27] (fun v6 v7 _ _ v27 W => ∃ (i kept : Nat) (b : List UInt8) (A : Option Addr) (a : Nat), i ≤ m ∧ v27 = .int .i64 i ∧ v6 = .int .i64 kept ∧ v7 = .slice A b.length a ∧ CrAt F keep i kept b ∧ Own5 W w.heap.size (.slice A b.length a) b ∧ Below w.heap.size w W) (fun _ _ _ _ v27 _ => m - (intOf v27).toNat)
  case atStart => exact ⟨0, 0, F.safe, A1, a1, by omega, rfl, rfl, rfl, CrAt.zero F keep HH.out.ok, HO1.out, hb1⟩
  case round =>
    obtain ⟨i, kept, b, A, a, hi, rfl, rfl, rfl, hcr, hob, hbw⟩ := hrel
    have HCR := hide hcr
    have HOB := hide hob
    have hkept := hcr.le
    clear hcr hob
    by_cases hlt : i < m
    · have hi2 : i < F.deeds.length := by have := HM.out; have := HDL.out; omega
      have hd : F.deeds[i]? = some F.deeds[i] := List.getElem?_eq_getElem hi2
      generalize F.deeds[i]'hi2 = d1 at hd
      obtain ⟨v, hv, hdv⟩ := (H6.out.below hbw).at_ hd
      have hrd : Reads wr wr.heap.size 1 DA dv.length dv := Reads.of_own (H4.out.kept (only_of_below hbw none) (Classical.em _))
      obtain ⟨ad, rfl, hab, hc⟩ := hrd.addr (by have := hrd.1; have := HM.out; omega)
      have c3 := hc i v hv
      have hlt2 := loose_take _ _ _ hd
      have hle := loose_take_le F.deeds (i + 1)
      have hbl := HCR.out.len
      have hnx := HCR.out.next hd
      have HNX := hide hnx
      have HD := hide hd
      obtain ⟨bl, hbll⟩ : ∃ bl, bl = b.length := ⟨_, rfl⟩
      have HBL := hide hbll
      rw [← hbll] at hbl
      have hnb : d1.units + bl ≤ 1000000 := by omega
      obtain ⟨n, hn⟩ : ∃ n, min d1.units (keep - kept) = n := ⟨_, rfl⟩
      have hn1 : n ≤ d1.units := by omega
      have hmin : (if (keep : Int) - (kept : Int) < (d1.units : Int) then (keep : Int) - (kept : Int) else (d1.units : Int)) = (n : Int) := by split <;> omega
      have hkn : kept + n ≤ keep := by omega
      rw [hn] at HNX
      have HN := hide hn
      clear hnx hlt2 hle hbl hrd hc hv hd hn
      rw [← hbll]
      clear hbll
      cases d1 with
      | add l =>
        obtain ⟨Al, cl, rfl, hol⟩ := hdv
        have m1 := m_units_add Al l.length cl
        have m2 := m_does_add Al l.length cl
        have hu : (Dd.add l).units = l.length := rfl
        rw [hu] at hmin hn1 hnb
        have c4 := addDoes_any (base := w.heap.size) Al cl l (.slice A b.length a) b n wr hol hn1 HOB.out hbw.size (by have := HBL.out; omega)
        rw [← HBL.out] at c4
        have C4 := hide c4
        clear c4 hol hu
        go_wp2_with fail
        refine (addUnits_any Al l.length cl _).mono ?_
        rintro e w2 ⟨rfl, rfl⟩
        go_wp2_with fail
        refine C4.out.mono ?_
        rintro e w3 ⟨A3, a3, rfl, ho3, hg3⟩
        have hbw3 : Below w.heap.size w w3 := hbw.grown hg3 hbw.size (fun g e => (own_mk HOB.out (by rw [← HBL.out]; exact e)).1)
        clear hmin
        go_wp2_with fail
        go_roundw
        case rel =>
          have e : (b ++ l.take n).length = b.length + n := by simp; omega
          exact ⟨i + 1, kept + n, b ++ l.take n, A3, a3, by omega, by go_num, by go_num, by rw [e], HNX.out, ho3, hbw3⟩
        case measure => simp [intOf]; omega
      | cut c =>
        obtain rfl := hdv
        have m1 := m_units_cut c
        have m2 := m_does_cut c
        have hu : (Dd.cut c).units = 1 := rfl
        rw [hu] at hn1 hnb
        have hm1 : (if (keep : Int) - (kept : Int) < 1 then (keep : Int) - (kept : Int) else 1) = (n : Int) := hmin
        by_cases hkk : kept < keep
        · have hn1' : n = 1 := by have := HN.out; rw [hu] at this; omega
          have hcb := HCR.out.cut_ HD.out hkk
          have hcap := own5_cap HOB.out
          have ho2 := own_short5 HOB.out (k := c) (by omega)
          have hl : (b.take c).length = c := by simp; omega
          have HO2 := hide ho2
          have HL := hide hl
          have hca : c ≤ a := by omega
          have ham : a ≤ 9223372036854775807 := by have := hcap.2; unfold maxLen at this; omega
          have HN1 := hide hn1'
          clear hu hkk ho2 hl hcb hcap hmin hn1'
          go_wp2_with fail
          refine (cutUnits_any c _).mono ?_
          rintro e w2 ⟨rfl, rfl⟩
          go_wp2_with fail
          refine (cutDoes_one c _ n A a _ (by have := HN1.out; omega) hca ham).mono ?_
          rintro e w3 ⟨rfl, rfl⟩
          clear hm1
          go_wp2_with fail
          go_roundw
          case rel =>
            have hnx := HNX.out
            rw [HN1.out] at hnx
            exact ⟨i + 1, kept + n, b.take c, A, a, by omega, by go_num, by go_num, by rw [HL.out], by rw [HN1.out]; exact hnx, HO2.out, hbw⟩
          case measure => simp [intOf]; omega
        · have hn0 : (n : Int) = 0 := by have := HN.out; rw [hu] at this; omega
          have HN0 := hide hn0
          clear hu hkk hmin hn0
          go_wp2_with fail
          refine (cutUnits_any c _).mono ?_
          rintro e w2 ⟨rfl, rfl⟩
          go_wp2_with fail
          refine (cutDoes_z c _ _ HN0.out _).mono ?_
          rintro e w3 ⟨rfl, rfl⟩
          clear hm1
          go_wp2_with fail
          go_roundw
          case rel =>
            have hnx := HNX.out
            have e0 : n = 0 := by have := HN0.out; omega
            rw [e0, does_zero] at hnx
            exact ⟨i + 1, kept + n, b, A, a, by omega, by go_num, by go_num, by rw [HBL.out], by rw [e0]; exact hnx, HOB.out, hbw⟩
          case measure => simp [intOf]; omega
    · obtain rfl : i = m := by omega
      have hnl : ¬ (i : Int) < i := by omega
      have hdr : F.deeds.drop i = [] := List.drop_eq_nil_of_le (by have := HM.out; have := HDL.out; omega)
      have his := HCR.out.is
      rw [hdr] at his
      have hfin : crashL F.deeds keep 0 F.safe = (kept, b) := his.symm
      have hF : F.crash keep = (kept, .rest b) := by unfold Fl.crash; rw [hfin]
      have hbl : b.length ≤ 1000000 := by
        have := HCR.out.len
        have := loose_take_le F.deeds i
        omega
      have hbase : base ≤ w.heap.size := by have := HH.out.hp; omega
      have c4 := rest_any (HH.out.below hbw) A a b (own_mono HOB.out hbase) hbl
      have C4 := hide c4
      have HF := hide hF
      have HBW := hide hbw
      clear hdr his hfin hF c4 hbw
      go_wp2_with fail
      refine C4.out.mono ?_
      rintro e w2 ⟨rfl, d', h2, S, hd⟩
      go_wp2_with fail
      go_ret2
      rw [HF.out]
      exact ⟨rfl, d', h2, (HH.out.belowStp HBW.out).trans S (fun g e => .inl e), (NewD.same w d).trans hd HBW.out.size⟩

set_option maxHeartbeats 400000 in
theorem flip_bad {base p : Nat} {d : Option Nat} {F : Fl} {w : World} (h : FlAt w base p d F) (i b : Int) (hi : i < 0 ∨ (F.now.length : Int) ≤ i) (h0 : F.deeds = []) (_hsm : F.now.length ≤ 1000000) :
    Calls Try.prog 22 #[.pointer (some ⟨p, 0, none⟩), .int .i64 i, .int .u8 b] w fun e w' => e = .returned (.int .i64 1) ∧ w = w' := by
  obtain ⟨sA, sc, nA, nc, D, dv, h1, h2, h3, h4, h5, h6⟩ := h.ex
  obtain ⟨c1, f1, s1⟩ := h1.facts
  have hdl := h6.len
  rw [h0] at hdl
  have hdv : dv = [] := List.eq_nil_of_length_eq_zero hdl
  subst hdv
  have hsl : ∃ A c, D = .slice A 0 c := by
    rcases h4.2 with ⟨rfl, _⟩ | ⟨g, cap, cur, rfl, _⟩
    · exact ⟨_, _, rfl⟩
    · exact ⟨_, _, rfl⟩
  obtain ⟨DA, dc, rfl⟩ := hsl
  obtain ⟨n, hn⟩ : ∃ n, n = F.now.length := ⟨_, rfl⟩
  rw [← hn] at hi c1 _hsm
  clear h1 h2 h3 h4 h5 h6 h hn hdl h0
  by_cases h0 : i < 0
  · clear hi
    go_enter Try.func22, Try.ntmps22
    go_wp2_with fail
    go_ret
    exact ⟨rfl, rfl⟩
  · have h1 : 0 ≤ i := by omega
    have h2 : (n : Int) ≤ i := by omega
    clear hi h0
    go_enter Try.func22, Try.ntmps22
    go_wp2_with fail
    go_ret
    exact ⟨rfl, rfl⟩

set_option maxHeartbeats 400000 in
theorem flip_ok {base p : Nat} {d : Option Nat} {F : Fl} {w : World} (h : FlAt w base p d F) (i : Nat) (x : UInt8) (hi : i < F.now.length) (h0 : F.deeds = []) (hsm : F.now.length ≤ 1000000) :
    Calls Try.prog 22 #[.pointer (some ⟨p, 0, none⟩), .int .i64 i, .int .u8 x.toNat] w (TurnPost w base p d (.int .i64 0) (.rest (F.now.set i (F.now[i]'hi ^^^ x)))) := by
  obtain ⟨sA, sc, nA, nc, D, dv, h1, h2, h3, h4, h5, h6⟩ := h.ex
  obtain ⟨c1, f1, s1⟩ := h1.facts
  have hdl := h6.len
  rw [h0] at hdl
  have hdv : dv = [] := List.eq_nil_of_length_eq_zero hdl
  subst hdv
  have hsl : ∃ A c, D = .slice A 0 c := by
    rcases h4.2 with ⟨rfl, _⟩ | ⟨g, cap, cur, rfl, _⟩
    · exact ⟨_, _, rfl⟩
    · exact ⟨_, _, rfl⟩
  obtain ⟨DA, dc, rfl⟩ := hsl
  have hget : F.now[i]? = some (F.now[i]'hi) := List.getElem?_eq_getElem hi
  generalize F.now[i]'hi = y at hget ⊢
  have HG := hide hget
  have c2 := clone5 h3 (by omega)
  have HH := hide h
  have H1 := hide h1
  have C2 := hide c2
  obtain ⟨n, hn⟩ : ∃ n, n = F.now.length := ⟨_, rfl⟩
  rw [← hn] at hi c1 hsm
  have HN := hide hn
  clear h1 h2 h3 h4 h5 h6 h hn hdl h0 hget c2
  have hi2 : (i : Int) < (n : Int) := by omega
  go_enter Try.func22, Try.ntmps22
  go_wp2_with fail
  rw [HN.out]
  refine C2.out.mono ?_
  rintro e w1 ⟨A1, a1, rfl, ho1, hb1⟩
  obtain ⟨g, cap, hv, hg1, hg2⟩ := own_form ho1 (by have := HN.out; omega)
  injection hv with hv1 _ hv3
  subst hv1 hv3
  have c3 : w1.cell? ⟨g, i, none⟩ = some (bv y) := by
    rw [World.ownsRow.cellAt ho1 i (by have := HN.out; omega), List.getElem?_map, HG.out]
    rfl
  have f3 := World.ownsRow.frozenAt ho1 i
  have HO1 := hide ho1
  rw [← HN.out]
  unfold bv at c3
  clear ho1
  go_wp2_with fail
  have hx : Value.int .u8 (bits BinOp.xor IntKind.u8 (y.toNat : Int) (x.toNat : Int)) = bv (y ^^^ x) := by
    unfold bv
    rw [u8_xor_nat _ _ y.toNat_lt x.toNat_lt, UInt8.toNat_xor]
  rw [hx]
  have st := World.ownsRow.stored HO1.out i (bv (y ^^^ x))
  have hll : (F.now.set i (y ^^^ x)).length = F.now.length := List.length_set
  have ho2 : Own5 (w1.setCell ⟨g, i, none⟩ (bv (y ^^^ x))) w.heap.size (.slice (some ⟨g, 0, none⟩) (F.now.set i (y ^^^ x)).length a1) (F.now.set i (y ^^^ x)) := by
    unfold Own5
    rw [hll, List.map_set]
    exact st.1
  have hb2 : Below w.heap.size w (w1.setCell ⟨g, i, none⟩ (bv (y ^^^ x))) := hb1.setCell (p := ⟨g, i, none⟩) hg1 _
  have hbw : base ≤ w.heap.size := by have := HH.out.hp; omega
  have c4 := rest_any (HH.out.below hb2) _ a1 _ (own_mono ho2 hbw) (by rw [hll, ← HN.out]; exact hsm)
  rw [hll, ← HN.out] at c4
  have C4 := hide c4
  clear c4 st ho2 c3 f3 hx hll
  refine C4.out.mono ?_
  rintro e w2 ⟨rfl, d', h2, S, hd⟩
  go_wp2_with fail
  go_ret
  exact ⟨rfl, d', h2, (HH.out.belowStp hb2).trans S (fun g e => .inl e), (NewD.same w d).trans hd hb2.size⟩
end Go.Proofs.Ythkflglmgadlmaa
