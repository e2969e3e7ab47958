/-
  THE WALK of ChainView: of each key what was written last up to a number, and all its writes. Conditions: none.
-/
import Derived.Test.YtgeanonphjjgeaaVW
import Derived.BigQuiet
import Derived.Deep.DeepCutAuto
import Derived.Deep.CutBlock
namespace Go.Proofs.Ytgeanonphjjgeaa
open Go.RowKit Go.Shelf

set_option maxRecDepth 100000 in
set_option maxHeartbeats 2000000 in
theorem view_any (A : Option Addr) (n c : Nat) (ws : List (Int × Bool × Int)) (hwl : n = ws.length) (s : Int) (hs0 : 0 ≤ s) (hs1 : s ≤ 255) (w : World) (hw : WrAt w w.heap.size A ws) (hn : n ≤ 9223372036854775807) :
    Calls Try.prog 4 #[.slice A n c, .int .u8 s] w fun e w' => e = .returned (.bool true) ∧ Below w.heap.size w w' := by
  have HWL := hide hwl
  clear hwl
  go_enter Try.func4, Try.ntmps4
  go_wp2_with fail
  refine (built_any A n c ws (unhide HWL) _ hw hn).mono ?_
  rintro e w1 ⟨v, xs, hs, rfl, h60, hB⟩
  obtain rfl := hB.at_.eq
  obtain ⟨A1, cap, rfl⟩ := own_slice hB.own
  clear hw
  have HB := hide hB
  clear hB
  rw [show headsArr xs = #[.int .u32 (headOf xs 0).1, .int .u32 (headOf xs 0).2, .int .u32 (headOf xs 1).1, .int .u32 (headOf xs 1).2, .int .u32 (headOf xs 2).1, .int .u32 (headOf xs 2).2, .int .u32 (headOf xs 3).1, .int .u32 (headOf xs 3).2] from rfl]
  go_wp2_with fail
  have H0 : VwW w (w1.alloc (.cells (headsArr xs) 55)) w.heap.size w1.heap.size A1 cap xs := ⟨HB.out.step (bel1 w1 _), Blk.new w1 55 _⟩
  rw [show headsArr xs = #[.int .u32 (headOf xs 0).1, .int .u32 (headOf xs 0).2, .int .u32 (headOf xs 1).1, .int .u32 (headOf xs 1).2, .int .u32 (headOf xs 2).1, .int .u32 (headOf xs 2).2, .int .u32 (headOf xs 3).1, .int .u32 (headOf xs 3).2] from rfl] at H0
  generalize w1.alloc (.cells #[.int .u32 (headOf xs 0).1, .int .u32 (headOf xs 0).2, .int .u32 (headOf xs 1).1, .int .u32 (headOf xs 1).2, .int .u32 (headOf xs 2).1, .int .u32 (headOf xs 2).2, .int .u32 (headOf xs 3).1, .int .u32 (headOf xs 3).2] 55) = W0 at H0 ⊢
  go_loopw [7, 8, 9, 10, 11, 12, 13, 14, 15, 16, 17, 18, 19, 20, 21, 22, 23, 24, 25, 31] (fun _ _ _ _ _ _ _ _ _ _ _ _ _ _ _ _ _ _ _ v31 wr => ∃ k : Nat, k ≤ 4 ∧ v31 = .int .u8 k ∧ VwW w wr w.heap.size w1.heap.size A1 cap xs) (fun _ _ _ _ _ _ _ _ _ _ _ _ _ _ _ _ _ _ _ v31 _ => 4 - (intOf v31).toNat)
  case atStart => exact ⟨0, by omega, rfl, H0⟩
  case round =>
    obtain ⟨k, hk4, rfl, H⟩ := hrel
    clear H0 HB
    by_cases hk : k < 4
    · have hk' : (k : Int) < 4 := by omega
      go_upto_block 2 with fail
      have H1 := H.step (bel1 wr (.cells #[.int .u8 (k : Int)] 5))
      have hm : Mk (wr.alloc (.cells #[.int .u8 (k : Int)] 5)) wr.heap.size 5 #[.int .u8 (k : Int)] := Mk.new wr 5 _ _
      obtain ⟨gk, hgk⟩ : ∃ gk, wr.heap.size = gk := ⟨_, rfl⟩
      rw [hgk] at hm ⊢
      generalize wr.alloc (.cells #[.int .u8 (k : Int)] 5) = W1 at H1 hm ⊢
      clear H hgk wr
      obtain ⟨kk, hkk⟩ : ∃ kk, kk = UInt8.ofNat k := ⟨_, rfl⟩
      have hkt : (kk.toNat : Int) = k := by rw [hkk]; simp; omega
      have HKK := hide hkk
      have HKT := hide hkt
      clear hkk hkt
      go_wp2_with fail
      go_loopw [9, 10, 11, 12, 38] (fun v9 v10 _ _ v38 W => ∃ (i m : Nat) (z : Int), i ≤ xs.length ∧ v38 = .int .i64 i ∧ v9 = .int .i64 z ∧ v10 = .int .i64 m ∧ wantI (xs.take i) kk s = z ∧ (chainOf (xs.take i) kk).length = m ∧ m ≤ i ∧ Below W1.heap.size W1 W) (fun _ _ _ _ v38 _ => xs.length - (intOf v38).toNat)
      case atStart => exact ⟨0, 0, -1, by omega, rfl, rfl, rfl, rfl, rfl, by omega, Below.refl _ _⟩
      case round =>

        obtain ⟨i, m, z, hi, rfl, rfl, rfl, hz, hml, hmi, hb⟩ := hrel
        have HZ := hide hz
        have HML := hide hml
        clear hz hml
        have H2 := H1.step hb
        by_cases hlt : i < xs.length
        · as_aux_lemma =>
          obtain ⟨ad, x, rfl, hab, hx, hmem, c0, c1, c2, c3, c4, c5, c6, c7⟩ := H2.blt.row.at_ hlt
          obtain ⟨gx, kx, h1, h2, h3⟩ := H2.blt.keys x hmem
          have hX := H2.blt.ok i x hx
          rw [h1, hX.kn] at c4
          have ckx : wr.cell? ⟨gx, 0, none⟩ = some (.int .u8 (kx.toNat : Int)) := h3.cell 0
          have lkx : gx < wr.heap.size := h3.lt
          have hseq := hX.seq
          have HH := hide H2
          have hts := take_snoc hx
          have HTS := hide hts
          have hgx : gx ≠ wr.heap.size := by omega
          clear hts H2 hX h3
          have hK : isK kk x = decide ((kx.toNat : Int) = k) := by
            have this : ((kx.toNat : Int) = kk.toNat) ↔ kx = kk := by rw [Int.natCast_inj]; exact UInt8.toNat_inj
            rw [← HKT.out, Bool.eq_iff_iff, decide_eq_true_iff, this]
            unfold isK
            rw [h2]
            simp
          have HK := hide hK
          have HX := hide hx
          have HS := hide hseq
          clear hK h2 h1 hx hseq
          have hvs := vstep HX.out HZ.out HML.out HS.out
          have HV := hide hvs
          clear hvs
          go_wp2_with fail
          · go_roundw
            case rel =>
              have h1 := HV.out.1 (by rw [HK.out]; simp_all) (by assumption)
              exact ⟨i + 1, m + 1, i, by omega, by go_num, rfl, by go_num, h1.1, h1.2, by omega, balloc hb _⟩
            case measure => simp [intOf]; omega
          · go_roundw
            case rel =>
              have h1 := HV.out.2.1 (by rw [HK.out]; simp_all) (by assumption)
              exact ⟨i + 1, m + 1, z, by omega, by go_num, rfl, by go_num, h1.1, h1.2, by omega, balloc hb _⟩
            case measure => simp [intOf]; omega
          · go_roundw
            case rel =>
              have h1 := HV.out.2.2 (by rw [HK.out]; simp_all)
              exact ⟨i + 1, m, z, by omega, by go_num, rfl, rfl, h1.1, h1.2, by omega, balloc hb _⟩
            case measure => simp [intOf]; omega
        · have hnl : ¬ (i : Int) < (xs.length : Nat) := by omega
          obtain rfl : i = xs.length := by omega
          have hz := HZ.out
          have hml := HML.out
          rw [List.take_length] at hz hml
          have H2 := H1.step hb
          have hm2 := hm.below hb hm.lt
          obtain ⟨y, er, vb, er2, hn1, hv1, hf⟩ := view_facts H2.blt.ok h60 kk s z hz
          have cN := H2.newest h60 hk hm2 s
          obtain ⟨e1, e2⟩ := heads_cell H2.hd hk
          rw [← HKK.out] at cN e1 e2
          rw [hn1] at cN
          have CN := hide cN
          have HN := hide hn1
          have HV := hide hv1
          have HF := hide hf
          have HML2 := hide hml
          have hlt1 : w1.heap.size < wr.heap.size := H2.hd.lt
          have HH2 := hide H2
          clear hn1 hv1 hf cN hz hml HZ HML H2
          go_wp2_with fail
          refine CN.out.mono ?_
          rintro e w3 ⟨rfl, hb3⟩
          have H3 := HH2.out.step hb3
          have hm3 := hm2.below hb3 hm2.lt
          simp only [linkV, Lk.cs]
          obtain ⟨e3, e4⟩ := heads_cell H3.hd hk
          rw [← HKK.out] at e3 e4
          have hlt3 : w1.heap.size < w3.heap.size := H3.hd.lt
          have HH3 := hide H3
          clear H3 e1 e2 hlt1
          go_wp2_with fail
          have H4 := HH3.out.step (bel1 w3 (.cells #[.int .u32 y.seg, .int .u32 y.off, .int .u64 y.seq, .int .i64 y.kind, .slice y.kA y.kn y.kc, .slice y.vA y.vn y.vc, .int .u32 y.ps, .int .u32 y.po] 35))
          have B13 : Blk (w3.alloc (.cells #[.int .u32 y.seg, .int .u32 y.off, .int .u64 y.seq, .int .i64 y.kind, .slice y.kA y.kn y.kc, .slice y.vA y.vn y.vc, .int .u32 y.ps, .int .u32 y.po] 35)) w3.heap.size 35 #[.int .u32 y.seg, .int .u32 y.off, .int .u64 y.seq, .int .i64 y.kind, .slice y.kA y.kn y.kc, .slice y.vA y.vn y.vc, .int .u32 y.ps, .int .u32 y.po] := Blk.new w3 35 _
          have hm4 := hm3.alloc (.cells #[.int .u32 y.seg, .int .u32 y.off, .int .u64 y.seq, .int .i64 y.kind, .slice y.kA y.kn y.kc, .slice y.vA y.vn y.vc, .int .u32 y.ps, .int .u32 y.po] 35)
          have cV := H4.value h60 hk hm4 s
          rw [← HKK.out, HV.out] at cV
          refine cV.mono ?_
          rintro e w5 ⟨v, rfl, hov, hb5⟩
          have H5 := H4.step hb5
          have hm5 := hm4.below hb5 hm4.lt
          have B5 := B13.below hb5 B13.lt
          obtain ⟨A5, cp5, rfl⟩ := own_slice hov
          have HH5 := hide H5
          have HOV := hide hov
          have HB5 := hide B5
          have HM5 := hide hm5
          clear cV H4 H5 B13 B5 hm4 hov hm5 e3 e4
          go_upto_region 17 with fail
          go_cut [98] (fun v98 W => v98 = .bool false ∧ W = w5)
          case first =>
            as_aux_lemma =>
              rcases HF.out with ⟨rfl, rfl, rfl, rfl⟩ | ⟨i, hi, hil, rfl, rfl, hrest⟩
              · clear HF
                go_wp2_with fail
                go_meet
                case rel => exact ⟨rfl, rfl⟩
              · have HR := hide hrest
                have HI := hide hi
                have hi0 : (0 : Int) ≤ i := by omega
                clear HF hrest hi
                go_wp2_with fail
                go_meet
                case rel => exact ⟨rfl, rfl⟩
          case rest =>
            obtain ⟨rfl, hwc⟩ := hcut
            rw [hwc]
            clear hwc wc
            go_upto_if 100 with fail
            go_cut [] (fun W => Below w5.heap.size w5 W)
            case first =>
              as_aux_lemma =>
                rcases HF.out with ⟨rfl, rfl, rfl, rfl⟩ | ⟨i, hi, hil, rfl, rfl, hrest⟩
                · clear HF
                  go_wp2_with fail
                  go_meet
                  case rel => exact Below.refl _ _
                · have hi0 : (0 : Int) ≤ i := by omega
                  obtain ⟨ad, x, rfl, hab, hx, hmem, c0, c1, c2, c3, c4, c5, c6, c7⟩ := HH5.out.blt.row.at_ hil
                  rw [hi] at hx
                  injection hx with hx
                  subst hx
                  have kx := HH5.out.blt.row.keys _ hmem
                  have vx := HH5.out.blt.row.vals _ hmem
                  obtain ⟨f1, f2, f3⟩ := HB5.out.facts
                  have bov : Bs w5 w5.heap.size A5 vb.length vb := Reads.of_own HOV.out
                  have HKX := hide kx
                  have HVX := hide vx
                  have HBO := hide bov
                  clear kx vx HF hi hmem bov
                  rcases hrest with ⟨hk2, rfl⟩ | ⟨hk1, rfl, rfl⟩
                  · have hkb : (y.kind == 2) = true := by simp [hk2]
                    clear hk2
                    go_wp2_with fail
                    refine (same_any y y w5.heap.size _ (by simp) (HKX.out.below (bel1 w5 _)) (HVX.out.below (bel1 w5 _)) (HKX.out.below (bel1 w5 _)) (HVX.out.below (bel1 w5 _))).mono ?_
                    rintro e w7 ⟨rfl, hb7⟩
                    rw [sameB_refl]
                    go_wp2_with fail
                    go_meet
                    case rel => exact belFrom (bel1 w5 _) hb7
                  · have hkb : (y.kind == 2) = false := by simp [hk1]
                    clear hk1
                    go_wp2_with fail
                    refine (same_any y y w5.heap.size _ (by simp) (HKX.out.below (bel1 w5 _)) (HVX.out.below (bel1 w5 _)) (HKX.out.below (bel1 w5 _)) (HVX.out.below (bel1 w5 _))).mono ?_
                    rintro e w7 ⟨rfl, hb7⟩
                    rw [sameB_refl]
                    have hb75 := belFrom (bel1 w5 _) hb7
                    have B17 := (Blk.new w5 35 #[.int .u32 y.seg, .int .u32 y.off, .int .u64 y.seq, .int .i64 y.kind, .slice y.kA y.kn y.kc, .slice y.vA y.vn y.vc, .int .u32 y.ps, .int .u32 y.po]).below hb7 (by simp)
                    obtain ⟨f4, f5, f6⟩ := B17.facts
                    go_wp2_with fail
                    refine (bytesEqual_any A5 y.vA y.vb.length cp5 y.vn y.vc w5.heap.size w5.heap.size y.vb y.vb w7 (HBO.out.below hb75) (HVX.out.below hb75)).mono ?_
                    rintro e w8 ⟨rfl, rfl⟩
                    rw [show (y.vb == y.vb) = true from beq_self_eq_true _]
                    go_wp2_with fail
                    go_meet
                    case rel => exact hb75
            case rest =>
              have H6 := HH5.out.step hcut
              have hm6 := HM5.out.below hcut HM5.out.lt
              obtain ⟨e1, e2⟩ := heads_cell H6.hd hk
              have hb6 := Below.trans (Below.refl w5.heap.size w5) hcut
              have hlt6 : w1.heap.size < wc.heap.size := H6.hd.lt
              have cW := H6.walk h60 hk hm6 (-1) (chainOf xs kk) (by rw [← HKK.out]; exact view_walk H6.blt.ok h60 kk)
              rw [← HKK.out] at cW e1 e2
              rw [HML2.out] at cW
              have CW := hide cW
              have HH6 := hide H6
              have HM6 := hide hm6
              have hm60 : m ≤ 60 := by omega
              clear HOV HB5 HM5 hcut H6 hm6 cW hb6 HF HN HV CN HH2 HH3 HH5 hm2 hm3
              go_wp2_with fail
              refine CW.out.mono ?_
              rintro e w7 ⟨A7, c7, rfl, hrd, hb7⟩
              have H7 := HH6.out.step hb7
              have hm7 := HM6.out.below hb7 HM6.out.lt
              have rows : RowAt w7 w7.heap.size A7 (chainOf xs kk) := ⟨by rw [HML2.out]; exact hrd, fun x hx => H7.blt.row.keys x (chain_mem hx), fun x hx => H7.blt.row.vals x (chain_mem hx)⟩
              have HR := hide rows
              have HH7 := hide H7
              have HM7 := hide hm7
              have lead := chain_leads H7.blt.ok kk
              have HL := hide lead
              clear rows H7 hm7 hrd hb7 CW HH6 HM6 e1 e2 hlt6 lead
              go_wp2_with fail
              go_loopw [21, 22, 23, 164] (fun _ _ _ v164 W => ∃ i : Nat, i ≤ m ∧ v164 = .int .i64 i ∧ Below w7.heap.size w7 W) (fun _ _ _ v164 _ => m - (intOf v164).toNat)
              case atStart => exact ⟨0, by omega, rfl, Below.refl _ _⟩
              case round =>
                obtain ⟨i, hi, rfl, hbw⟩ := hrel
                by_cases hlt : i < m
                · obtain ⟨ad, x, rfl, hab, hx, hmem, c0, c1, c2, c3, c4, c5, c6, c7⟩ := (HR.out.below hbw).at_ (by rw [HML2.out]; exact hlt)
                  have hl := HL.out i x hx
                  have HLX := hide hl
                  have HX := hide hx
                  clear hl hx hmem
                  go_upto_region 30 with fail
                  have hb2 : Below w7.heap.size w7 (wr.alloc (.cells #[.int .u32 x.seg, .int .u32 x.off, .int .u64 x.seq, .int .i64 x.kind, .slice x.kA x.kn x.kc, .slice x.vA x.vn x.vc, .int .u32 x.ps, .int .u32 x.po] 35)) := balloc hbw _
                  have B22 : Blk (wr.alloc (.cells #[.int .u32 x.seg, .int .u32 x.off, .int .u64 x.seq, .int .i64 x.kind, .slice x.kA x.kn x.kc, .slice x.vA x.vn x.vc, .int .u32 x.ps, .int .u32 x.po] 35)) wr.heap.size 35 #[.int .u32 x.seg, .int .u32 x.off, .int .u64 x.seq, .int .i64 x.kind, .slice x.kA x.kn x.kc, .slice x.vA x.vn x.vc, .int .u32 x.ps, .int .u32 x.po] := Blk.new wr 35 _
                  obtain ⟨g22, hg22⟩ : ∃ g, wr.heap.size = g := ⟨_, rfl⟩
                  rw [hg22] at B22 ⊢
                  generalize wr.alloc (.cells #[.int .u32 x.seg, .int .u32 x.off, .int .u64 x.seq, .int .i64 x.kind, .slice x.kA x.kn x.kc, .slice x.vA x.vn x.vc, .int .u32 x.ps, .int .u32 x.po] 35) = W2 at hb2 B22 ⊢
                  clear c0 c1 c2 c3 c4 c5 c6 c7 hg22 hbw
                  by_cases hlast : i + 1 = m
                  · as_aux_lemma =>
                    have hl := HLX.out
                    rw [List.getElem?_eq_none (by rw [HML2.out]; omega)] at hl
                    rw [hl.1, hl.2] at B22
                    obtain ⟨f1, f2, f3⟩ := B22.facts
                    have hbl : ((i : Int) + 1 == (m : Int)) = true := by simp; omega
                    have HLA := hide hlast
                    clear hl hlast
                    go_upto_region 31 with fail
                    go_quiet (fail)
                    go_wp2_with fail
                    go_roundw
                    case rel => exact ⟨i + 1, by omega, by go_num, hb2.trans ⟨rfl, rfl, rfl, Nat.le_refl _, fun _ _ => rfl⟩⟩
                    case measure => simp [intOf]; omega
                  · as_aux_lemma =>
                    have hi1 : i + 1 < m := by omega
                    obtain ⟨ad', z', had, hab', hz', _, d0, d1, d2, d3, d4, d5, d6, d7⟩ := (HR.out.below hb2).at_ (k := i + 1) (by rw [HML2.out]; exact hi1)
                    injection had with had
                    subst had
                    have hl := HLX.out
                    rw [hz'] at hl
                    simp only at hl
                    obtain ⟨l1, l2, l3⟩ := hl
                    rw [l1, l2] at B22
                    obtain ⟨f1, f2, f3⟩ := B22.facts
                    have hbl : ((i : Int) + 1 == (m : Int)) = false := by simp; omega
                    have hdl : decide (x.seq ≤ z'.seq) = false := by simp; omega
                    clear d3 d4 d5 d6 d7 l1 l2 hz' hlast
                    go_upto_region 31 with fail
                    go_quiet (fail)
                    go_wp2_with fail
                    go_roundw
                    case rel => exact ⟨i + 1, by omega, by go_num, hb2.trans ⟨rfl, rfl, rfl, Nat.le_refl _, fun _ _ => rfl⟩⟩
                    case measure => simp [intOf]; omega
                · obtain rfl : i = m := by omega
                  have hnl : ¬ (i : Int) < i := by omega
                  have H8 := HH7.out.step hbw
                  have hm8 := HM7.out.below hbw HM7.out.lt
                  obtain ⟨e1, e2⟩ := heads_cell H8.hd hk
                  have cW := H8.walk h60 hk hm8 3 ((chainOf xs kk).take 3) (by rw [← HKK.out]; exact view_walk3 H8.blt.ok h60 kk)
                  rw [← HKK.out] at cW e1 e2
                  rw [show ((chainOf xs kk).take 3).length = min 3 i by rw [List.length_take, HML2.out]] at cW
                  have CW := hide cW
                  have HH8 := hide H8
                  clear H8 hm8 cW hbw HR HL
                  go_wp2_with fail
                  refine CW.out.mono ?_
                  rintro e w9 ⟨A9, c9, rfl, _, hb9⟩
                  have H9 := HH8.out.step hb9
                  have HH9 := hide H9
                  have hmin : ((min 3 i : Nat) : Int) = if (3 : Int) < (i : Int) then 3 else (i : Int) := by split <;> omega
                  have hminb : (((min 3 i : Nat) : Int) != if (3 : Int) < (i : Int) then 3 else (i : Int)) = false := by rw [hmin]; simp
                  clear H9 e1 e2 hmin
                  go_wp2_with fail
                  go_roundw
                  case rel => exact ⟨k + 1, by omega, by go_num, HH9.out⟩
                  case measure => simp [intOf]; omega
    · have hk' : ¬ (k : Int) < 4 := by omega
      go_wp2_with fail
      refine (wakes_any _).mono ?_
      rintro e w2 ⟨rfl, hb2⟩
      go_wp2_with fail
      go_ret
      exact ⟨rfl, belFrom H.blt.below hb2⟩
end Go.Proofs.Ytgeanonphjjgeaa
