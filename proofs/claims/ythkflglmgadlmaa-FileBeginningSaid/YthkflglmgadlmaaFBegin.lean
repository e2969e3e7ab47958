/-
  THE WALK of FileBeginning: what a crash leaves. Conditions: as the theorem's premises say.
-/
import Derived.Test.YthkflglmgadlmaaFBW
import Derived.Deep.CutBlock
import Derived.Deep.RegionHeld3
namespace Go.Proofs.Ythkflglmgadlmaa
open Go.RowKit

/-- two files apart -/
structure Ap (p q : Nat) (d e : Option Nat) : Prop where
  ne : p ≠ q
  nd : ∀ g, d = some g → e ≠ some g
theorem Ap.symm {p q : Nat} {d e : Option Nat} (h : Ap p q d e) : Ap q p e d := ⟨fun e1 => h.ne e1.symm, fun g he hd => h.nd g hd he⟩
theorem Ap.step {p q : Nat} {d d' e : Option Nat} {W : World} {base : Nat} {G : Fl} (h : Ap p q d e) (hd : NewD W d d') (hg : FlAt W base q e G) : Ap p q d' e :=
  ⟨h.ne, fun g hg' he => by
    rcases hd g hg' with e1 | e1
    · exact h.nd g e1 he
    · have := (hg.dlt g he).2
      omega⟩
theorem Sub.other {V W W' : World} {base q p : Nat} {e d : Option Nat} {G F : Fl} {bp : Nat} (h : Sub V W base q e G) (hf : Sub V W bp p d F) (hS : Stp W W' p d) (ha : Ap p q d e) : Sub V W' base q e G :=
  ⟨h.at_.other hS (fun e1 => ha.ne e1.symm) (fun g he hd => ha.nd g hd he), h.below.trans (hS.below hf.hq hf.he h.below.size), h.hq, h.he⟩
theorem bytesEqual_same (A A' : Option Addr) (n c m d B B' : Nat) (l : List UInt8) (w : World) (h : Bs w B A n l) (h' : Bs w B' A' m l) :
    Calls Try.prog 16 #[.slice A n c, .slice A' m d] w fun e w' => e = .returned (.bool true) ∧ w = w' :=
  (bytesEqual_any A A' n c m d B B' l l w h h').mono fun e w' ⟨he, hw⟩ => ⟨by rw [he, beq_self_eq_true], hw⟩
theorem bs_own {w : World} {base : Nat} {A : Option Addr} {c : Nat} {l : List UInt8} (h : Own5 w base (.slice A l.length c) l) : Bs w w.heap.size A l.length l := Reads.of_own h
theorem bs_take2 {w : World} {B : Nat} {A : Option Addr} {n m : Nat} {l r : List UInt8} (h : Bs w B A n l) (hm : m ≤ n) (hr : l.take m = r) : Bs w B A m r := hr ▸ bs_take h hm
set_option maxHeartbeats 400000 in
theorem hasPrefix_yes2 (A A' : Option Addr) (n c m d B B' : Nat) (l l' : List UInt8) (w : World) (h : Bs w B A n l) (h' : Bs w B' A' m l') (hp : l.take m = l') (hmn : m ≤ n) (hnc : n ≤ c) (_hc : c ≤ 9223372036854775807) :
    Calls Try.prog 18 #[.slice A n c, .slice A' m d] w fun e w' => e = .returned (.bool true) ∧ w = w' := by
  have c1 := bytesEqual_same A A' m c m d B B' l' w (bs_take2 h hmn hp) h'
  have hmc : m ≤ c := by omega
  clear h h' hp
  have C1 := hide c1
  clear c1
  go_enter Try.func18, Try.ntmps18
  go_wp2_with fail
  refine C1.out.mono ?_
  rintro e w1 ⟨rfl, rfl⟩
  go_wp2_with fail
  go_ret
  exact ⟨rfl, rfl⟩
/-- where the loop over the calls ends -/
def BegAt (w : World) (p : Nat) (bb : List UInt8) (N R : Nat) (v8 v9 : Value) (W : World) : Prop :=
  ∃ (hs : List Fl) (F : Fl) (d : Option Nat) (mA : Option Addr) (mc : Nat) (uA : Option Addr) (uc : Nat), v8 = .slice mA hs.length mc ∧ v9 = .slice uA hs.length uc ∧ Hist bb hs F ∧ hs.length ≤ N ∧ Sub w W w.heap.size p d F ∧ F.Room R ∧ MomW W w.heap.size mA mc uA uc hs

set_option maxRecDepth 100000 in
set_option maxHeartbeats 2000000 in
theorem begin_any (A : Option Addr) (n c : Nat) (b : List UInt8) (LA : Option Addr) (ln lc : Nat) (acts : List Ac) (hal : ln = acts.length) (keep : Nat) (hkeep : keep ≤ 65535) (w : World) (hb : Bs w w.heap.size A n b) (hl : ActsAt w w.heap.size LA acts) (hnc : n ≤ c) (hc : c ≤ 9223372036854775807) (hln : ln ≤ 9223372036854775807) :
    Calls Try.prog 3 #[.slice A n c, .slice LA ln lc, .int .u16 keep] w fun e w' => e = .returned (.bool true) ∧ Below w.heap.size w w' := by
  obtain ⟨m, hm⟩ : ∃ m : Nat, (if (100 : Int) < (n : Int) then (100 : Int) else (n : Int)) = m := ⟨min n 100, by split <;> omega⟩
  have hm1 : m ≤ n := by split at hm <;> omega
  have hm2 : m ≤ 100 := by split at hm <;> omega
  have hm3 : m ≤ c := by omega
  have HAL := hide hal
  have HB := hide (bs_take hb hm1)
  have HL := hide hl
  obtain ⟨i0, hi0, hz0, hz1, hz2⟩ := info_parts mom_info
  obtain ⟨i1, hi1, hy0, hy1, hy2⟩ := info_parts int_info
  clear hal hb hl
  go_enter Try.func3, Try.ntmps3
  go_wp2_with fail
  refine (new_any _ m c w.heap.size (b.take m) _ HB.out (by omega) (Nat.le_refl _)).mono ?_
  rintro e w1 ⟨p, d0, rfl, h1, hb1⟩
  generalize hbb : b.take m = bb at HB h1
  have hbbl : bb.length ≤ 100 := by have := HB.out.len; omega
  have hr0 : (Fl.rest bb).Room 100 := ⟨Fl.ok_rest _, by show bb.length + 0 ≤ 100; omega⟩
  have HS := hide (Sub.new h1 hb1)
  have HR := hide hr0
  clear h1 hb1 hr0 hm hbb
  go_wp2_with fail
  refine (all_any HS.out.at_ (by show bb.length ≤ _; omega)).mono ?_
  rintro e w2 ⟨A2, a2, rfl, ho, hb2⟩
  rw [show (Fl.rest bb).now.length = bb.length from rfl]
  go_upto_block 0 with fail
  have hsz1 := HS.out.below.size
  have bA := bel2 w2 (.cells #[.slice A2 bb.length a2] 22) (.cells #[.int .i64 0] 3)
  have HM : MomW ((w2.alloc (.cells #[.slice A2 bb.length a2] 22)).alloc (.cells #[.int .i64 0] 3)) w.heap.size (some ⟨w2.heap.size, 0, none⟩) 1 (some ⟨w2.heap.size + 1, 0, none⟩) 1 [.rest bb] := by
    have hs2 := hb2.size
    refine ⟨⟨[.slice A2 bb.length a2], ?_, ⟨⟨A2, a2, rfl, own_bel (own_mono ho hsz1) bA⟩, trivial⟩⟩, ?_⟩
    · exact (World.ownsRow_lit w2 #[.slice A2 bb.length a2] 1 (by omega) (by unfold maxLen; omega) rfl).alloc _
    · have := World.ownsRow_lit (base := w.heap.size) (e := 3) (size := 1) (w2.alloc (.cells #[.slice A2 bb.length a2] 22)) #[.int .i64 0] 1 (by simp; omega) (by unfold maxLen; omega) rfl
      rw [show ([Fl.rest bb].map fun G => Value.int .i64 (G.loose : Int)) = [.int .i64 0] from rfl]
      simpa using this
  have HS2 := hide ((HS.out.later hb2).later bA)
  have HMM := hide HM
  clear HM bA ho hb2 HS
  generalize (w2.alloc (.cells #[.slice A2 bb.length a2] 22)).alloc (.cells #[.int .i64 0] 3) = w3 at HS2 HMM ⊢
  go_cut [8, 9] (fun v8 v9 W => BegAt w p bb 31 1900 v8 v9 W)
  case first =>
    go_wp2_with fail
    go_loopw [8, 9, 10, 11, 33] (fun v8 v9 _ _ v33 W => ∃ i : Nat, i ≤ 30 ∧ i ≤ ln ∧ v33 = .int .i64 i ∧ BegAt w p bb (i + 1) (100 + 60 * i) v8 v9 W) (fun _ _ _ _ v33 _ => ln - (intOf v33).toNat)
    case atStart => exact ⟨0, by omega, by omega, rfl, [.rest bb], .rest bb, d0, _, _, _, _, rfl, rfl, Hist.one bb, by simp, HS2.out, HR.out, HMM.out⟩
    case round =>
      obtain ⟨i, hi30, hin, rfl, hs, F, d, mA, mc, uA, uc, rfl, rfl, hh, hhl, hsub, hr, hmw⟩ := hrel
      have HH := hide hh
      have HHL := hide hhl
      have HMW := hide hmw
      have HSU := hide hsub
      have HRR := hide hr
      clear hh hmw hr HS2 HMM HR
      by_cases hlt : i < ln
      · obtain ⟨ad, a, rfl, hab, ha, hmem, c0, c1, c2, c3⟩ := (HL.out.below hsub.below).at_ (k := i) (by have := HAL.out; omega)
        clear hsub
        by_cases h30 : i = 30
        · have h30' : ((i : Int) == 30) = true := by simp; omega
          have HI := hide hi30
          clear h30 hi30
          go_wp2_with fail
          go_meet
          case rel => exact ⟨hs, F, d, mA, mc, uA, uc, rfl, rfl, HH.out, by have := HI.out; omega, HSU.out.later (bel1 _ _), ⟨HRR.out.ok, by have h1 := HRR.out.room; have h2 := HI.out; omega⟩, HMW.out.bel (bel1 _ _)⟩
        · have h30' : ((i : Int) == 30) = false := by simp; omega
          have hi31 : i < 30 := by omega
          have hbs := HL.out.bs a hmem
          obtain ⟨hcp1, hcp2⟩ := HL.out.cap a hmem
          have hloose := F.count HRR.out.ok
          have hlen := F.len HRR.out.ok
          have hroom := HRR.out.room
          have hs2 := HSU.out.later (bel1 wr (.cells #[.int .i64 a.x, .int .i64 a.n, .int .i64 a.m, .slice a.A a.bn a.bc] 31))
          have c4 := does_any hs2.at_ a.x a.n a.m a.A a.l (hbs.below hs2.below) (hs2.below.size) hcp1 hcp2 (by omega) (by omega)
          have C4 := hide c4
          have HS2 := hide hs2
          have HM2 := hide (HMW.out.bel (bel1 wr (.cells #[.int .i64 a.x, .int .i64 a.n, .int .i64 a.m, .slice a.A a.bn a.bc] 31)))
          clear c4 hs2 hbs ha hmem h30 HMW HSU
          go_wp2_with fail
          refine C4.out.mono ?_
          rintro e w4 ⟨rfl, F', d', hdid, h2, S, hd⟩
          have HS4 := hide (HS2.out.step h2 S hd)
          have HM4 := hide (HM2.out.stp S)
          have HD := hide hdid
          have hroom2 := (hdid.room HRR.out).room
          have hok2 := (hdid.room HRR.out).ok
          have HOK := hide hok2
          have hlen2 := F'.len hok2
          clear h2 S hd C4 HS2 HM2 hdid hok2
          go_wp2_with fail
          refine (all_any HS4.out.at_ (by omega)).mono ?_
          rintro e w5 ⟨A5, a5, rfl, ho5, hb5⟩
          have HS5 := hide (HS4.out.later hb5)
          have HM5 := hide (HM4.out.bel hb5)
          have HO5 := hide (own_mono ho5 HS4.out.below.size)
          obtain ⟨vs, hv1, hv2⟩ := HM5.out.moms
          obtain ⟨hl, hhl2⟩ : ∃ hl, hl = hs.length := ⟨_, rfl⟩
          have HLE := hide hhl2
          rw [← hhl2] at hv1 ⊢
          have hlb : hl ≤ 31 := by omega
          have HV1 := hide hv1
          have HV2 := hide hv2
          have hbw := HS5.out.below.size
          clear ho5 hb5 HS4 HM4 hv1 hv2 hhl2
          go_wp2_with (at_builtin; refine wpList_append_any _ rfl (.tmp 43) (.tmp 46) 28 rfl w.heap.size 22 i0 _ 1 24 Try.underlying28 hi0 hz0 hz1 hz2 rfl (by omega) (.slice mA hl mc) hl vs rfl (HV1.out.alloc _) (w5.heap.size + 1) (some ⟨w5.heap.size, 0, none⟩) 1 1 [.slice A5 F'.now.length a5] rfl (Reads.ofBlk (Blk.new w5 22 _) rfl) (by intro u hu; rw [List.mem_singleton.1 hu]; rfl) (by unfold maxLen; omega) (by omega) (by simp; omega) ?_; intro v6 w6 hown6 hg6 hat6; obtain ⟨g6, cap6, rfl, _, _⟩ := own_form hown6 (by omega))
          have b5 := bel1 w5 (.cells #[.slice A5 F'.now.length a5] 22)
          have ty6 : ∀ g, (Value.slice mA hl mc).ownBlock = some g → ∃ cs, Mk (w5.alloc (.cells #[.slice A5 F'.now.length a5] 22)) g 22 cs := fun g e => (own_mk (HV1.out.alloc _) e).2.2
          have bs6 : ∀ g, (Value.slice mA hl mc).ownBlock = some g → w.heap.size ≤ g := fun g e => (own_mk HV1.out e).1
          have HS6 := hide ((HS5.out.later b5).keepT hg6 ty6 bs6 (by decide) (by decide) (by decide))
          have k5 : ∀ v l, Own5 w5 w.heap.size v l → Own5 w6 w.heap.size v l := fun v l ho => own_keepT (own_bel ho b5) hg6 ty6 (by decide)
          have HV6 := hide ((HV2.out.imp k5).snoc (k5 _ _ HO5.out))
          have HU6 := hide (own_keepT (own_bel HM5.out.units b5) hg6 ty6 (by decide))
          have HR6 := hide hown6
          clear hown6 hg6 hat6 b5 ty6 bs6 k5 HV1 HV2 HO5 HM5 HS5
          have hbw6 := HS6.out.below.size
          refine (loose_any HS6.out.at_ (by omega)).mono ?_
          rintro e w7 ⟨rfl, rfl⟩
          have hu6 := HU6.out
          rw [← HLE.out] at hu6
          have HU := hide hu6
          clear hu6 HU6
          go_wp2_with (at_builtin; refine wpList_append_any _ rfl (.tmp 48) (.tmp 51) 29 rfl w.heap.size 3 i1 _ 1 8 Try.underlying29 hi1 hy0 hy1 hy2 rfl (by omega) (.slice uA hl uc) hl (hs.map fun G => .int .i64 G.loose) rfl (HU.out.alloc _) (w6.heap.size + 1) (some ⟨w6.heap.size, 0, none⟩) 1 1 [.int .i64 F'.loose] rfl (Reads.ofBlk (Blk.new w6 3 _) rfl) (by intro u hu; rw [List.mem_singleton.1 hu]; rfl) (by unfold maxLen; omega) (by omega) (by simp; omega) ?_; intro v8 w8 hown8 hg8 hat8; obtain ⟨g8, cap8, rfl, _, _⟩ := own_form hown8 (by omega))
          have b6 := bel1 w6 (.cells #[.int .i64 F'.loose] 3)
          have ty8 : ∀ g, (Value.slice uA hl uc).ownBlock = some g → ∃ cs, Mk (w6.alloc (.cells #[.int .i64 F'.loose] 3)) g 3 cs := fun g e => (own_mk (HU.out.alloc _) e).2.2
          have bs8 : ∀ g, (Value.slice uA hl uc).ownBlock = some g → w.heap.size ≤ g := fun g e => (own_mk HU.out e).1
          have S8 := (HS6.out.later b6).keepT hg8 ty8 bs8 (by decide) (by decide) (by decide)
          have k6 : ∀ v l, Own5 w6 w.heap.size v l → Own5 w8 w.heap.size v l := fun v l ho => own_keepT (own_bel ho b6) hg8 ty8 (by decide)
          have V8 := HV6.out.imp k6
          have M8 := own_keepT (own_bel HR6.out b6) hg8 ty8 (by decide)
          have el : (hs ++ [F']).length = hl + 1 := by rw [List.length_append, ← HLE.out]; rfl
          go_roundw
          case rel =>
            refine ⟨i + 1, by omega, by omega, by go_num, hs ++ [F'], F', d', _, cap6, _, cap8, by rw [el], by rw [el], HH.out.snoc HD.out HOK.out, by rw [el]; have := HHL.out; have := HLE.out; omega, S8, ⟨HOK.out, by omega⟩, ⟨⟨_, by rw [el]; exact M8, V8⟩, by rw [el, List.map_append]; exact hown8⟩⟩
          case measure => simp [intOf]; omega
      · go_wp2_with fail
        go_meet
        case rel => exact ⟨hs, F, d, mA, mc, uA, uc, rfl, rfl, HH.out, by have := HHL.out; omega, hsub, ⟨HRR.out.ok, by have h1 := HRR.out.room; omega⟩, HMW.out⟩
  case rest =>
    obtain ⟨hs, F, d, mA, mc, uA, uc, rfl, rfl, hh, hhl, hsub, hr, hmw⟩ := hcut
    have HH := hide hh
    have HRR := hide hr
    have hlen := F.len hr.ok
    have hroom := hr.room
    have H0 := hide hsub
    have HM0 := hide hmw
    clear hh hr hsub hmw HS2 HMM HR
    go_wp2_with fail
    refine (copy_any H0.out.at_ (by omega)).mono ?_
    rintro e w4 ⟨q1, e1, rfl, hg, hbC, hq, he0⟩
    have X1 : Sub w w4 w.heap.size q1 e1 F := ⟨hg, belFrom H0.out.below hbC, Nat.le_trans H0.out.below.size hq, fun g e => Nat.le_trans H0.out.below.size (he0 g e)⟩
    have a01 : Ap p q1 d e1 := ⟨by have := H0.out.at_.lt; omega, fun g hd he => by have h1 := (H0.out.at_.dlt g hd).2; have h2 := he0 g he; omega⟩
    have H1 := hide X1
    have A01 := hide a01
    replace H0 := hide (H0.out.later hbC)
    replace HM0 := hide (HM0.out.bel hbC)
    clear X1 a01 hg hbC hq he0
    go_wp2_with fail
    refine (copy_any H0.out.at_ (by omega)).mono ?_
    rintro e w5 ⟨q2, e2, rfl, hg, hbC, hq, he0⟩
    have X1 : Sub w w5 w.heap.size q2 e2 F := ⟨hg, belFrom H0.out.below hbC, Nat.le_trans H0.out.below.size hq, fun g e => Nat.le_trans H0.out.below.size (he0 g e)⟩
    have a02 : Ap p q2 d e2 := ⟨by have := H0.out.at_.lt; omega, fun g hd he => by have h1 := (H0.out.at_.dlt g hd).2; have h2 := he0 g he; omega⟩
    have a12 : Ap q1 q2 e1 e2 := ⟨by have := H1.out.at_.lt; omega, fun g hd he => by have h1 := (H1.out.at_.dlt g hd).2; have h2 := he0 g he; omega⟩
    have H2 := hide X1
    have A02 := hide a02
    have A12 := hide a12
    replace H0 := hide (H0.out.later hbC)
    replace H1 := hide (H1.out.later hbC)
    replace HM0 := hide (HM0.out.bel hbC)
    clear X1 a02 a12 hg hbC hq he0
    go_wp2_with fail
    refine (copy_any H0.out.at_ (by omega)).mono ?_
    rintro e w6 ⟨q3, e3, rfl, hg, hbC, hq, he0⟩
    have X1 : Sub w w6 w.heap.size q3 e3 F := ⟨hg, belFrom H0.out.below hbC, Nat.le_trans H0.out.below.size hq, fun g e => Nat.le_trans H0.out.below.size (he0 g e)⟩
    have a03 : Ap p q3 d e3 := ⟨by have := H0.out.at_.lt; omega, fun g hd he => by have h1 := (H0.out.at_.dlt g hd).2; have h2 := he0 g he; omega⟩
    have a13 : Ap q1 q3 e1 e3 := ⟨by have := H1.out.at_.lt; omega, fun g hd he => by have h1 := (H1.out.at_.dlt g hd).2; have h2 := he0 g he; omega⟩
    have a23 : Ap q2 q3 e2 e3 := ⟨by have := H2.out.at_.lt; omega, fun g hd he => by have h1 := (H2.out.at_.dlt g hd).2; have h2 := he0 g he; omega⟩
    have H3 := hide X1
    have A03 := hide a03
    have A13 := hide a13
    have A23 := hide a23
    replace H0 := hide (H0.out.later hbC)
    replace H1 := hide (H1.out.later hbC)
    replace H2 := hide (H2.out.later hbC)
    replace HM0 := hide (HM0.out.bel hbC)
    clear X1 a03 a13 a23 hg hbC hq he0
    obtain ⟨L, hL⟩ : ∃ L, L = F.loose := ⟨_, rfl⟩
    have HLL := hide hL
    have hL2 : L ≤ 1900 := by omega
    obtain ⟨k, hk⟩ : ∃ k : Nat, (keep : Int) % ((L : Int) + 1) = k := ⟨((keep : Int) % ((L : Int) + 1)).toNat, by have := Int.emod_nonneg (keep : Int) (show ((L : Int) + 1) ≠ 0 by omega); omega⟩
    have hkL : k ≤ L := by have := Int.emod_lt_of_pos (keep : Int) (show (0 : Int) < (L : Int) + 1 by omega); omega
    go_wp2_with fail
    refine (loose_any H0.out.at_ (by omega)).mono ?_
    rintro e w7 ⟨rfl, rfl⟩
    rw [← hL]
    clear hL
    go_wp2_with fail
    have hk1 : (F.crash k).1 = k := by
      show (crashL F.deeds k 0 F.safe).1 = k
      rw [crashL_kept F.deeds k 0 F.safe (Nat.zero_le _)]
      have := HLL.out
      unfold Fl.loose at this
      omega
    obtain ⟨r, hcr⟩ : ∃ r, F.crash k = (k, .rest r) := ⟨(crashL F.deeds k 0 F.safe).2, Prod.ext hk1 rfl⟩
    have HCR := hide hcr
    have hrl : r.length ≤ 1900 := by
      have h1 := crashL_len F.deeds k 0 F.safe
      have h2 : r = (crashL F.deeds k 0 F.safe).2 := (congrArg (fun x => x.2.safe) hcr).symm
      rw [h2]
      have h3 : loose F.deeds = F.loose := rfl
      omega
    clear hk1 hcr
    refine (crash_any H0.out.at_ k (by omega) (by omega)).mono ?_
    rintro e w8 ⟨rfl, d', h2, S, hd⟩
    rw [HCR.out] at h2 ⊢
    have H1' := hide (H1.out.other H0.out S A01.out)
    have H2' := hide (H2.out.other H0.out S A02.out)
    have H3' := hide (H3.out.other H0.out S A03.out)
    have H0' := hide (H0.out.step h2 S hd)
    have A01' := hide (A01.out.step hd H1.out.at_)
    have A02' := hide (A02.out.step hd H2.out.at_)
    have A03' := hide (A03.out.step hd H3.out.at_)
    replace HM0 := hide (HM0.out.stp S)
    clear h2 S hd H0 H1 H2 H3 A01 A02 A03
    simp only []
    go_wp2_with fail
    refine (crash_any H1'.out.at_ 0 (by omega) (by omega)).mono ?_
    rintro e w9 ⟨rfl, e1', h2, S, hd⟩
    rw [Fl.crash0, HH.out.safe] at h2
    have H0 := hide (H0'.out.other H1'.out S A01'.out.symm)
    have H2 := hide (H2'.out.other H1'.out S A12.out)
    have H3 := hide (H3'.out.other H1'.out S A13.out)
    have H1 := hide (H1'.out.step h2 S hd)
    have A12' := hide (A12.out.step hd H2'.out.at_)
    have A13' := hide (A13.out.step hd H3'.out.at_)
    replace HM0 := hide (HM0.out.stp S)
    clear h2 S hd H0' H1' H2' H3' A01' A12 A13
    go_wp2_with fail
    refine (crash_any H2.out.at_ 1073741824 (by omega) (by omega)).mono ?_
    rintro e w10 ⟨rfl, e2', h2, S, hd⟩
    rw [Fl.crash_all HRR.out.ok (by omega)] at h2
    have H0' := hide (H0.out.other H2.out S A02'.out.symm)
    have H1' := hide (H1.out.other H2.out S A12'.out.symm)
    have H3' := hide (H3.out.other H2.out S A23.out)
    have H2' := hide (H2.out.step h2 S hd)
    have A23' := hide (A23.out.step hd H3.out.at_)
    replace HM0 := hide (HM0.out.stp S)
    clear h2 S hd H0 H1 H2 H3 A02' A12' A23
    go_wp2_with fail
    refine (sync_any H3'.out.at_ (by omega)).mono ?_
    rintro e w11 ⟨rfl, e3', h2, S, hd⟩
    have H0 := hide (H0'.out.other H3'.out S A03'.out.symm)
    have H1 := hide (H1'.out.other H3'.out S A13'.out.symm)
    have H2 := hide (H2'.out.other H3'.out S A23'.out.symm)
    have H3 := hide (H3'.out.step h2 S hd)
    replace HM0 := hide (HM0.out.stp S)
    clear h2 S hd H0' H1' H2' H3' A03' A13' A23'
    go_upto_region 17 with fail
    obtain ⟨vs, hv1, hv2⟩ := HM0.out.moms
    have hp := HH.out.pos
    obtain ⟨gm, mc', hmv, hgm1, hgm2⟩ := own_form hv1 hp
    injection hmv with hmv _ hmv3
    subst hmv hmv3
    obtain ⟨AM, cM, hm0, om0⟩ := hv2.at_ HH.out.first
    obtain ⟨AL, cLc, hmL, omL⟩ := hv2.at_ HH.out.last
    obtain ⟨nh, hnh⟩ : ∃ nh, nh = hs.length := ⟨_, rfl⟩
    have HNH := hide hnh
    have cell0 : w11.cell? ⟨gm, 0, none⟩ = some (.slice AM bb.length cM) := by rw [World.ownsRow.cellAt hv1 0 (by omega)]; exact hm0
    have cellL : w11.cell? ⟨gm, nh - 1, none⟩ = some (.slice AL F.now.length cLc) := by rw [World.ownsRow.cellAt hv1 (nh - 1) (by omega), hnh]; exact hmL
    have om0' : Own5 w11 w.heap.size (.slice AM bb.length cM) bb := om0
    have hK : ∀ W, Below w11.heap.size w11 W → W.cell? ⟨gm, 0, none⟩ = some (.slice AM bb.length cM) ∧ W.cell? ⟨gm, nh - 1, none⟩ = some (.slice AL F.now.length cLc) ∧ Below w11.heap.size w11 W := fun W hW =>
      ⟨by rw [hW.cell (p := ⟨gm, 0, none⟩) hgm2]; exact cell0, by rw [hW.cell (p := ⟨gm, nh - 1, none⟩) hgm2]; exact cellL, hW⟩
    have HK := hide hK
    have HM1 := hide om0'
    have HML := hide omL
    have B0 : Below w11.heap.size w11 w11.drew := ⟨rfl, rfl, rfl, Nat.le_refl _, fun _ _ => rfl⟩
    have cA1 : ∀ W, Below w11.heap.size w11 W → Calls Try.prog 8 #[.pointer (some ⟨q1, 0, none⟩)] W fun e w' => ∃ A' c', e = .returned (.slice A' bb.length c') ∧ Own5 w' w.heap.size (.slice A' bb.length c') bb ∧ Below w11.heap.size w11 w' ∧ Below W.heap.size W w' := fun W hW =>
      (all_any (H1.out.at_.below hW) (by show bb.length ≤ _; omega)).mono fun e w' ⟨A', c', he, ho, hb⟩ => ⟨A', c', he, own_mono ho (Nat.le_trans H1.out.below.size hW.size), belFrom hW hb, hb⟩
    have cA2 : ∀ W, Below w11.heap.size w11 W → Calls Try.prog 8 #[.pointer (some ⟨q2, 0, none⟩)] W fun e w' => ∃ A' c', e = .returned (.slice A' F.now.length c') ∧ Own5 w' w.heap.size (.slice A' F.now.length c') F.now ∧ Below w11.heap.size w11 w' ∧ Below W.heap.size W w' := fun W hW =>
      (all_any (H2.out.at_.below hW) (by show F.now.length ≤ _; omega)).mono fun e w' ⟨A', c', he, ho, hb⟩ => ⟨A', c', he, own_mono ho (Nat.le_trans H2.out.below.size hW.size), belFrom hW hb, hb⟩
    have cA3 : ∀ W, Below w11.heap.size w11 W → Calls Try.prog 8 #[.pointer (some ⟨q3, 0, none⟩)] W fun e w' => ∃ A' c', e = .returned (.slice A' F.now.length c') ∧ Own5 w' w.heap.size (.slice A' F.now.length c') F.now ∧ Below w11.heap.size w11 w' ∧ Below W.heap.size W w' := fun W hW =>
      (all_any (H3.out.at_.below hW) (by show F.now.length ≤ _; omega)).mono fun e w' ⟨A', c', he, ho, hb⟩ => ⟨A', c', he, own_mono ho (Nat.le_trans H3.out.below.size hW.size), belFrom hW hb, hb⟩
    have cL : ∀ W, Below w11.heap.size w11 W → Calls Try.prog 10 #[.pointer (some ⟨p, 0, none⟩)] W fun e w' => e = .returned (.int .i64 0) ∧ W = w' := fun W hW => loose_any (H0.out.at_.below hW) (by show 0 ≤ _; omega)
    have cS : ∀ W, Below w11.heap.size w11 W → Calls Try.prog 14 #[.pointer (some ⟨p, 0, none⟩)] W fun e w' => e = .returned (.int .i64 r.length) ∧ W = w' := fun W hW => safe_any (H0.out.at_.below hW)
    have cZ : ∀ W, Below w11.heap.size w11 W → Calls Try.prog 15 #[.pointer (some ⟨p, 0, none⟩)] W fun e w' => e = .returned (.int .i64 r.length) ∧ W = w' := fun W hW => size_any (H0.out.at_.below hW)
    have CA1 := hide cA1
    have CA2 := hide cA2
    have CA3 := hide cA3
    have CL := hide cL
    have CS := hide cS
    have CZ := hide cZ
    have hgm : Hid (gm < w11.heap.size) := hgm2
    have hnh1 : 1 ≤ nh := by omega
    have hnh2 : nh ≤ 31 := by omega
    rw [← hnh]
    clear hv1 hv2 hm0 om0 om0' hmL omL cell0 cellL hK cA1 cA2 cA3 cL cS cZ hp hnh hgm1 hgm2
    have hn0 : (0 : Int) < (nh : Int) := by omega
    have hn00 : 0 < nh := by omega
    have hn1 : (0 : Int) ≤ (nh : Int) - 1 := by omega
    have hn2 : (nh : Int) - 1 < (nh : Int) := by omega
    have hn4 : (1 : Int) ≤ (nh : Int) := by omega
    have hn3 : ((nh : Int) - 1).toNat = nh - 1 := by omega
    have hnw : IntKind.i64.wrap ((nh : Int) - 1) = (nh : Int) - 1 := IntWalk.i64_in _ ⟨by omega, by omega⟩
    go_region_held3 (fun W => W.cell? ⟨gm, 0, none⟩ = some (.slice AM bb.length cM) ∧ W.cell? ⟨gm, nh - 1, none⟩ = some (.slice AL F.now.length cLc) ∧ Below w11.heap.size w11 W) (exact HK.out _ (by assumption)) (first | (go_at_call 10; (with_reducible refine (CL.out _ (by assumption)).mono ?_); rintro e w12 ⟨rfl, rfl⟩) | (go_at_call 14; (with_reducible refine (CS.out _ (by assumption)).mono ?_); rintro e w12 ⟨rfl, rfl⟩) | (go_at_call 15; (with_reducible refine (CZ.out _ (by assumption)).mono ?_); rintro e w12 ⟨rfl, rfl⟩) | (go_at_call 8; (with_reducible refine (CA1.out _ (by assumption)).mono ?_); rintro e w12 ⟨A1, a1, rfl, ho1, hb1, hc1⟩) | (go_at_call 8; (with_reducible refine (CA2.out _ (by assumption)).mono ?_); rintro e w13 ⟨A2, a2, rfl, ho2, hb2, hc2⟩) | (go_at_call 8; (with_reducible refine (CA3.out _ (by assumption)).mono ?_); rintro e w14 ⟨A3, a3, rfl, ho3, hb3, hc3⟩) | (go_at_call 16; (with_reducible refine (bytesEqual_same A1 AM bb.length a1 bb.length cM _ _ bb _ (bs_own ho1) (bs_own (own_bel HM1.out hb1))).mono ?_); rintro e w15 ⟨rfl, rfl⟩) | (go_at_call 16; (with_reducible refine (bytesEqual_same A2 A3 F.now.length a2 F.now.length a3 _ _ F.now _ (bs_own (own_bel ho2 hc3)) (bs_own ho3)).mono ?_); rintro e w15 ⟨rfl, rfl⟩) | (go_at_call 16; (with_reducible refine (bytesEqual_same A2 AL F.now.length a2 F.now.length cLc _ _ F.now _ (bs_own ho2) (bs_own (own_bel HML.out hb2))).mono ?_); rintro e w15 ⟨rfl, rfl⟩) | fail)
    go_wp2_with fail
    have hB13 : Below w11.heap.size w11 w13 := (‹_ ∧ _ ∧ Below w11.heap.size w11 w13›).2.2
    clear CA1 CA2 CA3 CL CS CZ HM1 HML HK hn0 hn00 hn1 hn2 hn3 hn4 hnw
    have hmz := HM0.out.bel hB13
    obtain ⟨gu, uc', huv, hgu1, hgu2⟩ := own_form hmz.units HH.out.pos
    injection huv with huv _ huv3
    subst huv huv3
    have hcu : ∀ i G, hs[i]? = some G → w13.cell? ⟨gu, i, none⟩ = some (.int .i64 (G.loose : Int)) := fun i G hG => by
      have hi := (List.getElem?_eq_some_iff.1 hG).1
      rw [World.ownsRow.cellAt hmz.units i (by omega)]
      simp [hG]
    have HCU := hide hcu
    have HMZ := hide hmz
    have HB13 := hide hB13
    clear hcu hmz hB13
    go_loop [18, 19, 20, 128] (fun v18 _ _ v128 => ∃ (i t : Nat) (G : Fl), i ≤ nh ∧ t ≤ i ∧ v128 = .int .i64 i ∧ v18 = .int .i64 t ∧ Hid (hs[t]? = some G) ∧ Hid (G.loose ≤ k) ∧ Hid (∀ j G', t < j → j < i → hs[j]? = some G' → k < G'.loose)) (fun _ _ _ v128 => nh - (intOf v128).toNat)
    case atStart => exact ⟨0, 0, .rest bb, by omega, by omega, rfl, rfl, hide HH.out.first, hide (Nat.zero_le _), hide (fun j G' h1 h2 => by omega)⟩
    case round =>
      obtain ⟨i, t, G, hi, hti, rfl, rfl, HG, HGK, HJ⟩ := hrel
      by_cases hlt : i < nh
      · obtain ⟨G1, hG1⟩ : ∃ G1, hs[i]? = some G1 := ⟨hs[i]'(by rw [← HNH.out]; exact hlt), List.getElem?_eq_getElem _⟩
        have hc1 := HCU.out i G1 hG1
        have HG1 := hide hG1
        clear hG1
        obtain ⟨g1, hg1⟩ : ∃ g1, g1 = G1.loose := ⟨_, rfl⟩
        rw [← hg1] at hc1
        have HGG := hide hg1
        clear hg1
        by_cases hle : g1 ≤ k
        · have hleI : (g1 : Int) ≤ (k : Int) := by omega
          go_wp2_with fail
          go_round
          case rel => exact ⟨i + 1, i, G1, by omega, by omega, by go_num, rfl, HG1, hide (by rw [← HGG.out]; exact hle), hide (fun j G' h1 h2 => by omega)⟩
          case measure => simp [intOf]; omega
        · have hleI : ¬ (g1 : Int) ≤ (k : Int) := by omega
          go_wp2_with fail
          go_round
          case rel => exact ⟨i + 1, t, G, by omega, by omega, by go_num, rfl, HG, HGK, hide (fun j G' h1 h2 h3 => by
            rcases Nat.lt_or_ge j i with hj | hj
            · exact HJ.out j G' h1 hj h3
            · obtain rfl : j = i := by omega
              rw [HG1.out] at h3
              cases h3
              rw [← HGG.out]; omega)⟩
          case measure => simp [intOf]; omega
      · obtain rfl : i = nh := by omega
        have hnl : ¬ (i : Int) < i := by omega
        have hti : t < i := by
          have := (List.getElem?_eq_some_iff.1 HG.out).1
          rw [HNH.out]
          exact this
        have hnx : ∀ G', hs[t + 1]? = some G' → k < G'.loose := fun G' h3 => HJ.out (t + 1) G' (by omega) (by have := (List.getElem?_eq_some_iff.1 h3).1; rw [HNH.out]; exact this) h3
        have hlaw := HH.out.law (by rw [← HLL.out]; exact hkL) HG.out HGK.out hnx
        rw [HCR.out] at hlaw
        have hc1 := HCU.out t G HG.out
        obtain ⟨g1, hg1⟩ : ∃ g1, g1 = G.loose := ⟨_, rfl⟩
        rw [← hg1] at hc1 hlaw
        have hg1k : g1 ≤ k := by rw [hg1]; exact HGK.out
        have HLAW := hide hlaw
        have ht0 : (0 : Int) ≤ (t : Int) := by omega
        have ht1 : (t : Int) < (i : Int) := by omega
        obtain ⟨vs2, hv1, hv2⟩ := HMZ.out.moms
        obtain ⟨AT, cT, hmT, omT⟩ := hv2.at_ HG.out
        have cellT : w13.cell? ⟨gm, t, none⟩ = some (.slice AT G.now.length cT) := by rw [World.ownsRow.cellAt hv1 t (by have := HNH.out; omega)]; exact hmT
        have hgm13 : gm < w13.heap.size := Nat.lt_of_lt_of_le hgm.out HB13.out.size
        have HOT := hide omT
        have cA0 : ∀ W, Below w13.heap.size w13 W → Calls Try.prog 8 #[.pointer (some ⟨p, 0, none⟩)] W fun e w' => ∃ A' c', e = .returned (.slice A' r.length c') ∧ Own5 w' w.heap.size (.slice A' r.length c') r ∧ Below w13.heap.size w13 w' := fun W hW =>
          (all_any (((H0.out.later HB13.out).later hW).at_) (by show r.length ≤ _; omega)).mono fun e w' ⟨A', c', he, ho, hb⟩ => ⟨A', c', he, own_mono ho ((H0.out.later HB13.out).later hW).below.size, belFrom hW hb⟩
        have cW : ∀ W, Below w13.heap.size w13 W → Calls Try.prog 17 #[] W fun e w' => e = .returned (.bool true) ∧ Below w13.heap.size w13 w' := fun W hW =>
          (wakes_any W).mono fun e w' ⟨he, hb⟩ => ⟨he, belFrom hW hb⟩
        have CA0 := hide cA0
        have CW := hide cW
        have hret : ∀ W, Below w13.heap.size w13 W → Below w.heap.size w W := fun W hW => belFrom (H0.out.later HB13.out).below hW
        have HRET := hide hret
        clear cA0 cW hnx hg1 hmT omT hret
        by_cases heq : g1 = k
        · have heqB : ((g1 : Int) == (k : Int)) = true := by simp; omega
          have hrG : r = G.now := by
            have h1 := hlaw.1 heq
            injection h1 with _ h2
            have := congrArg (fun x => x.now) h2
            exact this
          have hK : ∀ W, Below w13.heap.size w13 W → W.cell? ⟨gm, t, none⟩ = some (.slice AT r.length cT) ∧ Below w13.heap.size w13 W := fun W hW =>
            ⟨by rw [hW.cell (p := ⟨gm, t, none⟩) hgm13, hrG]; exact cellT, hW⟩
          have HK := hide hK
          have omT : Own5 w13 w.heap.size (.slice AT r.length cT) r := by rw [hrG]; exact HOT.out
          have HOT2 := hide omT
          have B0 : Below w13.heap.size w13 w13.drew := ⟨rfl, rfl, rfl, Nat.le_refl _, fun _ _ => rfl⟩
          clear hlaw hrG hv1 hv2 cellT hK omT
          go_wp2_with fail
          go_region_held3 (fun W => W.cell? ⟨gm, t, none⟩ = some (.slice AT r.length cT) ∧ Below w13.heap.size w13 W) (exact HK.out _ (by assumption)) (first | (go_at_call 8; (with_reducible refine (CA0.out _ (by assumption)).mono ?_); rintro e w14 ⟨A0, a0, rfl, ho0, hb0⟩) | (go_at_call 17; (with_reducible refine (CW.out _ (by assumption)).mono ?_); rintro e w15 ⟨rfl, hb15⟩) | (go_at_call 16; (with_reducible refine (bytesEqual_same A0 AT r.length a0 r.length cT _ _ r _ (bs_own ho0) (bs_own (own_bel HOT2.out hb0))).mono ?_); rintro e w15 ⟨rfl, rfl⟩) | fail)
          go_wp2_with fail
          go_ret
          exact ⟨rfl, HRET.out _ (by assumption)⟩
        · have heqB : ((g1 : Int) == (k : Int)) = false := by simp; omega
          obtain ⟨G', l, hG', hnow, hlen2, hcr⟩ := hlaw.2 heq
          have hrG : r = G.now ++ l.take (k - g1) := by
            injection hcr with _ h2
            have := congrArg (fun x => x.now) h2
            exact this
          have hrl2 : r.length = G.now.length + (k - g1) := by
            rw [hrG, List.length_append, List.length_take]
            omega
          have hrt : G'.now.take r.length = r := by
            rw [hrl2, hnow, hrG, List.take_length_add_append]
          have hgt : G'.now.take G.now.length = G.now := by rw [hnow, List.take_left']; rfl
          have hgl : G'.now.length = G.now.length + l.length := by rw [hnow, List.length_append]
          have htn : t + 1 < i := by have := (List.getElem?_eq_some_iff.1 hG').1; rw [HNH.out]; exact this
          obtain ⟨AU, cU, hmU, omU⟩ := hv2.at_ hG'
          obtain ⟨hcU1, hcU2⟩ := own5_cap omU
          obtain ⟨hcT1, hcT2⟩ := own5_cap HOT.out
          unfold maxLen at hcU2 hcT2
          have hK : ∀ W, Below w13.heap.size w13 W → W.cell? ⟨gm, t, none⟩ = some (.slice AT G.now.length cT) ∧ W.cell? ⟨gm, t + 1, none⟩ = some (.slice AU G'.now.length cU) ∧ W.cell? ⟨gu, t, none⟩ = some (.int .i64 (g1 : Int)) ∧ Below w13.heap.size w13 W := fun W hW =>
            ⟨by rw [hW.cell (p := ⟨gm, t, none⟩) hgm13]; exact cellT, by rw [hW.cell (p := ⟨gm, t + 1, none⟩) hgm13, World.ownsRow.cellAt hv1 (t + 1) (by have := HNH.out; omega)]; exact hmU, by rw [hW.cell (p := ⟨gu, t, none⟩) hgu2]; exact hc1, hW⟩
          have HK := hide hK
          have HOU := hide omU
          have B0 : Below w13.heap.size w13 w13.drew := ⟨rfl, rfl, rfl, Nat.le_refl _, fun _ _ => rfl⟩
          have hq1 : r.length ≤ cU := by omega
          have hq2 : r.length ≤ G'.now.length := by omega
          have hq3 : G.now.length ≤ G'.now.length := by omega
          have hq5 : cU ≤ 9223372036854775807 := by omega
          have hq6 : G'.now.length ≤ cU := by omega
          have hqi : (r.length : Int) ≤ (cU : Int) := by omega
          have hq0 : (0 : Int) ≤ (r.length : Int) := by omega
          have htI : (t : Int) + 1 < (i : Int) := by omega
          have htI0 : (0 : Int) ≤ (t : Int) + 1 := by omega
          have htw : IntKind.i64.wrap ((t : Int) + 1) = (t : Int) + 1 := IntWalk.i64_in _ ⟨by omega, by omega⟩
          have htn2 : ((t : Int) + 1).toNat = t + 1 := by omega
          have hsw : IntKind.i64.wrap ((G.now.length : Int) + (k : Int)) = (G.now.length : Int) + (k : Int) := IntWalk.i64_in _ ⟨by omega, by omega⟩
          have hsw2 : IntKind.i64.wrap ((G.now.length : Int) + (k : Int) - (g1 : Int)) = (r.length : Int) := by rw [IntWalk.i64_in _ ⟨by omega, by omega⟩]; omega
          have HRT := hide hrt
          have HGT := hide hgt
          clear hlaw hrG hv1 hv2 cellT hK hcr hnow hrl2 hgl hG' hrt hgt hmU omU hcU1 hcU2 hcT1 hcT2 hlen2
          go_wp2_with fail
          go_region_held3 (fun W => W.cell? ⟨gm, t, none⟩ = some (.slice AT G.now.length cT) ∧ W.cell? ⟨gm, t + 1, none⟩ = some (.slice AU G'.now.length cU) ∧ W.cell? ⟨gu, t, none⟩ = some (.int .i64 (g1 : Int)) ∧ Below w13.heap.size w13 W) (exact HK.out _ (by assumption)) (first | (go_at_call 8; (with_reducible refine (CA0.out _ (by assumption)).mono ?_); rintro e w14 ⟨A0, a0, rfl, ho0, hb0⟩) | (go_at_call 17; (with_reducible refine (CW.out _ (by assumption)).mono ?_); rintro e w15 ⟨rfl, hb15⟩) | (go_at_call 16; (with_reducible refine (bytesEqual_same A0 AU r.length a0 r.length cU _ _ r _ (bs_own ho0) (bs_take2 (bs_own (own_bel HOU.out hb0)) hq2 HRT.out)).mono ?_); rintro e w15 ⟨rfl, rfl⟩) | (go_at_call 18; (with_reducible refine (hasPrefix_yes2 AU AT G'.now.length cU G.now.length cT _ _ G'.now G.now _ (bs_own (own_bel HOU.out hb0)) (bs_own (own_bel HOT.out hb0)) HGT.out hq3 hq6 hq5).mono ?_); rintro e w15 ⟨rfl, rfl⟩) | fail)
          go_wp2_with fail
          go_ret
          exact ⟨rfl, HRET.out _ (by assumption)⟩
end Go.Proofs.Ythkflglmgadlmaa
