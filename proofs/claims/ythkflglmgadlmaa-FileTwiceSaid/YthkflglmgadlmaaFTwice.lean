/-
  THE WALK of FileTwice: crash by crash. Conditions: as the theorem's premises say.
-/
import Derived.Test.YthkflglmgadlmaaFAct
import Derived.Deep.CutBlock
namespace Go.Proofs.Ythkflglmgadlmaa
open Go.RowKit

set_option maxRecDepth 100000 in
set_option maxHeartbeats 2000000 in
theorem twice_any (A : Option Addr) (n c : Nat) (b : List UInt8) (LA : Option Addr) (ln lc : Nat) (acts : List Ac) (hal : ln = acts.length) (keep : Nat) (hkeep : keep ≤ 65535) (w : World) (hb : Bs w w.heap.size A n b) (hl : ActsAt w w.heap.size LA acts) (hnc : n ≤ c) (hc : c ≤ 9223372036854775807) (hln : ln ≤ 9223372036854775807) :
    Calls Try.prog 5 #[.slice A n c, .slice LA ln lc, .int .u16 keep] w fun e w' => e = .returned (.bool true) ∧ Below w.heap.size w w' := by
  obtain ⟨m, hm⟩ : ∃ m : Nat, (if (100 : Int) < (n : Int) then (100 : Int) else (n : Int)) = m := ⟨min n 100, by split <;> omega⟩
  have hm1 : m ≤ n := by split at hm <;> omega
  have hm2 : m ≤ 100 := by split at hm <;> omega
  have hm3 : m ≤ c := by omega
  have HAL := hide hal
  have HB := hide (bs_take hb hm1)
  have HL := hide hl
  clear hal hb hl
  go_enter Try.func5, Try.ntmps5
  go_wp2_with fail
  refine (new_any _ m c w.heap.size (b.take m) _ HB.out (by omega) (Nat.le_refl _)).mono ?_
  rintro e w1 ⟨p, d0, rfl, h1, hb1⟩
  have hr0 : (Fl.rest (b.take m)).Room 100 := ⟨Fl.ok_rest _, by have := List.length_take_le m b; show (b.take m).length + 0 ≤ 100; omega⟩
  have HS := hide (Sub.new h1 hb1)
  have HR := hide hr0
  clear h1 hb1 hr0 hm
  go_upto_block 0 with fail
  go_cut [] (fun W => ∃ (F : Fl) (d : Option Nat), Sub w W w.heap.size p d F ∧ F.Room 1900)
  case first =>
    go_wp2_with fail
    go_loopw [8, 9, 22] (fun _ _ v22 W => ∃ (i : Nat) (F : Fl) (d : Option Nat), i ≤ 30 ∧ i ≤ ln ∧ v22 = .int .i64 i ∧ Sub w W w.heap.size p d F ∧ F.Room (100 + 60 * i)) (fun _ _ v22 _ => ln - (intOf v22).toNat)
    case atStart => exact ⟨0, _, d0, by omega, by omega, rfl, HS.out, HR.out⟩
    case round =>
      obtain ⟨i, F, d, hi30, hin, rfl, hs, hr⟩ := hrel
      by_cases hlt : i < ln
      · obtain ⟨ad, a, rfl, hab, ha, hmem, c0, c1, c2, c3⟩ := (HL.out.below hs.below).at_ (k := i) (by have := HAL.out; omega)
        by_cases h30 : i = 30
        · have h30' : ((i : Int) == 30) = true := by simp; omega
          have HI := hide hi30
          clear h30 hi30
          go_wp2_with fail
          go_meet
          case rel => exact ⟨F, d, hs.later (bel1 _ _), hr.ok, by have h1 := hr.room; have h2 := HI.out; omega⟩
        · have h30' : ((i : Int) == 30) = false := by simp; omega
          have hi31 : i < 30 := by omega
          have hbs := HL.out.bs a hmem
          obtain ⟨hcp1, hcp2⟩ := HL.out.cap a hmem
          have hloose := F.count hr.ok
          have hlen := F.len hr.ok
          have hroom := hr.room
          have hs2 := hs.later (bel1 wr (.cells #[.int .i64 a.x, .int .i64 a.n, .int .i64 a.m, .slice a.A a.bn a.bc] 31))
          have c4 := does_any hs2.at_ a.x a.n a.m a.A a.l (hbs.below hs2.below) (hs2.below.size) hcp1 hcp2 (by omega) (by omega)
          have C4 := hide c4
          have HS2 := hide hs2
          have HRR := hide hr
          clear c4 hs hs2 hr hbs ha hmem h30
          go_wp2_with fail
          refine C4.out.mono ?_
          rintro e w3 ⟨rfl, F', d', hdid, h2, S, hd⟩
          go_wp2_with fail
          go_roundw
          case rel => exact ⟨i + 1, F', d', by omega, by omega, by go_num, HS2.out.step h2 S hd, by have := hdid.room HRR.out; exact ⟨this.ok, by have := this.room; omega⟩⟩
          case measure => simp [intOf]; omega
      · go_wp2_with fail
        go_meet
        case rel => exact ⟨F, d, hs, hr.ok, by have := hr.room; omega⟩
  case rest =>
    obtain ⟨F, d, hs, hr⟩ := hcut
    have hlen := F.len hr.ok
    have hroom := hr.room
    have HF := hide hs
    have HRR := hide hr
    clear hs hr HS HR
    have hn1 : F.now.length ≤ 1900 := by omega
    go_wp2_with fail
    refine (copy_any HF.out.at_ (by omega)).mono ?_
    rintro e w2 ⟨q, e0, rfl, hg, hbC, hq, he0⟩
    have SG : Sub wc w2 w.heap.size q e0 F := ⟨hg, hbC, hq, he0⟩
    have HG := hide SG
    have HF2 := hide (HF.out.later hbC)
    clear SG hg hbC hq he0
    go_wp2_with fail
    refine (all_any HF2.out.at_ (by omega)).mono ?_
    rintro e w3 ⟨AW, aW, rfl, hoW, hb3⟩
    replace HG := hide (HG.out.later hb3)
    have HOW := hide (own_mono hoW (base' := w.heap.size) HF2.out.below.size)
    clear hoW hb3 HF2
    go_wp2_with fail
    refine (crash_any HG.out.at_ keep (by omega) (by omega)).mono ?_
    rintro e w4 ⟨rfl, e1, h2, S, hd⟩
    obtain ⟨b1, hb1⟩ : ∃ b1, (F.crash keep).2 = .rest b1 := ⟨_, rfl⟩
    have hbl : b1.length ≤ 1900 := by
      have h1 := crashL_len F.deeds keep 0 F.safe
      have h2 : b1 = (crashL F.deeds keep 0 F.safe).2 := by
        have : (F.crash keep).2 = .rest (crashL F.deeds keep 0 F.safe).2 := rfl
        rw [this] at hb1
        exact (congrArg Fl.safe hb1).symm
      rw [h2]
      unfold Fl.loose at hroom
      omega
    rw [hb1] at h2
    replace HG := hide (HG.out.step h2 S hd)
    replace HOW := hide (own_stp HOW.out S (by decide) (by decide))
    clear h2 S hd hb1
    go_wp2_with fail
    refine (all_any HG.out.at_ (by show b1.length ≤ _; omega)).mono ?_
    rintro e w5 ⟨AO, aO, rfl, hoO, hb5⟩
    replace HG := hide (HG.out.later hb5)
    replace HOW := hide (own_bel HOW.out hb5)
    have HOO := hide (show Own5 w5 w4.heap.size (.slice AO b1.length aO) b1 from hoO)
    rw [show (Fl.rest b1).now.length = b1.length from rfl]
    clear hoO hb5
    go_wp2_with fail
    refine (crash_any HG.out.at_ 0 (by omega) (by show b1.length + 0 ≤ _; omega)).mono ?_
    rintro e w6 ⟨rfl, e2, h2, S, hd⟩
    rw [rest_crash0] at h2 ⊢
    replace HG := hide (HG.out.step h2 S hd)
    replace HOW := hide (own_stp HOW.out S (by decide) (by decide))
    replace HOO := hide (own_stp HOO.out S (by decide) (by decide))
    clear h2 S hd
    go_wp2_with fail
    refine (copy_any HG.out.at_ (by show b1.length + 0 ≤ _; omega)).mono ?_
    rintro e w7 ⟨r, f0, rfl, hg, hbC, hq, he0⟩
    have SC : Sub w6 w7 w.heap.size r f0 (.rest b1) := ⟨hg, hbC, hq, he0⟩
    have HC := hide SC
    clear SC hg hbC hq he0
    go_wp2_with fail
    replace HC := hide (HC.out.later (bel1 w7 (.cells #[.int .u8 1] 5)))
    refine (append_any HC.out.at_ _ 1 [1] (bs_lit (Mk.new w7 5 _ _) rfl) (by simp) (by show b1.length + 1 ≤ _; omega) (by show 0 ≤ _; omega)).mono ?_
    rintro e w8 ⟨rfl, f1, h2, S, hd⟩
    replace HC := hide (HC.out.step h2 S hd)
    clear h2 S hd
    go_wp2_with fail
    refine (crash_any HC.out.at_ 5 (by omega) (by show b1.length + 1 ≤ _; omega)).mono ?_
    rintro e w9 ⟨rfl, f2, h2, S, hd⟩
    rw [app1_crash5] at h2 ⊢
    replace HC := hide (HC.out.step h2 S hd)
    replace HG := hide (HG.out.later HC.out.below)
    replace HOW := hide (own_bel HOW.out HC.out.below)
    replace HOO := hide (own_bel HOO.out HC.out.below)
    clear h2 S hd
    go_wp2_with fail
    refine (all_any HG.out.at_ (by show b1.length ≤ _; omega)).mono ?_
    rintro e w10 ⟨A1, a1, rfl, ho1, hb10⟩
    replace HG := hide (HG.out.later hb10)
    replace HC := hide (HC.out.later hb10)
    replace HOW := hide (own_bel HOW.out hb10)
    replace HOO := hide (own_bel HOO.out hb10)
    have HO1 := hide (show Own5 w10 w9.heap.size (.slice A1 b1.length a1) b1 from ho1)
    rw [show (Fl.rest b1).now.length = b1.length from rfl]
    clear ho1 hb10
    go_wp2_with fail
    refine (bytesEqual_any A1 AO b1.length a1 b1.length aO _ _ b1 b1 w10 (Reads.of_own HO1.out) (Reads.of_own HOO.out)).mono ?_
    rintro e w11 ⟨rfl, rfl⟩
    rw [show (b1 == b1) = true from beq_self_eq_true _]
    go_wp2_with fail
    refine (all_any HC.out.at_ (by show (b1 ++ [1]).length ≤ _; simp; omega)).mono ?_
    rintro e w12 ⟨A2, a2, rfl, ho2, hb12⟩
    replace HG := hide (HG.out.later hb12)
    replace HOW := hide (own_bel HOW.out hb12)
    rw [show (Fl.rest (b1 ++ [1])).now.length = b1.length + 1 by show (b1 ++ [1]).length = _; simp]
    clear ho2 HO1 HOO
    obtain ⟨bl, hbl2⟩ : ∃ bl, bl = b1.length := ⟨_, rfl⟩
    have HBL := hide hbl2
    rw [← hbl2] at hbl ⊢
    clear hbl2
    have hcast : ((bl + 1 : Nat) : Int) = (bl : Int) + 1 := by omega
    go_wp2_with fail
    clear hcast
    refine (all_any (HF.out.later HG.out.below).at_ (by omega)).mono ?_
    rintro e w13 ⟨A3, a3, rfl, ho3, hb13⟩
    replace HG := hide (HG.out.later hb13)
    replace HOW := hide (own_bel HOW.out hb13)
    have HO3 := hide ho3
    clear ho3 hb13
    go_wp2_with fail
    refine (bytesEqual_any A3 AW F.now.length a3 F.now.length aW _ _ F.now F.now w13 (Reads.of_own HO3.out) (Reads.of_own HOW.out)).mono ?_
    rintro e w14 ⟨rfl, rfl⟩
    rw [show (F.now == F.now) = true from beq_self_eq_true _]
    go_wp2_with fail
    refine (flip_bad HG.out.at_ bl 1 (.inr (by show (b1.length : Int) ≤ _; have := HBL.out; omega)) rfl (by show b1.length ≤ _; have := HBL.out; omega)).mono ?_
    rintro e w15 ⟨rfl, rfl⟩
    go_wp2_with fail
    refine (wakes_any _).mono ?_
    rintro e w16 ⟨rfl, hb16⟩
    go_wp2_with fail
    go_ret
    exact ⟨rfl, belFrom (belFrom HF.out.below HG.out.below) hb16⟩
end Go.Proofs.Ythkflglmgadlmaa
