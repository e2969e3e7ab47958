/-
  THE WALK of FileAppends: what is appended alone. Conditions: as the theorem's premises say.
-/
import Derived.Test.YthkflglmgadlmaaFAct
import Derived.Test.YthkflglmgadlmaaAppG
import Derived.Deep.CutBlock
namespace Go.Proofs.Ythkflglmgadlmaa
open Go.RowKit

theorem el22 : Try.prog.underlying 22 = some (.slice (Try.prog.elem 22)) := by kernel_rfl
theorem sz22 (w : World) : (sizeOf (Try.prog.elem 22)).run Try.prog w = .ok 1 w := by kernel_rfl
theorem slice_lh (A : Option Addr) (n c i k : Nat) (h : i + k ≤ c) (w : World) :
    (Instr.slice 22 (.slice A n c) (some (.int .i64 i)) (some (.int .i64 ((i : Int) + (k : Int)))) none).run Try.prog w = .ok (.slice (if c = i then A else A.map (·.add i)) k (c - i)) w := by
  rw [run_slice_lh w 22 A n c el22 .i64 .i64 i ((i : Int) + (k : Int)) (by omega) (by omega) (by omega), sz22]
  have e1 : ((i : Int) + (k : Int)).toNat = i + k := by omega
  simp only [Result.andThen, sliced, e1, Int.toNat_natCast, Nat.mul_one, Nat.add_sub_cancel_left]
theorem slice_l (A : Option Addr) (n c i : Nat) (h : i ≤ n) (w : World) :
    (Instr.slice 22 (.slice A n c) (some (.int .i64 i)) none none).run Try.prog w = .ok (.slice (if c = i then A else A.map (·.add i)) (n - i) (c - i)) w := by
  rw [run_slice_l w 22 A n c el22 .i64 i (by omega) (by omega), sz22]
  simp only [Result.andThen, sliced, Int.toNat_natCast, Nat.mul_one]
theorem slice_l2 (A : Option Addr) (n c i k : Nat) (h : i + k ≤ n) (w : World) :
    (Instr.slice 22 (.slice A n c) (some (.int .i64 ((i : Int) + (k : Int)))) none none).run Try.prog w = .ok (.slice (if c = i + k then A else A.map (·.add (i + k))) (n - (i + k)) (c - (i + k))) w := by
  have e1 : ((i + k : Nat) : Int) = (i : Int) + (k : Int) := by omega
  rw [← e1]
  exact slice_l A n c (i + k) h w
theorem sub_bs {w : World} {B : Nat} {A : Option Addr} {n c i k : Nat} {l : List UInt8} (h : Bs w B A n l) (hk : i + k ≤ n) (hnc : n ≤ c) : Bs w B (if c = i then A else A.map (·.add i)) k ((l.drop i).take k) := by
  rcases Nat.eq_zero_or_pos k with rfl | hk0
  · rw [List.take_zero]
    exact ⟨rfl, fun j u hu => by simp at hu⟩
  · rw [if_neg (by omega)]
    obtain ⟨ad, rfl, _, _⟩ := h.addr (by rw [List.length_map, h.len]; omega)
    exact bs_sub h hk

set_option maxHeartbeats 400000 in
theorem hasPrefix_yes (A A' : Option Addr) (n c m d B B' : Nat) (l l' : List UInt8) (w : World) (h : Bs w B A n l) (h' : Bs w B' A' m l') (hp : l.take m = l') (hmn : m ≤ n) (hnc : n ≤ c) (_hc : c ≤ 9223372036854775807) :
    Calls Try.prog 18 #[.slice A n c, .slice A' m d] w fun e w' => e = .returned (.bool true) ∧ w = w' := by
  have c1 := bytesEqual_any A A' m c m d B B' (l.take m) l' w (bs_take h hmn) h'
  rw [hp, show (l' == l') = true from beq_self_eq_true _] at c1
  have hmc : m ≤ c := by omega
  clear h h' hp
  have C1 := hide c1
  clear c1
  go_enter Try.func18, Try.ntmps18
  go_wp2_with fail
  refine C1.out.mono ?_
  rintro e w1 ⟨rfl, rfl⟩
  go_wp2_with fail
  go_ret
  exact ⟨rfl, rfl⟩
/-- deeds that only append -/
def Apps (ds : List Dd) (l : List UInt8) : Prop := ∃ ls : List (List UInt8), ds = ls.map Dd.add ∧ l = ls.flatten
theorem Apps.nil : Apps [] [] := ⟨[], rfl, rfl⟩
theorem Apps.app {F : Fl} {l : List UInt8} (h : Apps F.deeds l) (l' : List UInt8) : Apps (F.app l').deeds (l ++ l') := by
  obtain ⟨ls, h1, rfl⟩ := h
  unfold Fl.app
  split
  · rename_i h0
    rw [List.eq_nil_of_length_eq_zero h0, List.append_nil]
    exact ⟨ls, h1, rfl⟩
  · exact ⟨ls ++ [l'], by simp [Fl.done, h1], by simp⟩
theorem crash_apps : ∀ (ls : List (List UInt8)) (keep kept : Nat) (b : List UInt8), kept ≤ keep → crashL (ls.map Dd.add) keep kept b = (kept + min ls.flatten.length (keep - kept), b ++ ls.flatten.take (keep - kept))
  | [], keep, kept, b, h => by simp [crashL]
  | l :: ls, keep, kept, b, h => by
    simp only [List.map_cons, crashL, Dd.units, Dd.does]
    rw [crash_apps ls keep _ _ (by omega)]
    simp only [List.flatten_cons, List.length_append]
    congr 1
    · omega
    · by_cases hl : l.length ≤ keep - kept
      · rw [Nat.min_eq_left hl, List.take_length, List.take_append, List.take_of_length_le hl, List.append_assoc]
        congr 3
        omega
      · rw [Nat.min_eq_right (by omega), List.take_append_of_le_length (by omega)]
        have e : keep - (kept + (keep - kept)) = 0 := by omega
        rw [e, List.take_zero, List.append_nil]
theorem app_now (F : Fl) (l : List UInt8) : (F.app l).now = F.now ++ l := by
  unfold Fl.app
  split
  · rename_i h
    rw [List.eq_nil_of_length_eq_zero h, List.append_nil]
  · exact full_add l F.now
theorem app_safe (F : Fl) (l : List UInt8) : (F.app l).safe = F.safe := by
  unfold Fl.app
  split <;> rfl
theorem app_loose (F : Fl) (l : List UInt8) : (F.app l).loose = F.loose + l.length := by
  unfold Fl.app
  split
  · omega
  · exact Fl.loose_done F _

/-- what the file holds in the end -/
structure App5 (F : Fl) (b1 whole tl : List UInt8) : Prop where
  now : F.now = whole
  safe : F.safe = b1
  loose : F.loose = tl.length
  apps : Apps F.deeds tl
theorem app5 (b1 l2 l3 : List UInt8) : App5 (((Fl.rest b1).app l2).app l3) b1 (b1 ++ (l2 ++ l3)) (l2 ++ l3) := by
  refine ⟨?_, ?_, ?_, ?_⟩
  · rw [app_now, app_now]
    show (b1 ++ l2) ++ l3 = _
    rw [List.append_assoc]
  · rw [app_safe, app_safe]
    rfl
  · rw [app_loose, app_loose]
    show 0 + l2.length + l3.length = _
    simp
  · have := (Apps.app (F := Fl.rest b1) Apps.nil l2).app l3
    rwa [List.nil_append] at this
theorem App5.crash {F : Fl} {b1 whole tl : List UInt8} (h : App5 F b1 whole tl) (k : Nat) : F.crash k = (min tl.length k, .rest (b1 ++ tl.take k)) := by
  obtain ⟨ls, h1, rfl⟩ := h.apps
  unfold Fl.crash
  rw [h1, crash_apps ls k 0 F.safe (Nat.zero_le _), h.safe]
  simp
/-- two files, the first one turning -/
structure Two (V W : World) (bp p : Nat) (d : Option Nat) (F : Fl) (bq q : Nat) (e : Option Nat) (G : Fl) : Prop where
  f : Sub V W bp p d F
  g : FlAt W bq q e G
  ne : q ≠ p
  nd : ∀ k, e = some k → d ≠ some k
theorem Two.step {V W W' : World} {bp p : Nat} {d d' : Option Nat} {F F' : Fl} {bq q : Nat} {e : Option Nat} {G : Fl} (h : Two V W bp p d F bq q e G) (h2 : FlAt W' bp p d' F') (S : Stp W W' p d) (hd : NewD W d d') : Two V W' bp p d' F' bq q e G :=
  ⟨h.f.step h2 S hd, h.g.other S h.ne h.nd, h.ne, fun k hk hd' => by
    rcases hd k hd' with e1 | e1
    · exact h.nd k hk e1
    · have := (h.g.dlt k hk).2
      omega⟩
theorem Two.later {V W W' : World} {bp p : Nat} {d : Option Nat} {F : Fl} {bq q : Nat} {e : Option Nat} {G : Fl} (h : Two V W bp p d F bq q e G) (hb : Below W.heap.size W W') : Two V W' bp p d F bq q e G := ⟨h.f.later hb, h.g.below hb, h.ne, h.nd⟩

theorem Two.stepG {V W W' : World} {bp p : Nat} {d : Option Nat} {F : Fl} {bq q : Nat} {e e' : Option Nat} {G G' : Fl} (h : Two V W bp p d F bq q e G) (h2 : FlAt W' bq q e' G') (S : Stp W W' q e) (hd : NewD W e e') (hV : V.heap.size ≤ bq) : Two V W' bp p d F bq q e' G' :=
  ⟨⟨h.f.at_.other S (fun e1 => h.ne e1.symm) (fun k hk he => h.nd k he hk), h.f.below.trans (S.below (Nat.le_trans hV h.g.hp) (fun k hk => Nat.le_trans hV (h.g.dlt k hk).1) h.f.below.size), h.f.hq, h.f.he⟩, h2, h.ne, fun k hk hd' => by
    rcases hd k hk with e1 | e1
    · exact h.nd k e1 hd'
    · have := (h.f.at_.dlt k hd').2
      omega⟩

set_option maxRecDepth 100000 in
set_option maxHeartbeats 2000000 in
theorem appends_any (A : Option Addr) (n c : Nat) (b : List UInt8) (MA : Option Addr) (mn mc : Nat) (more : List UInt8) (x y : Int) (z : Nat) (hx : 0 ≤ x ∧ x ≤ 255) (hy : 0 ≤ y ∧ y ≤ 255) (hz : z ≤ 255) (w : World) (hb : Bs w w.heap.size A n b) (hm : Bs w w.heap.size MA mn more)
    (hnc : n ≤ c) (hc : c ≤ 9223372036854775807) (hmc : mn ≤ mc) (hmc2 : mc ≤ 9223372036854775807) :
    Calls Try.prog 4 #[.slice A n c, .slice MA mn mc, .agg #[.int .u8 x, .int .u8 y, .int .u8 z]] w fun e w' => e = .returned (.bool true) ∧ Below w.heap.size w w' := by
  obtain ⟨bn, hbn⟩ : ∃ m : Nat, (if (100 : Int) < (n : Int) then (100 : Int) else (n : Int)) = m := ⟨min n 100, by split <;> omega⟩
  obtain ⟨m, hmn⟩ : ∃ m : Nat, (if (200 : Int) < (mn : Int) then (200 : Int) else (mn : Int)) = m := ⟨min mn 200, by split <;> omega⟩
  have hb1 : bn ≤ n := by split at hbn <;> omega
  have hb2 : bn ≤ 100 := by split at hbn <;> omega
  have hb3 : bn ≤ c := by omega
  have hm1 : m ≤ mn := by split at hmn <;> omega
  have hm2 : m ≤ 200 := by split at hmn <;> omega
  have hm3 : m ≤ mc := by omega
  obtain ⟨p, hp⟩ : ∃ p : Nat, x % ((m : Int) + 1) = p := ⟨(x % ((m : Int) + 1)).toNat, by have := Int.emod_nonneg x (show ((m : Int) + 1) ≠ 0 by omega); omega⟩
  have hpm : p ≤ m := by have := Int.emod_lt_of_pos x (show (0 : Int) < (m : Int) + 1 by omega); omega
  obtain ⟨r, hr⟩ : ∃ r : Nat, y % ((m : Int) - (p : Int) + 1) = r := ⟨(y % ((m : Int) - (p : Int) + 1)).toNat, by have := Int.emod_nonneg y (show ((m : Int) - (p : Int) + 1) ≠ 0 by omega); omega⟩
  have hrm : p + r ≤ m := by have := Int.emod_lt_of_pos y (show (0 : Int) < (m : Int) - (p : Int) + 1 by omega); omega
  obtain ⟨hx1, hx2⟩ := hx
  obtain ⟨hy1, hy2⟩ := hy
  have HB := hide (bs_take hb hb1)
  have HM := hide (bs_take hm hm1)
  clear hb hm
  go_enter Try.func4, Try.ntmps4
  go_upto_region 1 with fail
  go_region
  go_wp2_with fail
  obtain ⟨W0, hW0⟩ : ∃ W0, (w.alloc (.cells #[.int .u8 x, .int .u8 y, .int .u8 z] 42)).drew = W0 := ⟨_, rfl⟩
  have hw0 : Below w.heap.size w W0 := by rw [← hW0]; exact ⟨rfl, rfl, rfl, by simp [World.drew], (bel1 w _).block⟩
  have BZ : Blk W0 w.heap.size 42 #[.int .u8 x, .int .u8 y, .int .u8 z] := by rw [← hW0]; exact Blk.new w 42 _
  rw [hW0]
  clear hW0
  generalize hbb : b.take bn = bb at HB
  generalize hmm : more.take m = mm at HM
  have HZ := hide BZ
  have HW0 := hide hw0
  have hbl := HB.out.len
  have hml := HM.out.len
  have HBL := hide hbl
  have HML := hide hml
  clear hbb hmm hbn hmn BZ hw0 hbl hml
  refine (new_any _ bn c w.heap.size bb W0 (HB.out.below HW0.out) (by omega) HW0.out.size).mono ?_
  rintro e w1 ⟨pf, d0, rfl, h1, hb1⟩
  have HF := hide (Sub.new h1 hb1)
  have bA := HW0.out.trans (hb1.mono HW0.out.size)
  have HA := hide bA
  clear h1 hb1 bA
  go_wp2_with fail
  refine (new_any _ bn c w.heap.size bb w1 (HB.out.below HA.out) (by omega) HA.out.size).mono ?_
  rintro e w2 ⟨pg, e0, rfl, h1, hb1⟩
  have HG := hide (Sub.new h1 hb1)
  have HT := hide (show Two W0 w2 W0.heap.size pf d0 (.rest bb) w1.heap.size pg e0 (.rest bb) from ⟨HF.out.later hb1, h1, by have h2 := h1.hp; have h3 := HF.out.at_.lt; omega, fun k hk hd => by have h2 := (h1.dlt k hk).1; have h3 := (HF.out.at_.dlt k hd).2; omega⟩)
  clear h1 hb1
  go_wp2_with fail
  have bB := HA.out.trans (HG.out.below.mono HA.out.size)
  refine (append_any HG.out.at_ _ mc mm (HM.out.below bB) bB.size (by show bb.length + m ≤ _; have := HBL.out; omega) (by show 0 ≤ _; omega)).mono ?_
  rintro e w3 ⟨rfl, e1, h2, S, hd⟩
  have hsz := HF.out.below.size
  replace HT := hide (HT.out.stepG h2 S hd hsz)
  clear h2 S hd HG HF bB
  go_wp2_with fail
  have bB := HW0.out.trans (HT.out.f.below.mono HW0.out.size)
  refine (append_any HT.out.f.at_ _ mc (mm.take p) (bs_take (HM.out.below bB) hpm) bB.size (by show bb.length + p ≤ _; have := HBL.out; omega) (by show 0 ≤ _; omega)).mono ?_
  rintro e w4 ⟨rfl, d1, h2, S, hd⟩
  replace HT := hide (HT.out.step h2 S hd)
  have hf1 : ((Fl.rest bb).app (mm.take p)).now.length = bn + p := by rw [app_now]; show (bb ++ mm.take p).length = _; have := HBL.out; have := HML.out; simp; omega
  have HF1 := hide hf1
  clear h2 S hd bB hf1
  go_wp2_with fail
  refine (sync_any HT.out.f.at_ (by rw [HF1.out]; omega)).mono ?_
  rintro e w5 ⟨rfl, d2, h2, S, hd⟩
  replace HT := hide (HT.out.step h2 S hd)
  obtain ⟨b1, hb1⟩ : ∃ b1, ((Fl.rest bb).app (mm.take p)).now = b1 := ⟨_, rfl⟩
  have hb1' : b1 = bb ++ mm.take p := by rw [← hb1, app_now]; rfl
  rw [hb1] at HT HF1
  have HB1 := hide hb1'
  clear h2 S hd hb1 hb1'
  obtain ⟨M1, hM1⟩ : ∃ M1, (if mc = p then MA else MA.map (·.add p)) = M1 := ⟨_, rfl⟩
  have sl := slice_lh MA m mc p r (by omega)
  rw [hM1] at sl
  have bM1 := fun {W : World} {B : Nat} (h : Bs W B MA m mm) => (sub_bs (c := mc) h (i := p) (k := r) hrm hm3 : Bs W B _ r _)
  rw [hM1] at bM1
  have HM1 : Hid (∀ W, Bs W w.heap.size MA m mm → Bs W w.heap.size M1 r ((mm.drop p).take r)) := fun W h => bM1 h
  clear bM1 hM1
  go_wp2_with fail
  have bB := HW0.out.trans (HT.out.f.below.mono HW0.out.size)
  refine (append_any HT.out.f.at_ _ _ ((mm.drop p).take r) (HM1.out _ (HM.out.below bB)) bB.size (by show b1.length + r ≤ _; rw [HF1.out]; omega) (by show 0 ≤ _; omega)).mono ?_
  rintro e w6 ⟨rfl, d3, h2, S, hd⟩
  replace HT := hide (HT.out.step h2 S hd)
  clear h2 S hd bB sl
  go_wp2_with fail
  refine (append_any HT.out.f.at_ none 0 [] (bs_empty _ 0 none) (Nat.zero_le _) (by rw [app_now]; show (b1 ++ _).length + 0 ≤ _; simp [HF1.out]; omega) (by have h1 := Fl.count _ HT.out.f.at_.ok; rw [app_loose] at h1; have : (Fl.rest b1).loose = 0 := rfl; simp at h1; omega)).mono ?_
  rintro e w7 ⟨rfl, d4, h2, S, hd⟩
  rw [app_nil] at h2
  replace HT := hide (HT.out.step h2 S hd)
  clear h2 S hd
  obtain ⟨M2, hM2⟩ : ∃ M2, (if mc = p + r then MA else MA.map (·.add (p + r))) = M2 := ⟨_, rfl⟩
  have sl := slice_l2 MA m mc p r hrm
  rw [hM2] at sl
  have bM2 := fun {W : World} {B : Nat} (h : Bs W B MA m mm) => (sub_bs (c := mc) h (i := p + r) (k := m - (p + r)) (by omega) hm3 : Bs W B _ _ _)
  rw [hM2] at bM2
  have hdt : (mm.drop (p + r)).take (m - (p + r)) = mm.drop (p + r) := List.take_of_length_le (by have := HML.out; simp; omega)
  have HM2 : Hid (∀ W, Bs W w.heap.size MA m mm → Bs W w.heap.size M2 (m - (p + r)) (mm.drop (p + r))) := fun W h => by have := bM2 h; rw [hdt] at this; exact this
  obtain ⟨k3, hk3⟩ : ∃ k3, m - (p + r) = k3 := ⟨_, rfl⟩
  obtain ⟨c3, hc3⟩ : ∃ c3, mc - (p + r) = c3 := ⟨_, rfl⟩
  rw [hk3] at HM2 sl
  rw [hc3] at sl
  have HK3 := hide hk3
  have hk3m : p + r + k3 = m := by omega
  clear bM2 hM2 hdt hk3 hc3
  go_wp2_with fail
  have bB := HW0.out.trans (HT.out.f.below.mono HW0.out.size)
  have hl2 : ((mm.drop p).take r).length ≤ 200 := by have := HML.out; simp; omega
  refine (append_any HT.out.f.at_ _ _ (mm.drop (p + r)) (HM2.out _ (HM.out.below bB)) bB.size (by rw [app_now]; show (b1 ++ _).length + k3 ≤ _; rw [List.length_append, HF1.out]; omega) (by have h1 := Fl.count _ HT.out.f.at_.ok; rw [app_loose] at h1; have : (Fl.rest b1).loose = 0 := rfl; omega)).mono ?_
  rintro e w8 ⟨rfl, d5, h2, S, hd⟩
  replace HT := hide (HT.out.step h2 S hd)
  clear h2 S hd bB sl hl2
  have h5 := app5 b1 ((mm.drop p).take r) (mm.drop (p + r))
  have htl : (mm.drop p).take r ++ mm.drop (p + r) = mm.drop p := by rw [← List.drop_drop, List.take_append_drop]
  rw [htl] at h5
  generalize ((Fl.rest b1).app ((mm.drop p).take r)).app (mm.drop (p + r)) = F5 at HT h5
  have hwh : b1 ++ mm.drop p = bb ++ mm := by rw [HB1.out, List.append_assoc, List.take_append_drop]
  rw [hwh] at h5
  have hG : ((Fl.rest bb).app mm).now = bb ++ mm := app_now _ _
  have hGl : ((Fl.rest bb).app mm).loose = m := by rw [app_loose]; show 0 + mm.length = m; have := HML.out; omega
  generalize (Fl.rest bb).app mm = G5 at HT hG hGl
  have htlen : (mm.drop p).length = m - p := by simp [HML.out]
  generalize mm.drop p = tl at h5 htlen hwh
  have H5 := hide h5
  have HG := hide hG
  have HGL := hide hGl
  have HTL := hide htlen
  have HWH := hide hwh
  obtain ⟨wh, hw⟩ : ∃ wh, bb ++ mm = wh := ⟨_, rfl⟩
  have hwl : wh.length = bn + m := by rw [← hw, List.length_append, HBL.out, HML.out]
  have HWE := hide hw
  have HWL := hide hwl
  rw [hw] at H5 HG HWH
  clear h5 htl hwh hG hGl htlen hw hwl HM1 HM2 HK3
  obtain ⟨i0, hi0, hz0, hz1, hz2⟩ := info_parts u8_info
  go_wp2_with fail
  have bB := HW0.out.trans (HT.out.f.below.mono HW0.out.size)
  refine (bytesClone_any A bn c w.heap.size bb w8 (HB.out.below bB) (by omega) bB.size).mono ?_
  rintro e w9 ⟨v, rfl, ho, hb9⟩
  obtain ⟨A9, c9, rfl⟩ := own_sl ho
  have HO := hide ho
  have HB9 := hide hb9
  have hz9 := hb9.size
  have bC := belFrom bB hb9
  have hmr := HM.out.below bC
  have HMR := hide hmr
  have HBC := hide bC
  clear ho bB hb9 bC hmr
  have hb98 : w8.heap.size ≤ w9.heap.size := hz9
  go_wp2_with (at_builtin; refine wpList_append_any _ rfl (.tmp 77) (.tmp 78) 22 rfl w8.heap.size 5 i0 _ 1 1 Try.underlying22 hi0 hz0 hz1 hz2 rfl (by omega) (.slice A9 bn c9) bn (bb.map bv) rfl HO.out w.heap.size MA m mc (mm.map bv) rfl HMR.out (bv_one mm) (by unfold maxLen; omega) (by omega) hb98 ?_; intro v' w10 hown' hg' hat'; obtain ⟨A10, c10, rfl⟩ := own_sl hown')
  have b10 : Below w8.heap.size w8 w10 := HB9.out.grown hg' hz9 (fun g e => (own_mk HO.out e).1)
  replace HT := hide (HT.out.later b10)
  have bW : Own5 w10 w8.heap.size (.slice A10 wh.length c10) wh := by
    unfold Own5
    rw [HWL.out, ← HWE.out, List.map_append]
    exact hown'
  rw [← HWL.out]
  have HW := hide bW
  have HB10 := hide b10
  clear bW b10 hown' hg' hat' HMR HBC HB9 HO hb98 hz9
  have hwl9 : wh.length ≤ 300 := by have := HWL.out; omega
  have hnow := HT.out.f.at_
  refine (all_any hnow (by rw [H5.out.now]; omega)).mono ?_
  rintro e w11 ⟨A11, a11, rfl, ho, hb11⟩
  rw [H5.out.now] at ho ⊢
  replace HT := hide (HT.out.later hb11)
  replace HW := hide (own_bel HW.out hb11)
  have HO := hide ho
  clear ho hb11 hnow
  go_wp2_with fail
  refine (bytesEqual_any A11 A10 wh.length a11 wh.length c10 _ _ wh wh w11 (Reads.of_own HO.out) (Reads.of_own HW.out)).mono ?_
  rintro e w12 ⟨rfl, rfl⟩
  rw [show (wh == wh) = true from beq_self_eq_true _]
  go_wp2_with fail
  refine (all_any HT.out.g (by rw [HG.out]; omega)).mono ?_
  rintro e w12 ⟨A12, a12, rfl, ho, hb12⟩
  rw [HG.out] at ho ⊢
  replace HT := hide (HT.out.later hb12)
  replace HW := hide (own_bel HW.out hb12)
  replace HO := hide ho
  clear ho hb12
  go_wp2_with fail
  refine (bytesEqual_any A12 A10 wh.length a12 wh.length c10 _ _ wh wh w12 (Reads.of_own HO.out) (Reads.of_own HW.out)).mono ?_
  rintro e w13 ⟨rfl, rfl⟩
  rw [show (wh == wh) = true from beq_self_eq_true _]
  have hl10 : ∀ g, (Value.slice A10 wh.length c10).ownBlock = some g → g < w12.heap.size := fun g e => (own_mk HW.out e).2.1
  have HL10 := hide hl10
  have h0w : W0.heap.size ≤ w12.heap.size := HT.out.f.below.size
  clear hl10
  go_wp2_with fail
  refine (safe_any HT.out.f.at_).mono ?_
  rintro e w13 ⟨rfl, rfl⟩
  rw [show (F5.safe.length : Int) = (bn : Int) + (p : Int) by rw [H5.out.safe, HF1.out]; omega]
  go_wp2_with fail
  refine (loose_any HT.out.f.at_ (by rw [H5.out.loose, HTL.out]; omega)).mono ?_
  rintro e w13 ⟨rfl, rfl⟩
  rw [show (F5.loose : Int) = (m : Int) - (p : Int) by rw [H5.out.loose, HTL.out]; omega]
  go_wp2_with fail
  refine (loose_any HT.out.g (by rw [HGL.out]; omega)).mono ?_
  rintro e w13 ⟨rfl, rfl⟩
  rw [HGL.out]
  go_wp2_with fail
  rw [show (bn : Int) + ((p : Int) + (r : Int)) = ((bn + (p + r) : Nat) : Int) by omega]
  refine (read_ok HT.out.f.at_ 0 (bn + (p + r)) (by rw [H5.out.now, HWL.out]; omega) (by rw [H5.out.now]; omega)).mono ?_
  rintro e w14 ⟨AX, aX, rfl, hoX, hb14⟩
  rw [H5.out.now, List.drop_zero] at hoX ⊢
  obtain ⟨X, hX⟩ : ∃ X, wh.take (bn + (p + r)) = X := ⟨_, rfl⟩
  have hXl : X.length = bn + (p + r) := by rw [← hX, List.length_take, HWL.out]; omega
  rw [hX] at hoX ⊢
  have HX := hide hX
  have HXL := hide hXl
  replace HT := hide (HT.out.later hb14)
  replace HW := hide (own_bel HW.out hb14)
  have HOX := hide hoX
  have hs14 := hb14.size
  have hlX : ∀ g, (Value.slice AX X.length aX).ownBlock = some g → g < w14.heap.size := fun g e => (own_mk hoX e).2.1
  have HLX := hide hlX
  clear hlX
  clear hX hXl hoX hb14 HO
  simp only []
  go_wp2_with fail
  rw [show (bn : Int) + ((p : Int) + (r : Int)) = ((bn + (p + r) : Nat) : Int) by omega, show (m : Int) - ((p : Int) + (r : Int)) = (k3 : Int) by omega]
  refine (read_ok HT.out.f.at_ (bn + (p + r)) k3 (by rw [H5.out.now, HWL.out]; omega) (by rw [H5.out.now]; omega)).mono ?_
  rintro e w15 ⟨AY, aY, rfl, hoY, hb15⟩
  rw [H5.out.now] at hoY ⊢
  obtain ⟨Y, hY⟩ : ∃ Y, (wh.drop (bn + (p + r))).take k3 = Y := ⟨_, rfl⟩
  have hYl : Y.length = k3 := by rw [← hY, List.length_take, List.length_drop, HWL.out]; omega
  have hXY : X ++ Y = wh := by
    rw [← HX.out, ← hY, List.take_of_length_le (l := wh.drop (bn + (p + r))) (by rw [List.length_drop, HWL.out]; omega), List.take_append_drop]
  rw [hY] at hoY ⊢
  have HYL := hide hYl
  have HXY := hide hXY
  replace HT := hide (HT.out.later hb15)
  replace HW := hide (own_bel HW.out hb15)
  replace HOX := hide (own_bel HOX.out hb15)
  have HOY := hide hoY
  have hs15 := hb15.size
  clear hY hYl hXY hoY hb15
  simp only []
  go_wp2_with fail
  refine (read_short HT.out.f.at_ _ _ (by omega) (by omega) (by omega) (by rw [H5.out.now, HWL.out]; omega) (by rw [H5.out.now]; omega)).mono ?_
  rintro e w16 ⟨AS, aS, rfl, hoS, hb16⟩
  replace HT := hide (HT.out.later hb16)
  replace HW := hide (own_bel HW.out hb16)
  replace HOX := hide (own_bel HOX.out hb16)
  replace HOY := hide (own_bel HOY.out hb16)
  have hs16 := hb16.size
  clear hoS hb16
  simp only []
  have bz : Blk w16 w.heap.size 42 #[.int .u8 x, .int .u8 y, .int .u8 (z : Int)] := HZ.out.below HT.out.f.below HZ.out.lt
  have HBZ := hide bz
  obtain ⟨f1, f2, f3⟩ := bz.facts
  clear bz
  go_wp2_with fail
  refine (crash_any HT.out.f.at_ z (by omega) (by rw [H5.out.safe, H5.out.loose, HF1.out, HTL.out]; omega)).mono ?_
  rintro e w17 ⟨rfl, d6, h2, S, hd⟩
  rw [H5.out.crash] at h2 ⊢
  obtain ⟨nk, hnk⟩ : ∃ nk, min tl.length z = nk := ⟨_, rfl⟩
  obtain ⟨lf, hlf⟩ : ∃ lf, b1 ++ tl.take z = lf := ⟨_, rfl⟩
  have hnk2 : (if (m : Int) - (p : Int) < (z : Int) then (m : Int) - (p : Int) else (z : Int)) = (nk : Int) := by have := HTL.out; split <;> omega
  have hnkm : p + nk ≤ m := by have := HTL.out; omega
  have hll : lf.length = bn + p + nk := by rw [← hlf, List.length_append, HF1.out, List.length_take, ← hnk]; omega
  have hpre : wh.take lf.length = lf := by
    rw [hll, ← HWH.out, ← hlf, List.take_append, List.take_of_length_le (by rw [HF1.out]; omega), HF1.out]
    congr 1
    have e1 : bn + p + nk - (bn + p) = nk := by omega
    rw [e1, ← hnk]
    by_cases h : z ≤ tl.length
    · rw [Nat.min_eq_right h]
    · rw [Nat.min_eq_left (by omega), List.take_length, List.take_of_length_le (by omega)]
  rw [hnk, hlf] at h2 ⊢
  have hs17 := S.size
  have HF := hide (HT.out.f.step h2 S hd)
  replace HW := hide (own_stp HW.out S (by decide) (by decide))
  replace HOX := hide (own_stp HOX.out S (by decide) (by decide))
  replace HOY := hide (own_stp HOY.out S (by decide) (by decide))
  have bz := HBZ.out.stp S (by decide) (by decide)
  have HBZ2 := hide bz
  obtain ⟨g1, g2, g3⟩ := bz.facts
  have HLL := hide hll
  have HPRE := hide hpre
  have HN2 := hide hnk2
  clear h2 S hd hnk hlf hnk2 hll hpre bz f1 f2 f3 HT HBZ
  simp only []
  go_wp2_with fail
  refine (all_any HF.out.at_ (by show lf.length ≤ _; rw [HLL.out]; omega)).mono ?_
  rintro e w18 ⟨AL, aL, rfl, hoL, hb18⟩
  replace hoL : Own5 w18 w17.heap.size (.slice AL lf.length aL) lf := hoL
  rw [show (Fl.rest lf).now.length = lf.length from rfl]
  have HF2 := hide (HF.out.later hb18)
  replace HW := hide (own_bel HW.out hb18)
  replace HOX := hide (own_bel HOX.out hb18)
  replace HOY := hide (own_bel HOY.out hb18)
  have HOL := hide hoL
  have bz := HBZ2.out.below hb18 HBZ2.out.lt
  obtain ⟨f1, f2, f3⟩ := bz.facts
  have HBZ := hide bz
  have hb12 : w12.heap.size ≤ w18.heap.size := by have := hb18.size; omega
  clear hoL hb18 bz g1 g2 g3 HF
  obtain ⟨xl, hxl⟩ : ∃ xl, xl = X.length := ⟨_, rfl⟩
  obtain ⟨yl, hyl⟩ : ∃ yl, yl = Y.length := ⟨_, rfl⟩
  have HXE := hide hxl
  have HYE := hide hyl
  have hxb : xl + yl ≤ 1000 := by rw [hxl, hyl, HXL.out, HYL.out]; omega
  have hox : w18.ownsRow w12.heap.size 5 1 (.slice AX xl aX) xl (X.map bv) := by rw [hxl]; exact HOX.out
  have hry : Reads w18 w18.heap.size 1 AY yl (Y.map bv) := by rw [hyl]; exact Reads.of_own HOY.out
  have HRX := hide hox
  have HRY := hide hry
  rw [← hxl, ← hyl]
  clear hxl hyl hox hry
  go_wp2_with (at_builtin; refine wpList_append_g _ rfl (.tmp 174) (.tmp 175) 22 rfl w12.heap.size 5 i0 _ 1 1 Try.underlying22 hi0 hz0 hz1 hz2 rfl (by omega) (.slice AX xl aX) xl (X.map bv) rfl HRX.out w18.heap.size AY yl aY (Y.map bv) rfl HRY.out (bv_one Y) (by unfold maxLen; omega) (by omega) hb12 ?_; intro v' w19 hown' hg' hat'; obtain ⟨A19, c19, rfl⟩ := own_sl hown')
  have hXb : ∀ g, (Value.slice AX xl aX).ownBlock = some g → w12.heap.size ≤ g ∧ g < w14.heap.size := fun g e => ⟨(own_mk HRX.out e).1, HLX.out g (by rw [← HXE.out]; exact e)⟩
  have oW : Own5 w19 w8.heap.size (.slice A10 wh.length c10) wh := by
    refine HW.out.kept hg' ?_
    rcases h : (Value.slice A10 wh.length c10).ownBlock with _ | g
    · exact .inl rfl
    · refine .inr fun e => ?_
      have h1 := HL10.out g h
      have h2 := (hXb g e.symm).1
      omega
  have oL : Own5 w19 w17.heap.size (.slice AL lf.length aL) lf := by
    refine HOL.out.kept hg' ?_
    rcases h : (Value.slice AL lf.length aL).ownBlock with _ | g
    · exact .inl rfl
    · refine .inr fun e => ?_
      have h1 := (own_mk HOL.out h).1
      have h2 := (hXb g e.symm).2
      omega
  have bz := HBZ.out.grown hg' (HBZ.out.mk_.ne_own HRX.out (by decide))
  obtain ⟨g1, g2, g3⟩ := bz.facts
  have bE : Below w.heap.size w w19 := (HW0.out.trans (HF2.out.below.mono HW0.out.size)).grown hg' (by have h1 := HW0.out.size; have h2 := HF2.out.below.size; omega) (fun g e => by have h1 := (hXb g e).1; have h2 := HW0.out.size; omega)
  have hXYr : Bs w19 w19.heap.size A19 (xl + yl) (X ++ Y) := by
    have : Reads w19 w19.heap.size 1 A19 (xl + yl) (X.map bv ++ Y.map bv) := Reads.of_own hown'
    rw [← List.map_append] at this
    exact this
  have HXR := hide hXYr
  have HOW := hide oW
  have HOL2 := hide oL
  have HBE := hide bE
  clear hown' hg' hat' oW oL bz bE hXYr hXb f1 f2 f3
  refine (bytesEqual_any A19 A10 (xl + yl) c19 wh.length c10 _ _ (X ++ Y) wh w19 HXR.out (Reads.of_own HOW.out)).mono ?_
  rintro e w20 ⟨rfl, rfl⟩
  rw [HXY.out, show (wh == wh) = true from beq_self_eq_true _]
  have hn2 := HN2.out
  have hl2 : (lf.length : Int) = (bn : Int) + (p : Int) + (nk : Int) := by rw [HLL.out]; omega
  obtain ⟨ll, hll⟩ : ∃ ll, ll = lf.length := ⟨_, rfl⟩
  have HLE := hide hll
  rw [← hll] at hl2 ⊢
  clear hll
  go_wp2_with fail
  have hcap := own5_cap HOW.out
  have hcap2 := hcap.2
  unfold maxLen at hcap2
  refine (hasPrefix_yes A10 AL wh.length c10 ll aL _ _ wh lf w19 (Reads.of_own HOW.out) (by rw [HLE.out]; exact Reads.of_own HOL2.out) (by rw [HLE.out]; exact HPRE.out) (by rw [HWL.out]; omega) hcap.1 (by omega)).mono ?_
  rintro e w21 ⟨rfl, rfl⟩
  clear hl2 hn2
  go_wp2_with fail
  refine (wakes_any _).mono ?_
  rintro e w22 ⟨rfl, hb22⟩
  go_wp2_with fail
  go_ret
  exact ⟨rfl, belFrom HBE.out hb22⟩
end Go.Proofs.Ythkflglmgadlmaa
