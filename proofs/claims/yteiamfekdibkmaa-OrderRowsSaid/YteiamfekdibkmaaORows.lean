/-
  THE WALK of OrderRows. Conditions: as the theorems' premises say.
-/
import Derived.Test.YteiamfekdibkmaaOCopy
import Derived.Test.YteiamfekdibkmaaORefAdd
import Derived.Test.YteiamfekdibkmaaOXd
import Derived.Test.YteiamfekdibkmaaOUndoD
import Derived.Deep.DeepCutAuto
namespace Go.Proofs.Yteiamfekdibkmaa
open Go.RowKit Go.Shelf

theorem copK_again (l : List Key) : copK (copK l) = copK l := by
  unfold copK
  rw [List.take_of_length_le (by rw [List.length_map, List.length_take]; omega), List.map_map]
  refine List.map_congr_left fun k _ => ?_
  show (k.take 70).take 70 = k.take 70
  rw [List.take_take]
  rfl
theorem addK_len (k : Key) (l : List Key) : (addK k l).2.length ≤ l.length + 1 := by
  unfold addK
  split
  · simp
  · split
    · simp
    · rw [withL_len]; exact Nat.le_refl _
theorem dropK_len (k : Key) (l : List Key) : (dropK k l).2.length ≤ l.length + 1 := by
  unfold dropK
  split
  · simp
  · split
    · unfold lessL
      have := posL_le k l
      simp
      omega
    · simp
/-- a row of one header in a block of its own -/
theorem one_row {w : World} {base : Nat} {x : Hd} (hx : w.ownsRow base 5 1 x.v x.l.length (x.l.map bv)) (hb : base ≤ w.heap.size) : OwnRow (w.alloc (.cells #[x.v] 23)) base (.slice (some ⟨w.heap.size, 0, none⟩) 1 1) [x] := by
  refine ⟨⟨rfl, .inr ⟨w.heap.size, 1, #[x.v], rfl, hb, heap_alloc_new w _, Nat.le_refl _, by unfold maxLen; omega, rfl, rfl⟩⟩, fun y hy => ?_⟩
  rw [List.mem_singleton.1 hy]
  exact hx.alloc _
theorem ar60 : Try.prog.underlying 60 = some (.array 3 25) := by kernel_rfl
theorem part25 (cs : Array Value) (j : Nat) (v : Value) (h : cs[j]? = some v) (w : World) : (part 25 cs j).run Try.prog w = .ok v w := by
  simp [part, h]
theorem ix60 (x y z : Value) (i : Nat) (v : Value) (h : [x, y, z][i]? = some v) (w : World) : (Instr.index 60 (.agg #[x, y, z]) (.int .i64 (i : Int))).run Try.prog w = .ok v w := by
  have hi := (List.getElem?_eq_some_iff.1 h).1
  simp only [List.length_cons, List.length_nil] at hi
  have hp := part25 #[x, y, z] i v (by simpa using h) w
  simp [Instr.index, run_underlying ar60, asIntOf, Result.andThen, hp, hi]
theorem OwnRow.rd {w : World} {base : Nat} {A : Option Addr} {c : Nat} {L : List Hd} (h : OwnRow w base (.slice A L.length c) L) : RowR w w.heap.size A L :=
  ⟨by have h2 := h.row; exact Reads.of_own h2, fun x hx => good_own (h.bytes x hx)⟩
/-- the blocks whose bytes the loops turn -/
def Pb (B : Nat) (W0 : World) (g : Nat) : Prop := B ≤ g ∧ ∃ cs, Blk W0 g 5 cs
theorem pb_in {W0 : World} {B : Nat} {v : Value} {L : List Hd} (h : OwnRow W0 B v L) : ∀ x ∈ L, ∀ g, x.v.ownBlock = some g → Pb B W0 g := fun x hx _ hg => ⟨(own_lt (h.bytes x hx) hg).1, own_blk (h.bytes x hx) hg⟩
theorem pb_row {W0 W : World} {B : Nat} {v : Value} {L : List Hd} (h : OwnRow W0 B v L) (hX : Xd (Pb B W0) W0 W) : OwnH W B v L := hX.own h.row (fun _ hg hp => own_not5 h.row (by decide) hg hp.2)

set_option maxRecDepth 100000 in
set_option maxHeartbeats 4000000 in
theorem rows_any (A A' : Option Addr) (n c m d : Nat) (hs : List Hd) (k : Key) (w : World) (h : RowR w w.heap.size A hs) (hn : n = hs.length) (hsm : n ≤ maxLen) (hk : Bs w w.heap.size A' m k) (hmd : m ≤ d) (hd : d ≤ maxLen) :
    Calls Try.prog 6 #[.slice A n c, .slice A' m d] w fun e w' => e = .returned (.bool true) ∧ Below w.heap.size w w' := by
  have C1 := hide (copied_any A n c w.heap.size hs w.drew (h.below ⟨rfl, rfl, rfl, Nat.le_refl _, fun _ _ => rfl⟩) hn (Nat.le_refl _) hsm)
  have hm := hk.len
  obtain ⟨mk, hmk⟩ : ∃ mk : Nat, min (m : Int) 70 = (mk : Int) := ⟨min m 70, by omega⟩
  have hmk2 : mk ≤ m := by omega
  have hsl := sl23_to A' m d mk (by omega)
  have hbk : Bs w w.heap.size A' mk (k.take 70) := by
    have h1 := bs_take hk (m := mk) hmk2
    have e : k.take mk = k.take 70 := by
      by_cases h64 : m ≤ 70
      · rw [List.take_of_length_le (by omega), List.take_of_length_le (by omega)]
      · rw [show mk = 70 by omega]
    rw [e] at h1
    exact h1
  obtain ⟨k2, hk2⟩ : ∃ k2, k2 = k.take 70 := ⟨_, rfl⟩
  rw [← hk2] at hbk
  obtain ⟨R, hR⟩ : ∃ R, R = copK (keys hs) := ⟨_, rfl⟩
  rw [← hR] at C1
  have HRL : Hid (R.length ≤ 30) := hide (by rw [hR]; exact copK_len _)
  have HRC : Hid (copK R = R) := hide (by rw [hR]; exact copK_again _)
  have HKL : Hid (k2.length = mk) := hide hbk.len
  have HK := hide hbk
  unfold maxLen at hsm hd
  clear h hn hk hm hbk hk2 hR
  go_enter Try.func6, Try.ntmps6
  go_upto_region 1 with fail
  go_cut [0, 1] (fun v0 v1 W => ∃ (A1 : Option Addr) (r1 : List Hd) (c1 : Nat), v0 = .slice A1 r1.length c1 ∧ v1 = .slice A' mk d ∧ r1.length ≤ c1 ∧ Hid (OwnRow W w.heap.size (.slice A1 r1.length c1) r1) ∧ Hid (keys r1 = R) ∧ Hid (Below w.heap.size w W))
  case first =>
    go_region_held3 (fun W => 0 ≤ W.heap.size) (first | exact Nat.zero_le _ | fail) (first | (go_at_call 20; refine C1.out.mono ?_; rintro e w1 ⟨v1, rfl, r1, ho1, hk1, hb1⟩; obtain ⟨A1, c1, rfl, _, hc1, _⟩ := ho1.slice_) | fail)
    all_goals (go_wp2_with fail; go_meet; exact ⟨A1, r1, c1, rfl, rfl, hc1, ho1, hk1, ⟨hb1.os, hb1.tape, hb1.output, hb1.size, hb1.block⟩⟩)
  obtain ⟨A1, r1, c1, rfl, rfl, hc1, HO1, HK1, HB1⟩ := hcut
  have hr1 : RowR wc wc.heap.size A1 r1 := ⟨by have h := HO1.out.row; exact Reads.of_own h, fun x hx => good_own (HO1.out.bytes x hx)⟩
  obtain ⟨q, hq⟩ : ∃ q, q = r1.length := ⟨_, rfl⟩
  have hq30 : q ≤ 30 := by
    have h1 := congrArg List.length HK1.out
    rw [List.length_map] at h1
    have := HRL.out
    omega
  rw [← hq] at hc1 ⊢
  have C2 := hide (copied_any A1 q c1 wc.heap.size r1 wc hr1 hq (Nat.le_refl _) (by unfold maxLen; omega))
  rw [HK1.out, HRC.out] at C2
  have HR1 := hide hr1
  have HQ1 := hide hq
  clear hr1 hq
  go_wp2_with fail
  refine C2.out.mono ?_
  rintro e w2 ⟨v2, rfl, r2, ho2, hk2, hb2⟩
  obtain ⟨A2, c2, rfl, hr2, _, _⟩ := ho2.slice_
  have hl2 : r2.length = q := by rw [HQ1.out]; exact keys_len (hk2.trans HK1.out.symm)
  have HB2 := hide (belFrom HB1.out hb2)
  have HR1b : Hid (RowR w2 w2.heap.size A1 r1) := hide ((HR1.out.below hb2).more hb2.size)
  have HR2 : Hid (RowR w2 w2.heap.size A2 r2) := hide hr2
  have HKb : Hid (Bs w2 w2.heap.size A' mk k2) := hide (Reads.more (Reads.below HK.out HB2.out) HB2.out.size)
  have HK2 : Hid (keys r2 = R) := hide hk2
  have HQ2 := hide hl2.symm
  rw [hl2]
  clear C1 C2 HR1 ho2 hk2 hb2 hr2 hl2
  -- Search
  have C3 := Search_any A2 A' q c2 mk d w2.heap.size w2.heap.size r2 k2 w2 HR2.out HQ2.out (by omega) HKb.out
  have C4 := rsearch_any A1 A' q c1 mk d w2.heap.size w2.heap.size r1 k2 w2 HR1b.out HQ1.out (by omega) HKb.out
  rw [HK2.out] at C3
  rw [HK1.out] at C4
  obtain ⟨so, hso⟩ : ∃ so, so = searchO k2 R := ⟨_, rfl⟩
  rw [← hso] at C3 C4
  obtain ⟨s1, s2⟩ := so
  simp only at C3 C4
  have C3H := hide C3
  have C4H := hide C4
  clear C3 C4 hso
  go_wp2_with fail
  refine C3H.out.mono ?_
  rintro e w3 ⟨rfl, rfl⟩
  go_wp2_with fail
  refine C4H.out.mono ?_
  rintro e w3 ⟨rfl, hb3⟩
  have HW3 := hide (hb3 w2.heap.size)
  clear hb3 C3H C4H
  -- Next
  have C5 := next_any A2 A' q c2 mk d w2.heap.size w2.heap.size r2 k2 w3 (HR2.out.below HW3.out) HQ2.out (by omega) (Reads.below HKb.out HW3.out) HW3.out.size
  rw [HK2.out] at C5
  obtain ⟨nk, hnk⟩ : ∃ nk, nk = nextK k2 R := ⟨_, rfl⟩
  rw [← hnk] at C5
  obtain ⟨nl, hnl⟩ : ∃ nl, nl = nk.getD [] := ⟨_, rfl⟩
  rw [← hnl] at C5
  have HNK := hide hnk
  have HNL := hide hnl
  have C5H := hide C5
  clear C5 hnk hnl
  go_wp2_with fail
  refine C5H.out.mono ?_
  rintro e w4 ⟨v4, rfl, ho4, hb4⟩
  obtain ⟨A4, c4, rfl⟩ := slice_ofH ho4
  have HW4 := hide (HW3.out.trans (hb4.mono HW3.out.size))
  have HA4 := hide (show OwnH w4 w2.heap.size (.slice none 0 0) [] ∧ w4.ownsRow w2.heap.size 5 1 (.slice A4 nl.length c4) nl.length (nl.map bv) from ⟨World.ownsRow_nil _ _ _ _, own_mono ho4 HW3.out.size⟩)
  have C6 := rnext_any A1 A' q c1 mk d w2.heap.size w2.heap.size r1 k2 w4 (HR1b.out.below HW4.out) HQ1.out (by omega) (Reads.below HKb.out HW4.out)
  rw [HK1.out, ← HNK.out, ← HNL.out] at C6
  have C6H := hide C6
  clear C6 C5H hb4 ho4
  go_wp2_with fail
  refine C6H.out.mono ?_
  rintro e w5 ⟨A5, c5, rfl, hbs5, hb5⟩
  have HN5 := hide hbs5
  have HW5 := hide (HW4.out.trans (hb5 _))
  have HA5 := hide (own_bel HA4.out.2 (hb5 _))
  -- Add
  have C7 := add_any A2 A' q c2 mk d w2.heap.size w2.heap.size r2 k2 w5 (HR2.out.below HW5.out) HQ2.out (by omega) (Reads.below HKb.out HW5.out) HW5.out.size HW5.out.size
  rw [HK2.out] at C7
  obtain ⟨ad, had⟩ : ∃ ad, ad = addK k2 R := ⟨_, rfl⟩
  rw [← had] at C7
  have HADL : Hid (ad.2.length ≤ 31) := hide (by rw [had]; have := addK_len k2 R; have := HRL.out; omega)
  have HAD := hide had
  obtain ⟨z1, R7⟩ := ad
  simp only at C7
  have C7H := hide C7
  clear C7 had C6H hbs5 hb5 HA4
  go_wp2_with fail
  refine C7H.out.mono ?_
  rintro e w6 ⟨v6, rfl, h6, ho6, hk6, hb6⟩
  obtain ⟨A6, c6, rfl, hr6, _, _⟩ := ho6.slice_
  have HW6 := hide (HW5.out.trans (hb6.mono HW5.out.size))
  have HA6 := hide (own_bel HA5.out hb6)
  have HN6 := hide (Reads.below HN5.out (hb6.mono HW5.out.size) : Bs w6 w2.heap.size A5 nl.length nl)
  have HX6 := hide (ho6.mono HW5.out.size)
  have HKX : Hid (keys h6 = R7) := hide hk6
  have C8 := radd_any A1 A' q c1 mk d w2.heap.size w2.heap.size r1 k2 w6 (HR1b.out.below HW6.out) HQ1.out hc1 (by omega) (Reads.below HKb.out HW6.out) HW6.out.size
  rw [HK1.out, ← HAD.out] at C8
  simp only at C8
  have C8H := hide C8
  obtain ⟨l6, hl6⟩ : ∃ l6, l6 = h6.length := ⟨_, rfl⟩
  have HL6 := hide hl6
  rw [← hl6]
  clear C8 C7H ho6 hk6 hb6 hr6 HA5 hl6
  go_wp2_with fail
  refine C8H.out.mono ?_
  rintro e w7 ⟨v7, rfl, h7, ho7, hk7, hm7, hb7⟩
  obtain ⟨A7, c7, rfl, hrd7, _, _⟩ := OwnH.slice_ ho7
  have HW7 := hide (HW6.out.trans (hb7.mono HW6.out.size))
  have HA7 := hide (own_bel HA6.out hb7)
  have HN7 := hide (Reads.below HN6.out (hb7.mono HW6.out.size) : Bs w7 w2.heap.size A5 nl.length nl)
  have HX7 := hide (HX6.out.later hb7)
  have HGK : Hid (∀ W : World, Below w2.heap.size w2 W → goodHd W W.heap.size ⟨A', d, k2⟩) := hide (fun W hb => ⟨by show Bs W W.heap.size A' k2.length k2; rw [HKL.out]; exact Reads.more (Reads.below HKb.out hb) hb.size, by show k2.length ≤ d; rw [HKL.out]; omega, by unfold maxLen; omega⟩)
  have HGR : Hid (∀ W : World, Below w2.heap.size w2 W → ∀ x ∈ r1, goodHd W W.heap.size x) := hide (fun W hb x hx => ((HR1b.out.below hb).good x hx).more hb.size)
  have HY7 : Hid (RowR w7 w7.heap.size A7 h7) := hide ⟨hrd7, fun x hx => by
    rcases hm7 x hx with h1 | h1
    · exact HGR.out w7 HW7.out x h1
    · rw [h1]; exact HGK.out w7 HW7.out⟩
  have HKY : Hid (keys h7 = R7) := hide hk7
  obtain ⟨l7, hl7⟩ : ∃ l7, l7 = h7.length := ⟨_, rfl⟩
  have HL7 := hide hl7
  rw [← hl7]
  -- Drop
  have C9 := drop_any A2 A' q c2 mk d w2.heap.size w2.heap.size r2 k2 w7 (HR2.out.below HW7.out) HQ2.out (by omega) (Reads.below HKb.out HW7.out) HW7.out.size
  rw [HK2.out] at C9
  obtain ⟨dd, hdd⟩ : ∃ dd, dd = dropK k2 R := ⟨_, rfl⟩
  rw [← hdd] at C9
  have HDDL : Hid (dd.2.length ≤ 31) := hide (by rw [hdd]; have := dropK_len k2 R; have := HRL.out; omega)
  have HDD := hide hdd
  obtain ⟨z2, R9⟩ := dd
  simp only at C9
  have C9H := hide C9
  clear C9 hdd C8H ho7 hk7 hm7 hb7 hrd7 hl7 HA6 HX6
  go_wp2_with fail
  refine C9H.out.mono ?_
  rintro e w8 ⟨v8, rfl, h8, ho8, hk8, hb8⟩
  obtain ⟨A8, c8, rfl, hr8, _, _⟩ := ho8.slice_
  have HW8 := hide (HW7.out.trans (hb8.mono HW7.out.size))
  have HA8 := hide (own_bel HA7.out hb8)
  have HN8 := hide (Reads.below HN7.out (hb8.mono HW7.out.size) : Bs w8 w2.heap.size A5 nl.length nl)
  have HX8 := hide (HX7.out.later hb8)
  have HY8 := hide ((HY7.out.below hb8).more hb8.size)
  have HU8 := hide (ho8.mono HW7.out.size)
  have HKU : Hid (keys h8 = R9) := hide hk8
  obtain ⟨l8, hl8⟩ : ∃ l8, l8 = h8.length := ⟨_, rfl⟩
  have HL8 := hide hl8
  rw [← hl8]
  have C10 := rdrop_any A1 A' q c1 mk d w2.heap.size w2.heap.size r1 k2 w8 (HR1b.out.below HW8.out) HQ1.out hc1 (by omega) (Reads.below HKb.out HW8.out) HW8.out.size
  rw [HK1.out, ← HDD.out] at C10
  simp only at C10
  have C10H := hide C10
  clear C10 C9H ho8 hk8 hb8 hr8 hl8 HA7 HX7 HY7
  go_wp2_with fail
  refine C10H.out.mono ?_
  rintro e w9 ⟨v9, rfl, h9, ho9, hk9, hm9, hb9⟩
  obtain ⟨A9, c9, rfl, hrd9, _, _⟩ := OwnH.slice_ ho9
  have HW9 := hide (HW8.out.trans (hb9.mono HW8.out.size))
  have HA9 := hide (own_bel HA8.out hb9)
  have HN9 := hide (Reads.below HN8.out (hb9.mono HW8.out.size) : Bs w9 w2.heap.size A5 nl.length nl)
  have HX9 := hide (HX8.out.later hb9)
  have HY9 := hide ((HY8.out.below hb9).more hb9.size)
  have HU9 := hide (HU8.out.later hb9)
  have HV9 : Hid (RowR w9 w9.heap.size A9 h9) := hide ⟨hrd9, fun x hx => HGR.out w9 HW9.out x (hm9 x hx)⟩
  have HKV : Hid (keys h9 = R9) := hide hk9
  obtain ⟨l9, hl9⟩ : ∃ l9, l9 = h9.length := ⟨_, rfl⟩
  have HL9 := hide hl9
  rw [← hl9]
  clear C10H ho9 hk9 hm9 hb9 hrd9 hl9 HA8 HX8 HY8 HU8
  have hl67 : l6 ≤ 31 ∧ l7 ≤ 31 ∧ l8 ≤ 31 ∧ l9 ≤ 31 := by
    have e6 := congrArg List.length HKX.out
    have e7 := congrArg List.length HKY.out
    have e8 := congrArg List.length HKU.out
    have e9 := congrArg List.length HKV.out
    rw [List.length_map] at e6 e7 e8 e9
    have := HADL.out
    have := HDDL.out
    have := HL6.out
    have := HL7.out
    have := HL8.out
    have := HL9.out
    omega
  have C11 := may_any A2 q c2 w2.heap.size r2 w9 (HR2.out.below HW9.out) HQ2.out (by unfold maxLen; omega)
  have C12 := rmay_any A1 q c1 w2.heap.size r1 w9 (HR1b.out.below HW9.out) HQ1.out (by unfold maxLen; omega)
  rw [HK2.out] at C11
  rw [HK1.out] at C12
  obtain ⟨mb, hmb⟩ : ∃ mb, mb = mayR R := ⟨_, rfl⟩
  rw [← hmb] at C11 C12
  have C11H := hide C11
  have C12H := hide C12
  clear C11 C12 hmb
  go_wp2_with fail
  refine C11H.out.mono ?_
  rintro e w10 ⟨rfl, rfl⟩
  go_wp2_with fail
  refine C12H.out.mono ?_
  rintro e w10 ⟨rfl, hb10⟩
  have HW10 := hide (HW9.out.trans (hb10 _))
  have HA10 := hide (own_bel HA9.out (hb10 _))
  have HX10 := hide (HX9.out.later (hb10 _))
  have HY10 := hide ((HY9.out.below (hb10 _)).more (hb10 0).size)
  have HU10 := hide (HU9.out.later (hb10 _))
  have HV10 := hide ((HV9.out.below (hb10 _)).more (hb10 0).size)
  have q1 := conv_bytes (P := Try.prog) (Reads.of_own HA10.out : Bs w10 _ A4 nl.length nl) c4 23 5 9 Try.underlying23 Try.underlying5 Try.underlying9
  have q2 := conv_bytes (P := Try.prog) (Reads.below HN9.out (hb10 _) : Bs w10 _ A5 nl.length nl) c5 23 5 9 Try.underlying23 Try.underlying5 Try.underlying9
  clear C11H C12H hb10 HA9 HX9 HY9 HU9 HV9 HN9
  have C13 := same_any A6 A7 l6 c6 l7 c7 w10.heap.size w10.heap.size h6 h7 w10 HX10.out.rd HY10.out HL6.out HL7.out (by omega) (by omega)
  rw [HKX.out, HKY.out, decide_eq_true rfl] at C13
  have C13H := hide C13
  clear C13
  go_wp2_with fail
  refine C13H.out.mono ?_
  rintro e w11 ⟨rfl, hb11⟩
  have HW11 := hide (HW10.out.trans (hb11.mono HW10.out.size))
  have HA11 := hide (own_bel HA10.out hb11)
  have HX11 := hide (HX10.out.later hb11)
  have HU11 := hide (HU10.out.later hb11)
  have HV11 := hide ((HV10.out.below hb11).more hb11.size)
  have C14 := same_any A8 A9 l8 c8 l9 c9 w11.heap.size w11.heap.size h8 h9 w11 HU11.out.rd HV11.out HL8.out HL9.out (by omega) (by omega)
  rw [HKU.out, HKV.out, decide_eq_true rfl] at C14
  have C14H := hide C14
  clear C14 C13H hb11 q1 q2 HA10 HX10 HY10 HU10 HV10
  go_wp2_with fail
  refine C14H.out.mono ?_
  rintro e w12 ⟨rfl, hb12⟩
  have HW12 := hide (HW11.out.trans (hb12.mono HW11.out.size))
  have HX12 := hide ((HX11.out.later hb12).later (bel1 w12 (.cells #[.slice A4 nl.length c4] 23)))
  have HU12 := hide ((HU11.out.later hb12).later (bel1 w12 (.cells #[.slice A4 nl.length c4] 23)))
  have HA12 := hide (one_row (x := ⟨A4, c4, nl⟩) (own_bel HA11.out hb12) HW12.out.size)
  have HWE := hide (balloc HW12.out (.cells #[.slice A4 nl.length c4] 23))
  clear C14H hb12 HA11 HX11 HU11 HV11
  go_wp2_with fail
  have HROW : Hid (∀ i : Nat, i < 3 → ∃ (A : Option Addr) (l c : Nat) (L : List Hd), ([.slice A6 l6 c6, .slice A8 l8 c8, .slice (some ⟨w12.heap.size, 0, none⟩) 1 1] : List Value)[i]? = some (.slice A l c) ∧ l ≤ 31 ∧ l = L.length ∧ OwnRow (w12.alloc (.cells #[.slice A4 nl.length c4] 23)) w2.heap.size (.slice A l c) L) := hide (fun i hi => by
    match i, hi with
    | 0, _ => exact ⟨A6, l6, c6, h6, rfl, by omega, HL6.out, by rw [HL6.out]; exact HX12.out⟩
    | 1, _ => exact ⟨A8, l8, c8, h8, rfl, by omega, HL8.out, by rw [HL8.out]; exact HU12.out⟩
    | 2, _ => exact ⟨_, 1, 1, [⟨A4, c4, nl⟩], rfl, by omega, rfl, HA12.out⟩)
  clear HX12 HU12 HA12 HW12
  generalize w12.alloc (.cells #[.slice A4 nl.length c4] 23) = W0 at HROW HWE ⊢
  go_loopw [137] (fun v137 W => ∃ i : Nat, i ≤ 3 ∧ v137 = .int .i64 i ∧ Hid (Xd (Pb w2.heap.size W0) W0 W)) (fun v137 _ => 3 - (intOf v137).toNat)
  case atStart => exact ⟨0, by omega, rfl, hide (Xd.refl _ _)⟩
  case round =>
    obtain ⟨i, hi, rfl, HD⟩ := hrel
    by_cases hlt : i < 3
    · obtain ⟨A, l, c, L, hgl, hl31, hlL, hor⟩ := HROW.out i hlt
      have hidx := ix60 _ _ _ i _ hgl
      have hiI : (i : Int) < 3 := by omega
      have HL := hide hlL
      have HOR := hide hor
      clear hgl hlL hor
      go_wp2_with fail
      clear hidx
      go_loopw [24] (fun v24 W => ∃ j : Nat, j ≤ l ∧ v24 = .int .i64 j ∧ Hid (Xd (Pb w2.heap.size W0) W0 W)) (fun v24 _ => l - (intOf v24).toNat)
      case atStart => exact ⟨0, by omega, rfl, HD⟩
      case round =>
        obtain ⟨j, hj, rfl, HD2⟩ := hrel
        by_cases hjl : j < l
        · obtain ⟨x, hx⟩ : ∃ x, L[j]? = some x := ⟨_, List.getElem?_eq_getElem (by rw [← HL.out]; exact hjl)⟩
          have HXM := hide (List.mem_of_getElem? hx)
          have HXJ := hide hx
          have hjI : (j : Int) < (l : Int) := by omega
          have hcl : ∀ W, Xd (Pb w2.heap.size W0) W0 W → ∃ a, A = some a ∧ W.cell? (a.add j) = some (.slice x.A x.l.length x.c) := fun W hX => by
            have h1 := pb_row HOR.out hX
            rw [HL.out] at h1
            obtain ⟨a, e, _, h2⟩ := (Reads.of_own h1).2 j x.v (by rw [List.getElem?_map, hx]; rfl)
            exact ⟨a, e, h2⟩
          obtain ⟨a, rfl, c1⟩ := hcl _ HD2.out
          have HCL : Hid (∀ W, Xd (Pb w2.heap.size W0) W0 W → W.cell? (a.add j) = some (.slice x.A x.l.length x.c)) := hide (fun W hX => by
            obtain ⟨a', e, h⟩ := hcl W hX
            cases e
            exact h)
          have HXL : Hid (x.l.length ≤ maxLen) := hide (by have := (good_own (HOR.out.bytes x HXM.out)).2; omega)
          obtain ⟨xn, hxn⟩ : ∃ xn, xn = x.l.length := ⟨_, rfl⟩
          have HXN := hide hxn
          have hx63 : xn ≤ 9223372036854775807 := by have := HXL.out; unfold maxLen at this; omega
          clear hx hcl hxn c1
          go_wp2_with fail
          go_loopw [25] (fun v25 W => ∃ p : Nat, p ≤ xn ∧ v25 = .int .i64 p ∧ Hid (Xd (Pb w2.heap.size W0) W0 W)) (fun v25 _ => xn - (intOf v25).toNat)
          case atStart => exact ⟨0, by omega, rfl, HD2⟩
          case round =>
            obtain ⟨p, hp, rfl, HD3⟩ := hrel
            have c1 := HCL.out _ HD3.out
            rw [← HXN.out] at c1
            by_cases hpn : p < xn
            · obtain ⟨g, b, cs, hxA, hpg, hbk, hbv⟩ := HD3.out.byte (HOR.out.bytes x HXM.out) (pb_in HOR.out x HXM.out) (j := p) (by rw [← HXN.out]; exact hpn)
              rw [hxA] at c1
              have c2 := (hbk.cell p).trans hbv
              have c3 := hbk.frozen p
              have c4 := hbk.lt
              have hpI : (p : Int) < (xn : Int) := by omega
              have HSET := hide (fun b' : Int => HD3.out.set (b := b') hpg hbk hbv)
              clear hxA hpg hbk hbv
              go_wp2_with fail
              go_roundw
              case rel => exact ⟨p + 1, by omega, by go_num, hide (HSET.out _)⟩
              case measure => simp [intOf]; omega
            · have hpI : ¬ (p : Int) < (xn : Int) := by omega
              go_wp2_with fail
              go_roundw
              case rel => exact ⟨j + 1, by omega, by go_num, HD3⟩
              case measure => simp [intOf]; omega
        · have hjI : ¬ (j : Int) < (l : Int) := by omega
          go_wp2_with fail
          go_roundw
          case rel => exact ⟨i + 1, by omega, by go_num, HD2⟩
          case measure => simp [intOf]; omega
    · have hiI : ¬ (i : Int) < 3 := by omega
      have HWF := hide (HWE.out.trans (HD.out.bel (B := w2.heap.size) (fun g h => h.1)))
      have C15 := same_any A2 A1 q c2 q c1 w2.heap.size w2.heap.size r2 r1 wr (HR2.out.below HWF.out) (HR1b.out.below HWF.out) HQ2.out HQ1.out (by omega) (by omega)
      rw [HK2.out, HK1.out, decide_eq_true rfl] at C15
      have C15H := hide C15
      clear C15
      go_wp2_with fail
      refine C15H.out.mono ?_
      rintro e w13 ⟨rfl, hb13⟩
      have HWG := hide (belFrom HB2.out (HWF.out.trans (hb13.mono HWF.out.size)))
      have C16 := knows_any w13
      clear hb13 C15H
      go_wp2_with fail
      refine C16.mono ?_
      rintro e w14 ⟨rfl, hb14⟩
      have HWH := hide (belFrom HWG.out hb14)
      clear hb14
      go_wp2_with fail
      go_ret
      exact ⟨rfl, HWH.out⟩
end Go.Proofs.Yteiamfekdibkmaa
