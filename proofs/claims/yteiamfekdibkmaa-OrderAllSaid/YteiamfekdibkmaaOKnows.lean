/-
  THE WALK of knows: the chapter's rows. Conditions: none.
-/
import Derived.Test.YteiamfekdibkmaaOOf
namespace Go.Proofs.Yteiamfekdibkmaa
open Go.RowKit Go.Shelf

theorem keep5 {w w' : World} {base p g b : Nat} {rs : List Rw} {t : List Nat} {s n : Nat} {v : Value} {xs : List Value} (h : w.ownsRow b 5 s v n xs) (hw : WkAt w base p g rs t) (hg : w.grownBy w' (some g)) : w'.ownsRow b 5 s v n xs := by
  obtain ⟨cap, _, ha⟩ := hw.ex
  exact h.kept hg (own_types h ha.row (by decide))
theorem keepI {w w' : World} {g b : Nat} {s n : Nat} {v : Value} {xs : List Value} (h : w.ownsRow b 3 s v n xs) (hb : g < b) (hg : w.grownBy w' (some g)) : w'.ownsRow b 3 s v n xs :=
  h.kept hg (.inr (fun e => by have := (own_lt h e).1; omega))
def kR : List (List Key) := [[[97], [99]], [[98], [99]]]
theorem k0 : leastL kR [0, 0] = some [97] := by decide
theorem k1 : leastL kR [1, 0] = some [98] := by decide
theorem k2 : leastL kR [1, 1] = some [99] := by decide
theorem k3 : leastL kR [2, 2] = none := by decide
theorem i0_ : inL kR [0, 0] [97] 2 = [0] := by decide
theorem i1_ : inL kR [1, 0] [98] 2 = [1] := by decide
theorem i2_ : inL kR [1, 1] [99] 2 = [0, 1] := by decide
theorem t0_ : stepT kR [0, 0] [97] 2 = [1, 0] := by decide
theorem t1_ : stepT kR [1, 0] [98] 2 = [1, 1] := by decide
theorem t2_ : stepT kR [1, 1] [99] 2 = [2, 2] := by decide
theorem s0_ : searchO [98] [[97], [99]] = (1, false) := by decide
theorem n0_ : nextK [97] [[97], [99]] = some [99] := by decide
theorem o0_ : ofOk kR = true := by decide
/-- a Next that tells a key -/
theorem next_some {w : World} {base p g : Nat} {rs : List Rw} {t : List Nat} {R : List (List Key)} {k : Key} {is : List Nat} {t' : List Nat} (h : WkAt w base p g rs t) (hR : rws rs = R) (hl : rs.length = 2) (h1 : leastL R t = some k) (h2 : inL R t k 2 = is) (h3 : stepT R t k 2 = t') :
    Calls Try.prog 11 #[.pointer (some ⟨p, 0, none⟩)] w fun e w' => ∃ A a c I i d, e = .returned (.tuple #[.slice A a c, .slice I i d, .bool true]) ∧ a = k.length ∧ i = is.length ∧ w'.ownsRow w.heap.size 5 1 (.slice A a c) k.length (k.map bv) ∧ OwnI w' w.heap.size (.slice I i d) is ∧ WkAt w' base p g rs t' ∧ w.grownBy w' (some g) := by
  refine (wnext_any h).mono fun e w' he => ?_
  unfold nextP at he
  rw [hR, h1] at he
  obtain ⟨vk, vi, e1, h4, h5, h6, h7⟩ := he
  rw [hl, h2] at h5
  rw [hl, h3] at h6
  obtain ⟨A, c, rfl⟩ := slice_ofH h4
  obtain ⟨I, d, rfl⟩ := slice_ofH h5
  exact ⟨A, _, c, I, _, d, e1, rfl, rfl, h4, h5, h6, h7⟩
theorem next_none {w : World} {base p g : Nat} {rs : List Rw} {t : List Nat} {R : List (List Key)} (h : WkAt w base p g rs t) (hR : rws rs = R) (h1 : leastL R t = none) :
    Calls Try.prog 11 #[.pointer (some ⟨p, 0, none⟩)] w fun e w' => e = .returned (.tuple #[.slice none 0 0, .slice none 0 0, .bool false]) ∧ WkAt w' base p g rs t ∧ Below w.heap.size w w' := by
  refine (wnext_any h).mono fun e w' he => ?_
  unfold nextP at he
  rw [hR, h1] at he
  exact he
theorem own_int {w : World} {b : Nat} {I : Option Addr} {i d : Nat} {is : List Nat} {x : Nat} (h : w.ownsRow b 3 1 (.slice I i d) is.length (is.map iv)) (hx : is[0]? = some x) : ∃ gi, I = some ⟨gi, 0, none⟩ ∧ w.cell? ⟨gi, 0, none⟩ = some (.int .i64 (x : Int)) := by
  have hl := (List.getElem?_eq_some_iff.1 hx).1
  rcases h.2 with ⟨_, h0⟩ | ⟨g, cap, cur, e, _⟩
  · omega
  · simp only [Value.slice.injEq] at e
    obtain ⟨rfl, rfl, rfl⟩ := e
    refine ⟨g, rfl, ?_⟩
    rw [h.cellAt 0 (by omega), List.getElem?_map, hx]
    rfl
theorem rows_lit {w : World} {g : Nat} {cs : Array Value} {rs : List Rw} (hb : Mk w g 25 cs) (he : cs = (rs.map Rw.v).toArray) (hg : ∀ r ∈ rs, RowR w (g + 1) r.A r.hs) : RowsR w (g + 1) (some ⟨g, 0, none⟩) rs := by
  subst he
  exact ⟨Reads.ofMk hb (by simp), hg⟩
set_option maxRecDepth 100000 in
set_option maxHeartbeats 4000000 in
theorem knows_any (w : World) : Calls Try.prog 15 #[] w fun e w' => e = .returned (.bool true) ∧ Below w.heap.size w w' := by
  have kc := run_conv_const (P := Try.prog) 23 5 Try.underlying23 Try.underlying5
  go_enter Try.func15, Try.ntmps15
  go_wp2_with fail
  refine (letters_any [97, 99] (by simp) w).mono ?_
  rintro e w1 ⟨v1, rfl, hs1, ho1, hk1, hb1⟩
  obtain ⟨A1, c1, rfl, hr1, _⟩ := ho1.slice_
  have hl1 : hs1.length = 2 := by have := congrArg List.length hk1; simpa using this
  rw [hl1]
  have HR1 := hide hr1
  have HK1 := hide hk1
  have HB1 := hide hb1
  have HL1 := hide hl1
  clear ho1 hr1 hk1 hb1 hl1
  go_wp2_with fail
  refine (letters_any [98, 99] (by simp) w1).mono ?_
  rintro e w2 ⟨v2, rfl, hs2, ho2, hk2, hb2⟩
  obtain ⟨A2, c2, rfl, hr2, _⟩ := ho2.slice_
  have hl2 : hs2.length = 2 := by have := congrArg List.length hk2; simpa using this
  rw [hl2]
  have hrows : RowsR (w2.alloc (.cells #[.slice A1 2 c1, .slice A2 2 c2] 25)) (w2.heap.size + 1) (some ⟨w2.heap.size, 0, none⟩) [⟨A1, c1, hs1⟩, ⟨A2, c2, hs2⟩] := by
    refine rows_lit (Mk.new w2 25 _ _) (by show _ = #[Value.slice A1 hs1.length c1, Value.slice A2 hs2.length c2]; rw [HL1.out, hl2]) (fun r hr => ?_)
    rcases List.mem_cons.1 hr with rfl | hr
    · exact ((HR1.out.below hb2).more hb2.size |>.below (bel1 w2 _)).more (Nat.le_succ _)
    · rw [List.mem_singleton.1 hr]
      exact (hr2.below (bel1 w2 _)).more (Nat.le_succ _)
  have hkk : rws [⟨A1, c1, hs1⟩, ⟨A2, c2, hs2⟩] = kR := by
    show [keys hs1, keys hs2] = _
    rw [HK1.out, hk2]
    rfl
  have C3 := hide (of_any (some ⟨w2.heap.size, 0, none⟩) 2 2 (w2.heap.size + 1) [⟨A1, c1, hs1⟩, ⟨A2, c2, hs2⟩] _ hrows (by simp) rfl (by omega) (fun r hr => by
    rcases List.mem_cons.1 hr with rfl | hr
    · show hs1.length ≤ _
      rw [HL1.out]; omega
    · rw [List.mem_singleton.1 hr]
      show hs2.length ≤ _
      rw [hl2]; omega))
  have HB2 := hide (belFrom HB1.out hb2)
  have HKK := hide hkk
  clear hrows hkk ho2 hr2 hk2 hb2 hl2
  go_wp2_with fail
  refine C3.out.mono ?_
  intro e w3 he3
  unfold ofP at he3
  rw [HKK.out, o0_] at he3
  rcases he3 with ⟨hf, _⟩ | ⟨_, p, g, rs, rfl, hrk, hwk, hb3⟩
  · cases hf
  have hrl : rs.length = 2 := by have := congrArg List.length hrk; simpa [kR] using this
  have HB3 := hide (belFrom (belFrom HB2.out (bel1 w2 _)) hb3)
  have HWK := hide hwk
  have HRK := hide hrk
  have HRL := hide hrl
  have hgb := hwk.glt
  have hgb1 := hgb.1
  have hsw : w.heap.size ≤ g := by have := HB2.out.size; simp at hgb1; omega
  clear hwk hrk hrl C3 hb3 hgb hgb1 HB1 HB2 HR1 HK1 HL1 HKK
  go_wp2_with fail
  refine (next_some HWK.out HRK.out HRL.out k0 i0_ t0_).mono ?_
  rintro e w4 ⟨Aa, a, ca, Ia, ia, da, rfl, rfl, rfl, ha, hia, hwk4, hg4⟩
  have hglt := HWK.out.glt.2.1
  have HA := hide ha
  have HIA := hide hia
  have HWK4 := hide hwk4
  have HB4 := hide (HB3.out.grown hg4 HB3.out.size (fun j hj => by cases hj; exact hsw))
  have hs4 := hg4.size
  clear ha hia hwk4 hg4 HWK HB3
  go_wp2_with fail
  refine (next_some HWK4.out HRK.out HRL.out k1 i1_ t1_).mono ?_
  rintro e w5 ⟨Ab, b, cb, Ib, ib, db, rfl, rfl, rfl, hb, hib, hwk5, hg5⟩
  have HA5 := hide (keep5 HA.out HWK4.out hg5)
  have HIA5 := hide (keepI HIA.out hglt hg5)
  have HBb := hide hb
  have HIB := hide hib
  have HWK5 := hide hwk5
  have HB5 := hide (HB4.out.grown hg5 HB4.out.size (fun j hj => by cases hj; exact hsw))
  have hs5 := hg5.size
  clear hb hib hwk5 hg5 HWK4 HB4 HA HIA
  go_wp2_with fail
  refine (next_some HWK5.out HRK.out HRL.out k2 i2_ t2_).mono ?_
  rintro e w6 ⟨Ac, c, cc, Ic, ic, dc, rfl, rfl, rfl, hc, hic, hwk6, hg6⟩
  have HA6 := hide (keep5 HA5.out HWK5.out hg6)
  have HIA6 := hide (keepI HIA5.out hglt hg6)
  have HB6b := hide (keep5 HBb.out HWK5.out hg6)
  have HIB6 := hide (keepI HIB.out (by omega) hg6)
  have HC := hide hc
  have HWK6 := hide hwk6
  have HB6 := hide (HB5.out.grown hg6 HB5.out.size (fun j hj => by cases hj; exact hsw))
  clear hc hic hwk6 hg6 HWK5 HB5 HA5 HIA5 HBb HIB
  go_wp2_with fail
  refine (next_none HWK6.out HRK.out k3).mono ?_
  rintro e w7 ⟨rfl, -, hb7⟩
  have HA7 := hide (own_bel HA6.out hb7)
  have HIA7 := hide (own_bel HIA6.out hb7)
  have HBB7 := hide (own_bel HB6b.out hb7)
  have HIB7 := hide (own_bel HIB6.out hb7)
  have HC7 := hide (own_bel HC.out hb7)
  have HB7 := hide (belFrom HB6.out hb7)
  clear hb7 HA6 HIA6 HB6b HIB6 HC HB6 HWK6
  go_wp2_with fail
  refine (letters_any [97, 99] (by simp) w7).mono ?_
  rintro e w8 ⟨v8, rfl, hs8, ho8, hk8, hb8⟩
  obtain ⟨A8, c8, rfl, hr8, _⟩ := ho8.slice_
  have hl8 : hs8.length = 2 := by have := congrArg List.length hk8; simpa using this
  have hq := Search_any A8 (some ⟨w8.heap.size, 0, none⟩) hs8.length c8 1 1 w8.heap.size (w8.heap.size + 1) hs8 [98] (w8.alloc (.cells #[.int .u8 98] 5 (1, 2))) (hr8.below (bel1 w8 _)) rfl (by omega) (Reads.ofMk (Mk.new w8 5 #[.int .u8 98] (1, 2)) rfl)
  rw [hk8, show [97, 99].map (fun b : UInt8 => [b]) = [[97], [99]] from rfl, s0_] at hq
  have HQ := hide hq
  have HA8 := hide (own_bel HA7.out (belFrom hb8 (bel1 w8 (.cells #[.int .u8 98] 5 (1, 2)))))
  have HIA8 := hide (own_bel HIA7.out (belFrom hb8 (bel1 w8 (.cells #[.int .u8 98] 5 (1, 2)))))
  have HBB8 := hide (own_bel HBB7.out (belFrom hb8 (bel1 w8 (.cells #[.int .u8 98] 5 (1, 2)))))
  have HIB8 := hide (own_bel HIB7.out (belFrom hb8 (bel1 w8 (.cells #[.int .u8 98] 5 (1, 2)))))
  have HC8 := hide (own_bel HC7.out (belFrom hb8 (bel1 w8 (.cells #[.int .u8 98] 5 (1, 2)))))
  have HB8 := hide (belFrom HB7.out (belFrom hb8 (bel1 w8 (.cells #[.int .u8 98] 5 (1, 2)))))
  clear hq ho8 hr8 hk8 hb8 HA7 HIA7 HBB7 HIB7 HC7 HB7
  rw [hl8] at HQ ⊢
  go_wp2_with fail
  generalize w8.alloc (.cells #[.int .u8 98] 5 (1, 2)) = w8a at HQ HA8 HIA8 HBB8 HIB8 HC8 HB8 ⊢
  refine HQ.out.mono ?_
  rintro e w9 ⟨rfl, rfl⟩
  go_wp2_with fail
  refine (letters_any [97, 99] (by simp) w8a).mono ?_
  rintro e wa ⟨va, rfl, hsa, hoa, hka, hba⟩
  obtain ⟨A9, c9, rfl, hra, _⟩ := hoa.slice_
  have hla : hsa.length = 2 := by have := congrArg List.length hka; simpa using this
  have hqn := next_any A9 (some ⟨wa.heap.size, 0, none⟩) hsa.length c9 1 1 wa.heap.size (wa.heap.size + 1) hsa [97] (wa.alloc (.cells #[.int .u8 97] 5 (1, 2))) (hra.below (bel1 wa _)) rfl (by omega) (Reads.ofMk (Mk.new wa 5 #[.int .u8 97] (1, 2)) rfl) (by simp)
  rw [hka, show [97, 99].map (fun b : UInt8 => [b]) = [[97], [99]] from rfl, n0_] at hqn
  have HQN := hide hqn
  have hbl := belFrom hba (bel1 wa (.cells #[.int .u8 97] 5 (1, 2)))
  have HA9 := hide (own_bel HA8.out hbl)
  have HIA9 := hide (own_bel HIA8.out hbl)
  have HBB9 := hide (own_bel HBB8.out hbl)
  have HIB9 := hide (own_bel HIB8.out hbl)
  have HC9 := hide (own_bel HC8.out hbl)
  have HB9 := hide (belFrom HB8.out hbl)
  clear hqn hoa hra hka hba hbl HA8 HIA8 HBB8 HIB8 HC8 HB8 HQ
  rw [hla] at HQN ⊢
  go_wp2_with fail
  generalize wa.alloc (.cells #[.int .u8 97] 5 (1, 2)) = wb at HQN HA9 HIA9 HBB9 HIB9 HC9 HB9 ⊢
  refine HQN.out.mono ?_
  rintro e wz ⟨vd, rfl, hod, hbz⟩
  obtain ⟨Ad, cd, rfl⟩ := slice_ofH hod
  have xa := own_bel HA9.out hbz
  have xb := own_bel HBB9.out hbz
  have xc := own_bel HC9.out hbz
  have ya := own_bel HIA9.out hbz
  have yb := own_bel HIB9.out hbz
  have HBZ := hide (belFrom HB9.out hbz)
  have va : (convert 23 9 (.slice Aa 1 ca)).run Try.prog wz = .ok (.string ⟨#[97]⟩) wz := conv_bytes (P := Try.prog) (l := [97]) (Reads.of_own xa) ca 23 5 9 Try.underlying23 Try.underlying5 Try.underlying9
  have vb : (convert 23 9 (.slice Ab 1 cb)).run Try.prog wz = .ok (.string ⟨#[98]⟩) wz := conv_bytes (P := Try.prog) (l := [98]) (Reads.of_own xb) cb 23 5 9 Try.underlying23 Try.underlying5 Try.underlying9
  have vc : (convert 23 9 (.slice Ac 1 cc)).run Try.prog wz = .ok (.string ⟨#[99]⟩) wz := conv_bytes (P := Try.prog) (l := [99]) (Reads.of_own xc) cc 23 5 9 Try.underlying23 Try.underlying5 Try.underlying9
  have vd : (convert 23 9 (.slice Ad 1 cd)).run Try.prog wz = .ok (.string ⟨#[99]⟩) wz := conv_bytes (P := Try.prog) (l := [99]) (Reads.of_own hod) cd 23 5 9 Try.underlying23 Try.underlying5 Try.underlying9
  obtain ⟨gi, rfl, za⟩ := own_int ya rfl
  obtain ⟨gj, rfl, zb⟩ := own_int yb rfl
  clear xa xb xc ya yb hod hbz HA9 HIA9 HBB9 HIB9 HC9 HB9 HQN
  simp only [List.length_cons, List.length_nil, Nat.zero_add, Option.getD_some, Option.isSome_some] at *
  go_wp2_with fail
  go_ret
  exact ⟨rfl, HBZ.out⟩
end Go.Proofs.Yteiamfekdibkmaa
