/-
  THE WALK of holes: Found. Conditions: as the theorems' premises say.
-/
import Derived.Test.YtfdabccdgcohjaaHAdd
namespace Go.Proofs.Ytfdabccdgcohjaa
open Go.RowKit Go.Shelf

theorem addL_len : ∀ (L : List St) (a : St), (addL a L).length ≤ L.length + 1
  | [], a => by simp [addL]
  | s :: r, a => by
    rw [addL]
    split
    · have := addL_len r a
      simp; omega
    · split
      · simp
      · have := addL_len r (merge s a)
        simp; omega
theorem addO_len (lo hi : Nat) (L : List St) : (addO lo hi L).2.length ≤ L.length + 1 := by
  unfold addO
  split
  · simp
  · split
    · simp
    · exact addL_len _ _
theorem foundO_len (n : Nat) (L : List St) : (foundO n L).2.length ≤ L.length + 1 := by
  unfold foundO
  split
  · simp
  · split
    · simp
    · rename_i k hk
      obtain ⟨X, s, Y, rfl, e2, e3⟩ := idxL_some hk
      obtain ⟨h1, h2⟩ := cut_app (X := X) (Y := Y) (s := s) e2
      rw [h1, h2]
      split
      · simp
        omega
      · have h3 := addO_len s.lo (n - 1) (X ++ Y)
        have h4 := addO_len (n + 1) s.hi (addO s.lo (n - 1) (X ++ Y)).2
        simp at *
        omega
set_option maxHeartbeats 2000000 in
theorem found_any {w : World} {base p : Nat} {L : List St} (h : HoAt w base p L) (n : Nat) (hn : n ≤ 18446744073709551615) (hsm : L.length ≤ 90000) :
    Calls Try.prog 13 #[.pointer (some ⟨p, 0, none⟩), .int .u64 n] w fun e w' => e = .returned (.int .i64 (foundO n L).1) ∧ HoAt w' base p (foundO n L).2 ∧ w.grownBy w' (some p) := by
  obtain ⟨v, h1, h2⟩ := h.ex
  have C1 := hide (none_no h1)
  have H := hide h
  by_cases hl0 : n = 0
  · subst hl0
    have e : foundO 0 L = (1, L) := by unfold foundO; rw [if_pos (.inl rfl)]
    rw [e]
    clear h h1 h2 e
    go_enter Try.func13, Try.ntmps13
    go_wp2_with fail
    refine C1.out.mono ?_
    rintro e w1 ⟨rfl, rfl⟩
    go_wp2_with fail
    go_ret
    exact ⟨rfl, H.out, World.grownBy.refl _ _⟩
  have hl2 : ((n : Int) == 0) = false := by simp; omega
  by_cases hh0 : 1099511627776 < n
  · have e : foundO n L = (1, L) := by unfold foundO; rw [if_pos (.inr hh0)]
    rw [e]
    have hh1 : (1099511627776 : Int) < (n : Int) := by omega
    clear h h1 h2 e
    go_enter Try.func13, Try.ntmps13
    go_wp2_with fail
    refine C1.out.mono ?_
    rintro e w1 ⟨rfl, rfl⟩
    go_wp2_with fail
    go_ret
    exact ⟨rfl, H.out, World.grownBy.refl _ _⟩
  have hh1 : ¬ (1099511627776 : Int) < (n : Int) := by omega
  have hh2 : decide ((1099511627776 : Int) < (n : Int)) = false := by simp; omega
  have C2 := hide (at_any h n (by omega))
  cases hq : idxL n L with
  | none =>
    have e : foundO n L = (0, L) := by unfold foundO; rw [if_neg (by omega), hq]
    rw [e]
    rw [hq] at C2
    have C2' : Hid (Calls Try.prog 34 #[.pointer (some ⟨p, 0, none⟩), .int .u64 n] w fun e w' => e = .returned (.int .i64 (-1)) ∧ Below w.heap.size w w') := C2
    clear C2 h h1 h2 e hq
    go_enter Try.func13, Try.ntmps13
    go_wp2_with fail
    refine C1.out.mono ?_
    rintro e w1 ⟨rfl, rfl⟩
    go_wp2_with fail
    refine C2'.out.mono ?_
    rintro e w1 ⟨rfl, hb⟩
    go_wp2_with fail
    go_ret
    exact ⟨rfl, H.out.below hb, only_of_below hb _⟩
  | some k =>
    rw [hq] at C2
    have C2' : Hid (Calls Try.prog 34 #[.pointer (some ⟨p, 0, none⟩), .int .u64 n] w fun e w' => e = .returned (.int .i64 (k : Int)) ∧ Below w.heap.size w w') := C2
    obtain ⟨X, s, Y, hXY, hXk, hsn⟩ := idxL_some hq
    have hLk : L[k]? = some s := by rw [hXY, ← hXk]; simp
    have hLk2 : L[k]! = s := by rw [hXY]; exact (cut_app hXk).2
    have hkl : k < L.length := (List.getElem?_eq_some_iff.1 hLk).1
    have hlt1 : (L.take k ++ L.drop (k + 1)).length ≤ 90000 := by simp; omega
    have hcan : Canon (L.take k ++ L.drop (k + 1)) := by rw [hXY, (cut_app hXk).1]; rw [hXY] at h; exact canon_cut h.ok
    have hmem := h.ok.mem (List.mem_of_getElem? hLk)
    have hsn2 := St.has_iff.1 hsn
    have e : foundO n L = if s.lo = n ∧ s.hi = n then (0, L.take k ++ L.drop (k + 1)) else (0, (addO (n + 1) s.hi (addO s.lo (n - 1) (L.take k ++ L.drop (k + 1))).2).2) := by
      unfold foundO; rw [if_neg (by omega), hq]; simp only [hLk2]
    rw [e]
    obtain ⟨K, hK⟩ : ∃ K, K = L.take k ++ L.drop (k + 1) := ⟨_, rfl⟩
    rw [← hK] at hcan hlt1 ⊢
    obtain ⟨A, c, rfl, hr⟩ := own_slice h2
    obtain ⟨m, hm⟩ : ∃ m, m = L.length := ⟨_, rfl⟩
    rw [← hm] at h1 hsm hkl
    have HM := hide hm
    have HR := hide hr
    have H1 := hide h1
    have HK := hide hK
    have HCAN := hide hcan
    have HS := hide hLk
    have hk0 : ¬ (k : Int) < 0 := by omega
    have hkI : (k : Int) < (m : Int) := by omega
    clear h h1 h2 e hq C2 hm hr hK hcan hLk hLk2 hXY hXk hsn
    go_enter Try.func13, Try.ntmps13
    go_wp2_with fail
    refine C1.out.mono ?_
    rintro e w1 ⟨rfl, rfl⟩
    go_wp2_with fail
    refine C2'.out.mono ?_
    rintro e w1 ⟨rfl, hb1⟩
    obtain ⟨ad, rfl, hab, c1, c2⟩ := RdS.at_ (HR.out.below hb1) HS.out
    obtain ⟨g1, g2, g3⟩ := (H1.out.below hb1 H1.out.lt).facts
    have hsz1 := hb1.size
    have hpne : p ≠ w1.heap.size := by omega
    have C3 := hide (clone_any (some ad) m c w1.heap.size L (w1.alloc (.cells #[.int .u64 (s.lo : Int), .int .u64 (s.hi : Int)] 41)) ((HR.out.below hb1).more hsz1 |>.alloc (Nat.le_refl _) _) HM.out (by omega) (by simp))
    have HB1 := hide hb1
    have HBS := hide (Blk.new w1 41 #[.int .u64 (s.lo : Int), .int .u64 (s.hi : Int)])
    clear hb1
    go_wp2_with fail
    refine C3.out.mono ?_
    rintro e w2 ⟨v2, rfl, ho2, hb2⟩
    have hsa : (w1.alloc (.cells #[.int .u64 (s.lo : Int), .int .u64 (s.hi : Int)] 41)).heap.size = w1.heap.size + 1 := by simp
    have hb02 : Below w.heap.size w w2 := belFrom (balloc HB1.out _) hb2
    have hbs2 := HBS.out.below hb2 HBS.out.lt
    rcases ho2.2 with ⟨_, h0⟩ | ⟨g, cap, cur, rfl, hgb, _⟩
    · rw [← HM.out] at h0; omega
    have hm2 := HM.out
    rw [← hm2] at ho2 ⊢
    have C4 := hide (delete_any (n := m) ho2 hm2 hkl)
    have hwr := IntWalk.i64_in ((k : Int) + 1) ⟨by omega, by omega⟩
    have HB2 := hide hb02
    have HBS2 := hide hbs2
    clear ho2 hb2 hb02 hbs2 hm2 C3 HBS
    go_wp2_with fail
    refine C4.out.mono ?_
    rintro e w3 ⟨v3, rfl, ho3, hg3⟩
    rw [← HK.out] at ho3
    rw [hsa] at ho3 hgb
    obtain ⟨A5, c5, rfl, _⟩ := own_slice ho3
    obtain ⟨v3, hv3⟩ : ∃ v3, v3 = Value.slice A5 K.length c5 := ⟨_, rfl⟩
    rw [← hv3] at ho3
    have hb03 : Below w.heap.size w w3 := HB2.out.grown hg3 HB2.out.size (fun j hj => by cases hj; omega)
    obtain ⟨f1, f2, f3⟩ := (H1.out.below hb03 H1.out.lt).facts
    have hbs3 := Blk.far (Blk.grown HBS2.out hg3 (by simp; omega)) (p := ⟨p, 0, none⟩) (fun e => hpne e.symm) v3
    obtain ⟨s1, s2, s3⟩ := hbs3.facts
    have hho : HoAt (w3.setCell ⟨p, 0, none⟩ v3) base p K := by
      have hg : w3.grownBy (w3.setCell ⟨p, 0, none⟩ v3) (some p) := only_setCell (p := ⟨p, 0, none⟩) (World.grownBy.refl w3 _) (.inl rfl) v3
      have hbp := H.out.hp
      have := H1.out.lt
      exact ⟨⟨v3, by simpa using (H1.out.below hb03 H1.out.lt).set_ 0 v3, own_mono (ho3.kept hg (.inr (fun e => own_ne ho3 (g := p) (by omega) e.symm))) (by omega)⟩, hbp, HCAN.out⟩
    have hgr : w.grownBy (w3.setCell ⟨p, 0, none⟩ v3) (some p) := only_setCell (p := ⟨p, 0, none⟩) (only_of_below hb03 _) (.inl rfl) v3
    have HHO := hide hho
    have HGR := hide hgr
    have HBS3 := hide hbs3
    have hlq := fun (w : World) => eql41 s.lo s.hi n n w
    rw [hv3] at HHO HGR HBS3 s1 s2 s3
    clear ho3 hg3 hb03 hbs3 hho hgr hv3
    by_cases hsq : s.lo = n ∧ s.hi = n
    · have hd : (decide (s.lo = n) && decide (s.hi = n)) = true := by simp [hsq.1, hsq.2]
      rw [hd] at hlq
      have HSQ := hide hsq
      clear hsq hd
      go_wp2_with fail
      go_ret
      try rw [if_pos HSQ.out]
      exact ⟨rfl, HHO.out, HGR.out⟩
    have hd : (decide (s.lo = n) && decide (s.hi = n)) = false := by
      cases h : (decide (s.lo = n) && decide (s.hi = n))
      · rfl
      · exact absurd (by simpa using h) hsq
    rw [hd] at hlq
    have HSQ := hide hsq
    have hw1 : IntKind.u64.wrap ((n : Int) - 1) = ((n - 1 : Nat) : Int) := by rw [IntWalk.u64_in _ ⟨by omega, by omega⟩]; omega
    have hw2 : IntKind.u64.wrap ((n : Int) + 1) = ((n + 1 : Nat) : Int) := by rw [IntWalk.u64_in _ ⟨by omega, by omega⟩]; omega
    obtain ⟨nm, hnm⟩ : ∃ nm, nm = n - 1 := ⟨_, rfl⟩
    obtain ⟨np, hnp⟩ : ∃ np, np = n + 1 := ⟨_, rfl⟩
    rw [← hnm] at hw1
    rw [← hnp] at hw2
    have C6 := hide (add_any HHO.out s.lo nm (by omega) (by omega) (by omega))
    have HNM := hide hnm
    have HNP := hide hnp
    have hlen := addO_len s.lo nm K
    have hnp2 : np ≤ 1099511627777 := by omega
    clear hsq hd hnm hnp
    go_wp2_with fail
    refine C6.out.mono ?_
    rintro e w4 ⟨rfl, h4, hg4⟩
    have hbs4 := Blk.grown HBS3.out hg4 (by simp; omega)
    obtain ⟨t1, t2, t3⟩ := hbs4.facts
    have C7 := hide (add_any h4 np s.hi (by omega) (by omega) (by omega))
    have HG4 := hide (HGR.out.trans hg4)
    clear h4 hg4 hbs4 C6 s1 s2 s3
    go_wp2_with fail
    refine C7.out.mono ?_
    rintro e w5 ⟨rfl, h5, hg5⟩
    have HG5 := hide (HG4.out.trans hg5)
    have H5 := hide h5
    clear h5 hg5
    go_wp2_with fail
    go_ret
    rw [HNM.out, HNP.out] at H5
    try rw [if_neg HSQ.out]
    exact ⟨rfl, H5.out, HG5.out⟩
end Go.Proofs.Ytfdabccdgcohjaa
