/-
  THE WALKS of a walk's Left and Seek. Conditions: as the theorems' premises say.
-/
import Derived.Test.YteiamfekdibkmaaOEnds
import Derived.Test.YteiamfekdibkmaaOWLaw
import Derived.Deep.RegionHeld3
import Derived.Deep.CutBlock
namespace Go.Proofs.Yteiamfekdibkmaa
open Go.RowKit Go.Shelf

theorem ats_le {R : List (List Key)} {K : List Key} {t : List Nat} {c : Nat} (h : Pos R K t c) (hr : ∀ r ∈ R, r.length ≤ 100000) : ∀ a ∈ t, a ≤ 100000 := by
  intro a ha
  obtain ⟨i, hi⟩ := List.mem_iff_getElem?.1 ha
  obtain ⟨r, a', h1, h2, _, _⟩ := h.at_ (i := i) (by rw [← h.len]; exact (List.getElem?_eq_some_iff.1 hi).1)
  rw [hi] at h2
  cases h2
  exact Nat.le_trans (h.ok i r a h1 hi).1 (hr r (List.mem_of_getElem? h1))
set_option maxHeartbeats 2000000 in
theorem left_any {w : World} {base p g : Nat} {rs : List Rw} {t : List Nat} {K : List Key} {c : Nat} (h : WkAt w base p g rs t) (hU : Un (rws rs) K) (hP : Pos (rws rs) K t c) (hK : K.length ≤ 1000000) :
    Calls Try.prog 10 #[.pointer (some ⟨p, 0, none⟩)] w fun e w' => e = .returned (.int .i64 ((K.length - c : Nat) : Int)) ∧ Below w.heap.size w w' := by
  obtain ⟨cap, hw, ha⟩ := h.ex
  have C1 := hide (none_no hw)
  obtain ⟨vr, h1, h2⟩ := hw.ex
  obtain ⟨Ar, cr, rfl⟩ := slice_ofH h2
  obtain ⟨g1, g2, g3⟩ := h1.facts
  have C2 := hide (cloneI_any ha (by have := h.few; have := h.len; omega))
  rw [h.len] at C2
  obtain ⟨n, hn⟩ : ∃ n, n = rs.length := ⟨_, rfl⟩
  rw [← hn] at g1 C2
  have H := hide h
  have HW := hide hw
  have HN := hide hn
  have HU := hide hU
  have HP := hide hP
  obtain ⟨kl, hkl⟩ : ∃ kl, kl = K.length := ⟨_, rfl⟩
  have hcle := hP.le
  rw [← hkl] at hK hcle ⊢
  have HKL := hide hkl
  have HRL : Hid (∀ r ∈ rws rs, r.length ≤ 100000) := hide (fun r hr => by
    obtain ⟨x, hx, rfl⟩ := List.mem_map.1 hr
    rw [List.length_map]
    exact h.rows x hx)
  have HLR : Hid ((rws rs).length = n) := hide (by rw [hn]; exact List.length_map _)
  clear h hw ha h1 h2 hn hU hP hkl
  go_enter Try.func10, Try.ntmps10
  go_wp2_with fail
  refine C1.out.mono ?_
  rintro e w1 ⟨rfl, rfl⟩
  go_wp2_with fail
  refine C2.out.mono ?_
  rintro e w2 ⟨g', cap', rfl, ha2, hb2⟩
  have CL : Hid (∀ (W : World) (t' : List Nat) (c' : Nat), Pos (rws rs) K t' c' → Below w.heap.size w W → AtsAt W w.heap.size g' cap' t' → Calls Try.prog 34 #[.pointer (some ⟨p, 0, none⟩), .slice (some ⟨g', 0, none⟩) n cap'] W fun e w' => ∃ ob : Option Hd, e = .returned (.tuple #[obv ob, .bool ob.isSome]) ∧ ob.map Hd.l = leastL (rws rs) t' ∧ (∀ y, ob = some y → ∃ r ∈ rs, y ∈ r.hs) ∧ Below W.heap.size W w') := hide (fun W t' c' hp hb hA => by
    have hC := least_any (HW.out.below hb) hA rfl (by rw [hp.len, HLR.out, HN.out]) H.out.few H.out.rows (fun a ha => by have := ats_le hp HRL.out a ha; omega)
    rw [← HN.out] at hC
    exact hC.mono fun e w' ⟨ob, e1, e2, e3, e4⟩ => ⟨ob, e1, e2, fun y hy => (e3 y hy).2.2, e4⟩)
  have CS : Hid (∀ (W : World) (t' : List Nat) (c' : Nat) (y : Hd), Pos (rws rs) K t' c' → Below w.heap.size w W → AtsAt W w.heap.size g' cap' t' → (∃ r ∈ rs, y ∈ r.hs) → Calls Try.prog 35 #[.pointer (some ⟨p, 0, none⟩), .slice (some ⟨g', 0, none⟩) n cap', .slice y.A y.l.length y.c] W fun e w' => ∃ v, e = .returned v ∧ AtsAt w' w.heap.size g' cap' (stepT (rws rs) t' y.l (rws rs).length) ∧ W.grownBy w' (some g')) := hide (fun W t' c' y hp hb hA ⟨r, hr, hy⟩ => by
    have hC := step_any (y := y) (HW.out.below hb) hA rfl (by rw [hp.len, HLR.out, HN.out]) H.out.few H.out.rows (fun a ha => by have := ats_le hp HRL.out a ha; omega) ((HW.out.below hb).bytes hr hy)
    rw [← HN.out, ← HLR.out] at hC
    rw [← HLR.out]
    exact hC.mono fun e w' ⟨v, e1, _, e3, e4⟩ => ⟨v, e1, e3, e4⟩)
  have HA2 := hide ha2
  have HB2 := hide hb2
  have C3 := CL.out w2 t c HP.out hb2 ha2
  have C3H := hide C3
  clear ha2 hb2 C2 C3
  go_wp2_with fail
  refine C3H.out.mono ?_
  rintro e w3 ⟨ob, rfl, hob, hgd, hb3⟩
  have HB3 := hide (belFrom HB2.out hb3)
  have HA3 := hide (HA2.out.below hb3)
  have HOB := hide hob
  have HGD := hide hgd
  obtain ⟨s5, hs5⟩ : ∃ s5, s5 = obv ob := ⟨_, rfl⟩
  obtain ⟨s6, hs6⟩ : ∃ s6, s6 = ob.isSome := ⟨_, rfl⟩
  rw [← hs5, ← hs6]
  have HS5 := hide hs5
  have HS6 := hide hs6
  clear hob hgd hb3 C3H HB2 HA2 hs5 hs6 C1
  go_wp2_with fail
  go_loopw [4, 5, 6] (fun v4 v5 v6 W => ∃ (m : Nat) (t' : List Nat) (ob : Option Hd), c + m ≤ kl ∧ v4 = .int .i64 m ∧ v5 = obv ob ∧ v6 = .bool ob.isSome ∧ Hid (Pos (rws rs) K t' (c + m)) ∧ Hid (ob.map Hd.l = leastL (rws rs) t') ∧ Hid (∀ y, ob = some y → ∃ r ∈ rs, y ∈ r.hs) ∧ Hid (AtsAt W w.heap.size g' cap' t') ∧ Hid (Below w.heap.size w W)) (fun v4 _ _ _ => kl - (intOf v4).toNat)
  case atStart => exact ⟨0, t, ob, by omega, rfl, HS5.out, by rw [HS6.out], HP, HOB, HGD, HA3, HB3⟩
  case round =>
    obtain ⟨m, t', ob', hm, rfl, rfl, rfl, HP', HOB', HGD', HA', HB'⟩ := hrel
    clear HOB HGD HA3 HB3 HS5 HS6
    cases ob' with
    | none =>
      rw [show obv none = .slice none 0 0 from rfl, show Option.isSome (none : Option Hd) = false from rfl]
      have hmk : m = kl - c := by
        rcases Nat.lt_or_ge (c + m) K.length with h1 | h1
        · have h2 := HP'.out.least HU.out (List.getElem?_eq_getElem h1)
          rw [← HOB'.out] at h2
          cases h2
        · have := HKL.out
          omega
      subst hmk
      go_wp2_with fail
      go_ret
      exact ⟨rfl, HB'.out⟩
    | some y =>
      have hcm : c + m < K.length := by
        rcases Nat.lt_or_ge (c + m) K.length with h1 | h1
        · exact h1
        · have h2 := HP'.out.none_ h1
          rw [← HOB'.out] at h2
          cases h2
      have hky : K[c + m]? = some y.l := by
        have h2 := HP'.out.least HU.out (List.getElem?_eq_getElem hcm)
        rw [← HOB'.out] at h2
        have h3 : y.l = K[c + m] := Option.some.inj h2
        rw [h3]
        exact List.getElem?_eq_getElem hcm
      have C4 := CS.out wr t' (c + m) y HP'.out HB'.out HA'.out (HGD'.out y rfl)
      have hpn := HP'.out.step HU.out hky
      have hmlt : c + m < kl := by rw [HKL.out]; exact hcm
      have C4H := hide C4
      have HPN := hide hpn
      obtain ⟨yA, yc, yl⟩ := y
      rw [show obv (some (⟨yA, yc, yl⟩ : Hd)) = .slice yA yl.length yc from rfl, show Option.isSome (some (⟨yA, yc, yl⟩ : Hd)) = true from rfl]
      simp only at C4H HPN
      clear hcm hky C4 hpn
      go_wp2_with fail
      refine C4H.out.mono ?_
      rintro e w4 ⟨v4, rfl, ha4, hg4⟩
      have HB4 := hide (HB'.out.grown hg4 HB'.out.size (fun j hj => by cases hj; exact (own_lt (g := g') HA'.out.row rfl).1))
      have HA4 := hide ha4
      have C5 := CL.out w4 _ _ HPN.out HB4.out ha4
      have C5H := hide C5
      clear ha4 hg4 C5 C4H
      go_wp2_with fail
      refine C5H.out.mono ?_
      rintro e w5 ⟨ob5, rfl, hob5, hgd5, hb5⟩
      have HOB5 := hide hob5
      have HGD5 := hide hgd5
      have HA5 := hide (HA4.out.below hb5)
      have HB5 := hide (belFrom HB4.out hb5)
      clear hob5 hgd5 hb5 C5H
      go_wp2_with fail
      go_roundw
      case rel => exact ⟨m + 1, _, ob5, by omega, by go_num, rfl, rfl, HPN, HOB5, HGD5, HA5, HB5⟩
      case measure => simp [intOf]; omega
/-- places, the first i of them sought -/
def soughtT (R : List (List Key)) (t : List Nat) (k : Key) (i : Nat) : List Nat := (R.take i).map (posL k) ++ t.drop i
theorem sought_len {R : List (List Key)} {t : List Nat} (h : t.length = R.length) (k : Key) (i : Nat) : (soughtT R t k i).length = R.length := by
  unfold soughtT
  rw [List.length_append, List.length_map, List.length_take, List.length_drop]
  omega
theorem sought_zero (R : List (List Key)) (t : List Nat) (k : Key) : soughtT R t k 0 = t := rfl
theorem sought_all {R : List (List Key)} {t : List Nat} (h : t.length = R.length) (k : Key) : soughtT R t k R.length = R.map (posL k) := by
  unfold soughtT
  rw [List.take_of_length_le (Nat.le_refl _), List.drop_of_length_le (by omega), List.append_nil]
theorem sought_next {R : List (List Key)} {t : List Nat} (h : t.length = R.length) {k : Key} {i : Nat} {r : List Key} (hr : R[i]? = some r) : (soughtT R t k i).set i (posL k r) = soughtT R t k (i + 1) := by
  have hi := (List.getElem?_eq_some_iff.1 hr).1
  have hl : ((R.take i).map (posL k)).length = i := by rw [List.length_map, List.length_take]; omega
  have hd : t.drop i = t[i]'(by omega) :: t.drop (i + 1) := List.drop_eq_getElem_cons _
  unfold soughtT
  rw [hd, List.set_append_right _ _ (by omega), hl, Nat.sub_self, List.set_cons_zero, List.take_add_one, hr, List.map_append, List.append_assoc]
  rfl
theorem sought_ats {R : List (List Key)} {t : List Nat} {k : Key} {i : Nat} (ht : ∀ a ∈ t, a ≤ 100000) (hr : ∀ r ∈ R, r.length ≤ 100000) : ∀ a ∈ soughtT R t k i, a ≤ 100000 := by
  intro a ha
  rcases List.mem_append.1 ha with ha | ha
  · obtain ⟨r, hr', rfl⟩ := List.mem_map.1 ha
    exact Nat.le_trans (posL_le _ _) (hr r (List.mem_of_mem_take hr'))
  · exact ht a (List.mem_of_mem_drop ha)
set_option maxHeartbeats 2000000 in
theorem seek_any {w : World} {base p g : Nat} {rs : List Rw} {t : List Nat} (h : WkAt w base p g rs t) (A : Option Addr) (m d B : Nat) (k : Key) (hk : Bs w B A m k) (hB : B ≤ base) :
    Calls Try.prog 14 #[.pointer (some ⟨p, 0, none⟩), .slice A m d] w fun e w' => e = .returned (.int .i64 (if mayK k then 0 else 1)) ∧ WkAt w' base p g rs (if mayK k then (rws rs).map (posL k) else t) ∧ w.grownBy w' (some g) := by
  obtain ⟨cap, hw, ha⟩ := h.ex
  have C1 := hide (none_no hw)
  have C2 := hide (may1_any A m d k hk.len.symm w)
  have hglt := h.glt
  obtain ⟨t2, ht2⟩ : ∃ t2, t2 = (rws rs).map (posL k) := ⟨_, rfl⟩
  rw [← ht2]
  have HT2 := hide ht2
  clear ht2
  cases hm : mayK k with
  | false =>
    rw [hm] at C2
    have H := hide h
    clear h hw ha hk hm
    go_enter Try.func14, Try.ntmps14
    go_wp2_with fail
    refine C1.out.mono ?_
    rintro e w1 ⟨rfl, rfl⟩
    go_wp2_with fail
    refine C2.out.mono ?_
    rintro e w1 ⟨rfl, rfl⟩
    go_wp2_with fail
    go_ret
    exact ⟨rfl, H.out, World.grownBy.refl _ _⟩
  | true =>
    rw [hm] at C2
    obtain ⟨vr, h1, h2⟩ := hw.ex
    obtain ⟨Ar, cr, rfl⟩ := slice_ofH h2
    obtain ⟨g1, g2, g3⟩ := h1.facts
    have hrr : Reads w w.heap.size 1 Ar rs.length (rs.map Rw.v) := Reads.of_own h2
    obtain ⟨n, hn⟩ : ∃ n, n = rs.length := ⟨_, rfl⟩
    have hfew := h.few
    rw [← hn] at g1 h1 hrr hfew
    have HOR := hide h2
    have H := hide h
    have HW := hide hw
    have HA := hide ha
    have HN := hide hn
    have HB1 := hide h1
    have HK := hide hk
    have HT := hide h.len
    have hpg : p ≠ g := by
      have h := h1.mk_.ne_own ha.row (by decide)
      intro e
      exact h (by rw [e]; rfl)
    have HPG := hide hpg
    clear h hw ha h1 h2 hn hk hm hrr hpg
    go_enter Try.func14, Try.ntmps14
    go_wp2_with fail
    refine C1.out.mono ?_
    rintro e w1 ⟨rfl, rfl⟩
    go_wp2_with fail
    refine C2.out.mono ?_
    rintro e w1 ⟨rfl, rfl⟩
    go_wp2_with fail
    clear g1 g2 g3 C1 C2
    go_loopw [19] (fun v19 W => ∃ i : Nat, i ≤ n ∧ v19 = .int .i64 i ∧ Hid (AtsAt W base g cap (soughtT (rws rs) t k i)) ∧ Hid (w.grownBy W (some g))) (fun v19 _ => n - (intOf v19).toNat)
    case atStart => exact ⟨0, by omega, rfl, HA, hide (World.grownBy.refl _ _)⟩
    case round =>
      obtain ⟨i, hi, rfl, HA2, HG⟩ := hrel
      have htl : t.length = (rws rs).length := by rw [List.length_map]; exact HT.out
      have HTL := hide htl
      by_cases hlt : i < n
      · obtain ⟨r, hr⟩ : ∃ r, rs[i]? = some r := ⟨_, List.getElem?_eq_getElem (by rw [← HN.out]; exact hlt)⟩
        have hrm := List.mem_of_getElem? hr
        have hkr : (rws rs)[i]? = some (keys r.hs) := by rw [List.getElem?_map, hr]; rfl
        have hWk := HW.out.beside HA.out HG.out
        have hRow : Reads wr wr.heap.size 1 Ar rs.length (rs.map Rw.v) := Reads.of_own (HOR.out.kept HG.out (own_types HOR.out HA.out.row (by decide)))
        obtain ⟨ad, rfl, hab, c1⟩ := hRow.2 i r.v (by rw [List.getElem?_map, hr]; rfl)
        have hrl := H.out.rows r hrm
        have hgr := (hWk.rows r hrm).rowR
        have hok := hWk.ok r hrm
        have hkk : Bs wr B A m k := Reads.keep HK.out (fun q hq => World.cell?_of_block (HG.out.block q.block (by omega) (fun e => by cases e; omega)))
        have hat : ∃ a, (soughtT (rws rs) t k i)[i]? = some a := ⟨_, List.getElem?_eq_getElem (by rw [sought_len htl, List.length_map, ← HN.out]; exact hlt)⟩
        obtain ⟨a, hat⟩ := hat
        obtain ⟨d1, d2, d3⟩ := HA2.out.at_ hat
        have hb2 := HB1.out.grown HG.out (by simpa using HPG.out)
        have hp1 : wr.cell? ⟨p, 1, none⟩ = some (.slice (some ⟨g, 0, none⟩) n cap) := hb2.cell 1
        have hplt := hb2.lt
        obtain ⟨rA, rc, rhs⟩ := r
        have c1' : wr.cell? (ad.add i) = some (.slice rA rhs.length rc) := c1
        simp only at hrl hgr hok hkr
        have C3 := hide (fun (W : World) (hb : ∀ B, Below B wr W) => search_any rA A rhs.length rc m d wr.heap.size B rhs k W (hgr.below (hb _)) rfl (by omega) hok.2 (Reads.below hkk (hb _)))
        have hset := HA2.out.set i (posL k (keys rhs))
        rw [sought_next htl hkr] at hset
        have HSET := hide hset
        have hiI : (i : Int) < (n : Int) := by omega
        obtain ⟨q, hq⟩ : ∃ q, q = posL k (keys rhs) := ⟨_, rfl⟩
        obtain ⟨ib, hib⟩ : ∃ ib, ib = isL k (keys rhs) := ⟨_, rfl⟩
        rw [← hq] at HSET
        rw [← hq, ← hib] at C3
        clear c1 hr hrm hkr hWk hRow hgr hok hkk hat hb2 hset hq hib htl
        go_upto_region 8 with fail
        have B0 : ∀ B, Below B wr wr.drew := fun _ => ⟨rfl, rfl, rfl, Nat.le_refl _, fun _ _ => rfl⟩
        have C3' := C3.out wr.drew B0
        have C3H := hide C3'
        have e1 : wr.drew.cell? ⟨g, i, none⟩ = some (.int .i64 (a : Int)) := d1
        have e2 : wr.drew.frozen? ⟨g, i, none⟩ = false := d2
        have e3 : g < wr.drew.heap.size := d3
        have HP1 := hide hp1
        have hgd : (wr.drew).grownBy (wr.drew.setCell ⟨g, i, none⟩ (.int .i64 (q : Int))) (some g) := only_setCell (World.grownBy.refl _ _) (.inl rfl) _
        have HGD := hide hgd
        clear C3 C3' B0 c1' hab d1 d2 d3 hp1 hgd
        go_region_held3 (fun W => W.cell? ⟨p, 1, none⟩ = some (.slice (some ⟨g, 0, none⟩) n cap)) (first | exact HP1.out | (exact (World.cell?_of_block (HGD.out.block p hplt (by simpa using HPG.out))).trans HP1.out) | fail) (first | (go_at_call 39; refine C3H.out.mono ?_; rintro e w3 ⟨rfl, rfl⟩) | fail)
        all_goals (go_wp2_with fail)
        go_roundw
        case rel => exact ⟨i + 1, by omega, by go_num, hide ⟨HSET.out.1.row⟩, hide (HG.out.trans ((only_drew (World.grownBy.refl _ _)).trans HGD.out))⟩
        case measure => simp [intOf]; omega
      · obtain rfl : i = n := by omega
        have hnl : ¬ (i : Int) < i := by omega
        have hfin := HA2.out
        rw [show i = (rws rs).length by rw [List.length_map, ← HN.out], sought_all htl, ← HT2.out] at hfin
        have HF := hide (And.intro (HW.out.beside HA.out HG.out) hfin)
        clear hfin htl
        go_wp2_with fail
        go_ret
        refine ⟨rfl, ⟨⟨cap, HF.out.1, HF.out.2⟩, by rw [HT2.out, List.length_map, List.length_map], H.out.few, H.out.rows, ?_⟩, HG.out⟩
        intro a ha
        rw [HT2.out] at ha
        obtain ⟨r, hr, rfl⟩ := List.mem_map.1 ha
        obtain ⟨x, hx, rfl⟩ := List.mem_map.1 hr
        exact Nat.le_trans (posL_le _ _) (by rw [List.length_map]; exact H.out.rows x hx)
end Go.Proofs.Yteiamfekdibkmaa
