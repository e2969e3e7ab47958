/-
  THE WALK of HolesSet. Conditions: as the theorems' premises say.
-/
import Derived.Test.YtfdabccdgcohjaaHSetDef
import Derived.Test.YtfdabccdgcohjaaHSure
import Derived.BigQuiet
import Derived.Deep.DeepCutAuto
import Derived.Deep.CutBlock
import Derived.Deep.RegionHeld3
namespace Go.Proofs.Ytfdabccdgcohjaa
open Go.RowKit Go.Shelf

/-- a row of pairs of bytes -/
def Pr.cs (x : Pr) : List Value := [.int .u8 (x.1 : Int), .int .u8 (x.2 : Int)]
abbrev prc (l : List Pr) : List Value := l.flatMap Pr.cs
theorem prc_cons (x : Pr) (r : List Pr) : prc (x :: r) = .int .u8 (x.1 : Int) :: .int .u8 (x.2 : Int) :: prc r := rfl
theorem prc_at {l : List Pr} {k : Nat} {x : Pr} (h : l[k]? = some x) : (prc l)[k * 2]? = some (.int .u8 (x.1 : Int)) ∧ (prc l)[k * 2 + 1]? = some (.int .u8 (x.2 : Int)) := by
  induction l generalizing k with
  | nil => simp at h
  | cons y r ih =>
    cases k with
    | zero =>
      simp at h
      subst h
      exact ⟨rfl, rfl⟩
    | succ k =>
      simp at h
      obtain ⟨h1, h2⟩ := ih h
      rw [show (k + 1) * 2 = k * 2 + 2 by omega, show k * 2 + 2 + 1 = k * 2 + 1 + 2 by omega]
      exact ⟨h1, h2⟩
abbrev RdP (w : World) (B : Nat) (A : Option Addr) (l : List Pr) : Prop := Reads w B 2 A l.length (prc l)
theorem RdP.at_ {w : World} {B : Nat} {A : Option Addr} {l : List Pr} (h : RdP w B A l) {k : Nat} {x : Pr} (hk : l[k]? = some x) :
    ∃ ad, A = some ad ∧ ad.block < B ∧ w.cell? (ad.add (k * 2)) = some (.int .u8 (x.1 : Int)) ∧ w.cell? ⟨(ad.add (k * 2)).block, (ad.add (k * 2)).off + 1, none⟩ = some (.int .u8 (x.2 : Int)) := by
  obtain ⟨h1, h2⟩ := prc_at hk
  obtain ⟨ad, rfl, hb, hc⟩ := h.2 _ _ h1
  obtain ⟨ad', e, _, hc2⟩ := h.2 _ _ h2
  cases e
  refine ⟨ad, rfl, hb, hc, ?_⟩
  rw [← add_add_] at hc2
  rw [← hc2]
  generalize ad.add (k * 2) = a
  unfold Addr.add
  rw [if_neg (by omega)]
theorem HoAt.set {w : World} {base p g i : Nat} {L : List St} {t : TypeId} {cs : Array Value} (h : HoAt w base p L) (hg : Mk w g t cs) (h1 : t ≠ 61) (h2 : t ≠ 41) (v : Value) : HoAt (w.setCell ⟨g, i, none⟩ v) base p L := by
  obtain ⟨u, hb, ho⟩ := h.ex
  have hne : p ≠ g := by
    rintro rfl
    obtain ⟨fr, hg⟩ := hg
    have := hg.symm.trans hb
    simp at this
    exact h1 this.2.1
  have hgr : w.grownBy (w.setCell ⟨g, i, none⟩ v) (some g) := only_setCell (p := ⟨g, i, none⟩) (World.grownBy.refl w _) (.inl rfl) v
  refine ⟨⟨u, Blk.far hb (p := ⟨g, i, none⟩) hne v, ho.kept hgr (.inr ?_)⟩, h.hp, h.ok⟩
  have := hg.ne_own ho h2
  exact fun e => this e.symm

/-- the two holes and the array -/
structure SetAt (w W : World) (pa pb g : Nat) (La Lb : List St) (f : Nat → Bool) : Prop where
  a : HoAt W w.heap.size pa La
  b : HoAt W w.heap.size pb Lb
  ne : pa ≠ pb
  all : Blk W g 34 (arrF f)
  hg : w.heap.size ≤ g
  below : Below w.heap.size w W
theorem HoAt.ne34 {w : World} {base p g : Nat} {L : List St} {cs : Array Value} (h : HoAt w base p L) (hb : Blk w g 34 cs) : g ≠ p := by
  rintro rfl
  obtain ⟨v, h1, _⟩ := h.ex
  have := hb.symm.trans h1
  simp at this
section
variable {w W W' : World} {pa pb g : Nat} {La Lb : List St} {f : Nat → Bool}
theorem SetAt.later (h : SetAt w W pa pb g La Lb f) (hb : Below W.heap.size W W') : SetAt w W' pa pb g La Lb f :=
  ⟨h.a.below hb, h.b.below hb, h.ne, h.all.below hb h.all.lt, h.hg, belFrom h.below hb⟩
theorem SetAt.stepA (h : SetAt w W pa pb g La Lb f) {L : List St} (h2 : HoAt W' w.heap.size pa L) (hg : W.grownBy W' (some pa)) : SetAt w W' pa pb g L Lb f :=
  ⟨h2, h.b.other h.a hg (fun e => h.ne e.symm), h.ne, h.all.grown hg (by have := h.a.ne34 h.all; simp [this]), h.hg, h.below.grown hg h.below.size (fun j hj => by cases hj; exact h.a.hp)⟩
theorem SetAt.stepB (h : SetAt w W pa pb g La Lb f) {L : List St} (h2 : HoAt W' w.heap.size pb L) (hg : W.grownBy W' (some pb)) : SetAt w W' pa pb g La L f :=
  ⟨h.a.other h.b hg h.ne, h2, h.ne, h.all.grown hg (by have := h.b.ne34 h.all; simp [this]), h.hg, h.below.grown hg h.below.size (fun j hj => by cases hj; exact h.b.hp)⟩
theorem SetAt.set (h : SetAt w W pa pb g La Lb f) (n : Nat) (b : Bool) : SetAt w (W.setCell ⟨g, n, none⟩ (.bool b)) pa pb g La Lb (fun m => if m = n then b else f m) :=
  ⟨h.a.set ⟨_, h.all⟩ (by decide) (by decide) _, h.b.set ⟨_, h.all⟩ (by decide) (by decide) _, h.ne, by rw [← arrF_set]; exact h.all.set_ n _, h.hg, bset h.below h.hg _ _⟩
theorem SetAt.ext (h : SetAt w W pa pb g La Lb f) {f' : Nat → Bool} (e : ∀ n, n < 252 → f n = f' n) : SetAt w W pa pb g La Lb f' :=
  ⟨h.a, h.b, h.ne, by rw [← arrF_ext e]; exact h.all, h.hg, h.below⟩
end

theorem foundO_ok (L : List St) {n : Nat} (h1 : 1 ≤ n) (h2 : n ≤ 1099511627776) : (foundO n L).1 = 0 := by
  unfold foundO
  rw [if_neg (by omega)]
  split
  · rfl
  · split <;> rfl
theorem canon_next : ∀ {L : List St} {j : Nat} {a b : St}, Canon L → L[j]? = some a → L[j + 1]? = some b → a.hi + 1 < b.lo
  | x :: r, 0, a, b, h, ha, hb => by
    simp at ha hb
    subst ha
    exact h.2.2.2.1 b (List.mem_of_getElem? (i := 0) (by rw [← List.getElem?_cons_succ (a := x)]; simpa using hb))
  | x :: r, j + 1, a, b, h, ha, hb => canon_next (L := r) (j := j) h.2.2.2.2 (by simpa using ha) (by simpa using hb)
theorem store_own {P : Program} (w : World) (Z : Array Value) (t : TypeId) (h1 : ∀ v ∈ Z.toList, v.oneCell' = true) : (storeCells ⟨w.heap.size, 0, none⟩ Z.toList).run P (w.alloc (.cells Z t)) = .ok () (w.alloc (.cells Z t)) := by
  have hb : Blk (w.alloc (.cells Z t)) w.heap.size t Z := Blk.new w t Z
  have h := run_storeCells_at (P := P) w.heap.size 0 t Z.toList 0 Z (w.alloc (.cells Z t)) hb (by simp) h1
  rw [h]
  simp only [Nat.zero_add, List.take_zero, List.nil_append, Array.length_toList]
  rw [show Z.toList.drop Z.size = [] from List.drop_of_length_le (by simp), List.append_nil, Array.toArray_toList, setRow_self _ _ _ _ _ hb]
theorem arrF_one (f : Nat → Bool) : ∀ v ∈ (arrF f).toList, v.oneCell' = true := by
  intro v hv
  simp [arrF] at hv
  obtain ⟨n, _, rfl⟩ := hv
  rfl
theorem arrF_size (f : Nat → Bool) : (arrF f).size = 252 := by simp [arrF]
theorem zero34 (w : World) : (zeroValue 34).run Try.prog w = .ok (.agg (arrF fun _ => false)) w := by kernel_rfl
set_option maxRecDepth 100000 in
set_option maxHeartbeats 4000000 in
theorem setLaw_any (w : World) (A1 : Option Addr) (m1 c1 : Nat) (l : List Pr) (A2 : Option Addr) (m2 c2 : Nat) (fo : List UInt8)
    (hl : ∀ x ∈ l, x.1 < 256 ∧ x.2 < 256) (r1 : RdP w w.heap.size A1 l) (e1 : m1 = l.length) (hc1 : m1 ≤ c1) (r2 : Bs w w.heap.size A2 m2 fo) :
    Calls Try.prog 4 #[.slice A1 m1 c1, .slice A2 m2 c2] w fun e w' => e = .returned (.bool true) ∧ Below w.heap.size w w' := by
  have R1 := hide r1
  have R2 := hide r2
  have E1 := hide e1
  clear r1 r2 e1
  go_enter Try.func4, Try.ntmps4
  go_wp2_with fail
  refine (new_any w).mono ?_
  rintro e w1 ⟨pa, rfl, h1, hb1, -⟩
  have HA := hide h1
  have HB := hide hb1
  clear h1 hb1
  go_wp2_with fail
  refine (new_any w1).mono ?_
  rintro e w2 ⟨pb, rfl, h1, hb1, -⟩
  have hpp : pa ≠ pb := by have := HA.out.lt; have := h1.hp; omega
  have HA2 := hide (HA.out.below hb1)
  have HB2 := hide (h1.mono HB.out.size)
  have HBB := hide (belFrom HB.out hb1)
  clear h1 hb1 HA HB
  obtain ⟨m, hm⟩ : ∃ m : Nat, min (m1 : Int) 40 = (m : Int) := ⟨min m1 40, by omega⟩
  have hmc : m ≤ c1 := by omega
  have hm1 : m ≤ m1 := by omega
  have hm40 : m ≤ 40 := by omega
  go_upto_region 3 with fail
  have hmin : m = min l.length 40 := by have := E1.out; omega
  clear hm hc1 hmc
  have z34 := zero34
  have hst := store_own (P := Try.prog) w2 (arrF fun _ => false) 34 (arrF_one _)
  have hZs := arrF_size fun _ => false
  have HB3 := hide (Blk.new w2 34 (arrF fun _ => false))
  obtain ⟨Z, hZ⟩ : ∃ Z, Z = arrF fun _ => false := ⟨_, rfl⟩
  rw [← hZ] at z34 hst hZs HB3
  have HS0 : Hid (SetAt w (w2.alloc (.cells Z 34)) pa pb w2.heap.size [] [] (has [])) :=
    hide ⟨HA2.out.below (bel1 _ _), HB2.out.below (bel1 _ _), hpp, by rw [hZ] at HB3 ⊢; exact HB3.out, HBB.out.size, belFrom HBB.out (bel1 _ _)⟩
  clear hZ
  go_upto_region 4 with fail
  clear hst z34 hZs HA2 HB2 HBB hpp HB3
  generalize w2.alloc (.cells Z 34) = w3 at HS0 ⊢
  generalize w2.heap.size = g at HS0 ⊢
  obtain ⟨lm, hlm⟩ : ∃ lm, lm = l.take m := ⟨_, rfl⟩
  have hlml : lm.length = m := by rw [hlm, List.length_take]; omega
  have hatl : ∀ k x, lm[k]? = some x → l[k]? = some x := fun k x h => by
    rw [hlm, List.getElem?_take] at h
    split at h
    · exact h
    · cases h
  have HLM := hide hlm
  have HLL := hide hlml
  have HAT := hide hatl
  have HMM := hide hmin
  have HLB := hide hl
  clear hlm hlml hatl hmin hl
  go_wp2_with fail
  go_loopw [33] (fun v33 W => ∃ (i : Nat) (La Lb : List St), i ≤ m ∧ v33 = .int .i64 i ∧ Hid (SetAt w W pa pb g La Lb (has La)) ∧ Hid ((∀ n, has La n = inP (lm.take i) n) ∧ (∀ n, has Lb n = inP (lm.drop (m - i)) n) ∧ La.length ≤ i ∧ Lb.length ≤ i)) (fun v33 _ => m - (intOf v33).toNat)
  case atStart => exact ⟨0, [], [], by omega, rfl, HS0, hide ⟨fun n => rfl, fun n => by rw [List.drop_of_length_le (by rw [HLL.out]; omega)]; rfl, by simp, by simp⟩⟩
  case round =>
    obtain ⟨i, La, Lb, hi, rfl, HS, HI⟩ := hrel
    by_cases hlt : i < m
    · obtain ⟨x, hx⟩ : ∃ x, lm[i]? = some x := ⟨_, List.getElem?_eq_getElem (by rw [HLL.out]; exact hlt)⟩
      obtain ⟨y, hy⟩ : ∃ y, lm[m - 1 - i]? = some y := ⟨_, List.getElem?_eq_getElem (by rw [HLL.out]; omega)⟩
      obtain ⟨ad, rfl, hab, c1', c2'⟩ := RdP.at_ (R1.out.below HS.out.below) (HAT.out _ _ hx)
      obtain ⟨ad2, hade, hab2, d1', d2'⟩ := RdP.at_ (R1.out.below HS.out.below) (HAT.out _ _ hy)
      cases hade
      obtain ⟨bx1, bx2⟩ := HLB.out x (List.mem_of_getElem? (HAT.out _ _ hx))
      obtain ⟨by1, by2⟩ := HLB.out y (List.mem_of_getElem? (HAT.out _ _ hy))
      have HX := hide hx
      have HY := hide hy
      have hsz := HS.out.below.size
      have hgl := HS.out.all.lt
      clear hx hy
      obtain ⟨j, hj⟩ : ∃ j : Nat, (m : Int) - 1 - (i : Int) = (j : Int) := ⟨m - 1 - i, by omega⟩
      have hjm : (j : Int) < (m : Int) := by omega
      have hjn : m - 1 - i = j := by omega
      rw [hjn] at d1' d2' HY
      obtain ⟨lo, hlo⟩ : ∃ lo : Nat, 1 + (x.1 : Int) % 250 = (lo : Int) := ⟨1 + x.1 % 250, by omega⟩
      obtain ⟨hi', hhi⟩ : ∃ hi : Nat, 1 + (x.2 : Int) % 250 = (hi : Int) := ⟨1 + x.2 % 250, by omega⟩
      obtain ⟨x1, x2⟩ := x
      obtain ⟨y1, y2⟩ := y
      simp only at *
      go_upto_region 7 with fail
      have HBX := hide (Blk.new wr 35 #[.int .u8 (x1 : Int), .int .u8 (x2 : Int)])
      have HS1 := hide (HS.out.later (bel1 wr (.cells #[.int .u8 (x1 : Int), .int .u8 (x2 : Int)] 35)))
      have hc1 := hide (R1.out.below HS1.out.below)
      generalize wr.alloc (.cells #[.int .u8 (x1 : Int), .int .u8 (x2 : Int)] 35) = W1 at HBX HS1 ⊢
      obtain ⟨b1, b2, b3⟩ := HBX.out.facts
      go_quiet (fail)
      have HS2 := hide (HS1.out.later (W' := W1.drewN nq) ⟨rfl, rfl, rfl, Nat.le_refl _, fun _ _ => rfl⟩)
      clear b1 b2 b3 hc1 c1' c2' d1' d2' hab2
      generalize W1.drewN nq = W2 at HS2 ⊢
      obtain ⟨ad2, hade, hab2, d1', d2'⟩ := RdP.at_ (R1.out.below HS2.out.below) (HAT.out _ _ HY.out)
      cases hade
      have hsz2 := HS2.out.below.size
      go_upto_region 9 with fail
      have HBY := hide (Blk.new W2 35 #[.int .u8 (y1 : Int), .int .u8 (y2 : Int)])
      have HS3 := hide (HS2.out.later (bel1 W2 (.cells #[.int .u8 (y1 : Int), .int .u8 (y2 : Int)] 35)))
      have HS3c := hide HS3.out.a.ok
      have HS3d := hide HS3.out.b.ok
      have hgne : pa ≠ W2.heap.size ∧ pb ≠ W2.heap.size := by have := HS2.out.a.lt; have := HS2.out.b.lt; omega
      clear d1' d2' hab2 hab HS2 HS1 HBX HS
      generalize W2.alloc (.cells #[.int .u8 (y1 : Int), .int .u8 (y2 : Int)] 35) = W3 at HBY HS3 ⊢
      have ha0 : (addO lo hi' La).1 = 0 := by unfold addO; rw [if_neg (by omega)]; split <;> rfl
      have C1 := hide (add_any HS3.out.a lo hi' (by omega) (by omega) (by have := HI.out.2.2.1; omega))
      rw [ha0] at C1
      clear ha0
      go_wp2_with fail
      refine C1.out.mono ?_
      rintro e W4 ⟨rfl, h4, hg4⟩
      have HS4 := hide (HS3.out.stepA h4 hg4)
      have HBY4 := hide (Blk.grown HBY.out hg4 (by simp; exact fun e => hgne.1 e.symm))
      clear h4 hg4 HS3 C1 HBY
      obtain ⟨b1, b2, b3⟩ := HBY4.out.facts
      obtain ⟨lo2, hlo2⟩ : ∃ lo : Nat, 1 + (y1 : Int) % 250 = (lo : Int) := ⟨1 + y1 % 250, by omega⟩
      obtain ⟨hi2, hhi2⟩ : ∃ hi : Nat, 1 + (y2 : Int) % 250 = (hi : Int) := ⟨1 + y2 % 250, by omega⟩
      have ha0 : (addO lo2 hi2 Lb).1 = 0 := by unfold addO; rw [if_neg (by omega)]; split <;> rfl
      have C2 := hide (add_any HS4.out.b lo2 hi2 (by omega) (by omega) (by have := HI.out.2.2.2; omega))
      rw [ha0] at C2
      clear ha0
      go_wp2_with fail
      refine C2.out.mono ?_
      rintro e W5 ⟨rfl, h4, hg4⟩
      have HS5 := hide (HS4.out.stepB h4 hg4)
      clear h4 hg4 HS4 C2 HBY4 b1 b2 b3
      go_wp2_with fail
      go_loopw [13] (fun v13 W => ∃ k : Nat, lo ≤ k ∧ (k ≤ hi' + 1 ∨ k = lo) ∧ v13 = .int .u64 k ∧ Hid (SetAt w W pa pb g (addO lo hi' La).2 (addO lo2 hi2 Lb).2 (fun n => has La n || (decide (lo ≤ n) && decide (n < k))))) (fun v13 _ => 252 - (intOf v13).toNat)
      case atStart =>
        refine ⟨lo, Nat.le_refl _, .inr rfl, rfl, hide (HS5.out.ext fun n _ => ?_)⟩
        have : (decide (lo ≤ n) && decide (n < lo)) = false := by simp
        rw [this, Bool.or_false]
      case round =>
        obtain ⟨k, hk1, hk2, rfl, HK⟩ := hrel
        clear HS5
        by_cases hkl : k ≤ hi'
        · have hkl' : (k : Int) ≤ (hi' : Int) := by omega
          have hk252 : (k : Int) < 252 := by omega
          obtain ⟨-, b2, b3⟩ := HK.out.all.facts
          have b1 := (HK.out.all.cell k).trans (arrF_at _ (by omega))
          go_wp2_with fail
          go_roundw
          case rel =>
            refine ⟨k + 1, by omega, by omega, by go_num, hide ((HK.out.set k true).ext fun n _ => ?_)⟩
            by_cases hn : n = k
            · subst hn; simp; right; omega
            · rw [if_neg hn]
              congr 2
              exact decide_eq_decide.2 (by omega)
          case measure => simp [intOf]; omega
        · have hkl' : ¬ (k : Int) ≤ (hi' : Int) := by omega
          have hLa := HI.out.1
          have hLb := HI.out.2.1
          have HS6 : Hid (SetAt w wr pa pb g (addO lo hi' La).2 (addO lo2 hi2 Lb).2 (has (addO lo hi' La).2)) := hide (HK.out.ext fun n _ => by
            rw [addO_has HS3c.out (by omega) (by omega)]
            congr 1
            rw [Bool.eq_iff_iff]
            simp
            omega)
          clear HK
          go_wp2_with fail
          go_roundw
          case rel =>
            refine ⟨i + 1, _, _, by omega, by go_num, HS6, hide ⟨fun n => ?_, fun n => ?_, ?_, ?_⟩⟩
            · rw [addO_has HS3c.out (by omega) (by omega), hLa, take_next HX.out, inP_app, inP_one]
              congr 1
              show (decide (lo ≤ n) && decide (n ≤ hi')) = (decide (1 + x1 % 250 ≤ n) && decide (n ≤ 1 + x2 % 250))
              rw [show lo = 1 + x1 % 250 by omega, show hi' = 1 + x2 % 250 by omega]
            · rw [addO_has HS3d.out (by omega) (by omega), hLb, show m - (i + 1) = j by omega, drop_prev HY.out, inP_cons, show j + 1 = m - i by omega, Bool.or_comm]
              congr 1
              show (decide (lo2 ≤ n) && decide (n ≤ hi2)) = (decide (1 + y1 % 250 ≤ n) && decide (n ≤ 1 + y2 % 250))
              rw [show lo2 = 1 + y1 % 250 by omega, show hi2 = 1 + y2 % 250 by omega]
            · have := addO_len lo hi' La
              have := HI.out.2.2.1
              omega
            · have := addO_len lo2 hi2 Lb
              have := HI.out.2.2.2
              omega
          case measure => simp [intOf]; omega
    · obtain rfl : i = m := by omega
      have hLL : La = Lb := canon_ext HS.out.a.ok HS.out.b.ok fun n => by
        rw [HI.out.1, HI.out.2.1, Nat.sub_self, List.drop_zero, List.take_of_length_le (by rw [HLL.out]; exact Nat.le_refl _)]
      subst hLL
      have HW : Hid (Within La) := hide fun n hn => inP_within (by rw [← HI.out.1]; exact hn)
      have HLN := hide HI.out.2.2.1
      clear HI HLB HAT HMM HLM
      have hm2 : m2 = fo.length := by have := R2.out.1; simp at this; omega
      have HM2 := hide hm2
      clear hm2 HS0
      go_upto_block 4 with fail
      go_cut [] (fun W => ∃ L : List St, Hid (SetAt w W pa pb g L L (has L)) ∧ Hid (Within L) ∧ Hid (L.length ≤ 80))
      case first =>
        go_wp2_with fail
        go_loopw [87] (fun v87 W => ∃ (k : Nat) (L : List St), k ≤ 40 ∧ k ≤ m2 ∧ v87 = .int .i64 k ∧ Hid (SetAt w W pa pb g L L (has L)) ∧ Hid (Within L) ∧ Hid (L.length ≤ 40 + k)) (fun v87 _ => m2 - (intOf v87).toNat)
        case atStart => exact ⟨0, La, by omega, by omega, rfl, HS, HW, hide (by have := HLN.out; omega)⟩
        case round =>
          obtain ⟨k, L, hk40, hkm, rfl, HK, HWI, HLE⟩ := hrel
          clear HS HW HLN
          by_cases hlt : k < m2
          · obtain ⟨b, hb⟩ : ∃ b, fo[k]? = some b := ⟨_, List.getElem?_eq_getElem (by rw [← HM2.out]; exact hlt)⟩
            obtain ⟨ad2, rfl, hab2, c2'⟩ := (R2.out.below HK.out.below).2 k (bv b) (by rw [List.getElem?_map, hb]; rfl)
            have c2'' : wr.cell? (ad2.add k) = some (.int .u8 b.toNat) := c2'
            have hbl := b.toNat_lt
            have HSZ := HK.out.below.size
            clear c2' hb
            by_cases h40 : k = 40
            · have h40' : ((k : Int) == 40) = true := by simp; omega
              have HKK := hide h40
              clear h40 hk40
              go_wp2_with fail
              go_meet
              case rel => exact ⟨L, HK, HWI, hide (by have h1 := HLE.out; have h2 := HKK.out; omega)⟩
            · have h40' : ((k : Int) == 40) = false := by simp; omega
              obtain ⟨n, hn⟩ : ∃ n : Nat, 1 + (b.toNat : Int) % 250 = (n : Int) := ⟨1 + b.toNat % 250, by omega⟩
              have hn1 : 1 ≤ n := by omega
              have hn2 : n ≤ 250 := by omega
              have hnI : (n : Int) < 252 := by omega
              have HKK := hide h40
              have hbz1 : 0 ≤ (b.toNat : Int) := by omega
              have hbz2 : (b.toNat : Int) < 256 := by omega
              clear hbl
              generalize (b.toNat : Int) = bz at hn c2'' hbz1 hbz2
              have C1 := hide (found_any HK.out.a n (by omega) (by have := HLE.out; omega))
              rw [foundO_ok L hn1 (by omega)] at C1
              clear h40
              go_wp2_with fail
              refine C1.out.mono ?_
              rintro e W4 ⟨rfl, h4, hg4⟩
              have HS4 := hide (HK.out.stepA h4 hg4)
              have C2 := hide (found_any HS4.out.b n (by omega) (by have := HLE.out; omega))
              rw [foundO_ok L hn1 (by omega)] at C2
              clear h4 hg4 C1 c2'' hab2
              go_wp2_with fail
              refine C2.out.mono ?_
              rintro e W5 ⟨rfl, h4, hg4⟩
              have HS5 := hide (HS4.out.stepB h4 hg4)
              have HOK := hide HK.out.a.ok
              clear h4 hg4 C2 HS4 HK
              obtain ⟨-, b2, b3⟩ := HS5.out.all.facts
              have b1 := (HS5.out.all.cell n).trans (arrF_at _ (by omega))
              go_wp2_with fail
              go_roundw
              case rel =>
                have hh := fun q => foundO_has HOK.out (n := n) hn1 (by omega) q
                refine ⟨k + 1, (foundO n L).2, by have := HKK.out; omega, by omega, by go_num, hide ((HS5.out.set n false).ext fun q _ => ?_), hide fun q hq => ?_, hide ?_⟩
                · rw [hh]
                  by_cases hq : q = n
                  · subst hq; simp
                  · rw [if_neg hq, show (q == n) = false by simpa using hq]
                    simp
                · rw [hh, Bool.and_eq_true] at hq
                  exact HWI.out q hq.1
                · have h1 := foundO_len n L
                  have h2 := HLE.out
                  omega
              case measure => simp [intOf]; omega
          · obtain rfl : k = m2 := by omega
            go_wp2_with fail
            go_meet
            case rel => exact ⟨L, HK, HWI, hide (by have := HLE.out; omega)⟩
      case rest =>
        obtain ⟨L, HK, HWI, HLE⟩ := hcut
        clear HS HW HLN
        have hmany : cnt L 252 = manyL L := cnt_many HK.out.a.ok fun s hs => by have := HWI.out.hi HK.out.a.ok hs; omega
        have HMY := hide hmany
        clear hmany
        go_wp2_with fail
        go_loopw [17, 111] (fun v17 v111 W => ∃ k : Nat, k ≤ 252 ∧ v111 = .int .i64 k ∧ v17 = .int .u64 (cnt L k) ∧ Hid (SetAt w W pa pb g L L (has L))) (fun _ v111 _ => 252 - (intOf v111).toNat)
        case atStart => exact ⟨0, by omega, rfl, rfl, HK⟩
        case round =>
          obtain ⟨k, hk252, rfl, rfl, HS⟩ := hrel
          clear HK
          obtain ⟨nn, hnn⟩ : ∃ nn, nn = cnt L k := ⟨_, rfl⟩
          have hle := cnt_le L k
          rw [← hnn] at hle ⊢
          by_cases hlt : k < 252
          · have hlt' : (k : Int) < 252 := by omega
            obtain ⟨hk, hhk⟩ : ∃ hk, hk = has L k := ⟨_, rfl⟩
            have hcn : cnt L (k + 1) = nn + if hk then 1 else 0 := by rw [cnt, ← hnn, ← hhk]
            have HCN := hide hcn
            have K : ∀ W, Below wr.heap.size wr W → W.cell? ⟨g, k, none⟩ = some (.bool hk) ∧ Below wr.heap.size wr W := fun W hW => by
              refine ⟨?_, hW⟩
              rw [hhk]
              exact ((HS.out.all.below hW HS.out.all.lt).cell k).trans (arrF_at _ hlt)
            have HKW := hide K
            have B0 : ∀ q, Below wr.heap.size wr (wr.drewN q) := fun q => ⟨rfl, rfl, rfl, Nat.le_refl _, fun _ _ => rfl⟩
            have hgl := HS.out.all.lt
            by_cases hk0 : k = 0
            · have hk0' : decide ((k : Int) > 0) = false := by simp; omega
              have hk0'' : decide (0 < k) = false := by simp; omega
              clear hk0
              have HHK := hide hhk
              have HNN := hide hnn
              clear K hnn hhk hcn
              go_upto_region 29 with fail
              go_quiet (fail)
              have HSX := hide (HS.out.later (B0 nq))
              have c0 := (HKW.out _ (B0 nq)).1
              clear HS HHK HKW B0
              cases hk with
              | true =>
                go_wp2_with fail
                go_roundw
                case rel => exact ⟨k + 1, by omega, by go_num, by rw [HCN.out]; exact congrArg _ (by simp), HSX⟩
                case measure => simp [intOf]; omega
              | false =>
                go_wp2_with fail
                go_roundw
                case rel => exact ⟨k + 1, by omega, by go_num, by rw [HCN.out]; exact congrArg _ (by simp), HSX⟩
                case measure => simp [intOf]; omega
            · have hk0' : decide ((k : Int) > 0) = true := by simp; omega
              have hk0'' : 0 < k := by omega
              have hwk : IntKind.u64.wrap (k : Int) = (k : Int) := IntWalk.u64_in _ ⟨by omega, by omega⟩
              have hk0''' : decide (0 < k) = true := by simpa using hk0''
              have C : ∀ W, (W.cell? ⟨g, k, none⟩ = some (.bool hk) ∧ Below wr.heap.size wr W) → Calls Try.prog 14 #[.pointer (some ⟨pa, 0, none⟩), .int .u64 k] W fun e w' => e = .returned (.bool hk) ∧ Below wr.heap.size wr w' := fun W ⟨_, hW⟩ =>
                (has_any (HS.out.a.below hW) k (by have := HLE.out; omega)).mono fun e w' ⟨he, hb⟩ => ⟨by rw [hhk]; exact he, belFrom hW hb⟩
              have CS := hide C
              have HHK := hide hhk
              have HNN := hide hnn
              clear K hnn hhk hcn C
              go_upto_region 29 with fail
              go_region_held3 (fun W => W.cell? ⟨g, k, none⟩ = some (.bool hk) ∧ Below wr.heap.size wr W) (first | exact HKW.out _ ⟨rfl, rfl, rfl, Nat.le_refl _, fun _ _ => rfl⟩ | exact HKW.out _ hbC | fail) (first | (go_at_call 14; (try rw [hwk]); refine (CS.out _ (by assumption)).mono ?_; rintro e w1 ⟨rfl, hbC⟩) | fail)
              have HSX := hide (HS.out.later hbC)
              have c0 := (HKW.out _ hbC).1
              clear HS CS HHK HKW B0
              cases hk with
              | true =>
                go_wp2_with fail
                go_roundw
                case rel => exact ⟨k + 1, by omega, by go_num, by rw [HCN.out]; exact congrArg _ (by simp), HSX⟩
                case measure => simp [intOf]; omega
              | false =>
                go_wp2_with fail
                go_roundw
                case rel => exact ⟨k + 1, by omega, by go_num, by rw [HCN.out]; exact congrArg _ (by simp), HSX⟩
                case measure => simp [intOf]; omega
          · obtain rfl : k = 252 := by omega
            rw [HMY.out] at hnn
            subst hnn
            rw [show ((252 : Nat) : Int) = 252 from rfl]
            have C1 := hide (list_any HS.out.a (by have := HLE.out; omega))
            go_wp2_with fail
            refine C1.out.mono ?_
            rintro e W5 ⟨v, rfl, ho, hb⟩
            have HS5 := hide (HS.out.later hb)
            obtain ⟨A, c, rfl, hr⟩ := own_slice ho
            obtain ⟨ln, hln⟩ : ∃ ln, ln = L.length := ⟨_, rfl⟩
            rw [← hln]
            have hlnb : ln ≤ 80 := by rw [hln]; exact HLE.out
            have HLN2 := hide hln
            have HR := hide hr
            clear ho hb hr hln HS C1
            have hmm : manyL L ≤ 1099511627776 := by
              have := many_le (x := 0) HS5.out.a.ok (fun s hs => by have := HS5.out.a.ok.mem hs; omega) (by omega)
              omega
            go_wp2_with fail
            go_loopw [20, 136] (fun v20 v136 W => ∃ q : Nat, q ≤ ln ∧ v136 = .int .i64 q ∧ v20 = .int .u64 (manyL (L.take q)) ∧ Hid (SetAt w W pa pb g L L (has L)) ∧ Hid (Below W5.heap.size W5 W)) (fun _ v136 _ => ln - (intOf v136).toNat)
            case atStart => exact ⟨0, by omega, rfl, rfl, HS5, hide (Below.refl _ _)⟩
            case round =>
              obtain ⟨q, hq, rfl, rfl, HS, HW5⟩ := hrel
              by_cases hlt : q < ln
              · obtain ⟨s, hs⟩ : ∃ s, L[q]? = some s := ⟨_, List.getElem?_eq_getElem (by rw [← HLN2.out]; exact hlt)⟩
                have hrw := HR.out.below HW5.out
                obtain ⟨ad, rfl, hab, c1', c2'⟩ := RdS.at_ hrw hs
                have h1 := many_take hs
                have h2 := many_take_le L (q + 1)
                have h3 := HS.out.a.ok.mem (List.mem_of_getElem? hs)
                have hqI : (q : Int) < (ln : Int) := by omega
                have HT := hide h1
                obtain ⟨t, ht⟩ : ∃ t, t = manyL (L.take q) := ⟨_, rfl⟩
                rw [← ht] at h1 ⊢
                have hsz := HW5.out.size
                have hprev : ∀ j : Nat, q = j + 1 → ∃ s', L[j]? = some s' ∧ s'.hi + 1 < s.lo ∧ s'.hi ≤ 1099511627776 := fun j hj => by
                  subst hj
                  obtain ⟨s', hs'⟩ : ∃ s, L[j]? = some s := ⟨_, List.getElem?_eq_getElem (by rw [← HLN2.out]; omega)⟩
                  refine ⟨s', hs', canon_next HS.out.a.ok hs' hs, (HS.out.a.ok.mem (List.mem_of_getElem? hs')).2.2⟩
                have HP := hide hprev
                have HRW := hide hrw
                obtain ⟨slo, shi⟩ := s
                simp only at *
                have HT2 := hide h1
                have e1 : IntKind.u64.wrap ((shi : Int) - (slo : Int)) = (shi : Int) - (slo : Int) := IntWalk.u64_in _ ⟨by omega, by omega⟩
                have e2 : IntKind.u64.wrap ((shi : Int) - (slo : Int) + 1) = (shi : Int) - (slo : Int) + 1 := IntWalk.u64_in _ ⟨by omega, by omega⟩
                have e3 : IntKind.u64.wrap ((t : Int) + ((shi : Int) - (slo : Int) + 1)) = ((t + (shi - slo + 1) : Nat) : Int) := by rw [IntWalk.u64_in _ ⟨by omega, by omega⟩]; omega
                have hls : ¬ (shi : Int) < (slo : Int) := by omega
                have hlsd : decide ((shi : Int) < (slo : Int)) = false := by simp; omega
                clear hs h1 ht hprev hrw
                go_upto_region 39 with fail
                have HBX := hide (Blk.new wr 41 #[.int .u64 (slo : Int), .int .u64 (shi : Int)])
                have HS1 := hide (HS.out.later (bel1 wr (.cells #[.int .u64 (slo : Int), .int .u64 (shi : Int)] 41)))
                have HW1 := hide (belFrom HW5.out (bel1 wr (.cells #[.int .u64 (slo : Int), .int .u64 (shi : Int)] 41)))
                have HRX := hide (HR.out.below HW1.out)
                clear c1' c2' HS HW5
                generalize wr.alloc (.cells #[.int .u64 (slo : Int), .int .u64 (shi : Int)] 41) = W6 at HBX HS1 HW1 HRX ⊢
                obtain ⟨b1, b2, b3⟩ := HBX.out.facts
                by_cases hq0 : q = 0
                · have hq0' : decide ((q : Int) > 0) = false := by simp; omega
                  have hq0'' : decide (0 < q) = false := by simp; omega
                  have HQ0 := hide hq0
                  clear hq0
                  go_quiet (fail)
                  have HS7 := hide (HS1.out.later (W' := W6.drewN nq) ⟨rfl, rfl, rfl, Nat.le_refl _, fun _ _ => rfl⟩)
                  have HW7 := hide (belFrom HW1.out (u' := W6.drewN nq) ⟨rfl, rfl, rfl, Nat.le_refl _, fun _ _ => rfl⟩)
                  have HBX7 : Blk (W6.drewN nq) wr.heap.size 41 #[.int .u64 (slo : Int), .int .u64 (shi : Int)] := HBX.out
                  clear b1 b2 b3 HS1 HW1 HBX
                  generalize W6.drewN nq = W7 at HS7 HW7 HBX7 ⊢
                  obtain ⟨b1, b2, b3⟩ := HBX7.facts
                  clear HBX7
                  go_wp2_with fail
                  go_roundw
                  case rel => exact ⟨q + 1, by omega, by go_num, congrArg (Value.int IntKind.u64) (by have := HT2.out; omega), HS7, HW7⟩
                  case measure => simp [intOf]; omega
                · obtain ⟨j, hqj⟩ : ∃ j, q = j + 1 := ⟨q - 1, by omega⟩
                  obtain ⟨s', hs', hlt1, hlt2⟩ := HP.out j hqj
                  replace hlt1 : s'.hi + 1 < slo := hlt1
                  obtain ⟨ad', hade, hab', c1', c2'⟩ := RdS.at_ HRX.out hs'
                  cases hade
                  have hq0' : (0 : Int) < (q : Int) := by omega
                  have hqN : 0 < q := by omega
                  have hq0'' : decide (0 < q) = true := by simpa using hqN
                  have hjq : (q : Int) - 1 = (j : Int) := by omega
                  have hjl : (j : Int) < (ln : Int) := by omega
                  obtain ⟨shi', hshi⟩ : ∃ h, h = s'.hi := ⟨_, rfl⟩
                  rw [← hshi] at hlt1 hlt2 c2'
                  have e4 : IntKind.u64.wrap ((shi' : Int) + 1) = (shi' : Int) + 1 := IntWalk.u64_in _ ⟨by omega, by omega⟩
                  have e5 : ¬ (slo : Int) ≤ (shi' : Int) + 1 := by omega
                  have e6 : decide ((slo : Int) ≤ (shi' : Int) + 1) = false := by simp; omega
                  clear hs' hshi hqj c1'
                  go_quiet (fail)
                  clear c2' hab'
                  have HS7 := hide (HS1.out.later (W' := W6.drewN nq) ⟨rfl, rfl, rfl, Nat.le_refl _, fun _ _ => rfl⟩)
                  have HW7 := hide (belFrom HW1.out (u' := W6.drewN nq) ⟨rfl, rfl, rfl, Nat.le_refl _, fun _ _ => rfl⟩)
                  have HBX7 : Blk (W6.drewN nq) wr.heap.size 41 #[.int .u64 (slo : Int), .int .u64 (shi : Int)] := HBX.out
                  clear b1 b2 b3 HS1 HW1 HBX
                  generalize W6.drewN nq = W7 at HS7 HW7 HBX7 ⊢
                  obtain ⟨b1, b2, b3⟩ := HBX7.facts
                  clear HBX7
                  go_wp2_with fail
                  go_roundw
                  case rel => exact ⟨q + 1, by omega, by go_num, congrArg (Value.int IntKind.u64) (by have := HT2.out; omega), HS7, HW7⟩
                  case measure => simp [intOf]; omega
              · obtain rfl : q = ln := by omega
                have htk : L.take q = L := List.take_of_length_le (by rw [HLN2.out]; exact Nat.le_refl _)
                rw [htk]
                have HTK := hide htk
                obtain ⟨mn, hmn⟩ : ∃ mn, mn = manyL L := ⟨_, rfl⟩
                rw [← hmn]
                have hAny := sure_many HWI.out HS.out.a.ok
                rw [← hmn] at hAny
                have HMN := hide hmn
                have HAny := hide hAny
                clear htk hmn hmm hAny hle
                have C1 := hide (list_any HS.out.b (by have := HLE.out; omega))
                go_wp2_with fail
                refine C1.out.mono ?_
                rintro e W6 ⟨v, rfl, ho, hb⟩
                have HS6 := hide (HS.out.later hb)
                obtain ⟨A', c', rfl, hr⟩ := own_slice ho
                rw [← HLN2.out]
                have C2 := hide (equal_any A A' q c q c' W5.heap.size W6.heap.size L L W6 (HR.out.below (HW5.out.trans (hb.mono HW5.out.size))) hr HLN2.out HLN2.out (by omega) (by omega))
                rw [eqS_self] at C2
                clear ho hb hr C1 HS HW5
                go_wp2_with fail
                refine C2.out.mono ?_
                rintro e W7 ⟨rfl, h7⟩
                have HS7 := hide (HS6.out.later (bel_same h7))
                have C3 := hide (many_any HS7.out.a (by have := HLE.out; omega))
                rw [← HMN.out] at C3
                clear h7 C2 HS6
                go_wp2_with fail
                refine C3.out.mono ?_
                rintro e W8 ⟨rfl, hb⟩
                have HS8 := hide (HS7.out.later hb)
                have C4 := hide (any_any HS8.out.a 251 (by have := HLE.out; omega))
                rw [HAny.out] at C4
                clear hb C3 HS7
                by_cases hm0 : 0 < mn
                · have hmI : (0 : Int) < (mn : Int) := by omega
                  rw [decide_eq_true hm0] at C4
                  go_wp2_with fail
                  refine C4.out.mono ?_
                  rintro e W9 ⟨rfl, hb⟩
                  have HS9 := hide (HS8.out.later hb)
                  clear hb C4 HS8
                  go_wp2_with fail
                  refine (wakes_any _).mono ?_
                  rintro e Wa ⟨rfl, hb⟩
                  have HSa := hide (HS9.out.later hb)
                  clear hb
                  go_wp2_with fail
                  go_ret
                  exact ⟨rfl, HSa.out.below⟩
                · have hmd : decide (0 < mn) = false := by simpa using hm0
                  rw [hmd] at C4
                  clear hm0
                  go_wp2_with fail
                  refine C4.out.mono ?_
                  rintro e W9 ⟨rfl, hb⟩
                  have HS9 := hide (HS8.out.later hb)
                  clear hb C4 HS8
                  go_wp2_with fail
                  refine (wakes_any _).mono ?_
                  rintro e Wa ⟨rfl, hb⟩
                  have HSa := hide (HS9.out.later hb)
                  clear hb
                  go_wp2_with fail
                  go_ret
                  exact ⟨rfl, HSa.out.below⟩
end Go.Proofs.Ytfdabccdgcohjaa
