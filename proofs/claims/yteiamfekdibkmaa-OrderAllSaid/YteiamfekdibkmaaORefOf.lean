/-
  THE WALK of the reference's Of. Conditions: as the theorems' premises say.
-/
import Derived.Test.YteiamfekdibkmaaORefW
import Derived.Deep.DeepCutAuto
namespace Go.Proofs.Yteiamfekdibkmaa
open Go.RowKit Go.Shelf

theorem allK_len : ∀ (l acc : List Key), (l.foldl putK acc).length ≤ acc.length + l.length
  | [], acc => by simp
  | k :: l, acc => by
    have h1 := allK_len l (putK acc k)
    have h2 := putK_len acc k
    rw [List.foldl_cons, List.length_cons]
    omega
theorem inAll_no {R : List (List Key)} {k : Key} {m : Nat} (h : isL k (R.getD m []) = false) : inAll R k (m + 1) = inAll R k m := by
  rw [List.getD_eq_getElem?_getD] at h
  unfold inAll
  rw [List.range_succ, List.filter_append]
  simp [h]
theorem inAll_yes {R : List (List Key)} {k : Key} {m : Nat} (h : isL k (R.getD m []) = true) : inAll R k (m + 1) = inAll R k m ++ [m] := by
  rw [List.getD_eq_getElem?_getD] at h
  unfold inAll
  rw [List.range_succ, List.filter_append]
  simp [h]
theorem inAll_len (R : List (List Key)) (k : Key) (m : Nat) : (inAll R k m).length ≤ m := by
  have := List.length_filter_le (fun i => isL k (R.getD i [])) (List.range m)
  simpa [inAll] using this
/-- rows of a call's own, of keys of its own -/
structure OwnRs (w : World) (base : Nat) (v : Value) (rs : List Rw) : Prop where
  row : w.ownsRow base 25 1 v rs.length (rs.map Rw.v)
  rows : ∀ r ∈ rs, OwnRow w base r.v r.hs
theorem OwnRs.later {w w' : World} {base : Nat} {v : Value} {rs : List Rw} (h : OwnRs w base v rs) (hb : Below w.heap.size w w') : OwnRs w' base v rs := ⟨own_bel h.row hb, fun r hr => (h.rows r hr).later hb⟩
/-- what the reference's Of tells -/
def rofP (w : World) (base : Nat) (rs : List Rw) (e : Ending) (w' : World) : Prop :=
  (ofOk (rws rs) = false ∧ e = .returned (.tuple #[.pointer none, .int .i64 1]) ∧ Below w.heap.size w w') ∨
  (ofOk (rws rs) = true ∧ ∃ p hs is, e = .returned (.tuple #[.pointer (some ⟨p, 0, none⟩), .int .i64 0]) ∧ w.heap.size ≤ p ∧ RefAt w' base w.heap.size p hs is 0 ∧ keys hs = allK (rws rs).flatten ∧
    is.map Ih.l = (keys hs).map (fun k => inAll (rws rs) k rs.length) ∧ (∀ x ∈ hs, ∃ r ∈ rs, x ∈ r.hs) ∧ Below w.heap.size w w')
/-- the reference's keys, so far -/
structure Kp (w W : World) (base p : Nat) (rs : List Rw) (hs : List Hd) (A : Option Addr) (c : Nat) : Prop where
  blk : Blk W p 52 #[.slice A hs.length c, .slice none 0 0, .int .i64 0]
  own : OwnRow W base (.slice A hs.length c) hs
  cap : hs.length ≤ c
  mem : ∀ x ∈ hs, ∃ r ∈ rs, x ∈ r.hs
  bel : Below w.heap.size w W
theorem Kp.later {w W W' : World} {base p : Nat} {rs : List Rw} {hs : List Hd} {A : Option Addr} {c : Nat} (h : Kp w W base p rs hs A c) (hb : Below W.heap.size W W') : Kp w W' base p rs hs A c :=
  ⟨h.blk.below hb h.blk.lt, h.own.later hb, h.cap, h.mem, belFrom h.bel hb⟩
theorem own_setp {w : World} {p b s m : Nat} {e : TypeId} {v : Value} {xs : List Value} {cs : Array Value} (ho : w.ownsRow b e s v m xs) (hp : Blk w p 52 cs) (he : (52 : TypeId) ≠ e) (j : Nat) (u : Value) : (w.setCell ⟨p, j, none⟩ u).ownsRow b e s v m xs :=
  ho.kept (only_setCell (World.grownBy.refl _ _) (.inl rfl) _) (.inr (fun e' => hp.mk_.ne_own ho he e'.symm))
theorem Kp.put {w W : World} {base p b2 : Nat} {rs : List Rw} {hs hs2 : List Hd} {A A2 : Option Addr} {c c2 : Nat} (h : Kp w W base p rs hs A c) (hp : w.heap.size ≤ p) (ho : OwnH W b2 (.slice A2 hs2.length c2) hs2) (hb2 : base ≤ b2) (hc : hs2.length ≤ c2) (hm : ∀ x ∈ hs2, (∃ r ∈ rs, x ∈ r.hs) ∧ W.ownsRow base 5 1 x.v x.l.length (x.l.map bv)) :
    Kp w (W.setCell ⟨p, 0, none⟩ (.slice A2 hs2.length c2)) base p rs hs2 A2 c2 := by
  refine ⟨?_, ⟨own_setp (own_mono ho hb2) h.blk (by decide) _ _, fun x hx => own_setp (hm x hx).2 h.blk (by decide) _ _⟩, hc, fun x hx => (hm x hx).1, bset h.bel hp 0 _⟩
  have := h.blk.set_ 0 (.slice A2 hs2.length c2)
  simpa using this
/-- the reference's keys, and in which rows they are, so far -/
structure Ip (w W : World) (base p : Nat) (hs : List Hd) (A : Option Addr) (c : Nat) (is : List Ih) (IA : Option Addr) (ic : Nat) : Prop where
  blk : Blk W p 52 #[.slice A hs.length c, .slice IA is.length ic, .int .i64 0]
  own : OwnRow W base (.slice A hs.length c) hs
  row : W.ownsRow w.heap.size 32 1 (.slice IA is.length ic) is.length (is.map Ih.v)
  ins : ∀ x ∈ is, W.ownsRow w.heap.size 3 1 x.v x.l.length (x.l.map iv)
  bel : Below w.heap.size w W
theorem Ip.later {w W W' : World} {base p : Nat} {hs : List Hd} {A : Option Addr} {c : Nat} {is : List Ih} {IA : Option Addr} {ic : Nat} (h : Ip w W base p hs A c is IA ic) (hb : Below W.heap.size W W') : Ip w W' base p hs A c is IA ic :=
  ⟨h.blk.below hb h.blk.lt, h.own.later hb, own_bel h.row hb, fun x hx => own_bel (h.ins x hx) hb, belFrom h.bel hb⟩
theorem Ip.put {w W W2 W' : World} {base p : Nat} {hs : List Hd} {A : Option Addr} {c : Nat} {is : List Ih} {IA IA2 : Option Addr} {ic ic2 : Nat} {x : Ih} (h : Ip w W base p hs A c is IA ic) (hp : w.heap.size ≤ p) (hb : Below W.heap.size W W2) (hx : W2.ownsRow w.heap.size 3 1 x.v x.l.length (x.l.map iv))
    (ho : W'.ownsRow w.heap.size 32 1 (.slice IA2 (is.length + 1) ic2) (is.length + 1) (is.map Ih.v ++ [x.v])) (hg : W2.grownBy W' (Value.slice IA is.length ic).ownBlock) :
    Ip w (W'.setCell ⟨p, 1, none⟩ (.slice IA2 (is.length + 1) ic2)) base p hs A c (is ++ [x]) IA2 ic2 := by
  have h2 := h.later hb
  have hb' := h2.blk.grown hg (h2.blk.mk_.ne_own h2.row (by decide))
  have kp : ∀ {b s m : Nat} {e : TypeId} {v : Value} {xs : List Value}, W2.ownsRow b e s v m xs → e ≠ 32 → W'.ownsRow b e s v m xs := fun ho he => ho.kept hg (own_types ho h2.row he)
  have hl : (is ++ [x]).length = is.length + 1 := by rw [List.length_append]; rfl
  have hmp : (is ++ [x]).map Ih.v = is.map Ih.v ++ [x.v] := by rw [List.map_append]; rfl
  refine ⟨?_, ⟨own_setp (kp h2.own.row (by decide)) hb' (by decide) _ _, fun y hy => own_setp (kp (h2.own.bytes y hy) (by decide)) hb' (by decide) _ _⟩, ?_, fun y hy => ?_, ?_⟩
  · rw [hl]
    have := hb'.set_ 1 (.slice IA2 (is.length + 1) ic2)
    simpa using this
  · rw [hl, hmp]
    exact own_setp ho hb' (by decide) _ _
  · rcases List.mem_append.1 hy with hy | hy
    · exact own_setp (kp (h2.ins y hy) (by decide)) hb' (by decide) _ _
    · rw [List.mem_singleton.1 hy]
      exact own_setp (kp hx (by decide)) hb' (by decide) _ _
  · exact bset (h2.bel.grown hg h2.bel.size (fun j hj => (own_lt h2.row hj).1)) hp 1 _
theorem in_info : (Try.prog.info? 32).map (fun i => (i.zero, i.size, i.bytes)) = some (some (.slice none 0 0), 1, 24) := by kernel_rfl
theorem el50 : Try.prog.underlying 50 = some (.slice 32) := by kernel_rfl
set_option maxRecDepth 100000 in
set_option maxHeartbeats 4000000 in
theorem rof_any (A : Option Addr) (n c base : Nat) (rs : List Rw) (w : World) (h : OwnRs w base (.slice A n c) rs) (hn : n = rs.length) (hsm : n ≤ 1000) (hbase : base ≤ w.heap.size) (hl : ∀ r ∈ rs, r.hs.length ≤ 30) :
    Calls Try.prog 21 #[.slice A n c] w fun e w' => rofP w base rs e w' := by
  obtain ⟨i0, hi0, hz0, hz1, hz2⟩ := info_parts i_info
  obtain ⟨j0, hj0, hy0, hy1, hy2⟩ := info_parts in_info
  have hrd : Reads w w.heap.size 1 A n (rs.map Rw.v) := by
    have h1 := h.row
    rw [← hn] at h1
    exact Reads.of_own h1
  have H := hide h
  have HRD := hide hrd
  have HN := hide hn
  have HL := hide hl
  clear h hrd hn hl
  go_enter Try.func21, Try.ntmps21
  go_wp2_with fail
  obtain ⟨p, hp⟩ : ∃ p, p = w.heap.size := ⟨_, rfl⟩
  have HK0 : Hid (Kp w (w.alloc (.cells #[.slice none 0 0, .slice none 0 0, .int .i64 0] 52)) base p rs [] none 0) := hide ⟨by rw [hp]; exact Blk.new w 52 _, OwnRow.nil _ _, Nat.le_refl _, fun x hx => (by cases hx), bel1 _ _⟩
  rw [← hp]
  have HP := hide hp
  clear hp
  generalize w.alloc (.cells #[.slice none 0 0, .slice none 0 0, .int .i64 0] 52) = w1 at HK0 ⊢
  go_loopw [5] (fun v5 W => ∃ (i : Nat) (hs : List Hd) (A' : Option Addr) (c' : Nat), i ≤ n ∧ v5 = .int .i64 i ∧ hs.length ≤ 30 * i ∧ Hid (Kp w W base p rs hs A' c') ∧ Hid (keys hs = ((rws rs).take i).flatten.foldl putK []) ∧ Hid (∀ R ∈ (rws rs).take i, mayR R = true)) (fun v5 _ => n - (intOf v5).toNat)
  case atStart => exact ⟨0, [], none, 0, by omega, rfl, by simp, HK0, hide rfl, hide (fun R hR => by simp at hR)⟩
  case round =>
    obtain ⟨i, hs, A', c', hi, rfl, hh30, HK, HKS, HM⟩ := hrel
    clear HK0
    by_cases hlt : i < n
    · obtain ⟨r, hr⟩ : ∃ r, rs[i]? = some r := ⟨_, List.getElem?_eq_getElem (by rw [← HN.out]; exact hlt)⟩
      have hrm := List.mem_of_getElem? hr
      have hkr : (rws rs)[i]? = some (keys r.hs) := by rw [List.getElem?_map, hr]; rfl
      obtain ⟨ad, rfl, hab, c1⟩ := (HRD.out.below HK.out.bel).2 i r.v (by rw [List.getElem?_map, hr]; rfl)
      have hrl := HL.out r hrm
      have hiI : (i : Int) < (n : Int) := by omega
      have hor := H.out.rows r hrm
      obtain ⟨rA, rc, rhs⟩ := r
      have c1' : wr.cell? (ad.add i) = some (.slice rA rhs.length rc) := c1
      have hrr : RowR wr w.heap.size rA rhs := (own_rd hor).below HK.out.bel
      obtain ⟨rl, hrl2⟩ : ∃ rl, rl = rhs.length := ⟨_, rfl⟩
      simp only at hrl hkr
      rw [← hrl2] at c1' hrl
      have C1 := hide (rmay_any rA rl rc w.heap.size rhs wr hrr hrl2 (by unfold maxLen; omega))
      have HKR := hide hkr
      have HOR := hide hor
      have HRL := hide hrl2
      have HRM := hide hrm
      have hcell : ∀ W, Below w.heap.size w W → W.cell? (ad.add i) = some (.slice rA rl rc) := fun W hW => by
        obtain ⟨ad', e, _, h⟩ := (HRD.out.below hW).2 i (Rw.v ⟨rA, rc, rhs⟩) (by rw [List.getElem?_map, hr]; rfl)
        cases e
        rw [HRL.out]
        exact h
      have HCELL := hide hcell
      cases hm : mayR (keys rhs) with
      | false =>
        rw [hm] at C1
        have HMF := hide hm
        clear hm c1 hr hrm hkr hor hrr hrl2 hcell
        go_wp2_with fail
        refine C1.out.mono ?_
        rintro e w2 ⟨rfl, hb2⟩
        have HB2 := hide (HK.out.bel.trans (hb2 _))
        clear hb2
        go_wp2_with fail
        go_ret2
        refine .inl ⟨?_, rfl, HB2.out⟩
        unfold ofOk
        rw [List.all_eq_false]
        exact ⟨_, List.mem_of_getElem? HKR.out, by rw [HMF.out]; simp⟩
      | true =>
        rw [hm] at C1
        have HMT := hide hm
        clear hm c1 hr hrm hkr hor hrr hrl2 hcell
        go_wp2_with fail
        refine C1.out.mono ?_
        rintro e w2 ⟨rfl, hb2⟩
        have HK2 := hide (HK.out.later (hb2 _))
        clear hb2 HK C1 c1'
        go_wp2_with fail
        go_loopw [6] (fun v6 W => ∃ (k : Nat) (hs : List Hd) (A' : Option Addr) (c' : Nat), k ≤ rl ∧ v6 = .int .i64 k ∧ hs.length ≤ 30 * i + k ∧ Hid (Kp w W base p rs hs A' c') ∧ Hid (keys hs = (((rws rs).take i).flatten ++ (keys rhs).take k).foldl putK [])) (fun v6 _ => rl - (intOf v6).toNat)
        case atStart => exact ⟨0, hs, A', c', by omega, rfl, by omega, HK2, hide (by rw [List.take_zero, List.append_nil]; exact HKS.out)⟩
        case round =>
          obtain ⟨k, hs3, A3, c3, hk, rfl, hh31, HK3, HKS3⟩ := hrel
          clear HK2 HKS hh30
          have d1 := HCELL.out _ HK3.out.bel
          by_cases hkl : k < rl
          · obtain ⟨x, hx⟩ : ∃ x, rhs[k]? = some x := ⟨_, List.getElem?_eq_getElem (by rw [← HRL.out]; exact hkl)⟩
            have hkx : (keys rhs)[k]? = some x.l := by rw [List.getElem?_map, hx]; rfl
            have hxm := List.mem_of_getElem? hx
            obtain ⟨ad3, hA3, _, d2⟩ := ((own_rd HOR.out).below HK3.out.bel).at_ hx
            have hgx := ((own_rd HOR.out).below HK3.out.bel).good x hxm
            have hxo : w.ownsRow base 5 1 x.v x.l.length (x.l.map bv) := HOR.out.bytes x hxm
            have hA3' : rA = some ad3 := hA3
            subst hA3'
            have hkI : (k : Int) < (rl : Int) := by omega
            obtain ⟨xA, xc, xl⟩ := x
            simp only at d2 hkx
            have d3 := HK3.out.blk.cell 0
            obtain ⟨q3, hq3⟩ : ∃ q3, q3 = hs3.length := ⟨_, rfl⟩
            have hcap := HK3.out.cap
            have hB : ∀ W, Below wr.heap.size wr W → W.cell? ⟨p, 0, none⟩ = some (.slice A3 q3 c3) ∧ W.cell? (ad.add i) = some (.slice (some ad3) rl rc) ∧ W.cell? (ad3.add k) = some (.slice xA xl.length xc) := fun W hW => by
              have h1 := HK3.out.later hW
              refine ⟨?_, HCELL.out _ h1.bel, ?_⟩
              · rw [hq3]; exact h1.blk.cell 0
              · obtain ⟨ad4, e, _, h⟩ := ((own_rd HOR.out).below h1.bel).at_ hx
                cases e
                exact h
            have HKW := hide hB
            have B0 : Below wr.heap.size wr wr.drew := ⟨rfl, rfl, rfl, Nat.le_refl _, fun _ _ => rfl⟩
            have C2 := radd_any A3 xA q3 c3 xl.length xc wr.heap.size wr.heap.size hs3 xl wr.drew ((own_rd HK3.out.own).below B0) hq3 (by omega) (by omega) (Reads.below (Reads.more hgx.1 HK3.out.bel.size) B0) (Nat.le_refl _)
            have C2H := hide C2
            have HQ3 := hide hq3
            have HXM := hide hxm
            have HXO := hide hxo
            have HKX := hide hkx
            have BA := hide B0
            have hstep : putK (keys hs3) xl = (((rws rs).take i).flatten ++ (keys rhs).take (k + 1)).foldl putK [] := by
              rw [List.take_add_one, hkx, ← List.append_assoc, List.foldl_append, ← HKS3.out]
              rfl
            have HST := hide hstep
            have hq31 : q3 ≤ 30 * i + k := by omega
            clear hB hgx hx hxm hkx hxo B0 C2 d2 d3 hcap hstep hh31 hq3 hA3
            go_upto_region 10 with fail
            clear d1
            go_region_held3 (fun W => W.cell? ⟨p, 0, none⟩ = some (.slice A3 q3 c3) ∧ W.cell? (ad.add i) = some (.slice (some ad3) rl rc) ∧ W.cell? (ad3.add k) = some (.slice xA xl.length xc)) (first | exact HKW.out _ BA.out | exact HKW.out _ hb3 | fail) (first | (go_at_call 27; refine C2H.out.mono ?_; rintro e w2 ⟨v2, rfl, hs4, ho4, hk4, hm4, hb4⟩; obtain ⟨A4, c4, rfl, _, hc4, _⟩ := OwnH.slice_ ho4; have hb3 : Below wr.heap.size wr w2 := ⟨hb4.os, hb4.tape, hb4.output, hb4.size, hb4.block⟩) | fail)
            have HK4 := hide (HK3.out.later hb3)
            by_cases hz : (addK xl (keys hs3)).1 = 0
            · rw [hz]
              have hk5 : keys hs4 = putK (keys hs3) xl := by unfold putK; rw [if_pos hz]; exact hk4
              have hl5 : hs4.length ≤ 30 * i + (k + 1) := by
                have h1 := congrArg List.length hk5
                have h2 := putK_len (keys hs3) xl
                have h3 := HQ3.out
                rw [List.length_map] at h1
                rw [List.length_map] at h2
                omega
              have hput := HK4.out.put (by rw [HP.out]; exact Nat.le_refl _) ho4 (by show base ≤ wr.heap.size; have := HK3.out.bel.size; omega) hc4 (fun y hy => by
                rcases hm4 y hy with h1 | h1
                · exact ⟨HK4.out.mem y h1, HK4.out.own.bytes y h1⟩
                · rw [h1]
                  exact ⟨⟨_, HRM.out, HXM.out⟩, own_bel (own_bel HXO.out HK3.out.bel) hb3⟩)
              obtain ⟨f1, f2, f3⟩ := HK4.out.blk.facts
              have HPUT := hide hput
              have HK5 := hide (hk5.trans HST.out)
              clear hz hk5 hput ho4 hk4 hm4 hb4 hc4 hb3
              go_wp2_with fail
              go_roundw
              case rel => exact ⟨k + 1, hs4, A4, c4, by omega, by go_num, hl5, HPUT, HK5⟩
              case measure => simp [intOf]; omega
            · have hz2 : ((addK xl (keys hs3)).1 == 0) = false := by simpa using hz
              have hk5 : keys hs3 = putK (keys hs3) xl := by unfold putK; rw [if_neg hz]
              have HK5 := hide (hk5.trans HST.out)
              generalize (addK xl (keys hs3)).1 = z at hz hz2 ⊢
              clear hk5 ho4 hk4 hm4 hb4 hc4 hb3
              go_wp2_with fail
              go_roundw
              case rel => exact ⟨k + 1, hs3, A3, c3, by omega, by go_num, by have := HQ3.out; omega, HK4, HK5⟩
              case measure => simp [intOf]; omega
          · have hkI : ¬ (k : Int) < (rl : Int) := by omega
            have hfin : keys hs3 = ((rws rs).take (i + 1)).flatten.foldl putK [] := by
              rw [HKS3.out, List.take_of_length_le (l := keys rhs) (by rw [List.length_map, ← HRL.out]; omega), List.take_add_one, HKR.out]
              simp
            have HFIN := hide hfin
            clear hfin
            go_wp2_with fail
            go_roundw
            case rel =>
              refine ⟨i + 1, hs3, A3, c3, by omega, by go_num, by omega, HK3, HFIN, hide (fun R hR => ?_)⟩
              rw [List.take_add_one, HKR.out] at hR
              rcases List.mem_append.1 hR with hR | hR
              · exact HM.out R hR
              · have : R = keys rhs := by simpa using hR
                rw [this]
                exact HMT.out
            case measure => simp [intOf]; omega
    · obtain rfl : i = n := by omega
      have hnl : ¬ (i : Int) < i := by omega
      have htk : (rws rs).take i = rws rs := List.take_of_length_le (by rw [List.length_map, ← HN.out]; exact Nat.le_refl _)
      have hks : keys hs = allK (rws rs).flatten := by rw [HKS.out, htk]; rfl
      have hmm : ∀ R ∈ rws rs, RowOk R := fun R hR => mayR_iff.1 (HM.out R (by rw [htk]; exact hR))
      have HALL := hide hks
      have HOK := hide hmm
      have HU := hide (allK_un hmm)
      have HMEM := hide HK.out.mem
      have hI0 : Ip w wr base p hs A' c' [] none 0 := ⟨HK.out.blk, HK.out.own, World.ownsRow_nil _ _ _ _, fun x hx => (by cases hx), HK.out.bel⟩
      have HI0 := hide hI0
      have HCAP := hide HK.out.cap
      obtain ⟨q, hq⟩ : ∃ q, q = hs.length := ⟨_, rfl⟩
      have HQ := hide hq
      have hq30 : q ≤ 30 * i := by omega
      clear hks hmm htk hI0 hq hh30 HM HKS HK hi hlt
      go_wp2_with fail
      go_loopw [9] (fun v9 W => ∃ (m : Nat) (is : List Ih) (IA : Option Addr) (ic : Nat), m ≤ q ∧ v9 = .int .i64 m ∧ Hid (is.length = m) ∧ Hid (Ip w W base p hs A' c' is IA ic) ∧ Hid (is.map Ih.l = ((keys hs).take m).map (fun k => inAll (rws rs) k i))) (fun v9 _ => q - (intOf v9).toNat)
      case atStart => exact ⟨0, [], none, 0, by omega, rfl, hide rfl, HI0, hide rfl⟩
      case round =>
        obtain ⟨m, is, IA, ic, hm, rfl, HIL, HI, HIK⟩ := hrel
        clear HI0
        obtain ⟨W3, hW3⟩ : ∃ W3, W3 = wr := ⟨_, rfl⟩
        subst hW3
        have hblk := HI.out.blk
        rw [← HQ.out, HIL.out] at hblk
        have HB3 := hide hblk
        obtain ⟨b1, b2, b3⟩ := hblk.facts
        by_cases hmq : m < q
        · obtain ⟨x, hx⟩ : ∃ x, hs[m]? = some x := ⟨_, List.getElem?_eq_getElem (by rw [← HQ.out]; exact hmq)⟩
          have hkx : (keys hs)[m]? = some x.l := by rw [List.getElem?_map, hx]; rfl
          obtain ⟨ad3, hA3, _, d2⟩ := (own_rd HI.out.own).at_ hx
          subst hA3
          have hgx := (own_rd HI.out.own).good x (List.mem_of_getElem? hx)
          have hmI : (m : Int) < (q : Int) := by omega
          obtain ⟨xA, xc, xl⟩ := x
          simp only at d2 hkx
          have HX := hide hx
          have HKX := hide hkx
          have HGX := hide hgx
          have HKW : Hid (∀ W, Below W3.heap.size W3 W → W.cell? ⟨p, 0, none⟩ = some (.slice (some ad3) q c') ∧ W.cell? (ad3.add m) = some (.slice xA xl.length xc)) := hide (fun W hW => by
            have h1 := HI.out.later hW
            refine ⟨?_, ?_⟩
            · rw [HQ.out]; exact h1.blk.cell 0
            · obtain ⟨ad4, e, _, h⟩ := (own_rd h1.own).at_ HX.out
              cases e
              exact h)
          clear hx hkx hgx hblk d2
          go_wp2_with fail
          clear b1 b2 b3
          go_loopw [10, 11] (fun v10 v11 W => ∃ j : Nat, j ≤ i ∧ v11 = .int .i64 j ∧ Hid (OwnI W W3.heap.size v10 (inAll (rws rs) xl j)) ∧ Hid (Below W3.heap.size W3 W)) (fun _ v11 _ => i - (intOf v11).toNat)
          case atStart => exact ⟨0, by omega, rfl, hide (World.ownsRow_nil _ _ _ _), hide (Below.refl _ _)⟩
          case round =>
            obtain ⟨j, hj, rfl, HO, HB⟩ := hrel
            obtain ⟨A10, c10, rfl⟩ := slice_ofH HO.out
            have hle := inAll_len (rws rs) xl j
            obtain ⟨il, hil⟩ : ∃ il, il = (inAll (rws rs) xl j).length := ⟨_, rfl⟩
            rw [← hil] at hle ⊢
            have HIL2 := hide hil
            clear hil
            by_cases hji : j < i
            · obtain ⟨r, hr⟩ : ∃ r, rs[j]? = some r := ⟨_, List.getElem?_eq_getElem (by rw [← HN.out]; exact hji)⟩
              have hrm := List.mem_of_getElem? hr
              have hkr : (rws rs)[j]? = some (keys r.hs) := by rw [List.getElem?_map, hr]; rfl
              have hwW := belFrom HI.out.bel HB.out
              obtain ⟨ad, rfl, hab, c1⟩ := (HRD.out.below hwW).2 j r.v (by rw [List.getElem?_map, hr]; rfl)
              have hrl := HL.out r hrm
              have hok := HOK.out _ (List.mem_of_getElem? hkr)
              have hrr : RowR wr w.heap.size r.A r.hs := (own_rd (H.out.rows r hrm)).below hwW
              have hjI : (j : Int) < (i : Int) := by omega
              obtain ⟨rA, rc, rhs⟩ := r
              have c1' : wr.cell? (ad.add j) = some (.slice rA rhs.length rc) := c1
              simp only at hrl hkr hok hrr
              obtain ⟨rl, hrl2⟩ : ∃ rl, rl = rhs.length := ⟨_, rfl⟩
              rw [← hrl2] at c1' hrl
              have C2 := fun (W : World) (hb : ∀ B, Below B wr W) => rsearch_any rA xA rl rc xl.length xc w.heap.size W3.heap.size rhs xl W (hrr.below (hb _)) hrl2 (by omega) (Reads.below HGX.out.1 (HB.out.trans (hb _)))
              unfold searchO at C2
              rw [mayR_iff.2 hok, if_pos rfl] at C2
              simp only at C2
              have hgd : (rws rs).getD j [] = keys rhs := getD_some hkr
              obtain ⟨ps, hps⟩ : ∃ ps, ps = posL xl (keys rhs) := ⟨_, rfl⟩
              rw [← hps] at C2
              have HKC : Hid (∀ W, (∀ B, Below B wr W) → W.cell? ⟨p, 0, none⟩ = some (.slice (some ad3) q c') ∧ W.cell? (ad3.add m) = some (.slice xA xl.length xc) ∧ W.cell? (ad.add j) = some (.slice rA rl rc)) := hide (fun W hW => by
                obtain ⟨h1, h2⟩ := HKW.out W (HB.out.trans (hW _))
                exact ⟨h1, h2, ((hW (ad.block + 1)).cell (by rw [add_block]; omega)).trans c1'⟩)
              cases his : isL xl (keys rhs) with
              | true =>
                rw [his] at C2
                have C2H := hide C2
                have HY := hide (inAll_yes (R := rws rs) (k := xl) (m := j) (by rw [hgd]; exact his))
                clear hr hrm hkr hwW hok hrr hrl2 C2 hgd hps his c1 c1'
                go_upto_region 20 with fail
                go_region_held3 (fun W => W.cell? ⟨p, 0, none⟩ = some (.slice (some ad3) q c') ∧ W.cell? (ad3.add m) = some (.slice xA xl.length xc) ∧ W.cell? (ad.add j) = some (.slice rA rl rc)) (first | exact HKC.out _ (fun B => ⟨rfl, rfl, rfl, Nat.le_refl _, fun _ _ => rfl⟩) | exact HKC.out _ (fun B => (show Below B wr wr.drew from ⟨rfl, rfl, rfl, Nat.le_refl _, fun _ _ => rfl⟩).trans (hb2 B)) | fail) (first | (go_at_call 24; refine (C2H.out _ (by exact fun B => ⟨rfl, rfl, rfl, Nat.le_refl _, fun _ _ => rfl⟩)).mono ?_; rintro e w2 ⟨rfl, hb2⟩) | fail)
                have hb3 : ∀ B, Below B wr w2 := fun B => (show Below B wr wr.drew from ⟨rfl, rfl, rfl, Nat.le_refl _, fun _ _ => rfl⟩).trans (hb2 B)
                have HB2 := hide (HB.out.trans (hb3 _))
                have hown : w2.ownsRow W3.heap.size 3 1 (.slice A10 il c10) il ((inAll (rws rs) xl j).map iv) := by
                  have h1 := own_bel HO.out (hb3 _)
                  rw [← HIL2.out] at h1
                  exact h1
                have HOWN := hide hown
                have hsz := HB2.out.size
                clear hb2 hb3 hown
                go_wp2_with (at_builtin; refine wpList_append_any _ rfl (.tmp 89) (.tmp 91) 32 rfl W3.heap.size 3 i0 _ 1 8 el32 hi0 hz0 hz1 hz2 rfl (by omega) (.slice A10 il c10) il ((inAll (rws rs) xl j).map iv) rfl (HOWN.out.alloc _) (w2.heap.size + 1) (some ⟨w2.heap.size, 0, none⟩) 1 1 [iv j] rfl (Reads.ofBlk (Blk.new w2 3 _) rfl) (fun u hu => by rw [List.mem_singleton.1 hu]; rfl) (by unfold maxLen; omega) (by omega) (by simp; omega) ?_; intro v4 w4 ho4 hg4 hat4; obtain ⟨A4, c4, rfl⟩ := slice_ofH ho4)
                have hb4 : Below W3.heap.size W3 w4 := (balloc HB2.out _).grown hg4 (by simp; omega) (fun _ hj => (own_lt HOWN.out hj).1)
                go_roundw
                case rel =>
                  refine ⟨j + 1, by omega, by go_num, hide ?_, hide hb4⟩
                  rw [HY.out]
                  show w4.ownsRow _ 3 1 _ (inAll (rws rs) xl j ++ [j]).length ((inAll (rws rs) xl j ++ [j]).map iv)
                  rw [List.length_append, List.map_append, ← HIL2.out]
                  exact ho4
                case measure => simp [intOf]; omega
              | false =>
                rw [his] at C2
                have C2H := hide C2
                have HY := hide (inAll_no (R := rws rs) (k := xl) (m := j) (by rw [hgd]; exact his))
                clear hr hrm hkr hwW hok hrr hrl2 C2 hgd hps his c1 c1'
                go_upto_region 20 with fail
                go_region_held3 (fun W => W.cell? ⟨p, 0, none⟩ = some (.slice (some ad3) q c') ∧ W.cell? (ad3.add m) = some (.slice xA xl.length xc) ∧ W.cell? (ad.add j) = some (.slice rA rl rc)) (first | exact HKC.out _ (fun B => ⟨rfl, rfl, rfl, Nat.le_refl _, fun _ _ => rfl⟩) | exact HKC.out _ (fun B => (show Below B wr wr.drew from ⟨rfl, rfl, rfl, Nat.le_refl _, fun _ _ => rfl⟩).trans (hb2 B)) | fail) (first | (go_at_call 24; refine (C2H.out _ (by exact fun B => ⟨rfl, rfl, rfl, Nat.le_refl _, fun _ _ => rfl⟩)).mono ?_; rintro e w2 ⟨rfl, hb2⟩) | fail)
                have hb3 : ∀ B, Below B wr w2 := fun B => (show Below B wr wr.drew from ⟨rfl, rfl, rfl, Nat.le_refl _, fun _ _ => rfl⟩).trans (hb2 B)
                have HB2 := hide (HB.out.trans (hb3 _))
                have HO2 := hide (own_bel HO.out (hb3 _))
                clear hb2 hb3
                rw [HIL2.out]
                go_wp2_with fail
                go_roundw
                case rel => exact ⟨j + 1, by omega, by go_num, hide (by rw [HY.out]; exact HO2.out), HB2⟩
                case measure => simp [intOf]; omega
            · obtain rfl : j = i := by omega
              have hjI : ¬ (j : Int) < (j : Int) := by omega
              have hI2 := HI.out.later HB.out
              have hbk := hI2.blk
              rw [← HQ.out, HIL.out] at hbk
              obtain ⟨b1, b2, b3⟩ := hbk.facts
              have hrw := hI2.row
              rw [HIL.out] at hrw
              have HBK := hide hbk
              have HRW := hide hrw
              have hwsz := hI2.bel.size
              have HIs := hide hI2
              have hm1 : m ≤ 30000 := by omega
              clear hI2 hbk hrw
              go_wp2_with (at_builtin; refine wpList_append_any _ rfl (.tmp 97) (.tmp 99) 50 rfl w.heap.size 32 j0 _ 1 24 el50 hj0 hy0 hy1 hy2 rfl (by omega) (.slice IA m ic) m (is.map Ih.v) rfl (HRW.out.alloc _) (wr.heap.size + 1) (some ⟨wr.heap.size, 0, none⟩) 1 1 [.slice A10 il c10] rfl (Reads.ofBlk (Blk.new wr 32 _) rfl) (fun u hu => by rw [List.mem_singleton.1 hu]; rfl) (by unfold maxLen; omega) (by omega) (by simp; omega) ?_; intro v4 w4 ho4 hg4 hat4; obtain ⟨A4, c4, rfl⟩ := slice_ofH ho4; have hb4 := (HBK.out.alloc (.cells #[.slice A10 il c10] 32)).grown hg4 (HBK.out.mk_.ne_own HRW.out (by decide)); obtain ⟨e1, e2, e3⟩ := hb4.facts)
              have hput := HIs.out.put (W2 := wr.alloc (.cells #[.slice A10 il c10] 32)) (x := ⟨A10, c10, inAll (rws rs) xl j⟩) (IA2 := A4) (ic2 := c4) (by rw [HP.out]; exact Nat.le_refl _) (bel1 wr _) (by
                have h1 := (own_mono HO.out HI.out.bel.size).alloc (.cells #[.slice A10 il c10] 32)
                exact h1) (by rw [HIL.out]; show w4.ownsRow _ 32 1 _ _ (is.map Ih.v ++ [.slice A10 (inAll (rws rs) xl j).length c10]); rw [← HIL2.out]; exact ho4) (by rw [HIL.out]; exact hg4)
              rw [HIL.out] at hput
              have HPUT := hide hput
              clear hput hb4 ho4 hg4 hat4
              go_roundw
              case rel =>
                refine ⟨m + 1, is ++ [⟨A10, c10, inAll (rws rs) xl j⟩], A4, c4, by omega, by go_num, hide ?_, HPUT, hide ?_⟩
                · rw [List.length_append, HIL.out]; rfl
                · rw [List.map_append, HIK.out, List.take_add_one, HKX.out, List.map_append]
                  rfl
              case measure => simp [intOf]; omega
        · obtain rfl : m = q := by omega
          have hmI : ¬ (m : Int) < (m : Int) := by omega
          clear hblk
          go_wp2_with fail
          go_ret2
          refine .inr ⟨List.all_eq_true.2 fun R hR => mayR_iff.2 (HOK.out R hR), p, hs, is, rfl, by rw [HP.out]; exact Nat.le_refl _, ⟨⟨A', c', IA, ic, HI.out.blk, HI.out.own, HCAP.out, HI.out.row⟩, HI.out.ins, by rw [HIL.out, HQ.out], Nat.zero_le _, by rw [← HQ.out]; omega⟩, HALL.out, ?_, HMEM.out, HI.out.bel⟩
          rw [HIK.out, List.take_of_length_le (by rw [List.length_map, ← HQ.out]; exact Nat.le_refl _), ← HN.out]
end Go.Proofs.Yteiamfekdibkmaa
