/-
  THE WALKS of letters, Of. Conditions: as the theorems' premises say.
-/
import Derived.Test.YteiamfekdibkmaaOWNext
import Derived.Deep.RegionLaw
namespace Go.Proofs.Yteiamfekdibkmaa
open Go.RowKit Go.Shelf

set_option maxHeartbeats 1000000 in
theorem letters_any (s : List UInt8) (hsm : s.length ≤ 1000) (w : World) : Calls Try.prog 17 #[.string ⟨s.toArray⟩] w fun e w' => ∃ v, e = .returned v ∧ ∃ hs, OwnRow w' w.heap.size v hs ∧ keys hs = s.map (fun b => [b]) ∧ Below w.heap.size w w' := by
  obtain ⟨i0, hi0, hz0, hz1, hz2⟩ := info_parts hd_info
  obtain ⟨n, hn⟩ : ∃ n, n = s.length := ⟨_, rfl⟩
  have hln : (ByteArray.mk s.toArray).size = n := by rw [hn]; simp [ByteArray.size]
  have hat : ∀ (i : Nat) (b : UInt8), s[i]? = some b → i < n → ∀ w, (Instr.index 9 (.string ⟨s.toArray⟩) (.int .i64 i)).run Try.prog w = .ok (.int .u8 b.toNat) w := fun i b hb hi w => by
    rw [run_index_string w 9 _ .i64 (i : Int) Try.underlying9]
    have h1 : i < s.length := (List.getElem?_eq_some_iff.1 hb).1
    have h2 : s[i] = b := (List.getElem?_eq_some_iff.1 hb).2
    have h3 : 0 ≤ (i : Int) ∧ (i : Int) < ((ByteArray.mk s.toArray).size : Nat) := ⟨by omega, by rw [hln]; omega⟩
    rw [dif_pos h3]
    have h4 : (ByteArray.mk s.toArray)[(i : Int).toNat]'(by omega) = b := h2
    rw [h4]
  have HN := hide hn
  rw [← hn] at hsm
  clear hn
  generalize hst : ByteArray.mk s.toArray = st at hln hat ⊢
  clear hst
  go_enter Try.func17, Try.ntmps17
  go_wp2_with fail
  go_loopw [3, 4] (fun v3 v4 W => ∃ (i : Nat) (hs : List Hd), i ≤ n ∧ v4 = .int .i64 i ∧ Hid (OwnRow W w.heap.size v3 hs) ∧ Hid (keys hs = (s.take i).map fun b => [b]) ∧ Hid (Below w.heap.size w W)) (fun _ v4 _ => n - (intOf v4).toNat)
  case atStart => exact ⟨0, [], by omega, rfl, hide (OwnRow.nil _ _), hide rfl, hide (Below.refl _ _)⟩
  case round =>
    obtain ⟨i, hs, hi, rfl, HO, HK, HW⟩ := hrel
    have hl : hs.length = i := by
      have := congrArg List.length HK.out
      rw [List.length_map, List.length_map, List.length_take, ← HN.out] at this
      omega
    obtain ⟨A3, c3, rfl, _⟩ := HO.out.slice_
    rw [hl] at HO ⊢
    by_cases hlt : i < n
    · obtain ⟨b, hb⟩ : ∃ b, s[i]? = some b := ⟨_, List.getElem?_eq_getElem (by rw [← HN.out]; exact hlt)⟩
      have hix := hat i b hb hlt
      have hiI : (i : Int) < (n : Int) := by omega
      have HB := hide hb
      have HL := hide hl
      clear hb hl hat
      have hrow : wr.ownsRow w.heap.size 23 1 (.slice A3 i c3) i (hdc hs) := by
        have h := HO.out.row
        unfold OwnH at h
        rw [HL.out] at h
        exact h
      have HROW := hide hrow
      have hsz := HW.out.size
      clear hrow
      go_wp2_with (at_builtin; refine wpList_append_any _ rfl (.tmp 11) (.tmp 16) 25 rfl w.heap.size 23 i0 _ 1 24 el25' hi0 hz0 hz1 hz2 rfl (by omega) (.slice A3 i c3) i (hdc hs) rfl ((HROW.out.alloc _).alloc _) (wr.heap.size + 1 + 1) (some ⟨wr.heap.size + 1, 0, none⟩) 1 1 [.slice (some ⟨wr.heap.size, 0, none⟩) 1 1] rfl (Reads.ofBlk (Blk.new1 wr 23 _ _) rfl) (fun u hu => by rw [List.mem_singleton.1 hu]; rfl) (by unfold maxLen; omega) (by omega) (by simp; omega) ?_; intro v4 w4 ho4 hg4 hat4; obtain ⟨A4, c4, rfl⟩ := slice_ofH ho4)
      have hxo : (wr.alloc (.cells #[.int .u8 (b.toNat : Int)] 5)).ownsRow w.heap.size 5 1 (Hd.v ⟨some ⟨wr.heap.size, 0, none⟩, 1, [b]⟩) 1 ([b].map bv) := World.ownsRow_lit wr #[.int .u8 (b.toNat : Int)] 1 hsz (by unfold maxLen; omega) rfl
      have hpush : OwnRow w4 w.heap.size (.slice A4 (i + 1) c4) (hs ++ [⟨some ⟨wr.heap.size, 0, none⟩, 1, [b]⟩]) := (HO.out.later (bel1 wr _)).push hxo (bel1 _ _) (by rw [HL.out]; exact ho4) hg4
      have hb4 : Below w.heap.size w w4 := (balloc (balloc HW.out _) _).grown hg4 (by simp; omega) (fun j hj => (own_lt HROW.out hj).1)
      go_roundw
      case rel =>
        refine ⟨i + 1, _, by omega, by go_num, hide hpush, hide ?_, hide hb4⟩
        show (hs ++ [(⟨some ⟨wr.heap.size, 0, none⟩, 1, [b]⟩ : Hd)]).map Hd.l = _
        rw [List.map_append, List.take_add_one, HB.out]
        show keys hs ++ [[b]] = _
        rw [HK.out, List.map_append]
        rfl
      case measure => simp [intOf]; omega
    · obtain rfl : i = n := by omega
      have hnl : ¬ (i : Int) < i := by omega
      clear hl
      go_wp2_with fail
      go_ret
      exact ⟨_, rfl, hs, HO.out, by rw [HK.out, List.take_of_length_le (by rw [HN.out]; exact Nat.le_refl _)], HW.out⟩
/-- a slice of rows that reads -/
structure RowsR (w : World) (B : Nat) (A : Option Addr) (rs : List Rw) : Prop where
  rd : Reads w B 1 A rs.length (rs.map Rw.v)
  good : ∀ r ∈ rs, RowR w B r.A r.hs
theorem RowsR.below {w w' : World} {B : Nat} {A : Option Addr} {rs : List Rw} (h : RowsR w B A rs) (hb : Below B w w') : RowsR w' B A rs := ⟨h.rd.below hb, fun r hr => (h.good r hr).below hb⟩
theorem RowsR.more {w : World} {B B' : Nat} {A : Option Addr} {rs : List Rw} (h : RowsR w B A rs) (hB : B ≤ B') : RowsR w B' A rs := ⟨h.rd.more hB, fun r hr => (h.good r hr).more hB⟩
def ofOk (R : List (List Key)) : Bool := R.all mayR
/-- what Of answers -/
def ofP (w : World) (rs : List Rw) (e : Ending) (w' : World) : Prop :=
  (ofOk (rws rs) = false ∧ e = .returned (.tuple #[.pointer none, .int .i64 1]) ∧ Below w.heap.size w w') ∨
  (ofOk (rws rs) = true ∧ ∃ p g rs', e = .returned (.tuple #[.pointer (some ⟨p, 0, none⟩), .int .i64 0]) ∧ rws rs' = rws rs ∧ WkAt w' w.heap.size p g rs' (List.replicate rs.length 0) ∧ Below w.heap.size w w')
theorem row_info : (Try.prog.info? 25).map (fun i => (i.zero, i.size, i.bytes)) = some (some (.slice none 0 0), 1, 24) := by kernel_rfl
theorem el22 : Try.prog.underlying 22 = some (.slice 25) := by kernel_rfl
theorem int3 : Try.prog.underlying 3 = some (.int .i64) := by kernel_rfl

theorem own_set43 {w : World} {base p : Nat} {e : TypeId} {s n : Nat} {v : Value} {xs : List Value} {cs : Array Value} (h : w.ownsRow base e s v n xs) (hp : Blk w p 43 cs) (he : (43 : TypeId) ≠ e) (j : Nat) (u : Value) : (w.setCell ⟨p, j, none⟩ u).ownsRow base e s v n xs := by
  have hg : w.grownBy (w.setCell ⟨p, j, none⟩ u) (some p) := only_setCell (p := ⟨p, j, none⟩) (World.grownBy.refl w _) (.inl rfl) u
  have := hp.mk_.ne_own h he
  exact h.kept hg (.inr (fun e => this e.symm))
/-- a row more -/
theorem WalkAt.push {w w' : World} {base p g cap n : Nat} {rs : List Rw} {r : Rw} {t : List Nat} {vr v' : Value} (h : WalkAt w base p g cap rs n) (ha : AtsAt w base g cap t) (hb : Blk w p 43 #[vr, .slice (some ⟨g, 0, none⟩) n cap]) (hvr : w.ownsRow base 25 1 vr rs.length (rs.map Rw.v)) (hr : OwnRow w base r.v r.hs) (hok : RowOk (keys r.hs)) (hown : w'.ownsRow base 25 1 v' (rs.length + 1) (rs.map Rw.v ++ [r.v])) (hg : w.grownBy w' vr.ownBlock) :
    WalkAt (w'.setCell ⟨p, 0, none⟩ v') base p g cap (rs ++ [r]) n ∧ AtsAt (w'.setCell ⟨p, 0, none⟩ v') base g cap t := by
  have hb' : Blk w' p 43 #[vr, .slice (some ⟨g, 0, none⟩) n cap] := hb.grown hg (hb.mk_.ne_own hvr (by decide))
  have kp : ∀ {b e s m : Nat} {v : Value} {xs : List Value}, w.ownsRow b e s v m xs → e ≠ 25 → e ≠ 43 → (w'.setCell ⟨p, 0, none⟩ v').ownsRow b e s v m xs := fun ho he he2 => own_set43 (ho.kept hg (own_types ho hvr he)) hb' (fun e => he2 e.symm) 0 v'
  refine ⟨⟨⟨v', by simpa using hb'.set_ 0 v', ?_⟩, fun x hx => ?_, fun x hx => ?_, h.hp⟩, ⟨kp ha.row (by decide) (by decide)⟩⟩
  · rw [List.length_append, List.map_append]
    exact own_set43 hown hb' (by decide) 0 v'
  · rcases List.mem_append.1 hx with hx | hx
    · exact ⟨kp (h.rows x hx).row (by decide) (by decide), fun y hy => kp ((h.rows x hx).bytes y hy) (by decide) (by decide)⟩
    · rw [List.mem_singleton.1 hx]
      exact ⟨kp hr.row (by decide) (by decide), fun y hy => kp (hr.bytes y hy) (by decide) (by decide)⟩
  · rcases List.mem_append.1 hx with hx | hx
    · exact h.ok x hx
    · rw [List.mem_singleton.1 hx]
      exact hok
theorem made_zero (n : Nat) : madeCells (Value.int IntKind.i64 0).cells (n * 1) = ((List.replicate n 0).map iv).toArray := by
  apply Array.ext'
  rw [Nat.mul_one, show (Value.int IntKind.i64 0).cells = #[Value.int IntKind.i64 0] from rfl, toList_madeCells_one]
  simp [iv]
set_option maxRecDepth 100000 in
set_option maxHeartbeats 2000000 in
theorem of_any (A : Option Addr) (n c B : Nat) (rs : List Rw) (w : World) (h : RowsR w B A rs) (hB : B ≤ w.heap.size) (hn : n = rs.length) (hsm : n ≤ 1000) (hl : ∀ r ∈ rs, r.hs.length ≤ 100000) :
    Calls Try.prog 9 #[.slice A n c] w fun e w' => ofP w rs e w' := by
  obtain ⟨i0, hi0, hz0, hz1, hz2⟩ := info_parts i_info
  obtain ⟨j0, hj0, hy0, hy1, hy2⟩ := info_parts row_info
  have hmk := run_make_rowN (P := Try.prog) 32 3 i0 _ el32 hi0 hz0
  have H := hide h
  have HN := hide hn
  have HL := hide hl
  clear h hn hl
  go_enter Try.func9, Try.ntmps9
  have hmk2 : ∀ w : World, (Instr.makeSlice 32 (.int .i64 (n : Int)) (.int .i64 (n : Int))).run Try.prog w = .ok (.slice (some ⟨w.heap.size, 0, none⟩) n n) (w.alloc (.cells ((List.replicate n 0).map iv).toArray 3)) := fun w => by
    have h := hmk .i64 .i64 n n (Nat.le_refl _) (by rw [hz2]; omega) (by omega) w
    rw [hz1, made_zero] at h
    exact h
  obtain ⟨Z, hZ⟩ : ∃ Z, Z = ((List.replicate n 0).map iv).toArray := ⟨_, rfl⟩
  rw [← hZ] at hmk2
  have hats : AtsAt (w.alloc (.cells Z 3)) w.heap.size w.heap.size n (List.replicate n 0) := ⟨by
    have h := World.ownsRow_lit (base := w.heap.size) (e := 3) (size := 1) w Z n (Nat.le_refl _) (by unfold maxLen; omega) (by rw [hZ]; simp)
    rw [List.length_replicate]
    rw [hZ] at h ⊢
    exact h⟩
  have HATS := hide hats
  clear hmk hZ hats
  go_upto_region 2 with fail
  have hw0 : WalkAt ((w.alloc (.cells Z 3)).alloc (.cells #[.slice none 0 0, .slice (some ⟨w.heap.size, 0, none⟩) n n] 43)) w.heap.size (w.heap.size + 1) w.heap.size n [] n :=
    ⟨⟨.slice none 0 0, Blk.new1 w 43 _ _, World.ownsRow_nil _ _ _ _⟩, fun r hr => (by cases hr), fun r hr => (by cases hr), by omega⟩
  have HW0 := hide hw0
  have HA0 := hide (HATS.out.below (bel1 _ (.cells #[.slice none 0 0, .slice (some ⟨w.heap.size, 0, none⟩) n n] 43)))
  have HB0 := hide (bel2 w (.cells Z 3) (.cells #[.slice none 0 0, .slice (some ⟨w.heap.size, 0, none⟩) n n] 43))
  clear hw0 HATS
  generalize (w.alloc (.cells Z 3)).alloc (.cells #[.slice none 0 0, .slice (some ⟨w.heap.size, 0, none⟩) n n] 43) = w1 at HW0 HA0 HB0 ⊢
  obtain ⟨p, hp⟩ : ∃ p, p = w.heap.size + 1 := ⟨_, rfl⟩
  obtain ⟨g, hg⟩ : ∃ g, g = w.heap.size := ⟨_, rfl⟩
  rw [← hp] at HW0 ⊢
  clear hg hmk2
  have HPE := hide hp
  clear hp
  go_wp2_with fail
  go_loopw [14] (fun v14 W => ∃ (i : Nat) (rs' : List Rw), i ≤ n ∧ v14 = .int .i64 i ∧ Hid (WalkAt W w.heap.size p w.heap.size n rs' n) ∧ Hid (AtsAt W w.heap.size w.heap.size n (List.replicate n 0)) ∧ Hid (rws rs' = (rws rs).take i) ∧ Hid (∀ R ∈ (rws rs).take i, mayR R = true) ∧ Hid (Below w.heap.size w W)) (fun v14 _ => n - (intOf v14).toNat)
  case atStart => exact ⟨0, [], by omega, rfl, HW0, HA0, hide rfl, hide (fun R hR => by simp at hR), HB0⟩
  case round =>
    obtain ⟨i, rs', hi, rfl, HW, HA, HK, HM, HB⟩ := hrel
    clear HW0 HA0 HB0
    have hl' : rs'.length = i := by
      have := congrArg List.length HK.out
      rw [List.length_map, List.length_take, List.length_map, ← HN.out] at this
      omega
    by_cases hlt : i < n
    · obtain ⟨r, hr⟩ : ∃ r, rs[i]? = some r := ⟨_, List.getElem?_eq_getElem (by rw [← HN.out]; exact hlt)⟩
      have hrm := List.mem_of_getElem? hr
      have hRr := H.out.below (HB.out.mono hB)
      obtain ⟨ad, rfl, hab, c1⟩ := hRr.rd.2 i r.v (by rw [List.getElem?_map, hr]; rfl)
      have hrl := HL.out r hrm
      have hiI : (i : Int) < (n : Int) := by omega
      have hkr : (rws rs)[i]? = some (keys r.hs) := by rw [List.getElem?_map, hr]; rfl
      have hgood := hRr.good r hrm
      obtain ⟨rA, rc, rhs⟩ := r
      have c1' : wr.cell? (ad.add i) = some (.slice rA rhs.length rc) := c1
      simp only at hrl hkr hgood
      have hsz := HB.out.size
      have C1 := hide (may_any rA rhs.length rc B rhs wr hgood rfl (by unfold maxLen; omega))
      have HKR := hide hkr
      have HLE := hide hl'
      cases hm : mayR (keys rhs) with
      | false =>
        rw [hm] at C1
        have HMF := hide hm
        clear hm c1 hr hrm hRr hkr hgood hl'
        go_wp2_with fail
        refine C1.out.mono ?_
        rintro e w2 ⟨rfl, rfl⟩
        go_wp2_with fail
        go_ret2
        refine .inl ⟨?_, rfl, HB.out⟩
        unfold ofOk
        rw [List.all_eq_false]
        exact ⟨_, List.mem_of_getElem? HKR.out, by rw [HMF.out]; simp⟩
      | true =>
        rw [hm] at C1
        have hok := mayR_iff.1 hm
        obtain ⟨vr, hb1, hvr⟩ := HW.out.ex
        obtain ⟨Ar, cr, rfl⟩ := slice_ofH hvr
        obtain ⟨g1, g2, g3⟩ := hb1.facts
        have B0 : Below wr.heap.size wr wr.drew := ⟨rfl, rfl, rfl, Nat.le_refl _, fun _ _ => rfl⟩
        have C2 := hide (own_any rA rhs.length rc wr.heap.size rhs wr.drew ((hgood.more (Nat.le_trans hB hsz)).below B0) (Nat.le_refl _) rfl (by omega) (fun x hx => by have := (mayK_iff.1 (hok.1 x.l (List.mem_map_of_mem hx))).2; omega))
        rw [hl'] at hvr hb1 g1
        have HVR := hide hvr
        have HB1 := hide hb1
        have HMT := hide hm
        have HOK := hide hok
        have hpc : ∀ W, Below wr.heap.size wr W → W.cell? ⟨p, 0, none⟩ = some (.slice Ar i cr) := fun W hW => (hb1.below hW hb1.lt).cell 0
        have HPC := hide hpc
        clear hm c1 hr hrm hRr hkr hgood hl' hok hvr hb1 B0 hpc
        go_wp2_with fail
        refine C1.out.mono ?_
        rintro e w2 ⟨rfl, rfl⟩
        go_upto_region 7 with fail
        have hq1 : wr.drew.cell? ⟨p, 0, none⟩ = some (.slice Ar i cr) := HPC.out _ ⟨rfl, rfl, rfl, Nat.le_refl _, fun _ _ => rfl⟩
        go_region_law (first | (go_simp; refine C2.out.mono ?_; rintro e w3 ⟨v3, rfl, hs3, ho3, hk3, hbk⟩; have hb3 : Below wr.heap.size wr w3 := ⟨hbk.os, hbk.tape, hbk.output, hbk.size, hbk.block⟩; obtain ⟨A3, c3, rfl, _⟩ := ho3.slice_; have hq3 : w3.cell? ⟨p, 0, none⟩ = some (.slice Ar i cr) := HPC.out _ hb3; have hq4 : p < w3.heap.size := Nat.lt_of_lt_of_le HB1.out.lt hb3.size; have hq5 := HPC.out _ (hb3.alloc hb3.size (.cells #[.slice A3 hs3.length c3] 25)); dsimp only) | (obtain ⟨v4, w4, hrun, ho4, hg4, hat4⟩ := run_append_any (P := Try.prog) (w3.alloc (.cells #[.slice A3 hs3.length c3] 25)) w.heap.size 22 22 25 j0 _ 1 24 el22 hj0 hy0 hy1 hy2 rfl (by omega) (.slice Ar i cr) i (rs'.map Rw.v) ((own_bel HVR.out hb3).alloc _) (w3.heap.size + 1) (some ⟨w3.heap.size, 0, none⟩) 1 1 [.slice A3 hs3.length c3] (Reads.ofBlk (Blk.new w3 25 _) rfl) (fun u hu => by rw [List.mem_singleton.1 hu]; rfl) (by unfold maxLen; omega) (by omega) (by have := hb3.size; simp; omega); obtain ⟨A4, c4, rfl⟩ := slice_ofH ho4; have hb4 := Blk.grown ((HB1.out.below hb3 HB1.out.lt).alloc (.cells #[.slice A3 hs3.length c3] 25)) hg4 (HB1.out.mk_.ne_own HVR.out (by decide)); have hpc4 : w4.cell? ⟨p, 0, none⟩ = some (.slice Ar i cr) := hb4.cell 0; have hf4 := hb4.frozen 0; have hs4 := hb4.lt; refine step_append_at rfl _ _ 22 22 rfl _ _ (by simp [Act.eval]) (by simp [Act.eval]) hrun ?_) | fail)
        all_goals (
          have hW3 := (HW.out.below hb3).below (bel1 w3 (.cells #[.slice A3 hs3.length c3] 25))
          have hA3 := (HA.out.below hb3).below (bel1 w3 (.cells #[.slice A3 hs3.length c3] 25))
          have hV3 := (own_bel HVR.out hb3).alloc (.cells #[.slice A3 hs3.length c3] 25)
          have hB3 := (HB1.out.below hb3 HB1.out.lt).alloc (.cells #[.slice A3 hs3.length c3] 25)
          have hR3 : OwnRow (w3.alloc (.cells #[.slice A3 hs3.length c3] 25)) w.heap.size (Rw.v ⟨A3, c3, hs3⟩) hs3 := (ho3.mono hsz).later (bel1 _ _)
          have hpush := hW3.push (r := ⟨A3, c3, hs3⟩) hA3 hB3 (by rw [HLE.out]; exact hV3) hR3 (by rw [hk3]; exact HOK.out) (by rw [HLE.out]; exact ho4) hg4
          have hbel : Below w.heap.size w (w4.setCell ⟨p, 0, none⟩ (.slice A4 (i + 1) c4)) := bset ((balloc (belFrom HB.out hb3) _).grown hg4 (by have := hb3.size; simp; omega) (fun j hj => (own_lt HVR.out hj).1)) (by have := HPE.out; omega) 0 _
          have HPUSH := hide hpush
          have HBEL := hide hbel
          have HK3 := hide hk3
          clear hW3 hA3 hV3 hB3 hR3 hpush hbel hk3
          go_wp2_with fail
          go_roundw
          case rel =>
            refine ⟨i + 1, rs' ++ [⟨A3, c3, hs3⟩], by omega, by go_num, hide HPUSH.out.1, hide HPUSH.out.2, hide ?_, hide ?_, HBEL⟩
            · rw [List.take_add_one, HKR.out]
              show (rs' ++ [(⟨A3, c3, hs3⟩ : Rw)]).map (fun r => keys r.hs) = _
              rw [List.map_append]
              show rws rs' ++ [keys hs3] = _
              rw [HK.out, HK3.out]
              rfl
            · intro R hR
              rw [List.take_add_one, HKR.out] at hR
              rcases List.mem_append.1 hR with hR | hR
              · exact HM.out R hR
              · have : R = keys rhs := by simpa using hR
                rw [this]
                exact HMT.out
          case measure => simp [intOf]; omega)
    · obtain rfl : i = n := by omega
      have hnl : ¬ (i : Int) < i := by omega
      have hkk : rws rs' = rws rs := by rw [HK.out, List.take_of_length_le (by rw [List.length_map, ← HN.out]; exact Nat.le_refl _)]
      have hmm : ofOk (rws rs) = true := List.all_eq_true.2 fun R hR => HM.out R (by rw [List.take_of_length_le (by rw [List.length_map, ← HN.out]; exact Nat.le_refl _)]; exact hR)
      have HKK := hide hkk
      have HMM := hide hmm
      have HLE := hide hl'
      clear hl' hkk hmm
      go_wp2_with fail
      go_ret2
      refine .inr ⟨HMM.out, p, w.heap.size, rs', rfl, HKK.out, ⟨⟨i, ?_, ?_⟩, ?_, ?_, ?_, ?_⟩, HB.out⟩
      · rw [HLE.out]; exact HW.out
      · rw [← HN.out]; exact HA.out
      · rw [List.length_replicate, ← HN.out, HLE.out]
      · rw [HLE.out]; exact hsm
      · intro r hr
        have h1 : keys r.hs ∈ rws rs := by rw [← HKK.out]; exact List.mem_map_of_mem hr
        obtain ⟨x, hx, e⟩ := List.mem_map.1 h1
        have h2 := HL.out x hx
        have h3 := congrArg List.length e
        rw [List.length_map, List.length_map] at h3
        omega
      · intro a ha
        rw [List.eq_of_mem_replicate ha]
        omega
end Go.Proofs.Yteiamfekdibkmaa
