/-
  THE WALKS of the reference's find and Links. Conditions: as the theorems' premises say.
-/
import Derived.Test.YtgeanonphjjgeaaAt
import Derived.Test.YtgeanonphjjgeaaSmall
import Derived.Test.YtgeanonphjjgeaaBDef
import Derived.BigQuiet
import Derived.Deep.DeepCutAuto
namespace Go.Proofs.Ytgeanonphjjgeaa
open Go.RowKit

theorem bdrew {B : Nat} {w w' : World} (h : Below B w w') (n : Nat) : Below B w (w'.drewN n) := ⟨h.os, h.tape, h.output, h.size, h.block⟩
def findRes (xs : List Lk) (s o : Int) : Value :=
  match findAt xs s o with
  | some x => .tuple #[recV x, .bool true]
  | none => .tuple #[recV Lk.zero, .bool false]

set_option maxHeartbeats 400000 in
theorem find_any (s o : Int) (A : Option Addr) (xs : List Lk) (B c : Nat) (hn : xs.length ≤ 1000000) (w : World) (hB : B ≤ w.heap.size) (hr : RowAt w B A xs) :
    Calls Try.prog 28 #[.slice A xs.length c, .agg #[.int .u32 s, .int .u32 o]] w fun e w' => e = .returned (findRes xs s o) ∧ Below w.heap.size w w' := by
  go_enter Try.func28, Try.ntmps28
  go_wp2
  go_loopw [6] (fun i wr => ∃ k : Nat, k ≤ xs.length ∧ i = .int .i64 k ∧ Hid ((xs.take k).find? (atLoc s o) = none) ∧ Below w.heap.size w wr ∧
      Blk wr w.heap.size 27 #[.int .u32 s, .int .u32 o] ∧ Blk wr (w.heap.size + 1) 33 #[.int .u64 0, .int .i64 0, .slice none 0 0, .slice none 0 0, .int .u32 0, .int .u32 0])
     (fun i _ => xs.length - (intOf i).toNat)
  case atStart =>
    refine ⟨0, Nat.zero_le _, rfl, by simp [Hid], ?_, ?_, ?_⟩
    · exact ((Below.refl _ _).alloc (Nat.le_refl _) _).alloc (by simp) _
    · exact (Blk.new _ _ _).alloc _
    · have := Blk.new (w.alloc (Obj.cells #[.int .u32 s, .int .u32 o] 27)) 33 #[.int .u64 0, .int .i64 0, .slice none 0 0, .slice none 0 0, .int .u32 0, .int .u32 0]
      simpa using this
  case round =>
    obtain ⟨k, hk, rfl, hf, hb, hb1, hb2⟩ := hrel
    obtain ⟨c1, f1, s1⟩ := hb1.facts
    obtain ⟨c2, f2, s2⟩ := hb2.facts
    by_cases hlt : k < xs.length
    · obtain ⟨ad, x, rfl, hbk, hx, hm, h0, h1, h2, h3, h4, h5, h6, h7⟩ := (hr.below (hb.mono hB)).at_ hlt
      have Hx := hide hx
      clear hx
      cases hat : atLoc s o x with
      | true =>
        have hat' : x.seg = s ∧ x.off = o := by simpa [atLoc] using hat
        obtain ⟨rfl, rfl⟩ := hat'
        have hfind : findAt xs x.seg x.off = some x := find_hit hf.out (unhide Hx) hat
        have HF := hide hfind
        clear hat hfind
        go_upto_region 4 with fail
        go_quiet (fail)
        go_wp2_with fail
        have hb2' : Blk (wr.drewN nq) (w.heap.size + 1) 33 _ := hb2
        refine bodyPost_ret (results_row_tmp (ty := 33) rfl _ _ (w.heap.size + 1) 33 _ _ rfl (((((((hb2'.set_ 0 _).set_ 1 _).set_ 2 _).set_ 3 _).set_ 4 _).set_ 5 _)) Try.underlying33 rfl (by kernel_rfl)) rfl ⟨?_, ?_⟩
        · simp [findRes, HF.out, recV]
        · have hb' : Below w.heap.size w (wr.drewN nq) := bdrew hb nq
          exact ((((((hb'.setCell (p := ⟨w.heap.size + 1, 0, none⟩) (by simp) _).setCell (p := ⟨w.heap.size + 1, 1, none⟩) (by simp) _).setCell (p := ⟨w.heap.size + 1, 2, none⟩) (by simp) _).setCell (p := ⟨w.heap.size + 1, 3, none⟩) (by simp) _).setCell (p := ⟨w.heap.size + 1, 4, none⟩) (by simp) _).setCell (p := ⟨w.heap.size + 1, 5, none⟩) (by simp) _)
      | false =>
        have hmiss := find_miss hf.out (unhide Hx) hat
        have HM := hide hmiss
        have HA := hide hat
        by_cases hs : x.seg = s
        · subst hs
          have ho : x.off ≠ o := by
            intro h
            have : atLoc x.seg o x = true := by simp [atLoc, h]
            rw [hat] at this
            cases this
          have ho2 : (x.off == o) = false := by simpa using ho
          clear hat hmiss ho
          go_upto_region 4 with fail
          go_quiet (fail)
          go_wp2_with fail
          go_roundw
          case rel => exact ⟨k + 1, by omega, by go_num, HM.out, bdrew hb nq, hb1, hb2⟩
          case measure => simp [intOf]; omega
        · have hs2 : (x.seg == s) = false := by simpa using hs
          clear hat hmiss hs
          go_upto_region 4 with fail
          go_quiet (fail)
          go_wp2_with fail
          go_roundw
          case rel => exact ⟨k + 1, by omega, by go_num, HM.out, bdrew hb nq, hb1, hb2⟩
          case measure => simp [intOf]; omega
    · have hfind : findAt xs s o = none := by
        have := hf.out
        rw [List.take_of_length_le (by omega)] at this
        exact this
      have Hf := hide hfind
      clear hfind
      go_wp2
      refine bodyPost_ret (results_row_tmp (ty := 33) rfl _ _ (w.heap.size + 1) 33 _ _ rfl (((((((hb2.set_ 0 _).set_ 1 _).set_ 2 _).set_ 3 _).set_ 4 _).set_ 5 _)) Try.underlying33 rfl (by kernel_rfl)) rfl ⟨?_, ?_⟩
      · simp [findRes, unhide Hf, recV, Lk.zero]
      · exact ((((((hb.setCell (p := ⟨w.heap.size + 1, 0, none⟩) (by simp) _).setCell (p := ⟨w.heap.size + 1, 1, none⟩) (by simp) _).setCell (p := ⟨w.heap.size + 1, 2, none⟩) (by simp) _).setCell (p := ⟨w.heap.size + 1, 3, none⟩) (by simp) _).setCell (p := ⟨w.heap.size + 1, 4, none⟩) (by simp) _).setCell (p := ⟨w.heap.size + 1, 5, none⟩) (by simp) _)

/-- what has been gone through -/
structure Gone (xs : List Lk) (kb : List UInt8) (s o : Int) (pre : List Lk) (s' o' b' : Int) : Prop where
  is : chainL xs kb s o 1099511627777 = pre.map (fun x => (x, true)) ++ chainL xs kb s' o' b'
  room : (pre.length : Int) + b' ≤ 1099511627777
  pos : 0 ≤ b'
theorem Gone.next {xs : List Lk} {kb : List UInt8} {s o s' o' b' : Int} {pre : List Lk} {x : Lk} (h : Gone xs kb s o pre s' o' b') (hn : noneB s' o' = false) (hl : linkRes xs s' o' kb b' = (x, true)) : Gone xs kb s o (pre ++ [x]) x.ps x.po x.seq := by
  have h1 := linkRes_seq (by rw [hl] : (linkRes xs s' o' kb b').2 = true)
  rw [hl] at h1
  have h2 := h.room
  refine ⟨?_, ?_, ?_⟩
  · rw [h.is, chainL_cons hn, hl]
    simp
  · simp at h1 ⊢
    omega
  · simp at h1
    omega
theorem Gone.stop {xs : List Lk} {kb : List UInt8} {s o s' o' b' : Int} {pre : List Lk} (h : Gone xs kb s o pre s' o' b') (hn : noneB s' o' = false) (hl : (linkRes xs s' o' kb b').2 = false) : ∃ z, chainL xs kb s o 1099511627777 = pre.map (fun x => (x, true)) ++ [(z, false)] := by
  refine ⟨(linkRes xs s' o' kb b').1, ?_⟩
  rw [h.is, chainL_cons hn, hl]
  simp only [Bool.false_eq_true, if_false]
  rw [← hl]
theorem Gone.fin {xs : List Lk} {kb : List UInt8} {s o s' o' b' : Int} {pre : List Lk} (h : Gone xs kb s o pre s' o' b') (hn : noneB s' o' = true) : chainL xs kb s o 1099511627777 = pre.map (fun x => (x, true)) := by
  rw [h.is, chainL_none hn, List.append_nil]

theorem one_info : (Try.prog.info? 36).map (fun i => (i.zero, i.size, i.bytes)) = some (some (.agg #[.int .u32 0, .int .u32 0, .int .u64 0, .int .i64 0, .slice none 0 0, .slice none 0 0, .int .u32 0, .int .u32 0]), 8, 80) := by kernel_rfl
/-- what Links hands back -/
def LinksPost (xs : List Lk) (kb : List UInt8) (s o : Int) (w : World) (e : Ending) (w' : World) : Prop :=
  ∃ v l b, e = .returned (.tuple #[v, .bool b]) ∧ w'.ownsRow w.heap.size 36 8 v l.length (walkCells l) ∧ Below w.heap.size w w' ∧ (l.length : Int) ≤ 1099511627777 ∧
    ((b = false ∧ chainL xs kb s o 1099511627777 = l.map (fun x => (x, true))) ∨ (b = true ∧ ∃ z, chainL xs kb s o 1099511627777 = l.map (fun x => (x, true)) ++ [(z, false)]))

set_option maxHeartbeats 1000000 in
theorem refLinks_any (s o : Int) (A kA : Option Addr) (xs : List Lk) (B c kn kc : Nat) (kb : List UInt8) (hx : xs.length ≤ 1000000) (w : World) (hB : B ≤ w.heap.size) (hr : RowAt w B A xs) (hkb : Bs w B kA kn kb) (hu : ∀ x ∈ xs, 0 ≤ x.seq) :
    Calls Try.prog 21 #[.slice A xs.length c, .agg #[.int .u32 s, .int .u32 o], .slice kA kn kc] w (LinksPost xs kb s o w) := by
  obtain ⟨i0, hi0, hz0, hz1, hz2⟩ := info_parts one_info
  go_enter Try.func21, Try.ntmps21
  go_wp2_with fail
  go_loopw [8, 9, 11, 12] (fun v8 v9 _ _ wr => ∃ (pre : List Lk) (s' o' b' : Int) (ov : Value), ov = v8 ∧ v9 = .int .u64 b' ∧ Gone xs kb s o pre s' o' b' ∧ wr.ownsRow w.heap.size 36 8 ov pre.length (walkCells pre) ∧ Blk wr (w.heap.size + 1) 27 #[.int .u32 s', .int .u32 o'] ∧ Below w.heap.size w wr) (fun _ v9 _ _ _ => (intOf v9).toNat)
  case atStart => exact ⟨[], s, o, 1099511627777, _, rfl, rfl, ⟨rfl, by simp, by omega⟩, ⟨rfl, .inl ⟨rfl, rfl⟩⟩, Blk.new1 w 27 _ _, bel2 w _ _⟩
  case round =>
    obtain ⟨pre, s', o', b', ov, rfl, rfl, hg, hown, hb1, hb⟩ := hrel
    obtain ⟨c1, f1, s1⟩ := hb1.facts
    have HG := hide hg
    have HOWN := hide hown
    clear hg hown
    cases hn : noneB s' o' with
    | true =>
      have HN := hide hn
      clear hn
      go_wp2_with fail
      refine (refNone_any s' o' _).mono ?_
      rintro e w1 ⟨rfl, hb2⟩
      rw [HN.out]
      go_wp2_with fail
      go_ret2
      exact ⟨_, pre, false, rfl, HOWN.out.kept (only_of_below hb2 none) (Classical.em _), belFrom hb hb2, by have := HG.out.room; have := HG.out.pos; omega, .inl ⟨rfl, HG.out.fin HN.out⟩⟩
    | false =>
      have HN := hide hn
      clear hn
      go_wp2_with fail
      refine (refNone_any s' o' _).mono ?_
      rintro e w1 ⟨rfl, hb2⟩
      rw [HN.out]
      have bA := belFrom hb hb2
      have B1 := hb1.below hb2 s1
      have own1 := HOWN.out.kept (only_of_below hb2 none) (Classical.em _)
      clear HOWN c1 f1 s1 hb hb1 hb2
      obtain ⟨c1, f1, s1⟩ := B1.facts
      go_wp2_with fail
      refine (find_any s' o' A xs B c hx _ (by have := bA.size; omega) (hr.below (bA.mono hB))).mono ?_
      rintro e w2 ⟨rfl, hb2⟩
      have bB := belFrom bA hb2
      have B2 := B1.below hb2 s1
      have own2 := own1.kept (only_of_below hb2 none) (Classical.em _)
      clear own1 c1 f1 s1 bA hb2 B1
      obtain ⟨c1, f1, s1⟩ := B2.facts
      have stopFin : ∀ (W : World) (u : Value) (hb3 : Below w2.heap.size w2 W), (linkRes xs s' o' kb b').2 = false → u = .bool true → LinksPost xs kb s o w (.returned (.tuple #[ov, u])) W := by
        rintro W u hb3 hl rfl
        exact ⟨_, pre, true, rfl, own2.kept (only_of_below hb3 none) (Classical.em _), belFrom bB hb3, by have := HG.out.room; have := HG.out.pos; omega, .inr ⟨rfl, HG.out.stop HN.out hl⟩⟩
      have SF := hide stopFin
      have OWN2 := hide own2
      clear stopFin own2
      cases hf : findAt xs s' o' with
      | none =>
        rw [show findRes xs s' o' = .tuple #[recV Lk.zero, .bool false] by simp [findRes, hf]]
        simp only [recV, Lk.zero]
        have hl : (linkRes xs s' o' kb b').2 = false := by unfold linkRes; rw [hf]; split <;> rfl
        have HL := hide hl
        clear hf hl
        go_wp2_with fail
        refine (refMay_any s' o' _).mono ?_
        rintro e w3 ⟨rfl, hb3⟩
        have bC : Below w2.heap.size w2 w3 := belFrom (bel1 w2 _) hb3
        cases hst : standsB s' o' with
        | true =>
          have HST := hide hst
          clear hst
          go_wp2_with fail
          go_ret2
          exact SF.out _ _ bC HL.out rfl
        | false =>
          have HST := hide hst
          clear hst
          go_wp2_with fail
          go_ret2
          exact SF.out _ _ bC HL.out rfl
      | some x =>
        have hmem : x ∈ xs := List.mem_of_find?_eq_some hf
        have hp := List.find?_some hf
        have hso : x.seg = s' ∧ x.off = o' := by simpa [atLoc] using hp
        obtain ⟨rfl, rfl⟩ := hso
        rw [show findRes xs x.seg x.off = .tuple #[recV x, .bool true] by simp [findRes, hf]]
        simp only [recV]
        have hl : standsB x.seg x.off = false → (linkRes xs x.seg x.off kb b').2 = false := by
          intro h
          unfold linkRes
          rw [if_neg (by simp [mayB, h, HN.out])]
        have hl2 : standsB x.seg x.off = true → linkRes xs x.seg x.off kb b' = (x, holdsB kb b' x) := by
          intro h
          unfold linkRes
          rw [if_pos (by simp [mayB, h]), hf]
        have HL := hide hl
        have HL2 := hide hl2
        clear hf hl hl2 hp
        go_wp2_with fail
        refine (refMay_any x.seg x.off _).mono ?_
        rintro e w3 ⟨rfl, hb3⟩
        have bC : Below w2.heap.size w2 w3 := belFrom (bel1 w2 _) hb3
        have B3 : Blk w3 w2.heap.size 33 #[.int .u64 x.seq, .int .i64 x.kind, .slice x.kA x.kn x.kc, .slice x.vA x.vn x.vc, .int .u32 x.ps, .int .u32 x.po] := (Blk.new w2 33 _).below hb3 (by simp)
        have B4 := B2.below bC s1
        clear c1 f1 s1 B2
        obtain ⟨c1, f1, s1⟩ := B4.facts
        obtain ⟨c3, f3, s3⟩ := B3.facts
        cases hst : standsB x.seg x.off with
        | false =>
          have HST := hide hst
          clear hst
          go_wp2_with fail
          go_ret2
          exact SF.out _ _ bC (HL.out HST.out) rfl
        | true =>
          have HST := hide hst
          clear hst
          have bD := belFrom bB bC
          have k1 := conv_bytes (P := Try.prog) ((hr.keys x hmem).below (bD.mono hB)) x.kc 24 5 9 Try.underlying24 Try.underlying5 Try.underlying9
          have k2 := conv_bytes (P := Try.prog) (hkb.below (bD.mono hB)) kc 24 5 9 Try.underlying24 Try.underlying5 Try.underlying9
          have hs := strOf_toList x.kb
          have hs2 := strOf_toList kb
          cases hq : (x.kb == kb) with
          | false =>
            have HQ := hide hq
            have hq2 : ((strOf x.kb).toList == (strOf kb).toList) = false := by rw [hs, hs2]; exact hq
            clear hq hs hs2
            go_wp2_with fail
            go_ret2
            exact SF.out _ _ bC (by rw [HL2.out HST.out]; simp [holdsB, HQ.out]) rfl
          | true =>
            have HQ := hide hq
            have hq2 : ((strOf x.kb).toList == (strOf kb).toList) = true := by rw [hs, hs2]; exact hq
            have hx0 := hu x hmem
            have OWN3 := hide (OWN2.out.kept (only_of_below bC none) (Classical.em _))
            have HB3 := hide B3
            have HB4 := hide B4
            have hpl : pre.length + 1 ≤ 1099511627778 := by have := HG.out.room; have := HG.out.pos; omega
            have hsW : w.heap.size + 2 ≤ w3.heap.size := by have := s1; omega
            have hsW2 := bD.size
            clear hq hs hs2 B3 B4
            have stopNow : holdsB kb b' x = false → (linkRes xs x.seg x.off kb b').2 = false := fun h => by rw [HL2.out HST.out]; exact h
            have SN := hide stopNow
            clear stopNow
            cases hk1 : (x.kind != 1) with
            | true =>
              cases hk2 : (x.kind != 2) with
              | true =>
                go_wp2_with fail
                go_ret2
                exact SF.out _ _ bC (SN.out (by simp at hk1 hk2; simp [holdsB, hk1, hk2])) rfl
              | false =>
                cases hz : (x.seq == 0) with
                | true =>
                  go_wp2_with fail
                  go_ret2
                  exact SF.out _ _ bC (SN.out (by simp at hz; simp [holdsB, hz])) rfl
                | false =>
                  cases hg : decide (b' ≤ x.seq) with
                  | true =>
                    go_wp2_with fail
                    go_ret2
                    exact SF.out _ _ bC (SN.out (by simp at hg; simp [holdsB]; intros; omega)) rfl
                  | false =>
                    go_wp2_with (at_builtin; refine wpList_append_any _ rfl (.tmp 60) (.tmp 64) 31 rfl w.heap.size 36 i0 _ 8 80 Try.underlying31 hi0 hz0 hz1 hz2 rfl (by omega) ov pre.length (walkCells pre) rfl (OWN3.out.alloc _) (w3.heap.size + 1) (some ⟨w3.heap.size, 0, none⟩) 1 1 x.cs rfl (Reads.ofBlk (Blk.new w3 36 _) rfl) (by intro u hu; simp [Lk.cs] at hu; rcases hu with rfl | rfl | rfl | rfl | rfl | rfl | rfl | rfl <;> rfl) (by unfold maxLen; omega) (by omega) (by simp; omega) ?_; intro v' w4 hown' hg' hat'; obtain ⟨c5, f5, s5⟩ := ((HB3.out.alloc (.cells x.cs.toArray 36)).grown hg' (HB3.out.mk_.ne_own OWN3.out (by decide))).facts; have B5 := (HB4.out.alloc (.cells x.cs.toArray 36)).grown hg' (HB4.out.mk_.ne_own OWN3.out (by decide)); obtain ⟨c6, f6, s6⟩ := B5.facts)
                    go_roundw
                    case rel =>
                      have hh : holdsB kb b' x = true := by simp at hg hz hk2; simp [holdsB, HQ.out, hk2]; omega
                      have hbase : ∀ r, ov.ownBlock = some r → w.heap.size ≤ r := fun r e => Nat.le_of_not_lt fun h => own_ne OWN3.out h e.symm
                      have B5 : Blk _ _ _ _ := (HB4.out.alloc (.cells x.cs.toArray 36)).grown hg' (HB4.out.mk_.ne_own OWN3.out (by decide))
                      have q1 := hown'.kept (gset (gset (World.grownBy.refl _ (some (w.heap.size + 1))) 0 (.int .u32 x.ps)) 1 (.int .u32 x.po)) (.inr (B5.mk_.ne_own hown' (by decide)).symm)
                      exact ⟨pre ++ [x], x.ps, x.po, x.seq, v', rfl, rfl, HG.out.next HN.out (by rw [HL2.out HST.out, hh]), by simpa [walkCells] using q1, by simpa using (B5.set_ 0 (.int .u32 x.ps)).set_ 1 (.int .u32 x.po), bset (bset ((balloc bD _).grown hg' (by simp; omega) hbase) (by omega) _ _) (by omega) _ _⟩
                    case measure => simp at hz; simp at hg; simp [intOf]; omega
            | false =>
              cases hz : (x.seq == 0) with
              | true =>
                go_wp2_with fail
                go_ret2
                exact SF.out _ _ bC (SN.out (by simp at hz; simp [holdsB, hz])) rfl
              | false =>
                cases hg : decide (b' ≤ x.seq) with
                | true =>
                  go_wp2_with fail
                  go_ret2
                  exact SF.out _ _ bC (SN.out (by simp at hg; simp [holdsB]; intros; omega)) rfl
                | false =>
                  go_wp2_with (at_builtin; refine wpList_append_any _ rfl (.tmp 60) (.tmp 64) 31 rfl w.heap.size 36 i0 _ 8 80 Try.underlying31 hi0 hz0 hz1 hz2 rfl (by omega) ov pre.length (walkCells pre) rfl (OWN3.out.alloc _) (w3.heap.size + 1) (some ⟨w3.heap.size, 0, none⟩) 1 1 x.cs rfl (Reads.ofBlk (Blk.new w3 36 _) rfl) (by intro u hu; simp [Lk.cs] at hu; rcases hu with rfl | rfl | rfl | rfl | rfl | rfl | rfl | rfl <;> rfl) (by unfold maxLen; omega) (by omega) (by simp; omega) ?_; intro v' w4 hown' hg' hat'; obtain ⟨c5, f5, s5⟩ := ((HB3.out.alloc (.cells x.cs.toArray 36)).grown hg' (HB3.out.mk_.ne_own OWN3.out (by decide))).facts; have B5 := (HB4.out.alloc (.cells x.cs.toArray 36)).grown hg' (HB4.out.mk_.ne_own OWN3.out (by decide)); obtain ⟨c6, f6, s6⟩ := B5.facts)
                  go_roundw
                  case rel =>
                    have hh : holdsB kb b' x = true := by simp at hg hz hk1; simp [holdsB, HQ.out, hk1]; omega
                    have hbase : ∀ r, ov.ownBlock = some r → w.heap.size ≤ r := fun r e => Nat.le_of_not_lt fun h => own_ne OWN3.out h e.symm
                    have B5 : Blk _ _ _ _ := (HB4.out.alloc (.cells x.cs.toArray 36)).grown hg' (HB4.out.mk_.ne_own OWN3.out (by decide))
                    have q1 := hown'.kept (gset (gset (World.grownBy.refl _ (some (w.heap.size + 1))) 0 (.int .u32 x.ps)) 1 (.int .u32 x.po)) (.inr (B5.mk_.ne_own hown' (by decide)).symm)
                    exact ⟨pre ++ [x], x.ps, x.po, x.seq, v', rfl, rfl, HG.out.next HN.out (by rw [HL2.out HST.out, hh]), by simpa [walkCells] using q1, by simpa using (B5.set_ 0 (.int .u32 x.ps)).set_ 1 (.int .u32 x.po), bset (bset ((balloc bD _).grown hg' (by simp; omega) hbase) (by omega) _ _) (by omega) _ _⟩
                  case measure => simp at hz; simp at hg; simp [intOf]; omega
end Go.Proofs.Ytgeanonphjjgeaa
