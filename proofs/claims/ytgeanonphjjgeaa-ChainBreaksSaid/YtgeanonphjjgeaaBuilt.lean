/-
  THE WALK of built: the writes laid one behind the other. Conditions: none.
-/
import Derived.Test.YtgeanonphjjgeaaBDef
import Derived.BigRegion
import Derived.Deep.DeepCutAuto
namespace Go.Proofs.Ytgeanonphjjgeaa
open Go.RowKit Go.Shelf

/-- the next link that built lays, ready to be appended -/
structure NextB (W : World) (B gx k i : Nat) (a b : Int) (x : Lk) : Prop where
  blk : Blk W gx 35 #[.int .u32 x.seg, .int .u32 x.off, .int .u64 x.seq, .int .i64 x.kind, .slice x.kA x.kn x.kc, .slice x.vA x.vn x.vc, .int .u32 x.ps, .int .u32 x.po]
  seg : x.seg = 1 + (i : Int) / 7
  off : x.off = 16 + 40 * ((i : Int) % 7)
  seq : x.seq = (i : Int) + 1
  kind : x.kind = 1 ∨ x.kind = 2
  ps : x.ps = a ∧ x.po = b
  kn : x.kn = 1
  kb : x.kb = [UInt8.ofNat k]
  key : ∃ g, x.kA = some ⟨g, 0, none⟩ ∧ Mk W g 5 #[bv (UInt8.ofNat k)] ∧ B ≤ g
  val : (x.vA = none ∧ x.vn = 0 ∧ x.vb = []) ∨ ∃ g b, x.vA = some ⟨g, 0, none⟩ ∧ x.vn = 1 ∧ x.vb = [b] ∧ Mk W g 5 #[bv b] ∧ B ≤ g
theorem NextB.vn_ {W : World} {B gx k i : Nat} {a b : Int} {x : Lk} (h : NextB W B gx k i a b x) : x.vn ≤ 1 := by
  rcases h.val with ⟨_, h, _⟩ | ⟨_, _, _, h, _⟩ <;> omega

set_option maxRecDepth 100000 in
set_option maxHeartbeats 1000000 in
theorem built_any (A : Option Addr) (n c : Nat) (ws : List (Int × Bool × Int)) (hwl : n = ws.length) (w : World) (hw : WrAt w w.heap.size A ws) (hn : n ≤ 9223372036854775807) :
    Calls Try.prog 17 #[.slice A n c] w fun e w' => ∃ v xs hs, e = .returned (.tuple #[v, .agg hs]) ∧ xs.length ≤ 60 ∧ BltW w w' w.heap.size v xs hs := by
  obtain ⟨i0, hi0, hz0, hz1, hz2⟩ := info_parts link_info
  have HWL := hide hwl
  clear hwl
  go_enter Try.func17, Try.ntmps17
  go_wp2_with fail
  go_loopw [4, 6, 7, 8, 9, 12] (fun v4 _ _ _ _ v12 wr => ∃ (i : Nat) (xs : List Lk) (hs : Array Value), i ≤ 60 ∧ i ≤ n ∧ xs.length = i ∧ v12 = .int .i64 i ∧ BltW w wr (w.heap.size + 1) v4 xs hs ∧ Blk wr w.heap.size 55 #[.int .u32 0, .int .u32 0, .int .u32 0, .int .u32 0, .int .u32 0, .int .u32 0, .int .u32 0, .int .u32 0]) (fun _ _ _ _ _ v12 _ => n - (intOf v12).toNat)
  case atStart =>
    refine ⟨0, [], #[.int .u32 0, .int .u32 0, .int .u32 0, .int .u32 0, .int .u32 0, .int .u32 0, .int .u32 0, .int .u32 0], by omega, by omega, rfl, rfl, ⟨⟨rfl, .inl ⟨rfl, rfl⟩⟩, BuiltOk.nil, fun x hx => (by cases hx), fun x hx => (by cases hx), Blk.new1 w 55 _ _, HeadsAt.nil, bel2 w _ _⟩, (Blk.new w 55 _).alloc _⟩
  case round =>
    obtain ⟨i, xs, hs, hi60, hin, hxl, rfl, hB, hres⟩ := hrel
    by_cases hlt : i < n ∧ ((i : Int) == 60) = false
    · obtain ⟨hlt, h60⟩ := hlt
      have hw' := hw.below (hB.below)
      obtain ⟨ad, key, gone, v, rfl, hab, hk0, hk1, hv0, hv1, c0, c1, c2⟩ := hw'.at_ (by have := HWL.out; omega : i < ws.length)
      clear hw'
      have H60 := hide h60
      have hi61 : i < 60 := by
        have : ((i : Int) == 60) = false := h60
        simp at this; omega
      obtain ⟨k, hk4, hk⟩ : ∃ k : Nat, k < 4 ∧ key % 4 = k := ⟨(key % 4).toNat, by have := Int.emod_lt_of_pos key (show (0 : Int) < 4 by omega); omega, by have := Int.emod_nonneg key (show (4 : Int) ≠ 0 by omega); omega⟩
      have hk' : (k : Int) < 4 := by omega
      obtain ⟨hc8, hcs⟩ := hB.at_
      obtain ⟨q1, q2⟩ := hcs k hk4
      obtain ⟨a, b, hhd⟩ : ∃ a b, headOf xs (UInt8.ofNat k) = (a, b) := ⟨_, _, rfl⟩
      rw [hhd] at q1 q2
      have HHD := hide hhd
      simp only at q1 q2
      have h0 : wr.cell? ⟨w.heap.size + 1, k * 2, none⟩ = some (.int .u32 a) := by rw [hB.heads.cell]; exact q1
      have h1 : wr.cell? ⟨w.heap.size + 1, k * 2 + 1, none⟩ = some (.int .u32 b) := by rw [hB.heads.cell]; exact q2
      have hsz : w.heap.size + 1 < wr.heap.size := hB.heads.lt
      have hs0 : w.heap.size < wr.heap.size := by omega
      have x0 : w.heap.size < wr.heap.size + 1 := by omega
      have x1 : w.heap.size < wr.heap.size + 1 + 1 := by omega
      have x2 : w.heap.size < wr.heap.size + 1 + 1 + 1 := by omega
      have x3 : w.heap.size + 1 < wr.heap.size + 1 := by omega
      have x4 : w.heap.size + 1 < wr.heap.size + 1 + 1 := by omega
      have x5 : w.heap.size + 1 < wr.heap.size + 1 + 1 + 1 := by omega
      clear hcs q1 q2 hc8 hhd
      go_upto_region 8 with fail
      go_cut [9] (fun s9 wx => ∃ gx gk gv : Nat, s9 = .pointer (some ⟨gx, 0, none⟩) ∧ Blk wx gx 35 #[.int .u32 (1 + (i : Int) / 7), .int .u32 (16 + 40 * ((i : Int) % 7)), .int .u64 ((i : Int) + 1), .int .i64 1, .slice (some ⟨gk, 0, none⟩) 1 1, .slice (some ⟨gv, 0, none⟩) 1 1, .int .u32 a, .int .u32 b] ∧
        Mk wx gk 5 #[.int .u8 k] ∧ Mk wx gv 5 #[.int .u8 v] ∧ wr.heap.size < gx ∧ wr.heap.size < gk ∧ wr.heap.size < gv ∧ gx ≠ gk ∧ gx ≠ gv ∧ Below wr.heap.size wr wx ∧ Blk wx wr.heap.size 73 #[.int .u8 key, .bool gone, .int .u8 v])
      case first =>
        go_region
        all_goals
          go_wp2_with fail
          go_meet
          case rel =>
            iterate 3 apply Exists.intro
            refine ⟨rfl, ?_, ?_, ?_, ?_, ?_, ?_, ?_, ?_, ?_, ?_⟩
            · first | exact (Blk.newAt (by simp)).drew | exact ((Blk.newAt (by simp)).alloc _).drew | exact (((Blk.newAt (by simp)).alloc _).alloc _).drew
            · first | exact (Blk.newAt (by simp)).drew.mk_ | exact ((Blk.newAt (by simp)).alloc _).drew.mk_ | exact (((Blk.newAt (by simp)).alloc _).alloc _).drew.mk_
            · first | exact (Blk.newAt (by simp)).drew.mk_ | exact ((Blk.newAt (by simp)).alloc _).drew.mk_ | exact (((Blk.newAt (by simp)).alloc _).alloc _).drew.mk_
            · first | omega | (simp only [World.size_alloc]; omega)
            · first | omega | (simp only [World.size_alloc]; omega)
            · first | omega | (simp only [World.size_alloc]; omega)
            · first | omega | (simp only [World.size_alloc]; omega)
            · first | omega | (simp only [World.size_alloc]; omega)
            · exact (balloc (bel3 wr _ _ _) _).drew
            · exact ((((Blk.new wr 73 _).alloc _).alloc _).alloc _).drew
      case rest => 
        obtain ⟨gx, gk, gv, rfl, bx, mk, mv, lx, lk, lv, nk, nv, hb, b73⟩ := hcut
        have bvk := bv_ofNat (k := k) (by omega)
        have bvv := bv_ofInt ⟨hv0, hv1⟩
        rw [← bvk] at mk
        rw [← bvv] at mv
        clear c0 c1 c2 bvk bvv
        obtain ⟨f7, f8, f9⟩ := b73.facts
        go_upto_if 46 with fail
        go_cut [] (fun wx => ∃ x, NextB wx (wr.heap.size + 1) gx k i a b x ∧ Below wr.heap.size wr wx)
        case first =>
          obtain ⟨f1, f2, f3⟩ := bx.facts
          have MK := hide mk
          have MV := hide mv
          have HB := hide hB
          clear hB mk mv
          cases gone with
          | false =>
            go_wp2_with fail
            go_meet
            case rel =>
              exact ⟨⟨1 + (i : Int) / 7, 16 + 40 * ((i : Int) % 7), (i : Int) + 1, 1, some ⟨gk, 0, none⟩, 1, 1, some ⟨gv, 0, none⟩, 1, 1, a, b, [UInt8.ofNat k], [UInt8.ofNat v.toNat]⟩, ⟨bx, rfl, rfl, rfl, .inl rfl, ⟨rfl, rfl⟩, rfl, rfl, ⟨gk, rfl, unhide MK, lk⟩, .inr ⟨gv, _, rfl, rfl, rfl, unhide MV, lv⟩⟩, hb⟩
          | true =>
            go_wp2_with fail
            go_meet
            case rel =>
              refine ⟨⟨1 + (i : Int) / 7, 16 + 40 * ((i : Int) % 7), (i : Int) + 1, 2, some ⟨gk, 0, none⟩, 1, 1, none, 0, 0, a, b, [UInt8.ofNat k], []⟩, ⟨?_, rfl, rfl, rfl, .inr rfl, ⟨rfl, rfl⟩, rfl, rfl, ⟨gk, rfl, ?_, lk⟩, .inl ⟨rfl, rfl, rfl⟩⟩, ?_⟩
              · exact (bx.set_ 3 (.int .i64 2)).set_ 5 (.slice none 0 0)
              · exact ((unhide MK).far (by exact fun e => nk e.symm) _).far (by exact fun e => nk e.symm) _
              · exact (hb.setCell (by simp; omega) _).setCell (by simp; omega) _
        case rest =>
          clear hb
          obtain ⟨x, hN, hb⟩ := hcut
          have own' := hB.own.kept (only_of_below hb none) (Classical.em _)
          have hH : Blk wc (w.heap.size + 1) 55 hs := hB.heads.below hb hsz
          obtain ⟨f1, f2, f3⟩ := hN.blk.facts
          have g0 : wc.cell? ⟨w.heap.size + 1, k * 2, none⟩ = some (.int .u32 a) := (hb.cell hsz).trans h0
          have g1 : wc.cell? ⟨w.heap.size + 1, k * 2 + 1, none⟩ = some (.int .u32 b) := (hb.cell hsz).trans h1
          have g2 := hH.frozen
          have hS2 : wc.grownBy ((wc.setCell ⟨w.heap.size + 1, k * 2, none⟩ (.int .u32 x.seg)).setCell ⟨w.heap.size + 1, k * 2 + 1, none⟩ (.int .u32 x.off)) (some (w.heap.size + 1)) :=
              only_setCell (p := ⟨w.heap.size + 1, k * 2 + 1, none⟩) (only_setCell (p := ⟨w.heap.size + 1, k * 2, none⟩) (World.grownBy.refl wc _) (.inl rfl) _) (.inl rfl) _
          have own2 := (own'.kept hS2 (.inr (hH.mk_.ne_own own' (by decide)).symm)).alloc (.cells #[.int .u32 x.seg, .int .u32 x.off, .int .u64 x.seq, .int .i64 x.kind, .slice x.kA x.kn x.kc, .slice x.vA x.vn x.vc, .int .u32 x.ps, .int .u32 x.po] 35)
          have hbw : w.heap.size ≤ wc.heap.size := Nat.le_trans hB.below.size hb.size
          have hB0 := hB.below.size
          have HB := hide hB
          have HN := hide hN
          have HX := hide hxl
          have hlen : xs.length ≤ 60 := by omega
          clear hB hN hxl
          go_wp2_with (at_builtin; go_loud (refine wpList_append_any _ rfl (.tmp 55) (.tmp 57) 23 rfl w.heap.size 35 i0 _ 8 80 Try.underlying23 hi0 hz0 hz1 hz2 rfl (by omega) _ xs.length (walkCells xs) rfl own2 (wc.heap.size + 1) (some ⟨wc.heap.size, 0, none⟩) 1 1 x.cs rfl (Reads.ofBlk (Blk.newAt (by simp)) rfl) (by intro u hu; simp [Lk.cs] at hu; rcases hu with rfl | rfl | rfl | rfl | rfl | rfl | rfl | rfl <;> rfl) (by unfold maxLen; omega) (by omega) (by simp; omega) ?_); intro v' w1 hown' hg' hat')
          go_roundw
          case rel =>
            have hs1 := hg'.size
            simp only [World.size_alloc] at hs1
            have stepM : ∀ g cs, Mk wc g 5 cs → Mk w1 g 5 cs := fun g cs hm => by
              have hne : g ≠ w.heap.size + 1 := fun e => by
                subst e
                obtain ⟨fr, h1⟩ := hm
                have h2 : wc.heap[w.heap.size + 1]? = some (.cells hs 55 (0, 0)) := hH
                rw [h1] at h2
                cases h2
              exact (((hm.far hne _).far hne _).alloc _).grown hg' (hm.ne_own own' (by decide))
            have hb1 : Below w.heap.size w w1 := ((((HB.out.below.trans (hb.mono hB0)).setCell (p := ⟨w.heap.size + 1, k * 2, none⟩) (by simp) _).setCell (p := ⟨w.heap.size + 1, k * 2 + 1, none⟩) (by simp) _).alloc (by simp; omega) _).grown hg' (by simp; omega) (fun r e => (own_lt own' e).1)
            have hN := HN.out
            refine ⟨i + 1, xs ++ [x], (hs.setIfInBounds (k * 2) (.int .u32 x.seg)).setIfInBounds (k * 2 + 1) (.int .u32 x.off), by omega, by omega, by simp; exact HX.out, by go_num, ⟨?_, ?_, ?_, ?_, ?_, ?_, hb1⟩, ?_⟩
            · simpa [walkCells] using hown'
            · have e : i = xs.length := HX.out.symm
              refine HB.out.ok.snoc ⟨e ▸ hN.seg, e ▸ hN.off, e ▸ hN.seq, hN.kind, ⟨UInt8.ofNat k, hN.kb, ?_, ?_, ?_⟩, hN.kn, hN.vn_⟩
              · simp; omega
              · rw [List.take_length, HHD.out]; exact hN.ps.1
              · rw [List.take_length, HHD.out]; exact hN.ps.2
            · intro y hy
              rcases List.mem_append.1 hy with hy | hy
              · obtain ⟨g, kk, h1, h2, h3⟩ := HB.out.keys y hy
                exact ⟨g, kk, h1, h2, stepM _ _ (h3.below hb h3.lt)⟩
              · simp at hy
                subst hy
                obtain ⟨g, h1, h2, _⟩ := hN.key
                exact ⟨g, _, h1, hN.kb, stepM _ _ h2⟩
            · intro y hy
              rcases List.mem_append.1 hy with hy | hy
              · rcases HB.out.vals y hy with h | ⟨g, kk, h1, h2, h3, h4⟩
                · exact .inl h
                · exact .inr ⟨g, kk, h1, h2, h3, stepM _ _ (h4.below hb h4.lt)⟩
              · simp at hy
                subst hy
                rcases hN.val with h | ⟨g, kk, h1, h2, h3, h4, _⟩
                · exact .inl h
                · exact .inr ⟨g, kk, h1, h2, h3, stepM _ _ h4⟩
            · exact (((hH.set_ _ _).set_ _ _).alloc _).grown hg' (hH.mk_.ne_own own' (by decide))
            · exact HB.out.at_.snoc hk4 hN.kb
            · have h0 := hres.below hb hs0
              exact (((h0.far (p := ⟨w.heap.size + 1, k * 2, none⟩) (by simp) _).far (p := ⟨w.heap.size + 1, k * 2 + 1, none⟩) (by simp) _).alloc _).grown hg' (h0.mk_.ne_own own' (by decide))
          case measure => simp [intOf]; omega
    · have hway : (i < n ∧ ((i : Int) == 60) = true) ∨ ¬ i < n := by
        by_cases h : i < n
        · left
          refine ⟨h, ?_⟩
          cases h2 : ((i : Int) == 60) with
          | true => rfl
          | false => exact absurd ⟨h, h2⟩ hlt
        · exact .inr h
      obtain ⟨hc8, hcs⟩ := hB.at_
      have hcell : i < n → ∃ ad key gone v, A = some ad ∧ wr.cell? (ad.add (i * 3)) = some (.int .u8 key) ∧ wr.cell? ⟨(ad.add (i * 3)).block, (ad.add (i * 3)).off + 1, none⟩ = some (.bool gone) ∧ wr.cell? ⟨(ad.add (i * 3)).block, (ad.add (i * 3)).off + 2, none⟩ = some (.int .u8 v) := fun hlt2 => by
        obtain ⟨ad, key, gone, v, rfl, _, _, _, _, _, c0, c1, c2⟩ := (hw.below hB.below).at_ (by have := HWL.out; omega : i < ws.length)
        exact ⟨ad, key, gone, v, rfl, c0, c1, c2⟩
      have HC := hide hcell
      have HB := hide hB
      have hH := hB.heads
      clear hcell hcs hB hc8 hlt
      rcases hway with ⟨hlt2, h60⟩ | hlt2
      case' inl =>
        obtain ⟨ad, key, gone, v, rfl, c0, c1, c2⟩ := HC.out hlt2
        go_upto_region 14 with fail
      case' inr => go_upto_region 14 with fail
      all_goals
        have H8 := HB.out.at_.eq
        subst H8
        unfold headsArr at hH
        generalize hq0 : headOf xs 0 = q0 at hH
        generalize hq1 : headOf xs 1 = q1 at hH
        generalize hq2 : headOf xs 2 = q2 at hH
        generalize hq3 : headOf xs 3 = q3 at hH
        have e0 := hide hq0
        have e1 := hide hq1
        have e2 := hide hq2
        have e3 := hide hq3
        clear hq0 hq1 hq2 hq3
        have hsz : w.heap.size + 1 < wr.heap.size := hH.lt
      case' inl =>
        have hH2 := hH.alloc (.cells #[Value.int IntKind.u8 key, Value.bool gone, Value.int IntKind.u8 v] 73)
        have hR2 := hres.alloc (.cells #[Value.int IntKind.u8 key, Value.bool gone, Value.int IntKind.u8 v] 73)
        have bel2 : Below wr.heap.size wr (wr.alloc (.cells #[Value.int IntKind.u8 key, Value.bool gone, Value.int IntKind.u8 v] 73)) := bel1 wr _
        generalize wr.alloc (.cells #[Value.int IntKind.u8 key, Value.bool gone, Value.int IntKind.u8 v] 73) = W at *
      case' inr =>
        obtain ⟨W, hW⟩ : ∃ W, W = wr := ⟨_, rfl⟩
        have hH2 : Blk W _ _ _ := hW ▸ hH
        have hR2 : Blk W _ _ _ := hW ▸ hres
        have bel2 : Below wr.heap.size wr W := hW ▸ Below.refl _ _
        rw [← hW]
        clear hW
      all_goals
        have HE := hide bel2
        clear bel2 hres hH HC hw
        obtain ⟨f1, f2, f3⟩ := hH2.facts
        obtain ⟨f4, f5, f6⟩ := hR2.facts
        go_region
        all_goals
          go_wp2_with fail
          refine bodyPost_ret (results_tmp_row (ty := 55) rfl _ _ w.heap.size 55 _ _ rfl (hR2.set8 _ _ _ _ _ _ _ _).drew Try.underlying55 rfl (by kernel_rfl)) rfl ?_
          have hg8 := gset8 W w.heap.size (.int .u32 q0.1) (.int .u32 q0.2) (.int .u32 q1.1) (.int .u32 q1.2) (.int .u32 q2.1) (.int .u32 q2.2) (.int .u32 q3.1) (.int .u32 q3.2)
          refine ⟨u4, xs, headsArr xs, ?_, by omega, (HB.out.step HE.out).out hR2 (only_drew hg8) (Nat.le_refl _) ?_ rfl⟩
          · unfold headsArr
            rw [e0.out, e1.out, e2.out, e3.out]
            rfl
          · unfold headsArr
            rw [e0.out, e1.out, e2.out, e3.out]
            exact (hR2.set8 _ _ _ _ _ _ _ _).drew
end Go.Proofs.Ytgeanonphjjgeaa
