/-
  THE WALK of links: the function that it makes, and what a range over it does.
-/
import Derived.Test.YtgeanonphjjgeaaLink
import Derived.Test.YtgeanonphjjgeaaRange
import Derived.RangeFuncNested
import Derived.RangeFuncBound
import Derived.RangeFuncCalls
import Derived.RangeFuncLeaves
import Derived.Shelf.Abstract
import Derived.Shelf.RegionOpen
import Derived.WalkKit
import Derived.OwnWalkIn
import Derived.TacticsInMore
import Derived.LoopNIn
import Derived.LoopIn
namespace Go.Proofs.Ytgeanonphjjgeaa
open Go.RowKit Go.Shelf
attribute [local go_sem] Oper.semAt_some

/-- what is asked of the world while a range over links goes on: the captured variables, and what they lead to -/
structure LinkWorld (W : World) (b1 b2 b3 B c kn kc : Nat) (s o : Int) (A kA : Option Addr) (xs : List Lk) (kb : List UInt8) : Prop where
  from_ : Blk W b1 27 #[.int .u32 s, .int .u32 o]
  rd : Blk W b2 63 #[.iface 23 (.slice A xs.length c)]
  key : Blk W b3 24 #[.slice kA kn kc]
  row : RowAt W B A xs
  kbs : Bs W B kA kn kb

def encL (x : Lk × Bool) : Array Value := #[.agg x.1.cs.toArray, .bool x.2]

theorem LinkWorld.kz {keepB : Nat → Prop} {zone : World → Option Nat} {W W' : World} {b1 b2 b3 B c kn kc : Nat} {s o : Int} {A kA : Option Addr} {xs : List Lk} {kb : List UInt8} (h : LinkWorld W b1 b2 b3 B c kn kc s o A kA xs kb)
    (hk : Kz keepB zone W W') (hkB : ∀ k, k < B → keepB k) (hk1 : keepB b1 ∧ keepB b2 ∧ keepB b3) (hz : ∀ g, zone W = some g → B ≤ g ∧ g ≠ b1 ∧ g ≠ b2 ∧ g ≠ b3) (hB : B ≤ W.heap.size) : LinkWorld W' b1 b2 b3 B c kn kc s o A kA xs kb := by
  have one : ∀ b t cs, Blk W b t cs → keepB b → (∀ g, zone W = some g → g ≠ b) → Blk W' b t cs := fun b t cs hb hkb hne =>
    (hk.block b hb.lt hkb (fun e => hne _ e rfl)).trans hb
  have low : ∀ p : Addr, p.block < B → W'.cell? p = W.cell? p := fun p hp =>
    World.cell?_of_block (hk.block p.block (by omega) (hkB _ hp) (fun e => by have := (hz _ e).1; omega))
  exact ⟨one _ _ _ h.from_ hk1.1 (fun g e => (hz g e).2.1), one _ _ _ h.rd hk1.2.1 (fun g e => (hz g e).2.2.1), one _ _ _ h.key hk1.2.2 (fun g e => (hz g e).2.2.2),
    ⟨h.row.cells.keep low, fun x hx => (h.row.keys x hx).keep low, fun x hx => (h.row.vals x hx).keep low⟩, h.kbs.keep low⟩
theorem LinkWorld.grown {W W' : World} {b1 b2 b3 B c kn kc N0 : Nat} {s o : Int} {A kA : Option Addr} {xs : List Lk} {kb : List UInt8} (h : LinkWorld W b1 b2 b3 B c kn kc s o A kA xs kb)
    {row : Option Nat} (hg : W.grownBy W' row) (hr : ∀ r, row = some r → N0 ≤ r) (hB : B ≤ N0) (hN : N0 ≤ W.heap.size) (hb : b1 < N0 ∧ b2 < N0 ∧ b3 < N0) : LinkWorld W' b1 b2 b3 B c kn kc s o A kA xs kb := by
  have one : ∀ b t cs, Blk W b t cs → b < N0 → Blk W' b t cs := fun b t cs hb hlt => hb.grown hg (fun e => by have := hr _ e.symm; omega)
  have low : ∀ p : Addr, p.block < B → W'.cell? p = W.cell? p := fun p hp =>
    World.cell?_of_block (hg.block p.block (by omega) (fun e => by have := hr _ e.symm; omega))
  exact ⟨one _ _ _ h.from_ hb.1, one _ _ _ h.rd hb.2.1, one _ _ _ h.key hb.2.2,
    ⟨h.row.cells.keep low, fun x hx => (h.row.keys x hx).keep low, fun x hx => (h.row.vals x hx).keep low⟩, h.kbs.keep low⟩

theorem Abz.none_ {β : Type} {B : Nat} {zone : World → Option Nat} {J : β → World → Prop} (h : Abz B zone J) {s : β} {A A' : World} (hj : J s A) (hb : Below A.heap.size A A') : J s A' :=
  h s A A' none hj (only_of_below hb none) (fun r e => by cases e)

set_option maxHeartbeats 1000000 in
theorem links1_in (n : Nat) (hn : 1 ≤ n) (l : Nat) (b1 b2 b3 B c kn kc : Nat) (s o : Int) (A kA : Option Addr) (xs : List Lk) (kb : List UInt8) (hx : xs.length ≤ 1000000)
    (keepB : Nat → Prop) (zone : World → Option Nat) (J Jx : List (Lk × Bool) → World → Prop) (W : World)
    (hkB : ∀ k, k < B → keepB k) (hk1 : keepB b1 ∧ keepB b2 ∧ keepB b3) (hkN : ∀ k, W.heap.size ≤ k → keepB k)
    (hzone : ∀ A A' : World, (∀ k, k < W.heap.size → A'.heap[k]? = A.heap[k]?) → zone A' = zone A)
    (hBN : B ≤ W.heap.size) (hLW : LinkWorld W b1 b2 b3 B c kn kc s o A kA xs kb)
    (hz : ∀ p W, J p W → ∀ g, zone W = some g → (B ≤ g ∧ g ≠ b1 ∧ g ≠ b2 ∧ g ≠ b3) ∧ g < W.heap.size)
    (hJ : Abz W.heap.size zone J)
    (hY : ∀ pre x W1, J pre W1 → pre ++ [x] <+: chainL xs kb s o 1099511627777 → YieldAt Fence.wide (n - 1) Try.prog l (encL x) W1 fun e W' =>
      (e = .returned (.bool true) ∧ J (pre ++ [x]) W' ∧ Kz keepB zone W1 W') ∨ (e = .returned (.bool false) ∧ Jx (pre ++ [x]) W'))
    (h0 : J [] W) :
    CallsIn Fence.wide n Try.prog 24 (#[.func (.yield l) #[] #[]] ++ #[.pointer (some ⟨b1, 0, none⟩), .pointer (some ⟨b2, 0, none⟩), .pointer (some ⟨b3, 0, none⟩)]) W fun e W' =>
      (∃ v, e = .returned v) ∧ (J (chainL xs kb s o 1099511627777) W' ∨ (∃ pre, pre <+: chainL xs kb s o 1099511627777 ∧ Jx pre W')) := by
  obtain ⟨c1, f1, s1⟩ := hLW.from_.facts
  have hlt : b1 < W.heap.size ∧ b2 < W.heap.size ∧ b3 < W.heap.size := ⟨s1, hLW.rd.lt, hLW.key.lt⟩
  generalize hL : chainL xs kb s o 1099511627777 = L at *
  have HL := hide hL
  have Hzone := hide hzone
  clear hL hzone
  refine callsIn_of_wp Try.func24 rfl trivial ?_ rfl
  simp only [Try.ntmps24, List.size_toArray, List.length_cons, List.length_nil, Nat.reduceAdd, Nat.reduceSub, Array.replicate_succ, Array.replicate_zero, List.push_toArray, List.append_toArray, List.nil_append, List.cons_append]
  gi_wp2
  gi_loopw [5, 6, 7, 8] (fun v5 v6 v7 v8 wr => ∃ (pre : List (Lk × Bool)) (s' o' below : Int) (g : Nat), v5 = .int .u64 below ∧ v6 = .pointer (some ⟨g, 0, none⟩) ∧ Hid (pre ++ chainL xs kb s' o' below = L) ∧ J pre wr ∧
      Blk wr g 27 #[.int .u32 s', .int .u32 o'] ∧ W.heap.size ≤ g ∧ Hid (zone wr ≠ some g) ∧ LinkWorld wr b1 b2 b3 B c kn kc s o A kA xs kb ∧ W.heap.size ≤ wr.heap.size) (fun v5 v6 v7 v8 wr => (intOf v5).toNat)
  case atStart =>
    have hg := World.grownBy_alloc W (.cells #[.int .u32 s, .int .u32 o] 27) none
    refine ⟨[], s, o, 1099511627777, W.heap.size, rfl, rfl, by simpa using HL, hJ _ _ _ none h0 hg (fun r e => by cases e), Blk.new _ _ _, by omega, ?_, hLW.grown hg (fun r e => by cases e) hBN (by omega) hlt, by simp⟩
    show zone _ ≠ _
    rw [(unhide Hzone) W _ (fun k hk => Below.heap_alloc _ _ _ (by omega))]
    intro e
    have := (hz _ _ h0 _ e).2
    omega
  case round =>
    obtain ⟨pre, s', o', below, g, rfl, rfl, hL', hj, hb, hNg, hzg, hlw, hNr⟩ := hrel
    clear c1 f1 s1 hLW h0
    obtain ⟨c0, f0, s0⟩ := hb.facts
    obtain ⟨c1, f1, s1⟩ := hlw.from_.facts
    obtain ⟨c2, f2, s2⟩ := hlw.rd.facts
    obtain ⟨c3, f3, s3⟩ := hlw.key.facts
    have HzJ := hide (hz _ _ hj)
    cases hNo : noneB s' o' with
    | true =>
      have HN := hide hNo
      clear hNo
      gi_wp2_with fail
      refine ⟨trivial, (callsIn_wide.2 (locNone_any s' o' wr)).mono ?_⟩
      rintro e w1 ⟨rfl, hb1⟩
      rw [unhide HN]
      gi_wp2_with fail
      go_end0
      refine ⟨⟨_, rfl⟩, .inl ?_⟩
      have e : pre = L := by have := hL'.out; rw [chainL_none (unhide HN)] at this; simpa using this
      rw [← e]
      exact hJ.none_ hj hb1
    | false =>
      have HN := hide hNo
      clear hNo
      gi_wp2_with fail
      refine ⟨trivial, (callsIn_wide.2 (locNone_any s' o' wr)).mono ?_⟩
      rintro e w1 ⟨rfl, hb1⟩
      rw [unhide HN]
      replace hb := hb.below hb1 s0
      have hj1 := hJ.none_ hj hb1
      have hz1 : zone w1 = zone wr := (unhide Hzone) _ _ (fun k hk => hb1.block k (by omega))
      have hlw1 := hlw.grown (only_of_below hb1 none) (fun r e => by cases e) hBN hNr hlt
      have hs1 := hb1.size
      clear c0 f0 c1 f1 s1 c2 f2 s2 c3 f3 s3 hlw hb1
      obtain ⟨c0, f0, s0⟩ := hb.facts
      obtain ⟨c1, f1, s1⟩ := hlw1.from_.facts
      obtain ⟨c2, f2, s2⟩ := hlw1.rd.facts
      obtain ⟨c3, f3, s3⟩ := hlw1.key.facts
      have Hz1 := hide hz1
      clear hz1
      have hL2 := hL'.out
      rw [chainL_cons (unhide HN)] at hL2
      have hseq := fun h => linkRes_seq (xs := xs) (s := s') (o := o') (kb := kb) (below := below) h
      gi_wp2_with fail
      refine ⟨trivial, (callsIn_wide.2 (link_any s' o' A kA xs B c kn kc kb below hx w1 (by omega) hlw1.row hlw1.kbs)).mono ?_⟩
      rintro e w2 ⟨rfl, hb2⟩
      generalize linkRes xs s' o' kb below = r at *
      obtain ⟨x, hold⟩ := r
      have HL2 := hide hL2
      have Hseq := hide hseq
      clear hL2 hseq hL'
      simp only [Lk.cs]
      replace hb := hb.below hb2 s0
      have hj2 := hJ.none_ hj1 hb2
      have hz2 : zone w2 = zone wr := ((unhide Hzone) _ _ (fun k hk => hb2.block k (by omega))).trans (unhide Hz1)
      have hlw2 := hlw1.grown (only_of_below hb2 none) (fun r e => by cases e) hBN (by omega) hlt
      have hs2 := hb2.size
      clear c0 f0 c1 f1 s1 c2 f2 s2 c3 f3 s3 hlw1 hb2 hj1 Hz1 hj
      obtain ⟨c0, f0, s0⟩ := hb.facts
      have Hz2 := hide hz2
      clear hz2
      -- the round
      have hj3 := hJ.none_ hj2 (bel1 w2 (.cells #[.int .u32 x.seg, .int .u32 x.off, .int .u64 x.seq, .int .i64 x.kind, .slice x.kA x.kn x.kc, .slice x.vA x.vn x.vc, .int .u32 x.ps, .int .u32 x.po] 35))
      obtain ⟨fn, tmps, assign, body, hy, hR⟩ := hY pre (x, hold) _ hj3 (by rw [← (unhide HL2)]; simp)
      simp only [encL, Lk.cs] at hy
      gi_wp2_with fail
      refine hR.mono ?_
      have hz3 := (unhide Hzone) w2 (w2.alloc (.cells #[.int .u32 x.seg, .int .u32 x.off, .int .u64 x.seq, .int .i64 x.kind, .slice x.kA x.kn x.kc, .slice x.vA x.vn x.vc, .int .u32 x.ps, .int .u32 x.po] 35)) (fun k hk => Below.heap_alloc _ _ _ (by omega))
      have B7 : Blk (w2.alloc (.cells #[.int .u32 x.seg, .int .u32 x.off, .int .u64 x.seq, .int .i64 x.kind, .slice x.kA x.kn x.kc, .slice x.vA x.vn x.vc, .int .u32 x.ps, .int .u32 x.po] 35)) w2.heap.size 35 _ := Blk.new w2 35 _
      have hb' := hb.alloc (.cells #[.int .u32 x.seg, .int .u32 x.off, .int .u64 x.seq, .int .i64 x.kind, .slice x.kA x.kn x.kc, .slice x.vA x.vn x.vc, .int .u32 x.ps, .int .u32 x.po] 35)
      have hlw3 := hlw2.grown (only_of_below (bel1 w2 (.cells #[.int .u32 x.seg, .int .u32 x.off, .int .u64 x.seq, .int .i64 x.kind, .slice x.kA x.kn x.kc, .slice x.vA x.vn x.vc, .int .u32 x.ps, .int .u32 x.po] 35)) none) (fun r e => by cases e) hBN (by omega) hlt
      have hzj3 := hz _ _ hj3
      have hs3 : (w2.alloc (.cells #[.int .u32 x.seg, .int .u32 x.off, .int .u64 x.seq, .int .i64 x.kind, .slice x.kA x.kn x.kc, .slice x.vA x.vn x.vc, .int .u32 x.ps, .int .u32 x.po] 35)).heap.size = w2.heap.size + 1 := by simp
      generalize (w2.alloc (.cells #[.int .u32 x.seg, .int .u32 x.off, .int .u64 x.seq, .int .i64 x.kind, .slice x.kA x.kn x.kc, .slice x.vA x.vn x.vc, .int .u32 x.ps, .int .u32 x.po] 35)) = w3 at *
      have hzw2 : zone w3 ≠ some w2.heap.size := by
        rw [hz3, unhide Hz2]
        intro e
        have := (unhide HzJ _ e).2
        omega
      have hzg3 : zone w3 ≠ some g := by
        rw [hz3, unhide Hz2]
        exact unhide hzg
      rintro e W3 (⟨rfl, hJ3, hk3⟩ | ⟨rfl, hx3⟩)
      · -- the round goes on
        have hlw4 := hlw3.kz hk3 hkB hk1 (fun g hg => (hzj3 g hg).1) (by omega)
        have B7' : Blk W3 w2.heap.size 35 _ := (hk3.block _ (by omega) (hkN _ (by omega)) hzw2).trans B7
        have hbg : Blk W3 g 27 _ := (hk3.block _ (by omega) (hkN _ (by omega)) hzg3).trans hb'
        have hsz3 := hk3.size
        have hzg4 : zone W3 ≠ some g := by
          rcases hk3.zon with e | ⟨g', hg', e⟩
          · rw [e]; exact hzg3
          · rw [e]; intro e2; injection e2; omega
        clear hz3 hj3 hj2 hy hR B7 hb hb' hzj3 hs3 hk3 hlw2 hlw3 c0 f0 s0 HzJ Hz2 hzg hzg3 hzw2
        obtain ⟨c0, f0, s0⟩ := hbg.facts
        obtain ⟨c7, f7, s7⟩ := B7'.facts
        have HL3 := hide hzg4
        clear hzg4
        cases hold with
        | false =>
          gi_wp2_with fail
          refine bodyPost_ret (results_none rfl _ _ _) rfl ⟨⟨_, rfl⟩, .inl ?_⟩
          have e : pre ++ [(x, false)] = L := by rw [← (unhide HL2)]; simp
          rw [← e]
          exact hJ3
        | true =>
          gi_wp2_with fail
          gi_region
          all_goals gi_wp2
          have hgW : W3.grownBy (((W3.setCell ⟨g, 0, none⟩ (.int .u32 x.ps)).setCell ⟨g, 1, none⟩ (.int .u32 x.po)).alloc (.cells #[.int .u32 x.ps, .int .u32 x.po] 27)).drew (some g) :=
            only_drew (only_alloc (only_setCell (p := ⟨g, 1, none⟩) (only_setCell (p := ⟨g, 0, none⟩) (World.grownBy.refl W3 _) (.inl rfl) _) (.inl rfl) _) _)
          have hzf : zone (((W3.setCell ⟨g, 0, none⟩ (.int .u32 x.ps)).setCell ⟨g, 1, none⟩ (.int .u32 x.po)).alloc (.cells #[.int .u32 x.ps, .int .u32 x.po] 27)).drew = zone W3 :=
            (unhide Hzone) _ _ (fun k hk => hgW.block k (by omega) (fun e => by injection e; omega))
          have hJf : J (pre ++ [(x, true)]) _ := hJ _ _ _ _ hJ3 hgW (fun r e => by cases e; exact ⟨hNg, unhide HL3⟩)
          refine ⟨⟨pre ++ [(x, true)], x.ps, x.po, x.seq, W3.heap.size, rfl, rfl, ?_, hJf, ?_, by omega, ?_, ?_, ?_⟩, ?_⟩
          · show _ = L
            rw [← (unhide HL2)]; simp
          · have := Blk.new ((W3.setCell ⟨g, 0, none⟩ (.int .u32 x.ps)).setCell ⟨g, 1, none⟩ (.int .u32 x.po)) 27 #[.int .u32 x.ps, .int .u32 x.po]
            have hs : ((W3.setCell ⟨g, 0, none⟩ (.int .u32 x.ps)).setCell ⟨g, 1, none⟩ (.int .u32 x.po)).heap.size = W3.heap.size := by simp [World.setCell]
            rw [hs] at this
            exact this
          · show zone _ ≠ _
            rw [hzf]
            intro e
            have := (hz _ _ hJ3 _ e).2
            omega
          · exact hlw4.grown hgW (fun r e => by cases e; exact hNg) hBN (by omega) hlt
          · have := hgW.size; omega
          · have hq := Hseq.out
            have := hq (by trivial)
            simp only [intOf]
            omega
      · gi_wp2_with fail
        refine bodyPost_ret (results_none rfl _ _ _) rfl ⟨⟨_, rfl⟩, .inr ⟨pre ++ [(x, hold)], ?_, hx3⟩⟩
        rw [← (unhide HL2)]
        simp
end Go.Proofs.Ytgeanonphjjgeaa
