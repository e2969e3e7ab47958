/-
  THE WALK of ChainBreaks: a chain in which one link is spoilt. Conditions: none.
-/
import Derived.Test.YtgeanonphjjgeaaBLaw
import Derived.BigQuiet
import Derived.Deep.DeepCutAuto
import Derived.Deep.CutBlock
namespace Go.Proofs.Ytgeanonphjjgeaa
open Go.RowKit Go.Shelf

theorem flat_upd {xs : List Lk} {p j : Nat} {x x' : Lk} {v : Value} (h : xs[p]? = some x) (hj : j < 8) (hv : x'.cs = x.cs.set j v) : (walkCells xs).set (p * 8 + j) v = walkCells (xs.set p x') := by
  induction xs generalizing p with
  | nil => simp at h
  | cons y xs ih =>
    have hl : y.cs.length = 8 := rfl
    cases p with
    | zero =>
      simp at h
      subst h
      simp only [walkCells, List.flatMap_cons, List.set_cons_zero, Nat.zero_mul, Nat.zero_add]
      rw [List.set_append_left _ _ (by omega), hv]
    | succ p =>
      simp at h
      have hi := ih h
      have e : (p + 1) * 8 + j = y.cs.length + (p * 8 + j) := by omega
      simp only [walkCells, List.flatMap_cons, List.set_cons_succ] at hi ⊢
      rw [e, List.set_append_right _ _ (by omega)]
      simp only [Nat.add_sub_cancel_left]
      rw [hi]

theorem spoilt_kind (k : UInt8) (x : Lk) : Spoilt k x { x with kind := 3 } := ⟨.inl ⟨rfl, rfl, fun below _ => by simp [holdsB]⟩⟩
theorem spoilt_high (k : UInt8) (x : Lk) : Spoilt k x { x with seq := 1099511627777 } := by
  refine ⟨.inl ⟨rfl, rfl, fun below hb => ?_⟩⟩
  have h : decide ((1099511627777 : Int) < below) = false := decide_eq_false (by omega)
  unfold holdsB
  simp only [h, Bool.and_false]
theorem spoilt_low (k : UInt8) (x : Lk) : Spoilt k x { x with seq := 0 } := ⟨.inl ⟨rfl, rfl, fun below _ => by simp [holdsB]⟩⟩
theorem spoilt_key (k : UInt8) (x : Lk) (hk : k ≠ 9) (a : Option Addr) (n c : Nat) : Spoilt k x { x with kA := a, kn := n, kc := c, kb := [9] } := by
  refine ⟨.inl ⟨rfl, rfl, fun below _ => ?_⟩⟩
  have h : (([9] : List UInt8) == [k]) = false := by
    simp only [beq_eq_false_iff_ne, ne_eq, List.cons.injEq, and_true]
    exact fun e => hk e.symm
  simp [holdsB, h]
theorem cs_high (x : Lk) : ({ x with seq := 1099511627777 } : Lk).cs = x.cs.set 2 (.int .u64 1099511627777) := rfl
theorem cs_low (x : Lk) : ({ x with seq := 0 } : Lk).cs = x.cs.set 2 (.int .u64 0) := rfl
theorem cs_kind (x : Lk) : ({ x with kind := 3 } : Lk).cs = x.cs.set 3 (.int .i64 3) := rfl
theorem own_upd {w2 : World} {base gb cap2 m p j : Nat} {xs : List Lk} {x x' : Lk} {v : Value} (own : w2.ownsRow base 35 8 (.slice (some ⟨gb, 0, none⟩) m cap2) m (walkCells xs)) (hx : xs[p]? = some x) (hj : j < 8) (hv : x'.cs = x.cs.set j v) :
    (w2.setCell ⟨gb, p * 8 + j, none⟩ v).ownsRow base 35 8 (.slice (some ⟨gb, 0, none⟩) m cap2) m (walkCells (xs.set p x')) := by
  rw [← flat_upd hx hj hv]
  exact (own.stored (p * 8 + j) v).1
/-- the spoilt row, in a world behind -/
structure BadW (w2 W : World) (base gb cap2 m p : Nat) (xs : List Lk) (x' : Lk) : Prop where
  own : W.ownsRow base 35 8 (.slice (some ⟨gb, 0, none⟩) m cap2) m (walkCells (xs.set p x'))
  grown : w2.grownBy W (some gb)
  key : Bs W W.heap.size x'.kA x'.kn x'.kb
  val : Bs W W.heap.size x'.vA x'.vn x'.vb

/-- what Newest says of the row, and of the spoilt one -/
theorem breaks_facts {xs : List Lk} {k : UInt8} {p : Nat} {x x' : Lk} (h : BuiltOk xs) (h60 : xs.length ≤ 60) (hp : xs[p]? = some x) (hk : x.kb = [k]) (hs : Spoilt k x x') (s : Int) :
    ∃ (y : Lk) (er : Int) (y' : Lk) (er' : Int) (ah : Bool), newestRes xs (headOf xs k).1 (headOf xs k).2 [k] s = (y, er) ∧ newestRes (xs.set p x') (headOf xs k).1 (headOf xs k).2 [k] s = (y', er') ∧
      ((er = 6 ∧ er' = 36 ∧ ah = false) ∨ (er = 0 ∧ er' = 0 ∧ y' = y ∧ y ∈ xs ∧ (p : Int) + 1 < y.seq ∧ ah = true) ∨ (er = 0 ∧ er' = 36 ∧ y.seq ≤ (p : Int) + 1 ∧ ah = false)) := by
  have h1 := view_newest h h60 k s
  have h2 := bad_newest h h60 hp hk hs s
  cases hl : lastW xs k s with
  | none =>
    rw [hl] at h1 h2
    exact ⟨_, _, _, _, _, h1, h2, .inl ⟨rfl, rfl, rfl⟩⟩
  | some y =>
    rw [hl] at h1 h2
    have hm : y ∈ xs := List.mem_reverse.1 (List.mem_of_find?_eq_some hl)
    by_cases hy : (p : Int) + 1 < y.seq
    · simp only [hy, if_true] at h2
      exact ⟨_, _, _, _, _, h1, h2, .inr (.inl ⟨rfl, rfl, rfl, hm, hy, rfl⟩)⟩
    · simp only [hy, if_false] at h2
      exact ⟨_, _, _, _, _, h1, h2, .inr (.inr ⟨rfl, rfl, by omega, rfl⟩)⟩

set_option maxRecDepth 100000 in
set_option maxHeartbeats 2000000 in
theorem breaks_any (A : Option Addr) (n c : Nat) (ws : List (Int × Bool × Int)) (hwl : n = ws.length) (a b s : Int) (ha : 0 ≤ a ∧ a ≤ 255) (hb : 0 ≤ b ∧ b ≤ 255) (hs : 0 ≤ s ∧ s ≤ 255) (w : World) (hw : WrAt w w.heap.size A ws) (hn : n ≤ 9223372036854775807) :
    Calls Try.prog 5 #[.slice A n c, .agg #[.int .u8 a, .int .u8 b], .int .u8 s] w fun e w' => e = .returned (.bool true) ∧ Below w.heap.size w w' := by
  have HWL := hide hwl
  clear hwl
  obtain ⟨i0, hi0, hz0, hz1, hz2⟩ := info_parts link_info
  go_enter Try.func5, Try.ntmps5
  go_upto_region 1 with fail
  go_quiet (fail)
  go_wp2_with fail
  obtain ⟨W0, hW0⟩ : ∃ W0, (w.alloc (.cells #[.int .u8 a, .int .u8 b] 59)).drewN nq = W0 := ⟨_, rfl⟩
  have hb0 : Below w.heap.size w W0 := by rw [← hW0]; exact (bel1 w _).trans ⟨rfl, rfl, rfl, Nat.le_refl _, fun _ _ => rfl⟩
  rw [hW0]
  clear hW0
  have hw0 : WrAt W0 W0.heap.size A ws := ⟨(hw.cells.below hb0).more hb0.size, hw.wf⟩
  refine (built_any A n c ws (unhide HWL) W0 hw0 hn).mono ?_
  rintro e w1 ⟨v, xs, hs', rfl, h60, hB⟩
  obtain rfl := hB.at_.eq
  obtain ⟨A1, cap, rfl⟩ := own_slice hB.own
  clear hw hw0
  have HB := hide hB
  clear hB
  rw [show headsArr xs = #[.int .u32 (headOf xs 0).1, .int .u32 (headOf xs 0).2, .int .u32 (headOf xs 1).1, .int .u32 (headOf xs 1).2, .int .u32 (headOf xs 2).1, .int .u32 (headOf xs 2).2, .int .u32 (headOf xs 3).1, .int .u32 (headOf xs 3).2] from rfl]
  go_upto_region 3 with fail
  have H0 : VwW W0 (w1.alloc (.cells (headsArr xs) 55)) W0.heap.size w1.heap.size A1 cap xs := ⟨HB.out.step (bel1 w1 _), Blk.new w1 55 _⟩
  rw [show headsArr xs = #[.int .u32 (headOf xs 0).1, .int .u32 (headOf xs 0).2, .int .u32 (headOf xs 1).1, .int .u32 (headOf xs 1).2, .int .u32 (headOf xs 2).1, .int .u32 (headOf xs 2).2, .int .u32 (headOf xs 3).1, .int .u32 (headOf xs 3).2] from rfl] at H0
  generalize w1.alloc (.cells #[.int .u32 (headOf xs 0).1, .int .u32 (headOf xs 0).2, .int .u32 (headOf xs 1).1, .int .u32 (headOf xs 1).2, .int .u32 (headOf xs 2).1, .int .u32 (headOf xs 2).2, .int .u32 (headOf xs 3).1, .int .u32 (headOf xs 3).2] 55) = W1 at H0 ⊢
  obtain ⟨m, hm⟩ : ∃ m, m = xs.length := ⟨_, rfl⟩
  have HM := hide hm
  rw [← hm]
  clear hm HB
  by_cases h0 : m = 0
  · subst h0
    go_wp2_with fail
    refine (wakes_any _).mono ?_
    rintro e w2 ⟨rfl, hb2⟩
    go_wp2_with fail
    go_ret
    exact ⟨rfl, belFrom (hb0.trans (H0.blt.below.mono hb0.size)) hb2⟩
  · have hm0 : ((m : Int) == 0) = false := by simp; omega
    have hsz0 := Nat.le_trans hb0.size H0.blt.below.size
    have hrd : Reads W1 W1.heap.size 8 A1 m (walkCells xs) := by rw [HM.out]; exact H0.blt.row.cells
    have h1c : ∀ u ∈ walkCells xs, u.oneCell' = true := by
      intro u hu
      obtain ⟨x, _, hx⟩ := List.mem_flatMap.1 hu
      simp [Lk.cs] at hx
      rcases hx with rfl | rfl | rfl | rfl | rfl | rfl | rfl | rfl <;> rfl
    have hm60 : m ≤ 60 := by rw [HM.out]; exact h60
    have H1C := hide h1c
    have HRD := hide hrd
    have HH0 := hide H0
    clear h1c hrd H0
    go_upto_region 6 with (at_builtin; refine wpList_append_any _ rfl (.const (.slice none 0 0)) (.tmp 37) 23 rfl W1.heap.size 35 i0 _ 8 80 Try.underlying23 hi0 hz0 hz1 hz2 rfl (by omega) (.slice none 0 0) 0 [] rfl ⟨rfl, .inl ⟨rfl, rfl⟩⟩ W1.heap.size A1 m cap (walkCells xs) rfl HRD.out H1C.out (by unfold maxLen; omega) (by omega) (Nat.le_refl _) ?_; intro v' w2 hown' hg' hat')
    rw [Nat.zero_add, List.nil_append] at hown'
    obtain ⟨gb, cap2, rfl, hgb1, hgb2⟩ := own_form hown' (by omega)
    have hbw2 : Below W1.heap.size W1 w2 := ⟨hg'.os, hg'.tape, hg'.output, hg'.size, fun k hk => hg'.block k hk (by simp [Value.ownBlock])⟩
    have H2 := HH0.out.step hbw2
    obtain ⟨p, hp⟩ : ∃ p : Nat, a % (m : Int) = p := ⟨(a % (m : Int)).toNat, by have := Int.emod_nonneg a (show (m : Int) ≠ 0 by omega); omega⟩
    have hpm : p < m := by have := Int.emod_lt_of_pos a (show (0 : Int) < m by omega); omega
    obtain ⟨ad, x, rfl, hab, hx, hmem, c0, c1, c2, c3, c4, c5, c6, c7⟩ := H2.blt.row.at_ (by rw [← HM.out]; exact hpm)
    obtain ⟨gx, kx, k1, k2, k3⟩ := H2.blt.keys x hmem
    have hX := H2.blt.ok p x hx
    rw [k1, hX.kn] at c4
    obtain ⟨q, hq⟩ : ∃ q : Nat, b % 5 = q := ⟨(b % 5).toNat, by omega⟩
    have hq5 : q < 5 := by omega
    have HX := hide hX
    have HXX := hide hx
    have HK1 := hide k1
    have HK2 := hide k2
    have HK3 := hide k3
    have HH2 := hide H2
    have HOWN := hide hown'
    clear c0 c1 c2 c3 c5 c6 c7 hX hx k1 k2 k3 H2 hown' hg' hat' hmem
    have hmem2 : x ∈ xs := List.mem_of_getElem? HXX.out
    have kb1 : Bs w2 W1.heap.size x.kA x.kn x.kb := (HH0.out.blt.row.keys x hmem2).below hbw2
    have vb1 : Bs w2 W1.heap.size x.vA x.vn x.vb := (HH0.out.blt.row.vals x hmem2).below hbw2
    have hkx4 : kx.toNat < 4 := by
      obtain ⟨k', e1, e2, _⟩ := HX.out.kb
      rw [HK2.out] at e1
      injection e1 with e1
      rw [e1]
      exact e2
    have hne9 : kx ≠ 9 := by
      rintro rfl
      exact absurd hkx4 (by decide)
    have HNE := hide hne9
    clear hne9
    have HKB := hide kb1
    have HVB := hide vb1
    clear kb1 vb1 hmem2
    go_upto_block 0 with fail
    go_cut [] (fun W => ∃ x', Spoilt kx x x' ∧ BadW w2 W W1.heap.size gb cap2 m p xs x')
    case first =>
      have own := HOWN.out
      have ff := own.frozenAt
      have cell : ∀ j, j < 8 → ∃ u, w2.cell? ⟨gb, p * 8 + j, none⟩ = some u := fun j hj => by
        obtain ⟨u, hu⟩ : ∃ u, (walkCells xs)[p * 8 + j]? = some u := ⟨_, List.getElem?_eq_getElem (by have := own.1; omega)⟩
        exact ⟨u, by rw [own.cellAt (p * 8 + j) (by have := own.1; omega)]; exact hu⟩
      have HC := hide cell
      have hsz3 := hbw2.size
      clear own cell
      obtain rfl | rfl | rfl | rfl | rfl : q = 0 ∨ q = 1 ∨ q = 2 ∨ q = 3 ∨ q = 4 := by omega
      · obtain ⟨u, hu⟩ := HC.out 0 (by omega)
        obtain ⟨u1, hu1⟩ := HC.out 1 (by omega)
        simp only [Nat.add_zero] at hu
        go_wp2_with fail
        go_meet
        case rel =>
          have h1 := own_upd (j := 0) (x' := { x with seg := 0 }) (v := .int .u32 0) HOWN.out HXX.out (by omega) rfl
          have hx1 : (xs.set p { x with seg := 0 })[p]? = some { x with seg := 0 } := by rw [List.getElem?_set_self (by rw [← HM.out]; exact hpm)]
          have h2 := own_upd (j := 1) (x' := { x with seg := 0, off := 0 }) (v := .int .u32 0) h1 hx1 (by omega) rfl
          rw [List.set_set] at h2
          have h3 : w2.grownBy ((w2.setCell ⟨gb, p * 8 + 0, none⟩ (.int .u32 0)).setCell ⟨gb, p * 8 + 1, none⟩ (.int .u32 0)) (some gb) := gset (gset (World.grownBy.refl w2 _) _ _) _ _
          exact ⟨_, ⟨.inr ⟨rfl, rfl⟩⟩, h2, h3, (HKB.out.grown h3 hbw2.size (fun g e => by cases e; exact hgb1)).more (by simpa using hsz3), (HVB.out.grown h3 hbw2.size (fun g e => by cases e; exact hgb1)).more (by simpa using hsz3)⟩
      · obtain ⟨u, hu⟩ := HC.out 4 (by omega)
        go_wp2_with fail
        go_meet
        case rel =>
          have h1 := (own_upd (j := 4) (x' := { x with kA := some ⟨w2.heap.size, 0, none⟩, kn := 1, kc := 1, kb := [9] }) (v := .slice (some ⟨w2.heap.size, 0, none⟩) 1 1) HOWN.out HXX.out (by omega) rfl).alloc (.cells #[.int .u8 9] 5)
          have h2 : w2.grownBy ((w2.setCell ⟨gb, p * 8 + 4, none⟩ (.slice (some ⟨w2.heap.size, 0, none⟩) 1 1)).alloc (.cells #[.int .u8 9] 5)) (some gb) := only_alloc (gset (World.grownBy.refl w2 _) _ _) _
          have hz : (w2.setCell ⟨gb, p * 8 + 4, none⟩ (.slice (some ⟨w2.heap.size, 0, none⟩) 1 1)).heap.size = w2.heap.size := by simp [World.setCell]
          have h3 : Mk ((w2.setCell ⟨gb, p * 8 + 4, none⟩ (.slice (some ⟨w2.heap.size, 0, none⟩) 1 1)).alloc (.cells #[.int .u8 9] 5)) w2.heap.size 5 #[.int .u8 ((9 : UInt8).toNat : Int)] := Mk.newAt hz
          exact ⟨_, spoilt_key kx x HNE.out _ _ _, h1, h2, (bs_one h3).more (by simp [World.setCell]), (HVB.out.grown h2 hbw2.size (fun g e => by cases e; exact hgb1)).more (by simp [World.setCell]; omega)⟩
      · obtain ⟨u, hu⟩ := HC.out 3 (by omega)
        go_wp2_with fail
        go_meet
        case rel =>
          have h1 := own_upd (j := 3) (x' := { x with kind := 3 }) (v := .int .i64 3) HOWN.out HXX.out (by omega) (cs_kind x)
          have h2 : w2.grownBy (w2.setCell ⟨gb, p * 8 + 3, none⟩ (.int .i64 3)) (some gb) := gset (World.grownBy.refl w2 _) _ _
          exact ⟨_, spoilt_kind kx x, h1, h2, (HKB.out.grown h2 hbw2.size (fun g e => by cases e; exact hgb1)).more (by simpa using hsz3), (HVB.out.grown h2 hbw2.size (fun g e => by cases e; exact hgb1)).more (by simpa using hsz3)⟩
      · obtain ⟨u, hu⟩ := HC.out 2 (by omega)
        go_wp2_with fail
        go_meet
        case rel =>
          have h1 := own_upd (j := 2) (x' := { x with seq := 1099511627777 }) (v := .int .u64 1099511627777) HOWN.out HXX.out (by omega) (cs_high x)
          have h2 : w2.grownBy (w2.setCell ⟨gb, p * 8 + 2, none⟩ (.int .u64 1099511627777)) (some gb) := gset (World.grownBy.refl w2 _) _ _
          exact ⟨_, spoilt_high kx x, h1, h2, (HKB.out.grown h2 hbw2.size (fun g e => by cases e; exact hgb1)).more (by simpa using hsz3), (HVB.out.grown h2 hbw2.size (fun g e => by cases e; exact hgb1)).more (by simpa using hsz3)⟩
      · obtain ⟨u, hu⟩ := HC.out 2 (by omega)
        go_wp2_with fail
        go_meet
        case rel =>
          have h1 := own_upd (j := 2) (x' := { x with seq := 0 }) (v := .int .u64 0) HOWN.out HXX.out (by omega) (cs_low x)
          have h2 : w2.grownBy (w2.setCell ⟨gb, p * 8 + 2, none⟩ (.int .u64 0)) (some gb) := gset (World.grownBy.refl w2 _) _ _
          exact ⟨_, spoilt_low kx x, h1, h2, (HKB.out.grown h2 hbw2.size (fun g e => by cases e; exact hgb1)).more (by simpa using hsz3), (HVB.out.grown h2 hbw2.size (fun g e => by cases e; exact hgb1)).more (by simpa using hsz3)⟩
    case rest =>
      obtain ⟨x', hsp, hbad⟩ := hcut
      obtain ⟨wv, rfl⟩ : ∃ wv : World, wv = wc := ⟨_, rfl⟩
      have hbw : Below W1.heap.size W1 wv := hbw2.grown hbad.grown hbw2.size (fun r e => by cases e; exact hgb1)
      have HW := HH0.out.step hbw
      have R : RowAt wv wv.heap.size (some ad) xs := HW.blt.row
      have R' : RowAt wv wv.heap.size (some ⟨gb, 0, none⟩) (xs.set p x') := by
        refine ⟨?_, fun y hy => ?_, fun y hy => ?_⟩
        · have := Reads.of_own hbad.own
          rw [List.length_set, ← HM.out]
          exact this
        · rcases List.mem_or_eq_of_mem_set hy with h | rfl
          · exact R.keys y h
          · exact hbad.key
        · rcases List.mem_or_eq_of_mem_set hy with h | rfl
          · exact R.vals y h
          · exact hbad.val
      have hmem2 : x ∈ xs := List.mem_of_getElem? HXX.out
      obtain ⟨gx2, kx2, e1, e2, e3⟩ := HW.blt.keys x hmem2
      rw [HK1.out] at e1
      rw [HK2.out] at e2
      injection e1 with e1
      injection e1 with e1
      injection e2 with e2
      subst e1 e2
      have K : Bs wv wv.heap.size (some ⟨gx, 0, none⟩) 1 [kx] := (bs_one (b := kx) e3).more e3.lt
      have ck : wv.cell? ⟨gx, 0, none⟩ = some (.int .u8 (kx.toNat : Int)) := e3.cell 0
      have lk := e3.lt
      obtain ⟨b1, b2⟩ := heads_cell HW.hd hkx4
      rw [UInt8.ofNat_toNat] at b1 b2
      have hk4' : (kx.toNat : Int) < 4 := by omega
      have hlth : w1.heap.size < wv.heap.size := HW.hd.lt
      have F := breaks_facts HW.blt.ok h60 HXX.out HK2.out hsp s
      have cw1 := bad_walk HW.blt.ok h60 HXX.out HK2.out hsp
      have RX := hide R
      have RX' := hide R'
      have KX := hide K
      have FX := hide F
      have HHW := hide HW
      have CW1 := hide cw1
      clear R R' K F HW cw1 e3 hmem2 hsp hbad HH2 HOWN HKB HVB HH0 HRD H1C
      go_wp2_with fail
      have bA : Below wv.heap.size wv (wv.alloc (.cells #[.int .u32 (headOf xs kx).1, .int .u32 (headOf xs kx).2] 27)) := bel1 wv _
      have cN := newest_row (headOf xs kx).1 (headOf xs kx).2 s (some ad) (some ⟨gx, 0, none⟩) xs wv.heap.size cap 1 x.kc [kx] (by omega) (wv.alloc (.cells #[.int .u32 (headOf xs kx).1, .int .u32 (headOf xs kx).2] 27)) (by simp) (RX.out.below bA) (KX.out.below bA) (by omega)
      rw [← HM.out] at cN
      obtain ⟨y, er, y', er', ah, n1, n2, hcase⟩ := FX.out
      rw [n1] at cN
      refine cN.mono ?_
      rintro e w3 ⟨rfl, hb3⟩
      have B14 : Blk w3 wv.heap.size 27 #[.int .u32 (headOf xs kx).1, .int .u32 (headOf xs kx).2] := (Blk.new wv 27 _).below hb3 (by simp)
      have bB := belFrom bA hb3
      obtain ⟨f1, f2, f3⟩ := B14.facts
      have HN2 := hide n2
      have HCS := hide hcase
      clear cN n1 n2 hcase b1 b2 ck hb3
      simp only [linkV, Lk.cs]
      go_wp2_with fail
      have B15 : Blk (w3.alloc (.cells #[.int .u32 y.seg, .int .u32 y.off, .int .u64 y.seq, .int .i64 y.kind, .slice y.kA y.kn y.kc, .slice y.vA y.vn y.vc, .int .u32 y.ps, .int .u32 y.po] 35)) w3.heap.size 35 #[.int .u32 y.seg, .int .u32 y.off, .int .u64 y.seq, .int .i64 y.kind, .slice y.kA y.kn y.kc, .slice y.vA y.vn y.vc, .int .u32 y.ps, .int .u32 y.po] := Blk.new w3 35 _
      have bC := balloc bB (.cells #[.int .u32 y.seg, .int .u32 y.off, .int .u64 y.seq, .int .i64 y.kind, .slice y.kA y.kn y.kc, .slice y.vA y.vn y.vc, .int .u32 y.ps, .int .u32 y.po] 35)
      have B14' := B14.alloc (.cells #[.int .u32 y.seg, .int .u32 y.off, .int .u64 y.seq, .int .i64 y.kind, .slice y.kA y.kn y.kc, .slice y.vA y.vn y.vc, .int .u32 y.ps, .int .u32 y.po] 35)
      have cM := newest_row (headOf xs kx).1 (headOf xs kx).2 s (some ⟨gb, 0, none⟩) (some ⟨gx, 0, none⟩) (xs.set p x') wv.heap.size cap2 1 x.kc [kx] (by simp; omega) _ bC.size (RX'.out.below bC) (KX.out.below bC) (by omega)
      rw [List.length_set, ← HM.out, HN2.out] at cM
      refine cM.mono ?_
      rintro e w5 ⟨rfl, hb5⟩
      replace B15 := B15.below hb5 (by simp)
      replace B14' := B14'.below hb5 (by simp; omega)
      have bD := belFrom bC hb5
      clear cM f1 f2 f3 bA bB bC B14 hb5
      obtain ⟨f1, f2, f3⟩ := B14'.facts
      obtain ⟨f4, f5, f6⟩ := B15.facts
      simp only [linkV, Lk.cs]
      go_upto_region 22 with fail
      have B17 : Blk (w5.alloc (.cells #[.int .u32 y'.seg, .int .u32 y'.off, .int .u64 y'.seq, .int .i64 y'.kind, .slice y'.kA y'.kn y'.kc, .slice y'.vA y'.vn y'.vc, .int .u32 y'.ps, .int .u32 y'.po] 35)) w5.heap.size 35 #[.int .u32 y'.seg, .int .u32 y'.off, .int .u64 y'.seq, .int .i64 y'.kind, .slice y'.kA y'.kn y'.kc, .slice y'.vA y'.vn y'.vc, .int .u32 y'.ps, .int .u32 y'.po] := Blk.new w5 35 _
      have bE := balloc bD (.cells #[.int .u32 y'.seg, .int .u32 y'.off, .int .u64 y'.seq, .int .i64 y'.kind, .slice y'.kA y'.kn y'.kc, .slice y'.vA y'.vn y'.vc, .int .u32 y'.ps, .int .u32 y'.po] 35)
      have C15 := B15.alloc (.cells #[.int .u32 y'.seg, .int .u32 y'.off, .int .u64 y'.seq, .int .i64 y'.kind, .slice y'.kA y'.kn y'.kc, .slice y'.vA y'.vn y'.vc, .int .u32 y'.ps, .int .u32 y'.po] 35)
      have C14 := B14'.alloc (.cells #[.int .u32 y'.seg, .int .u32 y'.off, .int .u64 y'.seq, .int .i64 y'.kind, .slice y'.kA y'.kn y'.kc, .slice y'.vA y'.vn y'.vc, .int .u32 y'.ps, .int .u32 y'.po] 35)
      obtain ⟨g17, hg17⟩ : ∃ g, w5.heap.size = g := ⟨_, rfl⟩
      obtain ⟨g15, hg15⟩ : ∃ g, w3.heap.size = g := ⟨_, rfl⟩
      obtain ⟨g14, hg14⟩ : ∃ g, wv.heap.size = g := ⟨_, rfl⟩
      rw [hg17] at B17 ⊢
      rw [hg15] at C15 ⊢
      rw [hg14] at C14 ⊢
      generalize w5.alloc (.cells #[.int .u32 y'.seg, .int .u32 y'.off, .int .u64 y'.seq, .int .i64 y'.kind, .slice y'.kA y'.kn y'.kc, .slice y'.vA y'.vn y'.vc, .int .u32 y'.ps, .int .u32 y'.po] 35) = w6 at B17 bE C15 C14 ⊢
      obtain ⟨ad', x2, had, hab2, hx2, hmem3, d0, d1, d2, d3, d4, d5, d6, d7⟩ := (RX.out.below bE).at_ (by rw [← HM.out]; exact hpm)
      injection had with had
      subst had
      rw [HXX.out] at hx2
      injection hx2 with hx2
      subst hx2
      have hseq := HX.out.seq
      have HSQ := hide hseq
      clear f1 f2 f3 f4 f5 f6 bD B15 B14' hg17 hg15 hg14
      clear hseq d0 d1 d3 d4 d5 d6 d7
      obtain ⟨f1, f2, f3⟩ := C14.facts
      obtain ⟨f4, f5, f6⟩ := C15.facts
      obtain ⟨f7, f8, f9⟩ := B17.facts
      have HC14 := hide C14
      have HB0 := hide bE
      clear C14 C15 B17 bE
      go_cut [19] (fun v19 W => v19 = .bool ah ∧ ∃ q, W = w6.drewN q)
      case first =>
        as_aux_lemma =>
          rcases HCS.out with ⟨rfl, rfl, rfl⟩ | ⟨rfl, rfl, rfl, hym, hlt, rfl⟩ | ⟨rfl, rfl, hle, rfl⟩
          · clear HCS
            go_quiet (fail)
            go_wp2_with fail
            go_meet
            case rel => exact ⟨rfl, nq, rfl⟩
          · clear HCS
            have hgt : decide (x.seq < y'.seq) = true := by simp only [decide_eq_true_eq]; have := HSQ.out; omega
            clear hlt
            go_quiet (fail)
            go_wp2_with fail
            go_meet
            case rel => exact ⟨rfl, nq, rfl⟩
          · clear HCS
            have hgt : decide (x.seq < y.seq) = false := by simp only [decide_eq_false_iff_not]; have := HSQ.out; omega
            clear hle
            go_quiet (fail)
            go_wp2_with fail
            go_meet
            case rel => exact ⟨rfl, nq, rfl⟩
      case rest =>
        obtain ⟨rfl, nq, hwc⟩ := hcut
        rw [hwc]
        clear hwc wc
        have hb7 : Below w6.heap.size w6 (w6.drewN nq) := ⟨rfl, rfl, rfl, Nat.le_refl _, fun _ _ => rfl⟩
        replace HB0 := hide (belFrom HB0.out hb7)
        replace HC14 := hide (HC14.out.below hb7 HC14.out.lt)
        have F5 : ∀ i, (w6.drewN nq).cell? ⟨g15, i, none⟩ = w6.cell? ⟨g15, i, none⟩ := fun _ => rfl
        have F7 : ∀ i, (w6.drewN nq).cell? ⟨g17, i, none⟩ = w6.cell? ⟨g17, i, none⟩ := fun _ => rfl
        simp only [f4, f7] at F5 F7
        have F8 : g15 < (w6.drewN nq).heap.size := f6
        have F9 : g17 < (w6.drewN nq).heap.size := f9
        clear f1 f2 f3 f4 f5 f6 f7 f8 f9 d2 hb7
        generalize w6.drewN nq = w7 at HB0 HC14 F5 F7 F8 F9 ⊢
        go_upto_region 23 with fail
        go_cut [154] (fun v154 W => v154 = .bool false ∧ Below w7.heap.size w7 W)
        case first =>
          as_aux_lemma =>
            rcases HCS.out with ⟨rfl, rfl, rfl⟩ | ⟨rfl, rfl, rfl, hym, hlt, rfl⟩ | ⟨rfl, rfl, hle, rfl⟩
            · clear HCS
              go_wp2_with fail
              go_meet
              case rel => exact ⟨rfl, Below.refl _ _⟩
            · clear HCS
              have ky := ((RX.out.below HB0.out).keys y' hym)
              have vy := ((RX.out.below HB0.out).vals y' hym)
              have HKY := hide ky
              have HVY := hide vy
              clear hlt ky vy
              go_wp2_with fail
              refine (same_any y' y' wv.heap.size _ HB0.out.size HKY.out HVY.out HKY.out HVY.out).mono ?_
              rintro e w8 ⟨rfl, hb8⟩
              rw [sameB_refl]
              go_wp2_with fail
              go_meet
              case rel => exact ⟨rfl, hb8⟩
            · clear HCS
              go_wp2_with fail
              go_meet
              case rel => exact ⟨rfl, Below.refl _ _⟩
        case rest =>
          obtain ⟨rfl, hcut⟩ := hcut
          have bF := belFrom HB0.out hcut
          have C14 := HC14.out.below hcut HC14.out.lt
          obtain ⟨q1, q2, q3⟩ := C14.facts
          have cW := walk_row (headOf xs kx).1 (headOf xs kx).2 (-1) (some ⟨gb, 0, none⟩) (some ⟨gx, 0, none⟩) (xs.set p x') wv.heap.size cap2 1 x.kc [kx] (by simp; omega) _ bF.size (RX'.out.below bF) (KX.out.below bF) (by omega)
          rw [List.length_set, ← HM.out, CW1.out] at cW
          clear HCS HB0 hcut F5 F7 F8 F9
          go_wp2_with fail
          refine cW.mono ?_
          rintro e w7 ⟨v7, rfl, _, hb7⟩
          have bG := belFrom bF hb7
          have C14' := C14.below hb7 C14.lt
          clear cW q1 q2 q3 C14 bF hb7
          obtain ⟨q1, q2, q3⟩ := C14'.facts
          have cW := walk_row (headOf xs kx).1 (headOf xs kx).2 0 (some ⟨gb, 0, none⟩) (some ⟨gx, 0, none⟩) (xs.set p x') wv.heap.size cap2 1 x.kc [kx] (by simp; omega) _ bG.size (RX'.out.below bG) (KX.out.below bG) (by omega)
          rw [List.length_set, ← HM.out, bad_walk0] at cW
          go_wp2_with fail
          refine cW.mono ?_
          rintro e w8 ⟨v8, rfl, _, hb8⟩
          have bH := belFrom bG hb8
          clear cW q1 q2 q3 C14' bG hb8
          go_wp2_with fail
          refine (wakes_any _).mono ?_
          rintro e w9 ⟨rfl, hb9⟩
          go_wp2_with fail
          go_ret
          exact ⟨rfl, belFrom (hb0.trans (HHW.out.blt.below.mono hb0.size)) (belFrom bH hb9)⟩
end Go.Proofs.Ytgeanonphjjgeaa
