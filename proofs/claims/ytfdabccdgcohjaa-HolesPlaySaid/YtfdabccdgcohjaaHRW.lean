/-
  THE DOCUMENT'S HOLES IN MEMORY; the walks of its Add, Found, Has. Conditions: as the theorems' premises say.
-/
import Derived.Test.YtfdabccdgcohjaaHRDef
import Derived.Test.YtfdabccdgcohjaaHAdd
import Derived.BigQuiet
namespace Go.Proofs.Ytfdabccdgcohjaa
open Go.RowKit Go.Shelf

def Sd.cs (x : Sd) : List Value := [.int .u64 (x.lo : Int), .int .u64 (x.hi : Int), .bool x.hole]
abbrev sdc (S : List Sd) : List Value := S.flatMap Sd.cs
theorem sdc_cons (x : Sd) (r : List Sd) : sdc (x :: r) = .int .u64 (x.lo : Int) :: .int .u64 (x.hi : Int) :: .bool x.hole :: sdc r := rfl
theorem sdc_app (X Y : List Sd) : sdc (X ++ Y) = sdc X ++ sdc Y := List.flatMap_append
theorem sdc_at {L : List Sd} {k : Nat} {x : Sd} (h : L[k]? = some x) : (sdc L)[k * 3]? = some (.int .u64 (x.lo : Int)) ∧ (sdc L)[k * 3 + 1]? = some (.int .u64 (x.hi : Int)) ∧ (sdc L)[k * 3 + 2]? = some (.bool x.hole) := by
  induction L generalizing k with
  | nil => simp at h
  | cons y r ih =>
    cases k with
    | zero =>
      simp at h
      subst h
      exact ⟨rfl, rfl, rfl⟩
    | succ k =>
      simp at h
      obtain ⟨h1, h2, h3⟩ := ih h
      rw [show (k + 1) * 3 = k * 3 + 3 by omega, show k * 3 + 3 + 1 = k * 3 + 1 + 3 by omega, show k * 3 + 3 + 2 = k * 3 + 2 + 3 by omega]
      exact ⟨h1, h2, h3⟩
abbrev RdD (w : World) (B : Nat) (A : Option Addr) (S : List Sd) : Prop := Reads w B 3 A S.length (sdc S)
abbrev OwnD (w : World) (base : Nat) (v : Value) (S : List Sd) : Prop := w.ownsRow base 69 3 v S.length (sdc S)
theorem RdD.at_ {w : World} {B : Nat} {A : Option Addr} {S : List Sd} (h : RdD w B A S) {k : Nat} {x : Sd} (hk : S[k]? = some x) :
    ∃ ad, A = some ad ∧ ad.block < B ∧ w.cell? (ad.add (k * 3)) = some (.int .u64 (x.lo : Int)) ∧ w.cell? ⟨(ad.add (k * 3)).block, (ad.add (k * 3)).off + 1, none⟩ = some (.int .u64 (x.hi : Int)) ∧ w.cell? ⟨(ad.add (k * 3)).block, (ad.add (k * 3)).off + 2, none⟩ = some (.bool x.hole) := by
  obtain ⟨h1, h2, h3⟩ := sdc_at hk
  obtain ⟨ad, rfl, hb, hc⟩ := h.2 _ _ h1
  obtain ⟨ad', e, _, hc2⟩ := h.2 _ _ h2
  cases e
  obtain ⟨ad', e, _, hc3⟩ := h.2 _ _ h3
  cases e
  refine ⟨ad, rfl, hb, hc, ?_, ?_⟩
  · rw [← add_add_] at hc2
    rw [← hc2]
    generalize ad.add (k * 3) = a
    unfold Addr.add
    rw [if_neg (by omega)]
  · rw [← add_add_] at hc3
    rw [← hc3]
    generalize ad.add (k * 3) = a
    unfold Addr.add
    rw [if_neg (by omega)]
theorem own_sliceD {w : World} {base : Nat} {v : Value} {S : List Sd} (h : OwnD w base v S) : ∃ A c, v = .slice A S.length c ∧ RdD w w.heap.size A S := by
  rcases h.2 with ⟨rfl, h0⟩ | ⟨g, cap, cur, rfl, _⟩
  · refine ⟨none, 0, by rw [h0], ?_⟩
    have : S = [] := List.eq_nil_of_length_eq_zero h0
    subst this
    exact Reads.none_
  · exact ⟨_, _, rfl, Reads.of_own h⟩
/-- the document's holes at q -/
structure RefAt (w : World) (base q : Nat) (S : List Sd) : Prop where
  ex : ∃ v, Blk w q 50 #[v] ∧ OwnD w base v S
  hq : base ≤ q
  ok : ∀ x ∈ S, 1 ≤ x.lo ∧ x.lo ≤ 18446744073709551615 ∧ x.hi ≤ 1099511627776
theorem RefAt.lt {w : World} {base q : Nat} {S : List Sd} (h : RefAt w base q S) : q < w.heap.size := by
  obtain ⟨v, hb, _⟩ := h.ex
  exact hb.lt
theorem RefAt.below {w w' : World} {base q : Nat} {S : List Sd} (h : RefAt w base q S) (hb : Below w.heap.size w w') : RefAt w' base q S := by
  obtain ⟨v, h1, h2⟩ := h.ex
  exact ⟨⟨v, h1.below hb h1.lt, own_bel h2 hb⟩, h.hq, h.ok⟩
/-- holes of another kind have turned -/
theorem RefAt.other {w w' : World} {base q p : Nat} {S : List Sd} {L : List St} (h : RefAt w base q S) (hp : HoAt w base p L) (hg : w.grownBy w' (some p)) : RefAt w' base q S := by
  obtain ⟨v, h1, h2⟩ := h.ex
  obtain ⟨u, h3, _⟩ := hp.ex
  have hne : q ≠ p := by
    rintro rfl
    have := h1.symm.trans h3
    simp at this
  refine ⟨⟨v, h1.grown hg (by simp [hne]), h2.kept hg (.inr ?_)⟩, h.hq, h.ok⟩
  have := h3.mk_.ne_own h2 (by decide)
  exact fun e => this e.symm
theorem sd_info : (Try.prog.info? 69).map (fun i => (i.zero, i.size, i.bytes)) = some (some (.agg #[.int .u64 0, .int .u64 0, .bool false]), 3, 24) := by kernel_rfl
theorem el48 : Try.prog.underlying 48 = some (.slice 69) := by kernel_rfl
theorem sd_one (x : Sd) : ∀ u ∈ x.cs, u.oneCell' = true := by
  intro u hu
  simp only [Sd.cs, List.mem_cons, List.not_mem_nil, or_false] at hu
  rcases hu with rfl | rfl | rfl <;> rfl
theorem slice_ofD {w : World} {base n : Nat} {v : Value} {xs : List Value} (h : w.ownsRow base 69 3 v n xs) : ∃ A c, v = .slice A n c := by
  rcases h.2 with ⟨rfl, h0⟩ | ⟨g, cap, cur, rfl, _⟩
  · exact ⟨none, 0, by rw [h0]⟩
  · exact ⟨_, _, rfl⟩
/-- what a call of the document's holes turns: blocks of its own, of two types -/
structure Chg (w w' : World) (base : Nat) : Prop where
  os : w'.os = w.os
  tape : w'.tape = w.tape
  output : w'.output = w.output
  size : w.heap.size ≤ w'.heap.size
  block : ∀ k, k < w.heap.size → (k < base ∨ ∃ t cs, Mk w k t cs ∧ t ≠ 50 ∧ t ≠ 69) → w'.heap[k]? = w.heap[k]?
theorem Chg.refl (w : World) (base : Nat) : Chg w w base := ⟨rfl, rfl, rfl, Nat.le_refl _, fun _ _ _ => rfl⟩
theorem mk_type {w : World} {g : Nat} {t t' : TypeId} {cs cs' : Array Value} (h : Mk w g t cs) (h' : Mk w g t' cs') : t = t' := by
  obtain ⟨f, h⟩ := h
  obtain ⟨f', h'⟩ := h'
  have := h.symm.trans h'
  simp at this
  exact this.2.1
theorem chg_push {w W w' : World} {base q : Nat} {v : Value} {S : List Sd} (ho : OwnD w base v S) (hb : Blk w q 50 #[v]) (hq : base ≤ q) (hg : W.grownBy w' v.ownBlock) (hbW : Below w.heap.size w W) (u : Value) : Chg w (w'.setCell ⟨q, 0, none⟩ u) base := by
  refine ⟨?_, ?_, ?_, ?_, fun k hk hor => ?_⟩
  · show w'.os = _; exact hg.os.trans hbW.os
  · show w'.tape = _; exact hg.tape.trans hbW.tape
  · show w'.output = _; exact hg.output.trans hbW.output
  · have := hg.size; have := hbW.size; simp; omega
  · have h1 : k ≠ q := by
      rintro rfl
      rcases hor with h | ⟨t, cs, hm, h50, _⟩
      · omega
      · exact h50 (mk_type hm hb.mk_)
    have h2 : some k ≠ v.ownBlock := by
      intro e
      rcases hor with h | ⟨t, cs, hm, _, h69⟩
      · have := (ho.lt k e.symm).1; omega
      · rcases ho.2 with ⟨rfl, _⟩ | ⟨g, cap, cur, rfl, _, hgc, _⟩
        · simp [Value.ownBlock] at e
        · simp [Value.ownBlock] at e
          subst e
          exact h69 (mk_type hm ⟨_, hgc⟩)
    rw [Below.heap_setCell w' ⟨q, 0, none⟩ u k (by simpa using h1), hg.block k (by have := hbW.size; omega) h2, hbW.block k hk]
theorem Chg.below {w w' w0 : World} (h : Chg w w' w0.heap.size) (hb : Below w0.heap.size w0 w) : Below w0.heap.size w0 w' :=
  ⟨h.os.trans hb.os, h.tape.trans hb.tape, h.output.trans hb.output, Nat.le_trans hb.size h.size, fun k hk => (h.block k (by have := hb.size; omega) (.inl hk)).trans (hb.block k hk)⟩
theorem Chg.blk {w w' : World} {base g : Nat} {t : TypeId} {cs : Array Value} (h : Chg w w' base) (hb : Blk w g t cs) (h1 : t ≠ 50) (h2 : t ≠ 69) : Blk w' g t cs :=
  (h.block g hb.lt (.inr ⟨t, cs, hb.mk_, h1, h2⟩)).trans hb
theorem HoAt.chg {w w' : World} {base base' p : Nat} {L : List St} (h : HoAt w base' p L) (hc : Chg w w' base) : HoAt w' base' p L := by
  obtain ⟨v, h1, h2⟩ := h.ex
  refine ⟨⟨v, hc.blk h1 (by decide) (by decide), ⟨h2.1, ?_⟩⟩, h.hp, h.ok⟩
  rcases h2.2 with hn | ⟨g, cap, cur, rfl, hgb, hgc, rest⟩
  · exact .inl hn
  · exact .inr ⟨g, cap, cur, rfl, hgb, hc.blk hgc (by decide) (by decide), rest⟩
theorem own_setD {w : World} {base p : Nat} {v : Value} {S : List Sd} {cs : Array Value} (h : OwnD w base v S) (hp : Blk w p 50 cs) (j : Nat) (u : Value) : OwnD (w.setCell ⟨p, j, none⟩ u) base v S := by
  have hg : w.grownBy (w.setCell ⟨p, j, none⟩ u) (some p) := only_setCell (p := ⟨p, j, none⟩) (World.grownBy.refl w _) (.inl rfl) u
  have := hp.mk_.ne_own h (by decide)
  exact h.kept hg (.inr (fun e => this e.symm))
/-- a call behind the others -/
theorem RefAt.push {w W w' : World} {base q : Nat} {S : List Sd} {v v' : Value} {x : Sd} (h : RefAt w base q S) (hb : Blk w q 50 #[v]) (ho : OwnD w base v S) (hbW : Below w.heap.size w W) (hown : w'.ownsRow base 69 3 v' (S.length + 1) (sdc S ++ x.cs)) (hg : W.grownBy w' v.ownBlock) (hx : 1 ≤ x.lo ∧ x.lo ≤ 18446744073709551615 ∧ x.hi ≤ 1099511627776) :
    RefAt (w'.setCell ⟨q, 0, none⟩ v') base q (S ++ [x]) := by
  have hbW' : Blk W q 50 #[v] := hb.below hbW hb.lt
  have hne : some q ≠ v.ownBlock := (hb.mk_.ne_own ho (by decide))
  have hb' : Blk w' q 50 #[v] := hbW'.grown hg hne
  have ho' : OwnD w' base v' (S ++ [x]) := by
    show w'.ownsRow base 69 3 v' (S ++ [x]).length (sdc (S ++ [x]))
    rw [List.length_append, sdc_app]
    simpa using hown
  refine ⟨⟨v', by simpa using hb'.set_ 0 v', own_setD ho' hb' 0 v'⟩, h.hq, fun y hy => ?_⟩
  rcases List.mem_append.1 hy with hy | hy
  · exact h.ok y hy
  · rw [List.mem_singleton.1 hy]; exact hx

set_option maxHeartbeats 400000 in
theorem rhas_any {w : World} {base q : Nat} {S : List Sd} (h : RefAt w base q S) (n : Nat) (hsm : S.length ≤ 1000000) :
    Calls Try.prog 25 #[.pointer (some ⟨q, 0, none⟩), .int .u64 n] w fun e w' => e = .returned (.bool (hasR S n)) ∧ w = w' := by
  obtain ⟨v, h1, h2⟩ := h.ex
  obtain ⟨A, c, rfl, hr⟩ := own_sliceD h2
  obtain ⟨m, hm⟩ : ∃ m, m = S.length := ⟨_, rfl⟩
  rw [← hm] at h1 hsm
  obtain ⟨g1, g2, g3⟩ := h1.facts
  have HM := hide hm
  have HR := hide hr
  clear h h1 h2 hm hr
  go_enter Try.func25, Try.ntmps25
  go_wp2_with fail
  go_loopw [5, 6] (fun v5 v6 W => ∃ i : Nat, i ≤ m ∧ v6 = .int .i64 i ∧ v5 = .bool (hasR (S.take i) n) ∧ W = w) (fun _ v6 _ => m - (intOf v6).toNat)
  case atStart => exact ⟨0, by omega, rfl, rfl, rfl⟩
  case round =>
    obtain ⟨i, hi, rfl, rfl, rfl⟩ := hrel
    by_cases hlt : i < m
    · obtain ⟨x, hx⟩ : ∃ x, S[i]? = some x := ⟨_, List.getElem?_eq_getElem (by rw [← HM.out]; exact hlt)⟩
      have hst : hasR (S.take (i + 1)) n = if x.has n then x.hole else hasR (S.take i) n := by
        rw [List.take_add_one, hx]
        exact hasR_app _ _ _
      obtain ⟨ad, rfl, hab, c1, c2, c3⟩ := RdD.at_ HR.out hx
      have hiI : (i : Int) < (m : Int) := by omega
      have hst2 : (if x.has n then x.hole else hasR (S.take i) n) = hasR (S.take (i + 1)) n := hst.symm
      generalize hasR (S.take i) n = b0 at *
      have HST := hide hst2
      clear hst hst2 hx
      by_cases hl : x.lo ≤ n
      · have hlI : (x.lo : Int) ≤ (n : Int) := by omega
        by_cases hh : n ≤ x.hi
        · have hhI : (n : Int) ≤ (x.hi : Int) := by omega
          have hx2 : x.has n = true := Sd.has_iff.2 ⟨hl, hh⟩
          have HX := hide hx2
          clear hx2
          go_wp2_with fail
          go_roundw
          case rel => exact ⟨i + 1, by omega, by go_num, by rw [← HST.out, HX.out]; rfl, by first | trivial | rfl⟩
          case measure => simp [intOf]; omega
        · have hhI : ¬ (n : Int) ≤ (x.hi : Int) := by omega
          have hx2 : x.has n = false := by cases hh2 : x.has n; rfl; exact absurd (Sd.has_iff.1 hh2).2 hh
          have HX := hide hx2
          clear hx2
          go_wp2_with fail
          go_roundw
          case rel => exact ⟨i + 1, by omega, by go_num, by rw [← HST.out, HX.out]; rfl, by first | trivial | rfl⟩
          case measure => simp [intOf]; omega
      · have hlI : ¬ (x.lo : Int) ≤ (n : Int) := by omega
        have hx2 : x.has n = false := by cases hh2 : x.has n; rfl; exact absurd (Sd.has_iff.1 hh2).1 hl
        have HX := hide hx2
        clear hx2
        go_wp2_with fail
        go_roundw
        case rel => exact ⟨i + 1, by omega, by go_num, by rw [← HST.out, HX.out]; rfl, by first | trivial | rfl⟩
        case measure => simp [intOf]; omega
    · obtain rfl : i = m := by omega
      have hnl : ¬ (i : Int) < i := by omega
      go_wp2_with fail
      go_ret
      refine ⟨ret_bool ?_, rfl⟩
      rw [List.take_of_length_le (by rw [HM.out]; exact Nat.le_refl _)]

set_option maxHeartbeats 400000 in
theorem radd_any {w : World} {base q : Nat} {S : List Sd} (h : RefAt w base q S) (lo hi : Nat) (hlo : lo ≤ 18446744073709551615) (hhi : hi ≤ 18446744073709551615) (hsm : S.length ≤ 100000) (hbase : base ≤ w.heap.size) :
    Calls Try.prog 19 #[.pointer (some ⟨q, 0, none⟩), .int .u64 lo, .int .u64 hi] w fun e w' => (((lo = 0 ∨ 1099511627776 < hi) ∧ e = .returned (.int .i64 1) ∧ w = w') ∨ (1 ≤ lo ∧ hi ≤ 1099511627776 ∧ e = .returned (.int .i64 0) ∧ RefAt w' base q (S ++ [⟨lo, hi, true⟩]) ∧ Chg w w' base)) := by
  obtain ⟨v, h1, h2⟩ := h.ex
  obtain ⟨g1, g2, g3⟩ := h1.facts
  obtain ⟨i0, hi0, hz0, hz1, hz2⟩ := info_parts sd_info
  by_cases hl0 : lo = 0
  · subst hl0
    go_enter Try.func19, Try.ntmps19
    go_wp2_with fail
    go_ret
    exact .inl ⟨by simp, rfl, by first | trivial | rfl⟩
  have hl2 : ((lo : Int) == 0) = false := by simp; omega
  by_cases hh0 : 1099511627776 < hi
  · have hh1 : (1099511627776 : Int) < (hi : Int) := by omega
    go_enter Try.func19, Try.ntmps19
    go_wp2_with fail
    go_ret
    exact .inl ⟨by first | exact .inr hh0 | trivial, rfl, by first | trivial | rfl⟩
  have hh1 : ¬ (1099511627776 : Int) < (hi : Int) := by omega
  have hh2 : decide ((1099511627776 : Int) < (hi : Int)) = false := by simp; omega
  obtain ⟨A, c, rfl, hr⟩ := own_sliceD h2
  obtain ⟨m, hm⟩ : ∃ m, m = S.length := ⟨_, rfl⟩
  have HH := hide h
  have H1 := hide h1
  have H2 := hide h2
  rw [← hm] at g1 hsm
  have HM := hide hm
  have hown : w.ownsRow base 69 3 (.slice A m c) m (sdc S) := by rw [hm]; exact h2
  have hne : some q ≠ (Value.slice A m c).ownBlock := by rw [hm]; exact (h1.mk_.ne_own h2 (by decide))
  have hb1 : Blk w q 50 #[.slice A m c] := by rw [hm]; exact h1
  have HB1 := hide hb1
  have HNE := hide hne
  have HOWN := hide hown
  clear h h1 h2 hr hm hown hne hb1
  go_enter Try.func19, Try.ntmps19
  go_wp2_with (at_builtin; refine wpList_append_any _ rfl (.tmp 17) (.tmp 21) 48 rfl base 69 i0 _ 3 24 el48 hi0 hz0 hz1 hz2 rfl (by omega) (.slice A m c) m (sdc S) rfl (HOWN.out.alloc _) (w.heap.size + 1) (some ⟨w.heap.size, 0, none⟩) 1 1 (Sd.cs ⟨lo, hi, true⟩) rfl (Reads.ofBlk (Blk.new w 69 _) rfl) (sd_one _) (by unfold maxLen; omega) (by omega) (by simp; omega) ?_; intro v3 w3 hown hg hat; obtain ⟨A3, c3, rfl⟩ := slice_ofD hown; obtain ⟨e1, e2, e3⟩ := (Blk.grown (HB1.out.alloc _) hg HNE.out).facts)
  go_ret
  have hx : 1 ≤ (⟨lo, hi, true⟩ : Sd).lo ∧ (⟨lo, hi, true⟩ : Sd).lo ≤ 18446744073709551615 ∧ (⟨lo, hi, true⟩ : Sd).hi ≤ 1099511627776 := ⟨by show 1 ≤ lo; omega, hlo, by show hi ≤ _; omega⟩
  rw [HM.out] at hown hg ⊢
  exact ⟨by omega, by omega, rfl, HH.out.push H1.out H2.out (bel1 w _) hown hg hx, chg_push H2.out H1.out HH.out.hq hg (bel1 w _) _⟩
set_option maxHeartbeats 400000 in
theorem rfound_any {w : World} {base q : Nat} {S : List Sd} (h : RefAt w base q S) (n : Nat) (hlo : n ≤ 18446744073709551615) (hsm : S.length ≤ 100000) (hbase : base ≤ w.heap.size) :
    Calls Try.prog 20 #[.pointer (some ⟨q, 0, none⟩), .int .u64 n] w fun e w' => (((n = 0 ∨ 1099511627776 < n) ∧ e = .returned (.int .i64 1) ∧ w = w') ∨ (1 ≤ n ∧ n ≤ 1099511627776 ∧ e = .returned (.int .i64 0) ∧ RefAt w' base q (S ++ [⟨n, n, false⟩]) ∧ Chg w w' base)) := by
  obtain ⟨v, h1, h2⟩ := h.ex
  obtain ⟨g1, g2, g3⟩ := h1.facts
  obtain ⟨i0, hi0, hz0, hz1, hz2⟩ := info_parts sd_info
  by_cases hl0 : n = 0
  · subst hl0
    go_enter Try.func20, Try.ntmps20
    go_wp2_with fail
    go_ret
    exact .inl ⟨by simp, rfl, by first | trivial | rfl⟩
  have hl2 : ((n : Int) == 0) = false := by simp; omega
  by_cases hh0 : 1099511627776 < n
  · have hh1 : (1099511627776 : Int) < (n : Int) := by omega
    go_enter Try.func20, Try.ntmps20
    go_wp2_with fail
    go_ret
    exact .inl ⟨by first | exact .inr hh0 | trivial, rfl, by first | trivial | rfl⟩
  have hh1 : ¬ (1099511627776 : Int) < (n : Int) := by omega
  have hh2 : decide ((1099511627776 : Int) < (n : Int)) = false := by simp; omega
  obtain ⟨A, c, rfl, hr⟩ := own_sliceD h2
  obtain ⟨m, hm⟩ : ∃ m, m = S.length := ⟨_, rfl⟩
  have HH := hide h
  have H1 := hide h1
  have H2 := hide h2
  rw [← hm] at g1 hsm
  have HM := hide hm
  have hown : w.ownsRow base 69 3 (.slice A m c) m (sdc S) := by rw [hm]; exact h2
  have hne : some q ≠ (Value.slice A m c).ownBlock := by rw [hm]; exact (h1.mk_.ne_own h2 (by decide))
  have hb1 : Blk w q 50 #[.slice A m c] := by rw [hm]; exact h1
  have HB1 := hide hb1
  have HNE := hide hne
  have HOWN := hide hown
  clear h h1 h2 hr hm hown hne hb1
  go_enter Try.func20, Try.ntmps20
  go_wp2_with (at_builtin; refine wpList_append_any _ rfl (.tmp 15) (.tmp 19) 48 rfl base 69 i0 _ 3 24 el48 hi0 hz0 hz1 hz2 rfl (by omega) (.slice A m c) m (sdc S) rfl (HOWN.out.alloc _) (w.heap.size + 1) (some ⟨w.heap.size, 0, none⟩) 1 1 (Sd.cs ⟨n, n, false⟩) rfl (Reads.ofBlk (Blk.new w 69 _) rfl) (sd_one _) (by unfold maxLen; omega) (by omega) (by simp; omega) ?_; intro v3 w3 hown hg hat; obtain ⟨A3, c3, rfl⟩ := slice_ofD hown; obtain ⟨e1, e2, e3⟩ := (Blk.grown (HB1.out.alloc _) hg HNE.out).facts)
  go_ret
  have hx : 1 ≤ (⟨n, n, false⟩ : Sd).lo ∧ (⟨n, n, false⟩ : Sd).lo ≤ 18446744073709551615 ∧ (⟨n, n, false⟩ : Sd).hi ≤ 1099511627776 := ⟨by show 1 ≤ n; omega, hlo, by show n ≤ _; omega⟩
  rw [HM.out] at hown hg ⊢
  exact ⟨by omega, by omega, rfl, HH.out.push H1.out H2.out (bel1 w _) hown hg hx, chg_push H2.out H1.out HH.out.hq hg (bel1 w _) _⟩
end Go.Proofs.Ytfdabccdgcohjaa
