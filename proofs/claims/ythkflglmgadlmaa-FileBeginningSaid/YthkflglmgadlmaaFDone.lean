/-
  THE WALKS of the file's functions that turn it: done, rest. Conditions: as the theorems' premises say.
-/
import Derived.Test.YthkflglmgadlmaaFOps
import Derived.BigRegion
import Derived.Deep.RegionWith
import Derived.Deep.DeepCutAuto
namespace Go.Proofs.Ythkflglmgadlmaa
open Go.RowKit

theorem na_add (A : Option Addr) (n c : Nat) (w : World) : (nilAhead 179 61 (.slice A n c) "hourbook/file.does").run Try.prog w = .ok (some false) w := by kernel_rfl
theorem na_cut (c : Int) (w : World) : (nilAhead 179 62 (.int .i64 c) "hourbook/file.does").run Try.prog w = .ok (some false) w := by kernel_rfl

theorem undrew {w w' : World} (h : Below w.drew.heap.size w.drew w') : Below w.heap.size w w' := ⟨h.os, h.tape, h.output, h.size, h.block⟩

/-! ### steps, laid one by one -/
theorem Stp.refl {w : World} {p : Nat} {d : Option Nat} (tp : ∃ cs, Mk w p 51 cs) (td : ∀ g, d = some g → ∃ cs, Mk w g 55 cs) : Stp w w p d := ⟨rfl, rfl, rfl, Nat.le_refl _, tp, td, fun _ _ _ _ => rfl⟩
theorem Stp.alloc {w w' : World} {p : Nat} {d : Option Nat} (h : Stp w w' p d) (o : Obj) : Stp w (w'.alloc o) p d :=
  ⟨h.os, h.tape, h.output, by have := h.size; simp; omega, h.tp, h.td, fun k hk hp hd => (Below.heap_alloc _ _ _ (Nat.lt_of_lt_of_le hk h.size)).trans (h.block k hk hp hd)⟩
theorem Stp.put {w w' : World} {p : Nat} {d : Option Nat} (h : Stp w w' p d) (j : Nat) (u : Value) : Stp w (w'.setCell ⟨p, j, none⟩ u) p d :=
  ⟨h.os, h.tape, h.output, by have := h.size; simpa [World.setCell] using this, h.tp, h.td, fun k hk hp hd => (Below.heap_setCell _ _ _ _ hp).trans (h.block k hk hp hd)⟩
theorem Stp.grown {w w1 w2 : World} {p : Nat} {d row : Option Nat} (h : Stp w w1 p d) (hg : w1.grownBy w2 row) (hr : ∀ g, row = some g → d = some g ∨ w.heap.size ≤ g) : Stp w w2 p d :=
  ⟨hg.os.trans h.os, hg.tape.trans h.tape, hg.output.trans h.output, Nat.le_trans h.size hg.size, h.tp, h.td, fun k hk hp hd => (hg.block k (Nat.lt_of_lt_of_le hk h.size) (fun e => by
    rcases hr k e.symm with e2 | e2
    · exact hd e2.symm
    · omega)).trans (h.block k hk hp hd)⟩
theorem Stp.below_ {w w1 w2 : World} {p : Nat} {d : Option Nat} (h : Stp w w1 p d) (hb : Below w1.heap.size w1 w2) : Stp w w2 p d := h.grown (only_of_below hb none) (fun g e => by cases e)
theorem Stp.drew {w w' : World} {p : Nat} {d : Option Nat} (h : Stp w w' p d) : Stp w w'.drew p d := ⟨h.os, h.tape, h.output, h.size, h.tp, h.td, h.block⟩
theorem Stp.widen {w w' : World} {p : Nat} {d : Option Nat} (h : Stp w w' p none) (td : ∀ g, d = some g → ∃ cs, Mk w g 55 cs) : Stp w w' p d := ⟨h.os, h.tape, h.output, h.size, h.tp, td, fun k hk hp _ => h.block k hk hp (by simp)⟩
theorem own_short5 {w : World} {base c k : Nat} {A : Option Addr} {l : List UInt8} (h : Own5 w base (.slice A l.length c) l) (hk : k ≤ l.length) : Own5 w base (.slice A (l.take k).length c) (l.take k) := by
  have e : (l.take k).length = k := by simp; omega
  refine ⟨by simp, ?_⟩
  rw [e]
  rcases h.2 with ⟨hv, h0⟩ | ⟨g, cap, cur, hv, hb, hh, hnc, hm, hs, ht⟩
  · injection hv with e1 e2 e3
    subst e1 e3
    exact .inl ⟨by rw [show k = 0 by omega], by omega⟩
  · injection hv with e1 e2 e3
    subst e1 e3
    refine .inr ⟨g, _, cur, rfl, hb, hh, by omega, hm, hs, ?_⟩
    rw [List.map_take, ← ht, List.take_take]
    congr 1
    omega

theorem own5_cap {w : World} {base c : Nat} {A : Option Addr} {l : List UInt8} (h : Own5 w base (.slice A l.length c) l) : l.length ≤ c ∧ c ≤ maxLen := by
  obtain ⟨A', c', e, h1, h2⟩ := own5_len h
  injection e with _ _ e
  subst e
  exact ⟨h1, h2⟩
theorem DdV.one {w : World} {base : Nat} {v : Value} {x : Dd} (h : DdV w base v x) : v.oneCell' = true := by
  cases x with
  | add l =>
    obtain ⟨A, c, rfl, _⟩ := h
    rfl
  | cut c =>
    obtain rfl := h
    rfl
theorem DdV.iface {w : World} {base : Nat} {v : Value} {x : Dd} (h : DdV w base v x) : ∃ ty u, v = .iface ty u := by
  cases x with
  | add l =>
    obtain ⟨A, c, rfl, _⟩ := h
    exact ⟨_, _, rfl⟩
  | cut c =>
    obtain rfl := h
    exact ⟨_, _, rfl⟩
/-- the bytes are turned, the deeds not yet -/
def Mid (w W : World) (base p : Nat) (s D : Value) (l : List UInt8) : Prop := ∃ A a, Blk W p 51 #[s, .slice A l.length a, D] ∧ Own5 W base (.slice A l.length a) l ∧ Stp w W p none

set_option maxHeartbeats 1000000 in
theorem done_any {base p : Nat} {d : Option Nat} {F : Fl} {w : World} (h : FlAt w base p d F) (v : Value) (x : Dd) (hv : DdV w base v x) (hf : x.fits F.now) (hsm : F.now.length + x.units ≤ 1000000) (hsd : F.deeds.length ≤ 1000000) :
    Calls Try.prog 26 #[.pointer (some ⟨p, 0, none⟩), v] w fun e w' => e = .returned (.tuple #[]) ∧ ∃ d', FlAt w' base p d' (F.done x) ∧ Stp w w' p d ∧ NewD w d d' := by
  obtain ⟨sA, sc, nA, nc, D, dv, h1, h2, h3, h4, h5, h6⟩ := h.ex
  obtain ⟨c1, f1, s1⟩ := h1.facts
  obtain ⟨i0, hi0, hz0, hz1, hz2⟩ := info_parts dd_info
  have hdl := h6.len
  have HH := hide h
  have H1 := hide h1
  have H2 := hide h2
  have H3 := hide h3
  have H4 := hide h4
  have H5 := hide h5
  have H6 := hide h6
  have HV := hide hv
  have HF := hide hf
  have HDL := hide hdl
  have hdn : dv.length ≤ 1000000 := by omega
  clear h h2 h3 h4 h5 h6 hv h1 hf hdl
  go_enter Try.func26, Try.ntmps26
  go_wp2_with fail
  go_cut [] (fun W => Mid w W base p (.slice sA F.safe.length sc) D (x.full F.now))
  case first =>
    cases x with
    | add l =>
      obtain ⟨A, c, rfl, ho⟩ := HV.out
      have hsm' : F.now.length + l.length ≤ 1000000 := hsm
      have m1 := m_units_add A l.length c
      have m2 := m_does_add A l.length c
      have m3 := na_add A l.length c
      have HO := hide ho
      clear ho HV
      go_region_with (first | (go_at_call 20; refine (clone5 (w := w.drew) H3.out.drew (by omega)).mono ?_; rintro e w1 ⟨A1, a1, rfl, ho1, hb1⟩; obtain ⟨c2, f2, s2⟩ := (H1.out.below (undrew hb1) s1).facts) | (go_at_call 43; refine (addUnits_any A l.length c _).mono ?_; rintro e w1 ⟨rfl, rfl⟩) | (go_at_call 42; refine (addDoes_any A c l _ F.now l.length _ (HO.out.kept (only_of_below (undrew hb1) none) (Classical.em _)) (Nat.le_refl _) ho1 hb1.size hsm').mono ?_; rintro e w2 ⟨A2, a2, rfl, ho2, hg2⟩; obtain ⟨c3, f3, s3⟩ := ((H1.out.below (undrew hb1) s1).grown hg2 (own_ne ho1 s1)).facts))
      all_goals
        go_wp2_with fail
        go_meet
        case rel =>
          rw [full_add]
          rw [List.take_length] at ho2
          have hbw : base ≤ w.drew.heap.size := by have h1 := HH.out.hp; have h2 := HH.out.lt; show base ≤ w.heap.size; omega
          have hne : (Value.slice A2 (F.now ++ l).length a2).ownBlock ≠ some p := fun e => by have h1 := (own_mk ho2 e).1; have h2 : p < w.drew.heap.size := HH.out.lt; omega
          have S0 : Stp w w2 p none := (((Stp.refl HH.out.tp (fun g e => by cases e)).below_ (undrew hb1)).grown hg2 (fun g e => .inr (own_mk ho1 e).1))
          simp only [List.length_append] at ho2 hne
          have B := ((H1.out.below (undrew hb1) s1).grown hg2 (own_ne ho1 s1)).set_ 1 (.slice A2 (F.now.length + l.length) a2)
          unfold Mid
          simp only [List.length_append]
          exact ⟨A2, a2, by simpa using B, own_mono (ownsRow_setCell_other (a := ⟨p, 1, none⟩) ho2 hne _) hbw, S0.put 1 _⟩
    | cut c =>
      obtain rfl := HV.out
      have hc : c < F.now.length := HF.out
      have m1 := m_units_cut c
      have m2 := m_does_cut c
      have m3 := na_cut c
      clear HV
      go_region_with (first | (go_at_call 20; refine (clone5 (w := w.drew) H3.out.drew (by omega)).mono ?_; rintro e w1 ⟨A1, a1, rfl, ho1, hb1⟩; obtain ⟨c2, f2, s2⟩ := (H1.out.below (undrew hb1) s1).facts; obtain ⟨hcap1, hcap2⟩ := own5_cap ho1) | (go_at_call 45; refine (cutUnits_any c _).mono ?_; rintro e w1 ⟨rfl, rfl⟩) | (go_at_call 44; refine (cutDoes_one c _ 1 _ _ _ (by omega) (by omega) hcap2).mono ?_; rintro e w2 ⟨rfl, rfl⟩))
      all_goals
        go_wp2_with fail
        go_meet
        case rel =>
          rw [full_cut]
          have hbw : base ≤ w.drew.heap.size := by have h1 := HH.out.hp; have h2 := HH.out.lt; show base ≤ w.heap.size; omega
          have ho2 := own_short5 ho1 (k := c) (by omega)
          have hl : (F.now.take c).length = c := by simp; omega
          have hne : (Value.slice A1 c a1).ownBlock ≠ some p := fun e => by
            have h1 := (own_mk ho2 (by rw [hl]; exact e)).1
            have h2 : p < w.drew.heap.size := HH.out.lt
            omega
          have S0 : Stp w w1 p none := (Stp.refl HH.out.tp (fun g e => by cases e)).below_ (undrew hb1)
          have B := (H1.out.below (undrew hb1) s1).set_ 1 (.slice A1 c a1)
          unfold Mid
          rw [hl]
          unfold Own5 at ho2 ⊢
          rw [hl] at ho2
          rw [hl]
          exact ⟨A1, a1, by simpa using B, own_mono (ownsRow_setCell_other (a := ⟨p, 1, none⟩) ho2 hne _) hbw, S0.put 1 _⟩
  case rest =>
    obtain ⟨A2, a2, B, O, S⟩ := hcut
    have OD := own_stp55 H4.out S (fun g e => by simp)
    have hbw : base ≤ wc.heap.size := by have h1 := HH.out.hp; have h2 := HH.out.lt; have h3 := S.size; omega
    obtain ⟨ty, u0, rfl⟩ := HV.out.iface
    have h1v := HV.out.one
    obtain ⟨c4, f4, s4⟩ := B.facts
    have HB := hide B
    have HO := hide O
    have HS := hide S
    have HOD := hide OD
    have H1V := hide h1v
    clear B O S OD c1 f1 s1 h1v
    go_wp2_with (at_builtin; refine wpList_append_any _ rfl (.tmp 23) (.tmp 25) 49 rfl base 55 i0 _ 1 16 Try.underlying49 hi0 hz0 hz1 hz2 rfl (by omega) D dv.length dv rfl (HOD.out.alloc _) (wc.heap.size + 1) (some ⟨wc.heap.size, 0, none⟩) 1 1 [.iface ty u0] rfl (Reads.ofBlk (Blk.new wc 55 _) rfl) (by intro u hu; rw [List.mem_singleton.1 hu]; exact H1V.out) (by unfold maxLen; omega) (by omega) (by simp; omega) ?_; intro v' w4 hown' hg' hat'; obtain ⟨g', cap', rfl, _, _⟩ := own_form hown' (by omega); obtain ⟨c5, f5, s5⟩ := ((HB.out.alloc (.cells #[.iface ty u0] 55)).grown hg' (HB.out.mk_.ne_own HOD.out (by decide))).facts)
    go_end0
    have hat2 : (some g' : Option Nat) = D.ownBlock ∨ (some g' : Option Nat) = some (wc.heap.size + 1) := by simpa [Value.ownBlock] using hat'
    have hd := H5.out
    have TD := HH.out.td
    have S1 : Stp w wc p d := HS.out.widen TD
    have B4 := (HB.out.alloc (.cells #[.iface ty u0] 55)).grown hg' (HB.out.mk_.ne_own HOD.out (by decide))
    have TDc : ∀ g, d = some g → ∃ cs, Mk wc g 55 cs := fun g e => (own_mk HOD.out (hd.trans e)).2.2
    have S2 : Stp wc (w4.setCell ⟨p, 2, none⟩ (.slice (some ⟨g', 0, none⟩) (dv.length + 1) cap')) p d := (((Stp.refl ⟨_, HB.out.mk_⟩ TDc).alloc _).grown hg' (fun g e => .inl (hd.symm.trans e))).put 2 _
    have S3 := S1.trans S2 (fun g e => .inl e)
    have hne : (Value.slice (some ⟨g', 0, none⟩) (dv.length + 1) cap').ownBlock ≠ some p := fun e => by
      obtain ⟨cs, hm⟩ := (own_mk hown' e).2.2
      exact absurd (mk_ty hm B4.mk_) (by decide)
    refine ⟨rfl, some g', ⟨⟨sA, sc, A2, a2, .slice (some ⟨g', 0, none⟩) (dv.length + 1) cap', dv ++ [.iface ty u0], B4.set_ 2 (.slice (some ⟨g', 0, none⟩) (dv.length + 1) cap'), own_stp H2.out S3 (by decide) (by decide), own_stp HO.out S2 (by decide) (by decide), ?_, rfl, (H6.out.stp S3).snoc (HV.out.stp S3)⟩, HH.out.hp, Fl.ok_done HH.out.ok HF.out⟩, S3, ?_⟩
    · have h1 := ownsRow_setCell_other (a := ⟨p, 2, none⟩) hown' hne (.slice (some ⟨g', 0, none⟩) (dv.length + 1) cap')
      have e : (dv ++ [Value.iface ty u0]).length = dv.length + 1 := by simp
      rw [e]
      exact h1
    · intro g e
      injection e with e
      subst e
      rcases hat2 with e2 | e2
      · exact .inl (hd.symm.trans e2.symm)
      · injection e2 with e2
        have := HS.out.size
        exact .inr (by omega)
end Go.Proofs.Ythkflglmgadlmaa
