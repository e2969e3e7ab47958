/-
  THE WALKS of the file's functions that turn it: rest, Append, Cut, Sync. Conditions: as the theorems' premises say.
-/
import Derived.Test.YthkflglmgadlmaaFDone
namespace Go.Proofs.Ythkflglmgadlmaa
open Go.RowKit

/-- a file has turned -/
def TurnPost (w : World) (base p : Nat) (d : Option Nat) (v : Value) (F : Fl) (e : Ending) (w' : World) : Prop := e = .returned v ∧ ∃ d', FlAt w' base p d' F ∧ Stp w w' p d ∧ NewD w d d'

set_option maxHeartbeats 400000 in
theorem rest_any {base p : Nat} {d : Option Nat} {F : Fl} {w : World} (h : FlAt w base p d F) (A : Option Addr) (c : Nat) (l : List UInt8) (ho : Own5 w base (.slice A l.length c) l) (hsm : l.length ≤ 1000000) :
    Calls Try.prog 25 #[.pointer (some ⟨p, 0, none⟩), .slice A l.length c] w (TurnPost w base p d (.tuple #[]) (.rest l)) := by
  obtain ⟨sA, sc, nA, nc, D, dv, h1, h2, h3, h4, h5, h6⟩ := h.ex
  obtain ⟨c1, f1, s1⟩ := h1.facts
  have HH := hide h
  have H1 := hide h1
  have HO := hide ho
  clear h h2 h3 h4 h5 h6 ho h1
  go_enter Try.func25, Try.ntmps25
  go_wp2_with fail
  refine (clone5 HO.out (by omega)).mono ?_
  rintro e w1 ⟨A1, a1, rfl, ho1, hb1⟩
  have B := H1.out.below hb1 s1
  have HB := hide B
  obtain ⟨c2, f2, s2⟩ := B.facts
  clear c1 f1 B
  go_wp2_with fail
  go_end0
  have S1 : Stp w w1 p d := (Stp.refl HH.out.tp HH.out.td).below_ hb1
  have S2 := ((S1.put 0 (.slice A1 l.length a1)).put 1 (.slice A l.length c)).put 2 (.slice none 0 0)
  have T2 : Stp w1 (((w1.setCell ⟨p, 0, none⟩ (.slice A1 l.length a1)).setCell ⟨p, 1, none⟩ (.slice A l.length c)).setCell ⟨p, 2, none⟩ (.slice none 0 0)) p none := (((Stp.refl ⟨_, HB.out.mk_⟩ (fun g e => by cases e)).put 0 _).put 1 _).put 2 _
  have hbw : base ≤ w.heap.size := by have h1 := HH.out.hp; omega
  exact ⟨rfl, none, ⟨⟨A1, a1, A, c, .slice none 0 0, [], ((HB.out.set_ 0 _).set_ 1 _).set_ 2 _, own_mono (own_stp ho1 T2 (by decide) (by decide)) hbw, own_stp HO.out S2 (by decide) (by decide), ⟨rfl, .inl ⟨rfl, rfl⟩⟩, rfl, trivial⟩, HH.out.hp, Fl.ok_rest l⟩, S2, NewD.none_ _ _⟩

theorem FlAt.belowStp {w w' : World} {base p : Nat} {d : Option Nat} {F : Fl} (h : FlAt w base p d F) (hb : Below w.heap.size w w') : Stp w w' p d := (Stp.refl h.tp h.td).below_ hb

set_option maxHeartbeats 400000 in
theorem append_any {base p B n : Nat} {d : Option Nat} {F : Fl} {w : World} (h : FlAt w base p d F) (A : Option Addr) (c : Nat) (l : List UInt8) (hl : Bs w B A n l) (hB : B ≤ w.heap.size) (hsm : F.now.length + n ≤ 1000000) (hsd : F.deeds.length ≤ 1000000) :
    Calls Try.prog 19 #[.pointer (some ⟨p, 0, none⟩), .slice A n c] w (TurnPost w base p d (.int .i64 0) (F.app l)) := by
  have hnl := hl.len
  by_cases h0 : n = 0
  · subst h0
    have hF : F.app l = F := by unfold Fl.app; rw [if_pos hnl]
    rw [hF]
    go_enter Try.func19, Try.ntmps19
    go_wp2_with fail
    go_ret
    exact ⟨rfl, d, h, Stp.refl h.tp h.td, NewD.same _ _⟩
  · have hF : F.app l = F.done (.add l) := by unfold Fl.app; rw [if_neg (by omega)]
    rw [hF]
    have hn0 : (0 : Int) < (n : Int) := by omega
    have hnn : n ≤ 140737488355328 := by omega
    have HH := hide h
    have HL := hide hl
    have HNL := hide hnl
    clear h hl hF hnl h0
    go_enter Try.func19, Try.ntmps19
    go_wp2_with fail
    refine (bytesClone_any A n c B l w HL.out hnn hB).mono ?_
    rintro e w1 ⟨v, rfl, ho, hb⟩
    have ho' : Own5 w1 w.heap.size v l := by show w1.ownsRow _ 5 1 v l.length _; rw [HNL.out]; exact ho
    obtain ⟨A1, a1, rfl, _, _⟩ := own5_len ho'
    have hbw : base ≤ w.heap.size := by have h1 := HH.out.hp; have := HH.out.lt; omega
    have hlp : 0 < l.length := by have := HNL.out; omega
    have hln := HNL.out
    have c2 := done_any (HH.out.below hb) (.iface 61 (.slice A1 l.length a1)) (.add l) ⟨A1, a1, rfl, own_mono ho' hbw⟩ hlp (by show _ + l.length ≤ _; omega) hsd
    have C2 := hide c2
    clear c2 ho ho' hln
    go_wp2_with fail
    refine C2.out.mono ?_
    rintro e w2 ⟨rfl, d', h2, S, hd⟩
    go_wp2_with fail
    go_ret
    have S0 := HH.out.belowStp hb
    exact ⟨rfl, d', h2, S0.trans S (fun g e => .inl e), (NewD.same w d).trans hd hb.size⟩

set_option maxHeartbeats 400000 in
theorem cut_any {base p : Nat} {d : Option Nat} {F : Fl} {w : World} (h : FlAt w base p d F) (c : Nat) (hc : c ≤ F.now.length) (hsm : F.now.length + 1 ≤ 1000000) (hsd : F.deeds.length ≤ 1000000) :
    Calls Try.prog 23 #[.pointer (some ⟨p, 0, none⟩), .int .i64 c] w (TurnPost w base p d (.int .i64 0) (F.cut c)) := by
  obtain ⟨sA, sc, nA, nc, D, dv, h1, h2, h3, h4, h5, h6⟩ := h.ex
  obtain ⟨c1, f1, s1⟩ := h1.facts
  clear h1 h2 h3 h4 h5 h6
  by_cases hlt : c < F.now.length
  · have hF : F.cut c = F.done (.cut c) := by unfold Fl.cut; rw [if_pos hlt]
    rw [hF]
    have c2 := done_any h (.iface 62 (.int .i64 c)) (.cut c) rfl hlt hsm hsd
    obtain ⟨n, hn⟩ : ∃ n, n = F.now.length := ⟨_, rfl⟩
    rw [← hn] at hc hsm hlt c1
    have C2 := hide c2
    clear c2 hF h hn
    go_enter Try.func23, Try.ntmps23
    go_wp2_with fail
    refine C2.out.mono ?_
    rintro e w2 ⟨rfl, d', h2, S, hd⟩
    go_wp2_with fail
    go_ret
    exact ⟨rfl, d', h2, S, hd⟩
  · have hF : F.cut c = F := by unfold Fl.cut; rw [if_neg hlt]
    rw [hF]
    obtain ⟨n, hn⟩ : ∃ n, n = F.now.length := ⟨_, rfl⟩
    rw [← hn] at hc hsm hlt c1
    have HH := hide h
    clear hF h hn
    have hnl : (n : Int) ≤ (c : Int) := by omega
    go_enter Try.func23, Try.ntmps23
    go_wp2_with fail
    go_ret
    exact ⟨rfl, d, HH.out, Stp.refl HH.out.tp HH.out.td, NewD.same _ _⟩
set_option maxHeartbeats 400000 in
theorem cut_bad {base p : Nat} {d : Option Nat} {F : Fl} {w : World} (h : FlAt w base p d F) (c : Int) (hc : c < 0 ∨ (F.now.length : Int) < c) :
    Calls Try.prog 23 #[.pointer (some ⟨p, 0, none⟩), .int .i64 c] w fun e w' => e = .returned (.int .i64 1) ∧ w = w' := by
  obtain ⟨sA, sc, nA, nc, D, dv, h1, h2, h3, h4, h5, h6⟩ := h.ex
  obtain ⟨c1, f1, s1⟩ := h1.facts
  clear h1 h2 h3 h4 h5 h6 h
  obtain ⟨n, hn⟩ : ∃ n, n = F.now.length := ⟨_, rfl⟩
  rw [← hn] at hc c1
  clear hn
  by_cases h0 : c < 0
  · clear hc
    go_enter Try.func23, Try.ntmps23
    go_wp2_with fail
    go_ret
    exact ⟨rfl, rfl⟩
  · have h1 : 0 ≤ c := by omega
    have h2 : (n : Int) < c := by omega
    clear hc h0
    go_enter Try.func23, Try.ntmps23
    go_wp2_with fail
    go_ret
    exact ⟨rfl, rfl⟩

set_option maxHeartbeats 400000 in
theorem sync_any {base p : Nat} {d : Option Nat} {F : Fl} {w : World} (h : FlAt w base p d F) (hsm : F.now.length ≤ 1000000) :
    Calls Try.prog 13 #[.pointer (some ⟨p, 0, none⟩)] w (TurnPost w base p d (.int .i64 0) (.rest F.now)) := by
  obtain ⟨sA, sc, nA, nc, D, dv, h1, h2, h3, h4, h5, h6⟩ := h.ex
  obtain ⟨c1, f1, s1⟩ := h1.facts
  have c2 := rest_any h nA nc F.now h3 hsm
  have C2 := hide c2
  clear h1 h2 h3 h4 h5 h6 h c2
  go_enter Try.func13, Try.ntmps13
  go_wp2_with fail
  refine C2.out.mono ?_
  rintro e w2 ⟨rfl, d', h2, S, hd⟩
  go_wp2_with fail
  go_ret
  exact ⟨rfl, d', h2, S, hd⟩
end Go.Proofs.Ythkflglmgadlmaa
