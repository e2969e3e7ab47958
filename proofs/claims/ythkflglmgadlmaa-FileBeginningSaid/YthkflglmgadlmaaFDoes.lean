/-
  THE WALK of does: a call that changes a file, but for crashes and syncs. Conditions: as the theorem's premises say.
-/
import Derived.Test.YthkflglmgadlmaaFCopy
namespace Go.Proofs.Ythkflglmgadlmaa
open Go.RowKit

/-- what a call of does may do -/
def Fl.Did (F F' : Fl) : Prop := (∃ l : List UInt8, l.length ≤ 60 ∧ F' = F.app l) ∨ (∃ c, c ≤ F.now.length ∧ F' = F.cut c)
theorem app_nil (F : Fl) : F.app [] = F := by simp [Fl.app]
theorem Fl.Did.same (F : Fl) : F.Did F := .inl ⟨[], by simp, (app_nil F).symm⟩
/-- room is left -/
structure Fl.Room (F : Fl) (n : Nat) : Prop where
  ok : F.ok
  room : F.safe.length + F.loose ≤ n
theorem Fl.Did.room {F F' : Fl} {n : Nat} (h : F.Did F') (hr : F.Room n) : F'.Room (n + 60) := by
  rcases h with ⟨l, hl, rfl⟩ | ⟨c, hc, rfl⟩
  · refine ⟨Fl.ok_app hr.ok l, ?_⟩
    have := hr.room
    unfold Fl.app
    split
    · omega
    · rw [Fl.loose_done]
      show F.safe.length + _ ≤ _
      simp only [Dd.units]
      omega
  · refine ⟨Fl.ok_cut hr.ok c, ?_⟩
    have := hr.room
    unfold Fl.cut
    split
    · rw [Fl.loose_done]
      show F.safe.length + _ ≤ _
      simp only [Dd.units]
      omega
    · omega
theorem Fl.Did.safe {F F' : Fl} (h : F.Did F') : F'.safe = F.safe := by
  rcases h with ⟨l, hl, rfl⟩ | ⟨c, hc, rfl⟩
  · unfold Fl.app
    split <;> rfl
  · unfold Fl.cut
    split <;> rfl

theorem bs_take {w : World} {B : Nat} {A : Option Addr} {n : Nat} {l : List UInt8} (h : Bs w B A n l) {m : Nat} (hm : m ≤ n) : Bs w B A m (l.take m) := by
  have hl := h.len
  refine ⟨by simp; omega, fun j u hu => h.2 j u ?_⟩
  rw [List.map_take, List.getElem?_take] at hu
  split at hu
  · exact hu
  · cases hu

theorem cut_place (n : Int) (nl : Nat) (h : nl ≤ 1000000) : ∃ c : Nat, c ≤ nl ∧ wrap64 ((IntKind.u64.wrap n).tmod ((nl : Int) + 1)) = (c : Int) := by
  have h0 : 0 ≤ IntKind.u64.wrap n := by
    simp [IntKind.wrap, IntKind.bits, IntKind.signed]
    omega
  generalize IntKind.u64.wrap n = X at h0
  rw [Int.tmod_eq_emod_of_nonneg h0]
  have h1 := Int.emod_nonneg X (show ((nl : Int) + 1) ≠ 0 by omega)
  have h2 := Int.emod_lt_of_pos X (show (0 : Int) < (nl : Int) + 1 by omega)
  generalize X % ((nl : Int) + 1) = r at h1 h2
  refine ⟨r.toNat, by omega, ?_⟩
  have : wrap64 r = r := by unfold wrap64; omega
  omega
/-- what a call of does leaves -/
def DidPost (w : World) (base p : Nat) (d : Option Nat) (F : Fl) (e : Ending) (w' : World) : Prop := e = .returned (.tuple #[]) ∧ ∃ F' d', F.Did F' ∧ FlAt w' base p d' F' ∧ Stp w w' p d ∧ NewD w d d'

set_option maxHeartbeats 1000000 in
theorem does_any {base p B bn bc : Nat} {d : Option Nat} {F : Fl} {w : World} (h : FlAt w base p d F) (x n m : Int) (A : Option Addr) (l : List UInt8) (hl : Bs w B A bn l) (hB : B ≤ w.heap.size) (hbc : bn ≤ bc) (hbm : bc ≤ 9223372036854775807) (hsm : F.now.length + 60 ≤ 1000000) (hsd : F.deeds.length ≤ 1000000) :
    Calls Try.prog 9 #[.pointer (some ⟨p, 0, none⟩), .agg #[.int .i64 x, .int .i64 n, .int .i64 m, .slice A bn bc]] w (DidPost w base p d F) := by
  obtain ⟨k, hk⟩ : ∃ k : Nat, (if (60 : Int) < (bn : Int) then (60 : Int) else (bn : Int)) = k := ⟨min bn 60, by split <;> omega⟩
  have hk1 : k ≤ bn := by split at hk <;> omega
  have hk2 : k ≤ 60 := by split at hk <;> omega
  have hk3 : k ≤ bc := by omega
  have hb1 := bel1 w (.cells #[.int .i64 x, .int .i64 n, .int .i64 m, .slice A bn bc] 31)
  have cA := append_any (h.below hb1) A bc (l.take k) (bs_take (hl.below (hb1.mono hB)) hk1) (by simp; omega) (by omega) hsd
  have cS := size_any (h.below hb1)
  have cC : ∀ c, c ≤ F.now.length → _ := fun c hc => cut_any (h.below hb1) c hc (by omega) hsd
  have CA := hide cA
  have CS := hide cS
  have CC := hide cC
  have HH := hide h
  have HK : Hid ((l.take k).length ≤ 60) := by have := List.length_take_le k l; exact (by omega : (l.take k).length ≤ 60)
  have HB := hide hb1
  clear h hl cA cS cC hb1
  have fA : ∀ W, TurnPost (w.alloc (.cells #[.int .i64 x, .int .i64 n, .int .i64 m, .slice A bn bc] 31)) base p d (.int .i64 0) (F.app (l.take k)) (.returned (.int .i64 0)) W → DidPost w base p d F (.returned (.tuple #[])) W := by
    rintro W ⟨_, d', h2, S, hd⟩
    exact ⟨rfl, _, d', .inl ⟨_, HK.out, rfl⟩, h2, (HH.out.belowStp HB.out).trans S (fun g e => .inl e), (NewD.same w d).trans hd HB.out.size⟩
  have FA := hide fA
  clear fA
  by_cases hx : x = 0 ∨ x = 1 ∨ x = 3 ∨ x = 5
  · rcases hx with rfl | rfl | rfl | rfl
    all_goals
      go_enter Try.func9, Try.ntmps9
      go_wp2_with fail
      refine CA.out.mono ?_
      rintro e w2 ⟨rfl, hp⟩
      go_wp2_with fail
      go_end0
      exact FA.out _ ⟨rfl, hp⟩
  · have fN : ∀ W, Below w.heap.size w W → DidPost w base p d F (.returned (.tuple #[])) W := fun W hW => ⟨rfl, F, d, Fl.Did.same F, HH.out.below hW, HH.out.belowStp hW, NewD.same w d⟩
    have FN := hide fN
    clear fN CA FA hk hk1 hk2 hk3
    have h0 : (x == 0) = false := by simp; omega
    have h1 : (x == 1) = false := by simp; omega
    have h3 : (x == 3) = false := by simp; omega
    have h5 : (x == 5) = false := by simp; omega
    by_cases hy : x = 2 ∨ x = 4
    · clear hx h0 h1 h3 h5
      obtain ⟨nl, hnl⟩ : ∃ nl, nl = F.now.length := ⟨_, rfl⟩
      rw [← hnl] at CS hsm
      have HNL := hide hnl
      clear hnl
      by_cases hz : nl = 0
      · subst hz
        rcases hy with rfl | rfl
        all_goals
          go_enter Try.func9, Try.ntmps9
          go_wp2_with fail
          refine CS.out.mono ?_
          rintro e w2 ⟨rfl, rfl⟩
          go_wp2_with fail
          go_end0
          exact FN.out _ HB.out
      · have hz2 : (0 : Int) < (nl : Int) := by omega
        rcases hy with rfl | rfl
        all_goals
          go_enter Try.func9, Try.ntmps9
          go_wp2_with fail
          refine CS.out.mono ?_
          rintro e w2 ⟨rfl, rfl⟩
          go_wp2_with fail
          obtain ⟨c, hc1, hc2⟩ := cut_place n nl (by omega)
          rw [hc2]
          refine (CC.out c (by rw [← HNL.out]; exact hc1)).mono ?_
          rintro e w2 ⟨rfl, d', h2, S, hd⟩
          clear hc2
          go_wp2_with fail
          go_end0
          exact ⟨rfl, _, d', .inr ⟨c, by rw [← HNL.out]; exact hc1, rfl⟩, h2, (HH.out.belowStp HB.out).trans S (fun g e => .inl e), (NewD.same w d).trans hd HB.out.size⟩
    · have h2 : (x == 2) = false := by simp; omega
      have h4 : (x == 4) = false := by simp; omega
      clear hx hy
      go_enter Try.func9, Try.ntmps9
      go_wp2_with fail
      go_end0
      exact FN.out _ HB.out
end Go.Proofs.Ythkflglmgadlmaa
