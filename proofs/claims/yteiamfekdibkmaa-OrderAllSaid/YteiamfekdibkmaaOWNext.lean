/-
  THE WALK of a walk's Next. Conditions: as the theorems' premises say.
-/
import Derived.Test.YteiamfekdibkmaaOStep
namespace Go.Proofs.Yteiamfekdibkmaa
open Go.RowKit Go.Shelf

/-- a walk at p, its places in block g -/
structure WkAt (w : World) (base p g : Nat) (rs : List Rw) (t : List Nat) : Prop where
  ex : ∃ cap, WalkAt w base p g cap rs rs.length ∧ AtsAt w base g cap t
  len : t.length = rs.length
  few : rs.length ≤ 1000
  rows : ∀ r ∈ rs, r.hs.length ≤ 100000
  ats : ∀ a ∈ t, a ≤ 100000
theorem stepT_le {R : List (List Key)} {t : List Nat} {k : Key} {m : Nat} (hr : ∀ r ∈ R, r.length ≤ 100000) (ht : ∀ a ∈ t, a ≤ 100000) : ∀ a ∈ stepT R t k m, a ≤ 100000 := by
  intro a ha
  unfold stepT at ha
  obtain ⟨i, hi, rfl⟩ := List.mem_map.1 ha
  have hil := List.mem_range.1 hi
  have h1 : t.getD i 0 ≤ 100000 := by
    rw [List.getD_eq_getElem?_getD, List.getElem?_eq_getElem hil]
    exact ht _ (List.getElem_mem hil)
  split
  · rename_i h
    have h2 := h.2
    unfold standsB at h2
    rw [decide_eq_true_iff] at h2
    have h3 := (List.getElem?_eq_some_iff.1 h2).1
    have h4 : (R.getD i []).length ≤ 100000 := by
      rw [List.getD_eq_getElem?_getD]
      cases hg : R[i]? with
      | none => simp
      | some r => exact hr r (List.mem_of_getElem? hg)
    omega
  · exact h1
theorem WkAt.below {w w' : World} {base p g : Nat} {rs : List Rw} {t : List Nat} (h : WkAt w base p g rs t) (hb : Below w.heap.size w w') : WkAt w' base p g rs t := by
  obtain ⟨cap, h1, h2⟩ := h.ex
  exact ⟨⟨cap, h1.below hb, h2.below hb⟩, h.len, h.few, h.rows, h.ats⟩
theorem WkAt.glt {w : World} {base p g : Nat} {rs : List Rw} {t : List Nat} (h : WkAt w base p g rs t) : base ≤ g ∧ g < w.heap.size ∧ p < w.heap.size ∧ base ≤ p := by
  obtain ⟨cap, h1, h2⟩ := h.ex
  have := own_lt (g := g) h2.row rfl
  exact ⟨this.1, this.2, h1.lt, h1.hp⟩
theorem WkAt.step {w w' : World} {base p g cap : Nat} {rs : List Rw} {t : List Nat} (h : WkAt w base p g rs t) {k : Key} (hw : WalkAt w' base p g cap rs rs.length) (ha : AtsAt w' base g cap (stepT (rws rs) t k rs.length)) : WkAt w' base p g rs (stepT (rws rs) t k rs.length) :=
  ⟨⟨cap, hw, ha⟩, by rw [stepT_len]; exact h.len, h.few, h.rows, stepT_le (fun r hr => by obtain ⟨x, hx, rfl⟩ := List.mem_map.1 hr; rw [List.length_map]; exact h.rows x hx) h.ats⟩
theorem WalkAt.bytes {w : World} {base p g cap n : Nat} {rs : List Rw} (h : WalkAt w base p g cap rs n) {r : Rw} {y : Hd} (hr : r ∈ rs) (hy : y ∈ r.hs) : w.ownsRow base 5 1 y.v y.l.length (y.l.map bv) := (h.rows r hr).bytes y hy
/-- what Next tells -/
def nextP (w : World) (base p g : Nat) (rs : List Rw) (t : List Nat) (e : Ending) (w' : World) : Prop :=
  match leastL (rws rs) t with
  | none => e = .returned (.tuple #[.slice none 0 0, .slice none 0 0, .bool false]) ∧ WkAt w' base p g rs t ∧ Below w.heap.size w w'
  | some k => ∃ vk vi, e = .returned (.tuple #[vk, vi, .bool true]) ∧ w'.ownsRow w.heap.size 5 1 vk k.length (k.map bv) ∧ OwnI w' w.heap.size vi (inL (rws rs) t k rs.length) ∧ WkAt w' base p g rs (stepT (rws rs) t k rs.length) ∧ w.grownBy w' (some g)
set_option maxHeartbeats 2000000 in
theorem wnext_any {w : World} {base p g : Nat} {rs : List Rw} {t : List Nat} (h : WkAt w base p g rs t) : Calls Try.prog 11 #[.pointer (some ⟨p, 0, none⟩)] w fun e w' => nextP w base p g rs t e w' := by
  obtain ⟨cap, hw, ha⟩ := h.ex
  have C1 := hide (none_no hw)
  have C2 := hide (least_any hw ha rfl h.len h.few h.rows (fun a ha => by have := h.ats a ha; omega))
  obtain ⟨vr, h1, h2⟩ := hw.ex
  obtain ⟨Ar, cr, rfl⟩ := slice_ofH h2
  obtain ⟨g1, g2, g3⟩ := h1.facts
  obtain ⟨n, hn⟩ : ∃ n, n = rs.length := ⟨_, rfl⟩
  rw [← hn] at g1 C2
  have H := hide h
  have HW := hide hw
  have HA := hide ha
  have HN := hide hn
  have H1 := hide h1
  have hglt := h.glt
  clear h hw ha h1 h2 hn
  go_enter Try.func11, Try.ntmps11
  go_wp2_with fail
  refine C1.out.mono ?_
  rintro e w1 ⟨rfl, rfl⟩
  go_wp2_with fail
  refine C2.out.mono ?_
  rintro e w2 ⟨ob, rfl, hob, hgd, hb2⟩
  cases ob with
  | none =>
    have hl : leastL (rws rs) t = none := hob.symm
    have HL := hide hl
    have HB := hide hb2
    clear hob hgd hl hb2 C2 C1
    go_wp2_with fail
    go_ret3
    unfold nextP
    rw [HL.out]
    exact ⟨rfl, H.out.below HB.out, HB.out⟩
  | some y =>
    have hl : leastL (rws rs) t = some y.l := hob.symm
    obtain ⟨_, _, r, hr, hyr⟩ := hgd y rfl
    have HL := hide hl
    have HB := hide hb2
    have hW2 := HW.out.below hb2
    have hA2 := HA.out.below hb2
    have hyo := hW2.bytes hr hyr
    have hyl : y.l.length ≤ 64 := (mayK_iff.1 ((HW.out.ok r hr).1 y.l (List.mem_map_of_mem hyr))).2
    have hbs := good_own hyo
    obtain ⟨yA, yc, yl⟩ := y
    rw [show obv (some (⟨yA, yc, yl⟩ : Hd)) = .slice yA yl.length yc from rfl, show Option.isSome (some (⟨yA, yc, yl⟩ : Hd)) = true from rfl]
    have B0 : Below w2.heap.size w2 w2.drew := ⟨rfl, rfl, rfl, Nat.le_refl _, fun _ _ => rfl⟩
    have C3 := hide (bytesClone_any yA yl.length yc w2.heap.size yl w2.drew (Reads.below hbs.1 B0) (by simp only at hyl; omega) (Nat.le_refl _))
    have C4 : ∀ w3, Below w2.heap.size w2 w3 → Calls Try.prog 35 #[.pointer (some ⟨p, 0, none⟩), .slice (some ⟨g, 0, none⟩) n cap, .slice yA yl.length yc] w3 fun e w' => ∃ vi, e = .returned vi ∧ OwnI w' w3.heap.size vi (inL (rws rs) t yl rs.length) ∧ AtsAt w' base g cap (stepT (rws rs) t yl rs.length) ∧ w3.grownBy w' (some g) := fun w3 hb3 => by
      have h := step_any (y := ⟨yA, yc, yl⟩) (hW2.below hb3) (hA2.below hb3) rfl H.out.len H.out.few H.out.rows (fun a ha => by have := H.out.ats a ha; omega) (own_bel hyo hb3)
      rw [HN.out]
      exact h
    have hpc : ∀ W, Below w2.heap.size w2 W → W.cell? ⟨p, 1, none⟩ = some (.slice (some ⟨g, 0, none⟩) n cap) := fun W hW => by
      have h := ((H1.out.below HB.out H1.out.lt).below hW (by have := HB.out.size; omega)).cell 1
      rw [HN.out]
      exact h
    have hpg : p ≠ g := by
      have h := H1.out.mk_.ne_own HA.out.row (by decide)
      intro e
      exact h (by rw [e]; rfl)
    have C4H := hide C4
    have HPC := hide hpc
    have HPG := hide hpg
    have HW2 := hide hW2
    have HA2 := hide hA2
    clear hob hgd hl hb2 C2 C1 hyo C4 hpc hpg hW2 hA2 hbs B0 hyl
    go_upto_region 6 with fail
    go_region_held3 (fun W => W.cell? ⟨p, 1, none⟩ = some (.slice (some ⟨g, 0, none⟩) n cap)) (first | exact HPC.out _ ⟨rfl, rfl, rfl, Nat.le_refl _, fun _ _ => rfl⟩ | exact HPC.out _ hb3 | (exact (World.cell?_of_block (hg4.block _ hp3 (by simpa using HPG.out))).trans (HPC.out _ hb3)) | fail) (first | (go_at_call 36; refine C3.out.mono ?_; rintro e w3 ⟨vk, rfl, hok, hbk⟩; have hb3 : Below w2.heap.size w2 w3 := ⟨hbk.os, hbk.tape, hbk.output, hbk.size, hbk.block⟩; have hp3 : p < w3.heap.size := by have := hb3.size; have := HB.out.size; omega) | (go_at_call 35; refine (C4H.out _ hb3).mono ?_; rintro e w4 ⟨vi, rfl, hoi, hats, hg4⟩) | fail)
    go_wp2_with fail
    go_ret3
    unfold nextP
    rw [HL.out]
    refine ⟨vk, vi, rfl, ?_, ?_, ?_, ?_⟩
    · exact own_mono (hok.kept hg4 (.inr (fun e => by have := (own_lt hok e).1; have h2 : w2.heap.size ≤ g := this; have := HB.out.size; omega))) HB.out.size
    · exact own_mono hoi (by have := hb3.size; have := HB.out.size; omega)
    · exact H.out.step ((HW2.out.below hb3).beside (HA2.out.below hb3) hg4) hats
    · exact (only_of_below HB.out _).trans ((only_of_below hb3 _).trans hg4)
end Go.Proofs.Yteiamfekdibkmaa
