/-
  THE WALK of wakes: the document's examples. Conditions: none.
-/
import Derived.Test.YtfdabccdgcohjaaHFound
namespace Go.Proofs.Ytfdabccdgcohjaa
open Go.RowKit Go.Shelf

/-- holes of the call's own, and all that was there first as it was -/
structure OwnH (w W : World) (p : Nat) (L : List St) : Prop where
  at_ : HoAt W w.heap.size p L
  below : Below w.heap.size w W
theorem OwnH.step {w W W' : World} {p : Nat} {L L' : List St} (h : OwnH w W p L) (h2 : HoAt W' w.heap.size p L') (hg : W.grownBy W' (some p)) : OwnH w W' p L' :=
  ⟨h2, h.below.grown hg h.below.size (fun j hj => by cases hj; exact h.at_.hp)⟩
theorem OwnH.later {w W W' : World} {p : Nat} {L : List St} (h : OwnH w W p L) (hb : Below W.heap.size W W') : OwnH w W' p L := ⟨h.at_.below hb, belFrom h.below hb⟩
theorem OwnH.new {w W : World} {p : Nat} (h : HoAt W w.heap.size p []) (hb : Below w.heap.size w W) : OwnH w W p [] := ⟨h, hb⟩
theorem rds_lit {w : World} {g : Nat} {L : List St} {cs : Array Value} (h : Mk w g 41 cs) (he : cs = (stc L).toArray) : RdS w (g + 1) (some ⟨g, 0, none⟩) L := by
  subst he
  exact Reads.ofMk h (by first | exact stc_len L | (simp only [List.size_toArray]; exact stc_len L))
theorem bel_same {w w' : World} (h : w'.heap = w.heap ∧ w'.os = w.os ∧ w'.tape = w.tape ∧ w'.output = w.output) : Below w.heap.size w w' :=
  ⟨h.2.1, h.2.2.1, h.2.2.2, by rw [h.1]; exact Nat.le_refl _, fun k _ => by rw [h.1]⟩
/-- a row against a literal -/
theorem eq_lit {A : Option Addr} {c : Nat} {L : List St} {w : World} (K : List St) {n m g : Nat} {cs : Array Value} {fr : Nat × Nat} (h : RdS w w.heap.size A L) (hn : n = L.length) (hg : w.heap.size = g) (he : cs = (stc K).toArray) (hm : m = K.length) (hsm : n ≤ 1000000) (hsm2 : m ≤ 1000000) :
    Calls Try.prog 16 #[.slice A n c, .slice (some ⟨g, 0, none⟩) m m] (w.alloc (.cells cs 41 fr)) fun e w' => e = .returned (.bool (eqS L K)) ∧ Below w.heap.size w w' := by
  subst hg
  refine (equal_any A (some ⟨w.heap.size, 0, none⟩) n c m m w.heap.size (w.heap.size + 1) L K (w.alloc (.cells cs 41 fr)) (h.alloc (Nat.le_refl _) _) (rds_lit (Mk.new w 41 _ _) he) hn hm hsm hsm2).mono ?_
  rintro e w' ⟨rfl, h2⟩
  exact ⟨rfl, belFrom (bel1 w _) (bel_same h2)⟩

theorem wk1 : addO 3 5 [] = (0, [⟨3, 5⟩]) := by simp [addO, addL]
theorem wk2 : addO 9 9 [⟨3, 5⟩] = (0, [⟨3, 5⟩, ⟨9, 9⟩]) := by simp [addO, addL]
theorem wk3 : addO 6 7 [⟨3, 5⟩, ⟨9, 9⟩] = (0, [⟨3, 7⟩, ⟨9, 9⟩]) := by simp [addO, addL, merge]
theorem wk4 : foundO 5 [⟨3, 7⟩, ⟨9, 9⟩] = (0, [⟨3, 4⟩, ⟨6, 7⟩, ⟨9, 9⟩]) := by simp [foundO, idxL, St.has, addO, addL]
theorem wk5 : sureL 7 8 [⟨3, 4⟩, ⟨6, 7⟩, ⟨9, 9⟩] = true := by decide
theorem wk6 : sureL 6 8 [⟨3, 4⟩, ⟨6, 7⟩, ⟨9, 9⟩] = false := by decide
theorem wk7 : sureL 9 100 [⟨3, 4⟩, ⟨6, 7⟩, ⟨9, 9⟩] = true := by decide
theorem wk8 : manyL [⟨3, 4⟩, ⟨6, 7⟩, ⟨9, 9⟩] = 5 := rfl
set_option maxRecDepth 100000 in
set_option maxHeartbeats 2000000 in
theorem wakes_any (w : World) : Calls Try.prog 12 #[] w fun e w' => e = .returned (.bool true) ∧ Below w.heap.size w w' := by
  go_enter Try.func12, Try.ntmps12
  go_wp2_with fail
  refine (new_any w).mono ?_
  rintro e w1 ⟨p, rfl, h1, hb1, -⟩
  have HO := hide (OwnH.new h1 hb1)
  clear h1 hb1
  go_wp2_with fail
  refine (add_any HO.out.at_ 3 5 (by omega) (by omega) (by simp)).mono ?_
  rintro e w2 ⟨rfl, h2, hg⟩
  rw [wk1] at h2 ⊢
  replace HO := hide (HO.out.step h2 hg)
  clear h2 hg
  go_wp2_with fail
  refine (add_any HO.out.at_ 9 9 (by omega) (by omega) (by simp)).mono ?_
  rintro e w3 ⟨rfl, h2, hg⟩
  rw [wk2] at h2 ⊢
  replace HO := hide (HO.out.step h2 hg)
  clear h2 hg
  go_wp2_with fail
  refine (add_any HO.out.at_ 6 7 (by omega) (by omega) (by simp)).mono ?_
  rintro e w4 ⟨rfl, h2, hg⟩
  rw [wk3] at h2 ⊢
  replace HO := hide (HO.out.step h2 hg)
  clear h2 hg
  go_wp2_with fail
  refine (list_any HO.out.at_ (by simp)).mono ?_
  rintro e w5 ⟨v, rfl, ho, hb⟩
  have hov : v.ownBlock ≠ some p := fun e => own_ne ho HO.out.at_.lt e.symm
  replace HO := hide (HO.out.later hb)
  clear hb
  go_wp2_with fail
  refine (found_any HO.out.at_ 5 (by omega) (by simp)).mono ?_
  rintro e w6 ⟨rfl, h2, hg⟩
  rw [wk4] at h2 ⊢
  replace HO := hide (HO.out.step h2 hg)
  replace ho := ho.kept hg (.inr hov)
  clear h2 hg
  obtain ⟨A, c, rfl, hr⟩ := own_slice ho
  have HR := hide hr
  clear ho hr hov
  go_wp2_with fail
  refine (eq_lit [⟨3, 7⟩, ⟨9, 9⟩] HR.out rfl rfl rfl rfl (by simp) (by simp)).mono ?_
  rintro e w7 ⟨rfl, hb⟩
  rw [eqS_self]
  replace HO := hide (HO.out.later hb)
  clear hb HR
  go_wp2_with fail
  refine (list_any HO.out.at_ (by simp)).mono ?_
  rintro e w8 ⟨v, rfl, ho, hb⟩
  replace HO := hide (HO.out.later hb)
  obtain ⟨A, c, rfl, hr⟩ := own_slice ho
  have HR := hide hr
  clear ho hr hb
  go_wp2_with fail
  refine (eq_lit [⟨3, 4⟩, ⟨6, 7⟩, ⟨9, 9⟩] HR.out rfl rfl rfl rfl (by simp) (by simp)).mono ?_
  rintro e w9 ⟨rfl, hb⟩
  rw [eqS_self]
  replace HO := hide (HO.out.later hb)
  clear hb HR
  go_wp2_with fail
  refine (many_any HO.out.at_ (by simp)).mono ?_
  rintro e wa ⟨rfl, hb⟩
  rw [wk8]
  replace HO := hide (HO.out.later hb)
  clear hb
  go_wp2_with fail
  refine (sure_any HO.out.at_ 7 8 (by simp)).mono ?_
  rintro e wb ⟨rfl, hb⟩
  rw [wk5]
  replace HO := hide (HO.out.later hb)
  clear hb
  go_wp2_with fail
  refine (sure_any HO.out.at_ 6 8 (by simp)).mono ?_
  rintro e wc ⟨rfl, hb⟩
  rw [wk6]
  replace HO := hide (HO.out.later hb)
  clear hb
  go_wp2_with fail
  refine (sure_any HO.out.at_ 9 100 (by simp)).mono ?_
  rintro e wd ⟨rfl, hb⟩
  rw [wk7]
  replace HO := hide (HO.out.later hb)
  clear hb
  go_wp2_with fail
  go_ret
  exact ⟨rfl, HO.out.below⟩
end Go.Proofs.Ytfdabccdgcohjaa
