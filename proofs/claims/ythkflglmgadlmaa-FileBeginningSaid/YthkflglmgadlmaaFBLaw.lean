/-
  WHAT A CRASH LEAVES, PLAIN: a row of files, each made of the one before by a call; a crash of the last one. Conditions: none.
-/
import Derived.Test.YthkflglmgadlmaaFDoes
namespace Go.Proofs.Ythkflglmgadlmaa
open Go.RowKit

theorem did_done {F F' : Fl} (h : F.Did F') : F' = F ∨ ∃ d : Dd, F' = F.done d ∧ d.fits F.now := by
  rcases h with ⟨l, hl, rfl⟩ | ⟨c, hc, rfl⟩
  · unfold Fl.app
    split
    · exact .inl rfl
    · exact .inr ⟨_, rfl, by show 0 < l.length; omega⟩
  · unfold Fl.cut
    split
    · rename_i h
      exact .inr ⟨_, rfl, h⟩
    · exact .inl rfl
/-- a row of files, each made of the one before by a call -/
structure Hist (b : List UInt8) (hs : List Fl) (F : Fl) : Prop where
  first : hs[0]? = some (.rest b)
  last : hs[hs.length - 1]? = some F
  pos : 0 < hs.length
  ok : ∀ G ∈ hs, G.ok
  did : ∀ i G G', hs[i]? = some G → hs[i + 1]? = some G' → G.Did G'
theorem Hist.one (b : List UInt8) : Hist b [.rest b] (.rest b) :=
  ⟨rfl, rfl, by simp, fun G hG => by rw [List.mem_singleton.1 hG]; exact Fl.ok_rest b, fun i G G' h1 h2 => by simp at h2⟩
theorem Hist.snoc {b : List UInt8} {hs : List Fl} {F F' : Fl} (h : Hist b hs F) (hd : F.Did F') (hok : F'.ok) : Hist b (hs ++ [F']) F' := by
  have hp := h.pos
  refine ⟨by rw [List.getElem?_append_left hp]; exact h.first, by simp, by simp, fun G hG => ?_, fun i G G' h1 h2 => ?_⟩
  · rcases List.mem_append.1 hG with hG | hG
    · exact h.ok G hG
    · rw [List.mem_singleton.1 hG]; exact hok
  · by_cases hi : i + 1 < hs.length
    · rw [List.getElem?_append_left (by omega)] at h1
      rw [List.getElem?_append_left hi] at h2
      exact h.did i G G' h1 h2
    · have hi2 : i + 1 = hs.length := by
        have := (List.getElem?_eq_some_iff.1 h2).1
        simp at this
        omega
      rw [List.getElem?_append_left (by omega)] at h1
      have e : i = hs.length - 1 := by omega
      rw [e, h.last] at h1
      injection h1 with h1
      rw [hi2, List.getElem?_append_right (Nat.le_refl _)] at h2
      simp at h2
      subst h1 h2
      exact hd
/-- what came behind -/
theorem Hist.behind {b : List UInt8} {hs : List Fl} {F : Fl} (h : Hist b hs F) : ∀ (m i : Nat) (G : Fl), i + m + 1 = hs.length → hs[i]? = some G → ∃ ds, F.deeds = G.deeds ++ ds ∧ F.safe = G.safe := by
  intro m
  induction m with
  | zero =>
    intro i G hi hG
    have e : i = hs.length - 1 := by omega
    rw [e, h.last] at hG
    injection hG with hG
    subst hG
    exact ⟨[], by simp, rfl⟩
  | succ m ih =>
    intro i G hi hG
    have hG' : hs[i + 1]? = some (hs[i + 1]'(by omega)) := List.getElem?_eq_getElem _
    obtain ⟨ds, h1, h2⟩ := ih (i + 1) _ (by omega) hG'
    have hd := h.did i G _ hG hG'
    rcases did_done hd with e | ⟨d, e, _⟩
    · rw [e] at h1 h2
      exact ⟨ds, h1, h2⟩
    · rw [e] at h1 h2
      exact ⟨d :: ds, by rw [h1]; simp [Fl.done], h2⟩
theorem Hist.behind' {b : List UInt8} {hs : List Fl} {F : Fl} (h : Hist b hs F) {i : Nat} {G : Fl} (hG : hs[i]? = some G) : ∃ ds, F.deeds = G.deeds ++ ds ∧ F.safe = G.safe := by
  have := (List.getElem?_eq_some_iff.1 hG).1
  exact h.behind (hs.length - 1 - i) i G (by omega) hG
theorem crashL_append : ∀ (ds ds2 : List Dd) (keep kept : Nat) (b n : List UInt8), okD b ds n → kept + loose ds ≤ keep → crashL (ds ++ ds2) keep kept b = crashL ds2 keep (kept + loose ds) n
  | [], ds2, keep, kept, b, n, h, hk => by
    have h' : b = n := h
    subst h'
    rfl
  | d :: ds, ds2, keep, kept, b, n, h, hk => by
    simp only [loose] at hk ⊢
    have e : min d.units (keep - kept) = d.units := by omega
    simp only [List.cons_append, crashL, e]
    have := crashL_append ds ds2 keep (kept + d.units) (d.full b) n h.2 (by omega)
    unfold Dd.full at this
    rw [this]
    congr 1
    omega
theorem Fl.crash0 (F : Fl) : F.crash 0 = (0, .rest F.safe) := by
  unfold Fl.crash
  rw [crashL_full]
theorem Fl.crash_all {F : Fl} (h : F.ok) {k : Nat} (hk : F.loose ≤ k) : F.crash k = (F.loose, .rest F.now) := by
  unfold Fl.crash
  rw [crashL_all F.deeds k 0 F.safe F.now h (by unfold Fl.loose at hk; omega)]
  simp [Fl.loose]
theorem Hist.safe {b : List UInt8} {hs : List Fl} {F : Fl} (h : Hist b hs F) : F.safe = b := (h.behind' h.first).choose_spec.2
/-- THE LAW: a crash of the last file, and the moment that it reaches -/
theorem Hist.law {b : List UInt8} {hs : List Fl} {F : Fl} (h : Hist b hs F) {k i : Nat} {G : Fl} (hk : k ≤ F.loose) (hG : hs[i]? = some G) (hle : G.loose ≤ k) (hnx : ∀ G', hs[i + 1]? = some G' → k < G'.loose) :
    (G.loose = k → F.crash k = (k, .rest G.now)) ∧ (G.loose ≠ k → ∃ G' l, hs[i + 1]? = some G' ∧ G'.now = G.now ++ l ∧ k - G.loose ≤ l.length ∧ F.crash k = (k, .rest (G.now ++ l.take (k - G.loose)))) := by
  have hok := h.ok G (List.mem_of_getElem? hG)
  obtain ⟨ds, h1, h2⟩ := h.behind' hG
  refine ⟨fun e => ?_, fun e => ?_⟩
  · unfold Fl.crash
    rw [h1, h2, crashL_append G.deeds ds k 0 G.safe G.now hok (by unfold Fl.loose at hle; omega)]
    have e2 : 0 + Ythkflglmgadlmaa.loose G.deeds = k := by unfold Fl.loose at e; omega
    rw [e2, crashL_full]
  · have hlt : i + 1 < hs.length := by
      rcases Nat.lt_or_ge (i + 1) hs.length with hh | hh
      · exact hh
      · exfalso
        have := (List.getElem?_eq_some_iff.1 hG).1
        have ei : i = hs.length - 1 := by omega
        rw [ei, h.last] at hG
        injection hG with hG
        subst hG
        omega
    have hG' : hs[i + 1]? = some (hs[i + 1]'hlt) := List.getElem?_eq_getElem _
    generalize hs[i + 1]'hlt = G' at hG'
    have hk2 := hnx G' hG'
    rcases did_done (h.did i G G' hG hG') with e1 | ⟨d, e1, hf⟩
    · rw [e1] at hk2
      omega
    · subst e1
      rw [Fl.loose_done] at hk2
      cases d with
      | cut c =>
        simp only [Dd.units] at hk2
        omega
      | add l =>
        simp only [Dd.units] at hk2
        refine ⟨_, l, hG', full_add l G.now, by omega, ?_⟩
        obtain ⟨ds2, h3, h4⟩ := h.behind' hG'
        have h5 : F.deeds = G.deeds ++ (.add l :: ds2) := by rw [h3]; simp [Fl.done]
        unfold Fl.crash
        rw [h5, h2, crashL_append G.deeds (.add l :: ds2) k 0 G.safe G.now hok (by unfold Fl.loose at hle; omega)]
        simp only [crashL, Dd.units, Dd.does]
        have e3 : 0 + Ythkflglmgadlmaa.loose G.deeds = G.loose := by unfold Fl.loose; omega
        rw [e3]
        have e4 : min l.length (k - G.loose) = k - G.loose := by omega
        have e5 : G.loose + (k - G.loose) = k := by omega
        rw [e4, e5, crashL_full]
end Go.Proofs.Ythkflglmgadlmaa
