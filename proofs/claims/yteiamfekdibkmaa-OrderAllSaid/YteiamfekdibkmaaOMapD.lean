/-
  A MAP FROM KEYS TO MASKS, of the call's own. Conditions: as the theorems' premises say.
-/
import Derived.Test.YteiamfekdibkmaaOWLaw
import Derived.Maps.OwnOps
import Derived.Maps.OwnSet
import Derived.Maps.Views
namespace Go.Proofs.Yteiamfekdibkmaa
open Go.RowKit Go.Shelf Go.Maps

theorem law9 : Keyed Try.prog 9 := string_keyed Try.underlying9
theorem zero3 (w : World) : (zeroValue 3).run Try.prog w = .ok (.int .i64 0) w := by kernel_rfl
theorem key9 {l : Key} (h : l.length ≤ maxLen) : keyOf Try.prog 9 (.string (strOf l)) = some (.string l) := by
  have := WideMaps.keyOf_string_mk (P := Try.prog) (k := 9) Try.underlying9 (s := strOf l) (by show l.toArray.size ≤ maxLen; simpa using h)
  simpa [strOf] using this
/-- block b is a map whose keys are K (each once), F its elements -/
structure MpAt (w : World) (b n : Nat) (K : List Key) (F : Key → Int) : Prop where
  ex : ∃ D : DataW Unit, w.ownsMap Try.prog 9 (plainElem Try.prog 3) b n D ∧ Maps.size D = K.length ∧ (∀ k : Key, Maps.has D (.string k) = decide (k ∈ K)) ∧ ∀ k : Key, k.length ≤ maxLen → D.atKey (.string k) (.lit (.int .i64 0)) = .lit (.int .i64 (F k))
theorem MpAt.made (w : World) : MpAt (w.alloc (.map #[] 0)) w.heap.size 0 [] (fun _ => 0) :=
  ⟨.map [], World.ownsMap_made _ _ _ _, rfl, fun k => by simp [Maps.has], fun k _ => rfl⟩
theorem MpAt.kept {w w' : World} {b n : Nat} {K : List Key} {F : Key → Int} {row : Option Nat} (h : MpAt w b n K F) (hg : w.grownBy w' row) (hne : some b ≠ row) : MpAt w' b n K F := by
  obtain ⟨D, h1, h2⟩ := h.ex
  exact ⟨D, h1.kept hg hne, h2⟩
theorem MpAt.below {w w' : World} {b n : Nat} {K : List Key} {F : Key → Int} (h : MpAt w b n K F) (hb : Below w.heap.size w w') : MpAt w' b n K F := h.kept (only_of_below hb none) (by simp)
theorem MpAt.look {w : World} {b n : Nat} {K : List Key} {F : Key → Int} (h : MpAt w b n K F) {l : Key} (hl : l.length ≤ maxLen) : (Instr.lookup 24 (.map (some b)) (.string (strOf l)) false).run Try.prog w = .ok (.int .i64 (F l)) w := by
  obtain ⟨D, h1, h2, h3, h4⟩ := h.ex
  obtain ⟨c, hrun, hat, _⟩ := h1.lookup_int law9 Try.underlying24 Try.underlying3 (zero3 _) (key9 hl)
  rw [h4 l hl] at hat
  simp at hat
  rw [hrun, hat]
theorem MpAt.len {w : World} {b n : Nat} {K : List Key} {F : Key → Int} (h : MpAt w b n K F) (ty : TypeId) : (Builtin.len_ #[24] ty #[.map (some b)]).run Try.prog w = .ok (.int .i64 K.length) w := by
  obtain ⟨D, h1, h2, h3, h4⟩ := h.ex
  rw [h1.len Try.underlying24 ty, h2]
theorem MpAt.put {w : World} {b n : Nat} {K K' : List Key} {F : Key → Int} (h : MpAt w b n K F) (hn : n < maxLen) {l : Key} (hl : l.length ≤ maxLen) {v : Int} (hv : (Lit.int .i64 v).wf = true) (hlen : K'.length = if l ∈ K then K.length else K.length + 1) (hm : ∀ x, x ∈ K' ↔ x = l ∨ x ∈ K) :
    ∃ w', (Instr.mapUpdate 24 (.map (some b)) (.string (strOf l)) (.int .i64 v)).run Try.prog w = .ok () w' ∧ MpAt w' b (n + 1) K' (fun k => if k = l then v else F k) ∧ w.grownBy w' (some b) := by
  obtain ⟨D, h1, h2, h3, h4⟩ := h.ex
  obtain ⟨w', hrun, ho, hg⟩ := h1.update law9 Try.underlying24 hn (key9 hl) (plainElem_int Try.underlying3 hv)
  refine ⟨w', hrun, ⟨_, ho, ?_, fun k => ?_, fun k hk => ?_⟩, hg⟩
  · rw [size_put (h1.tidy law9), h3 l, h2, hlen]
    by_cases hlk : l ∈ K
    · simp [hlk]
    · simp [hlk]
  · by_cases hkl : k = l
    · subst hkl
      rw [has_put_same h1.isMap (show WideAt.IsKeyLit (.string _) from trivial)]
      simp [hm]
    · rw [has_put_other (by simpa using hkl), h3 k]
      simp [hm, hkl]
  · by_cases hkl : k = l
    · subst hkl
      rw [atKey_put_same h1.isMap (show WideAt.IsKeyLit (.string _) from trivial)]
      simp
    · rw [atKey_put_other (by simpa using hkl), h4 k hk]
      simp [hkl]
end Go.Proofs.Yteiamfekdibkmaa
