/-
  THE WALKS at no walk at all, at an empty one. Conditions: as the theorems' premises say.
-/
import Derived.Test.YteiamfekdibkmaaOKnows
namespace Go.Proofs.Yteiamfekdibkmaa
open Go.RowKit Go.Shelf

theorem none_nil (w : World) : Calls Try.prog 32 #[.pointer none] w fun e w' => e = .returned (.bool true) ∧ w = w' := by
  go_enter Try.func32, Try.ntmps32
  go_wp2
  go_ret
  exact ⟨rfl, rfl⟩
theorem none_zero {w : World} {p : Nat} (h : Blk w p 43 #[.slice none 0 0, .slice none 0 0]) : Calls Try.prog 32 #[.pointer (some ⟨p, 0, none⟩)] w fun e w' => e = .returned (.bool true) ∧ w = w' := by
  obtain ⟨g1, g2, g3⟩ := h.facts
  have q := fun (w : World) (a : Option Addr) (n c n' c' : Nat) => Lib.run_eql_slice_nil (P := Try.prog) w 32 3 a n c n' c' Try.underlying32
  clear h
  go_enter Try.func32, Try.ntmps32
  go_wp2
  go_ret
  exact ⟨rfl, rfl⟩
theorem wnext_nil (w : World) : Calls Try.prog 11 #[.pointer none] w fun e w' => e = .returned (.tuple #[.slice none 0 0, .slice none 0 0, .bool false]) ∧ w = w' := by
  have C := hide (none_nil w)
  go_enter Try.func11, Try.ntmps11
  go_wp2_with fail
  refine C.out.mono ?_
  rintro e w1 ⟨rfl, rfl⟩
  go_wp2_with fail
  go_ret3
  exact ⟨rfl, rfl⟩
theorem wnext_zero {w : World} {p : Nat} (h : Blk w p 43 #[.slice none 0 0, .slice none 0 0]) : Calls Try.prog 11 #[.pointer (some ⟨p, 0, none⟩)] w fun e w' => e = .returned (.tuple #[.slice none 0 0, .slice none 0 0, .bool false]) ∧ w = w' := by
  have C := hide (none_zero h)
  clear h
  go_enter Try.func11, Try.ntmps11
  go_wp2_with fail
  refine C.out.mono ?_
  rintro e w1 ⟨rfl, rfl⟩
  go_wp2_with fail
  go_ret3
  exact ⟨rfl, rfl⟩
theorem seek_nil (w : World) (v : Value) : Calls Try.prog 14 #[.pointer none, v] w fun e w' => e = .returned (.int .i64 2) ∧ w = w' := by
  have C := hide (none_nil w)
  go_enter Try.func14, Try.ntmps14
  go_wp2_with fail
  refine C.out.mono ?_
  rintro e w1 ⟨rfl, rfl⟩
  go_wp2_with fail
  go_ret
  exact ⟨rfl, rfl⟩
theorem left_zero {w : World} {p : Nat} (h : Blk w p 43 #[.slice none 0 0, .slice none 0 0]) : Calls Try.prog 10 #[.pointer (some ⟨p, 0, none⟩)] w fun e w' => e = .returned (.int .i64 0) ∧ w = w' := by
  have C := hide (none_zero h)
  clear h
  go_enter Try.func10, Try.ntmps10
  go_wp2_with fail
  refine C.out.mono ?_
  rintro e w1 ⟨rfl, rfl⟩
  go_wp2_with fail
  go_ret
  exact ⟨rfl, rfl⟩
theorem iv_one (l : List Nat) : ∀ u ∈ l.map iv, u.oneCell' = true := by
  intro u hu
  obtain ⟨b, _, rfl⟩ := List.mem_map.1 hu
  rfl
/-- slices.Clone of places -/
theorem cloneI_any {w : World} {base g cap : Nat} {t : List Nat} (h : AtsAt w base g cap t) (hsm : t.length ≤ 1000000) :
    Calls Try.prog 33 #[.slice (some ⟨g, 0, none⟩) t.length cap] w fun e w' => ∃ g' cap', e = .returned (.slice (some ⟨g', 0, none⟩) t.length cap') ∧ AtsAt w' w.heap.size g' cap' t ∧ Below w.heap.size w w' := by
  obtain ⟨i0, hi, hz0, hz1, hz2⟩ := info_parts i_info
  have q := fun (w : World) (a : Option Addr) (n c n' c' : Nat) => Lib.run_eql_slice_nil (P := Try.prog) w 32 3 a n c n' c' Try.underlying32
  have hr : Reads w w.heap.size 1 (some ⟨g, 0, none⟩) t.length (t.map iv) := Reads.of_own h.row
  have h2 : Reads (w.alloc (.cells #[] 3)) w.heap.size 1 (some ⟨g, 0, none⟩) t.length (t.map iv) := Reads.alloc hr (Nat.le_refl _) _
  obtain ⟨n, hn⟩ : ∃ n, n = t.length := ⟨_, rfl⟩
  rw [← hn] at h2 hsm ⊢
  have HN := hide hn
  have H2 := hide h2
  clear h hr hn h2
  go_enter Try.func33, Try.ntmps33
  go_wp2_with (at_builtin; refine wpList_append_any _ rfl (.tmp 5) (.tmp 6) 32 rfl w.heap.size 3 i0 _ 1 8 el32 hi hz0 hz1 hz2 rfl (by omega) (.slice (some ⟨w.heap.size, 0, none⟩) 0 0) 0 [] rfl (World.ownsRow_made w #[] 0 (Nat.le_refl _) (Nat.zero_le _) rfl) w.heap.size (some ⟨g, 0, none⟩) n cap (t.map iv) rfl H2.out (iv_one t) (by unfold maxLen; omega) (by omega) (by simp) ?_; intro v1 w1 hown hg hat)
  go_ret
  have hb : Below w.heap.size w w1 := (bel1 _ _).grown hg (by simp) (by intro k hk; simp [Value.ownBlock] at hk; omega)
  rw [Nat.zero_add, List.nil_append] at hown
  have hv : ∃ g' cap', v1 = .slice (some ⟨g', 0, none⟩) n cap' := by
    rcases hat with e | e
    · obtain ⟨A, c, rfl⟩ := slice_ofH hown
      cases A with
      | none => simp [Value.ownBlock] at e
      | some a =>
        rcases hown.2 with ⟨e2, _⟩ | ⟨g', cap', _, e2, _⟩
        · simp at e2
        · exact ⟨g', cap', e2⟩
    · obtain ⟨A, c, rfl⟩ := slice_ofH hown
      cases A with
      | none => simp [Value.ownBlock] at e
      | some a =>
        rcases hown.2 with ⟨e2, _⟩ | ⟨g', cap', _, e2, _⟩
        · simp at e2
        · exact ⟨g', cap', e2⟩
  obtain ⟨g', cap', rfl⟩ := hv
  exact ⟨g', cap', rfl, ⟨by rw [← HN.out]; exact hown⟩, hb⟩
/-- Left where nothing is left -/
theorem left_none {w : World} {base p g : Nat} {rs : List Rw} {t : List Nat} (h : WkAt w base p g rs t) (hl : leastL (rws rs) t = none) : Calls Try.prog 10 #[.pointer (some ⟨p, 0, none⟩)] w fun e w' => e = .returned (.int .i64 0) ∧ Below w.heap.size w w' := by
  obtain ⟨cap, hw, ha⟩ := h.ex
  have C1 := hide (none_no hw)
  obtain ⟨vr, h1, h2⟩ := hw.ex
  obtain ⟨Ar, cr, rfl⟩ := slice_ofH h2
  obtain ⟨g1, g2, g3⟩ := h1.facts
  have C2 := hide (cloneI_any ha (by have := h.few; have := h.len; omega))
  rw [h.len] at C2
  obtain ⟨n, hn⟩ : ∃ n, n = rs.length := ⟨_, rfl⟩
  rw [← hn] at g1 C2
  have H := hide h
  have HW := hide hw
  have HL := hide hl
  have HN := hide hn
  clear h hw ha h1 h2 hn hl
  go_enter Try.func10, Try.ntmps10
  go_wp2_with fail
  refine C1.out.mono ?_
  rintro e w1 ⟨rfl, rfl⟩
  go_wp2_with fail
  refine C2.out.mono ?_
  rintro e w2 ⟨g', cap', rfl, ha2, hb2⟩
  have C3 := hide (least_any (HW.out.below hb2) ha2 rfl H.out.len H.out.few H.out.rows (fun a ha => by have := H.out.ats a ha; omega))
  rw [← HN.out] at C3
  have HB2 := hide hb2
  clear ha2 hb2 C2
  go_wp2_with fail
  refine C3.out.mono ?_
  rintro e w3 ⟨ob, rfl, hob, _, hb3⟩
  rw [HL.out] at hob
  cases ob with
  | some y => cases hob
  | none =>
    rw [show obv none = .slice none 0 0 from rfl, show Option.isSome (none : Option Hd) = false from rfl]
    have HB3 := hide (belFrom HB2.out hb3)
    clear hob hb3 C3
    go_wp2_with fail
    go_loopw [4, 6] (fun v4 v6 W => v4 = .int .i64 0 ∧ v6 = .bool false ∧ W = w3) (fun _ _ _ => 0)
    case atStart => exact ⟨rfl, rfl, rfl⟩
    case round =>
      obtain ⟨rfl, rfl, rfl⟩ := hrel
      go_wp2_with fail
      go_ret
      exact ⟨rfl, HB3.out⟩
end Go.Proofs.Yteiamfekdibkmaa
