/-
  THE WALKS of the small functions: whether a key, a loc may be; bytes.Equal, bytes.Clone; whether two records are the same.
-/
import Derived.Test.YtgeanonphjjgeaaProg
import Derived.Test.YtgeanonphjjgeaaDef
import Derived.WalkKit
import Derived.WalkSpells
import Derived.WalkLawsBesides
import Derived.KernelRfl
namespace Go.Proofs.Ytgeanonphjjgeaa
open Go.RowKit

theorem ret_bool {a b : Bool} (h : a = b) : Ending.returned (.bool a) = .returned (.bool b) := by rw [h]
theorem ret_boolI {a b : Bool} (h : a = true ↔ b = true) : Ending.returned (.bool a) = .returned (.bool b) := by rw [Bool.eq_iff_iff.2 h]

set_option maxHeartbeats 400000 in
theorem keyMay_any (A : Option Addr) (n c : Nat) (w : World) (hn : n ≤ 9223372036854775807) :
    Calls Try.prog 23 #[.slice A n c] w fun e w' => e = .returned (.bool (mayKeyB n)) ∧ w = w' := by
  go_enter Try.func23, Try.ntmps23
  go_wp2
  all_goals
    go_ret
    exact ⟨ret_boolI (by simp [mayKeyB]; omega), rfl⟩

set_option maxHeartbeats 400000 in
theorem refMayKey_any (A : Option Addr) (n c : Nat) (w : World) (hn : n ≤ 9223372036854775807) :
    Calls Try.prog 20 #[.slice A n c] w fun e w' => e = .returned (.bool (mayKeyB n)) ∧ w = w' := by
  go_enter Try.func20, Try.ntmps20
  go_wp2
  all_goals
    go_ret
    exact ⟨ret_boolI (by simp [mayKeyB]; omega), rfl⟩

set_option maxHeartbeats 400000 in
theorem locNone_any (s o : Int) (w : World) :
    Calls Try.prog 25 #[.agg #[.int .u32 s, .int .u32 o]] w fun e w' => e = .returned (.bool (noneB s o)) ∧ Below w.heap.size w w' := by
  go_enter Try.func25, Try.ntmps25
  go_wp2
  all_goals
    go_ret
    exact ⟨ret_boolI (by simp [noneB, *]), bel1 _ _⟩

set_option maxHeartbeats 400000 in
theorem refNone_any (s o : Int) (w : World) :
    Calls Try.prog 27 #[.agg #[.int .u32 s, .int .u32 o]] w fun e w' => e = .returned (.bool (noneB s o)) ∧ Below w.heap.size w w' := by
  go_enter Try.func27, Try.ntmps27
  go_wp2
  all_goals
    go_ret
    exact ⟨ret_boolI (by simp [noneB, *]), bel1 _ _⟩

set_option maxHeartbeats 400000 in
theorem stands_any (s o : Int) (w : World) :
    Calls Try.prog 31 #[.agg #[.int .u32 s, .int .u32 o]] w fun e w' => e = .returned (.bool (standsB s o)) ∧ Below w.heap.size w w' := by
  go_enter Try.func31, Try.ntmps31
  go_wp2
  all_goals
    go_ret
    exact ⟨ret_boolI (by simp [standsB]; omega), bel1 _ _⟩

set_option maxHeartbeats 400000 in
theorem refMay_any (s o : Int) (w : World) :
    Calls Try.prog 29 #[.agg #[.int .u32 s, .int .u32 o]] w fun e w' => e = .returned (.bool (standsB s o)) ∧ Below w.heap.size w w' := by
  go_enter Try.func29, Try.ntmps29
  go_wp2
  all_goals
    go_ret
    exact ⟨ret_boolI (by simp [standsB]; omega), bel1 _ _⟩

set_option maxHeartbeats 400000 in
theorem locMay_any (s o : Int) (w : World) :
    Calls Try.prog 30 #[.agg #[.int .u32 s, .int .u32 o]] w fun e w' => e = .returned (.bool (mayB s o)) ∧ Below w.heap.size w w' := by
  go_enter Try.func30, Try.ntmps30
  go_wp2_with fail
  refine (locNone_any s o _).mono ?_
  rintro e w1 ⟨rfl, hb⟩
  have hb' : Below w.heap.size w w1 := ((Below.refl _ _).alloc (Nat.le_refl _) _).trans (hb.mono (by simp))
  have hs : w.heap.size < w1.heap.size := by have := hb.size; simp at this; omega
  have c0 := hb.cell (p := ⟨w.heap.size, 0, none⟩) (by simp)
  have c1 := hb.cell (p := ⟨w.heap.size, 1, none⟩) (by simp)
  simp at c0 c1
  clear hb
  cases hN : noneB s o with
  | true =>
    have HN := hide hN
    clear hN
    go_wp2_with fail
    go_ret
    exact ⟨ret_bool (by simp [mayB, unhide HN]), hb'⟩
  | false =>
    have HN := hide hN
    clear hN
    go_wp2_with fail
    refine (stands_any s o _).mono ?_
    rintro e w2 ⟨rfl, hb2⟩
    go_wp2_with fail
    go_ret
    exact ⟨ret_bool (by simp [mayB, unhide HN]), hb'.trans (hb2.mono (by omega))⟩

theorem strOf_toList (l : List UInt8) : (strOf l).toList = l := ByteArray.toList_mk l

set_option maxHeartbeats 400000 in
theorem bytesEqual_any (A A' : Option Addr) (n c m d B B' : Nat) (l l' : List UInt8) (w : World) (h : Bs w B A n l) (h' : Bs w B' A' m l') :
    Calls Try.prog 15 #[.slice A n c, .slice A' m d] w fun e w' => e = .returned (.bool (l == l')) ∧ w = w' := by
  have k1 := conv_bytes (P := Try.prog) h c 24 5 9 Try.underlying24 Try.underlying5 Try.underlying9
  have k2 := conv_bytes (P := Try.prog) h' d 24 5 9 Try.underlying24 Try.underlying5 Try.underlying9
  clear h h'
  go_enter Try.func15, Try.ntmps15
  go_wp2
  go_ret
  exact ⟨ret_bool (by simp [strOf_toList]), rfl⟩

theorem u8_info : (Try.prog.info? 5).map (fun i => (i.zero, i.size, i.bytes)) = some (some (.int .u8 0), 1, 1) := by kernel_rfl
theorem bv_one (l : List UInt8) : ∀ u ∈ l.map bv, u.oneCell' = true := by
  intro u hu
  obtain ⟨b, _, rfl⟩ := List.mem_map.1 hu
  rfl

set_option maxHeartbeats 400000 in
theorem bytesClone_any (A : Option Addr) (n c B : Nat) (l : List UInt8) (w : World) (h : Bs w B A n l) (hn : n ≤ 140737488355328) (hB : B ≤ w.heap.size) :
    Calls Try.prog 22 #[.slice A n c] w fun e w' => ∃ v, e = .returned v ∧ w'.ownsRow w.heap.size 5 1 v n (l.map bv) ∧ Below w.heap.size w w' := by
  obtain ⟨i0, hi, hz0, hz1, hz2⟩ := info_parts u8_info
  have q := fun (w : World) (a : Option Addr) (n c n' c' : Nat) => Lib.run_eql_slice_nil (P := Try.prog) w 24 5 a n c n' c' Try.underlying24
  rcases A with _ | ad
  · have hl : l = [] ∧ n = 0 := by
      rcases Nat.eq_zero_or_pos n with h0 | h0
      · exact ⟨List.eq_nil_of_length_eq_zero (by rw [h.len]; exact h0), h0⟩
      · obtain ⟨_, h1, _⟩ := h.addr (by simp [h.len]; omega)
        cases h1
    obtain ⟨rfl, rfl⟩ := hl
    clear h
    go_enter Try.func22, Try.ntmps22
    go_wp2
    go_ret
    exact ⟨_, rfl, ⟨by simp, .inl ⟨rfl, rfl⟩⟩, Below.refl _ _⟩
  · have h2 : Reads (w.alloc (.cells #[] 5)) B 1 (some ad) n (l.map bv) := Reads.alloc h hB _
    clear h
    go_enter Try.func22, Try.ntmps22
    go_wp2_with (at_builtin; refine wpList_append_any _ rfl (.tmp 5) (.tmp 6) 24 rfl w.heap.size 5 i0 _ 1 1 Try.underlying24 hi hz0 hz1 hz2 rfl (by omega) (.slice (some ⟨w.heap.size, 0, none⟩) 0 0) 0 [] rfl (World.ownsRow_made w #[] 0 (Nat.le_refl _) (Nat.zero_le _) rfl) B (some ad) n c (l.map bv) rfl h2 (bv_one l) (by unfold maxLen; omega) (by omega) (by simp) ?_; intro v1 w1 hown hg hat)
    go_ret
    exact ⟨v1, rfl, by simpa using hown, (bel1 _ _).grown hg (by simp) (by intro k hk; simp [Value.ownBlock] at hk; omega)⟩
end Go.Proofs.Ytgeanonphjjgeaa
