/-
  THE WALKS of the small functions: bytes.Equal, bytes.Clone, bytes.HasPrefix, slices.Clone of deeds, the deeds' units and does. Conditions: as the theorems' premises say.
-/
import Derived.Test.YthkflglmgadlmaaProg
import Derived.Test.YthkflglmgadlmaaFW
import Derived.Test.YthkflglmgadlmaaApp2
import Derived.WalkKit
import Derived.WalkSpells
import Derived.WalkLawsBesides
import Derived.KernelRfl
namespace Go.Proofs.Ythkflglmgadlmaa
open Go.RowKit

theorem ret_bool {a b : Bool} (h : a = b) : Ending.returned (.bool a) = .returned (.bool b) := by rw [h]
theorem ret_int {k : IntKind} {a b : Int} (h : a = b) : Ending.returned (.int k a) = .returned (.int k b) := by rw [h]
theorem strOf_toList (l : List UInt8) : (strOf l).toList = l := ByteArray.toList_mk l

set_option maxHeartbeats 400000 in
theorem bytesEqual_any (A A' : Option Addr) (n c m d B B' : Nat) (l l' : List UInt8) (w : World) (h : Bs w B A n l) (h' : Bs w B' A' m l') :
    Calls Try.prog 16 #[.slice A n c, .slice A' m d] w fun e w' => e = .returned (.bool (l == l')) ∧ w = w' := by
  have k1 := conv_bytes (P := Try.prog) h c 22 5 9 Try.underlying22 Try.underlying5 Try.underlying9
  have k2 := conv_bytes (P := Try.prog) h' d 22 5 9 Try.underlying22 Try.underlying5 Try.underlying9
  clear h h'
  go_enter Try.func16, Try.ntmps16
  go_wp2
  go_ret
  exact ⟨ret_bool (by simp [strOf_toList]), rfl⟩

theorem u8_info : (Try.prog.info? 5).map (fun i => (i.zero, i.size, i.bytes)) = some (some (.int .u8 0), 1, 1) := by kernel_rfl
theorem dd_info : (Try.prog.info? 55).map (fun i => (i.zero, i.size, i.bytes)) = some (some .nilIface, 1, 16) := by kernel_rfl
theorem bv_one (l : List UInt8) : ∀ u ∈ l.map bv, u.oneCell' = true := by
  intro u hu
  obtain ⟨b, _, rfl⟩ := List.mem_map.1 hu
  rfl

set_option maxHeartbeats 400000 in
theorem bytesClone_any (A : Option Addr) (n c B : Nat) (l : List UInt8) (w : World) (h : Bs w B A n l) (hn : n ≤ 140737488355328) (hB : B ≤ w.heap.size) :
    Calls Try.prog 20 #[.slice A n c] w fun e w' => ∃ v, e = .returned v ∧ w'.ownsRow w.heap.size 5 1 v n (l.map bv) ∧ Below w.heap.size w w' := by
  obtain ⟨i0, hi, hz0, hz1, hz2⟩ := info_parts u8_info
  have q := fun (w : World) (a : Option Addr) (n c n' c' : Nat) => Lib.run_eql_slice_nil (P := Try.prog) w 22 5 a n c n' c' Try.underlying22
  rcases A with _ | ad
  · have hl : l = [] ∧ n = 0 := by
      rcases Nat.eq_zero_or_pos n with h0 | h0
      · exact ⟨List.eq_nil_of_length_eq_zero (by rw [h.len]; exact h0), h0⟩
      · obtain ⟨_, h1, _⟩ := h.addr (by simp [h.len]; omega)
        cases h1
    obtain ⟨rfl, rfl⟩ := hl
    clear h
    go_enter Try.func20, Try.ntmps20
    go_wp2
    go_ret
    exact ⟨_, rfl, ⟨by simp, .inl ⟨rfl, rfl⟩⟩, Below.refl _ _⟩
  · have h2 : Reads (w.alloc (.cells #[] 5)) B 1 (some ad) n (l.map bv) := Reads.alloc h hB _
    clear h
    go_enter Try.func20, Try.ntmps20
    go_wp2_with (at_builtin; refine wpList_append_any _ rfl (.tmp 5) (.tmp 6) 22 rfl w.heap.size 5 i0 _ 1 1 Try.underlying22 hi hz0 hz1 hz2 rfl (by omega) (.slice (some ⟨w.heap.size, 0, none⟩) 0 0) 0 [] rfl (World.ownsRow_made w #[] 0 (Nat.le_refl _) (Nat.zero_le _) rfl) B (some ad) n c (l.map bv) rfl h2 (bv_one l) (by unfold maxLen; omega) (by omega) (by simp) ?_; intro v1 w1 hown hg hat)
    go_ret
    exact ⟨v1, rfl, by simpa using hown, (bel1 _ _).grown hg (by simp) (by intro k hk; simp [Value.ownBlock] at hk; omega)⟩
/-- .. of bytes in a row of the call's own -/
theorem clone5 {base : Nat} {A : Option Addr} {c : Nat} {l : List UInt8} {w : World} (h : Own5 w base (.slice A l.length c) l) (hn : l.length ≤ 140737488355328) :
    Calls Try.prog 20 #[.slice A l.length c] w fun e w' => ∃ A' c', e = .returned (.slice A' l.length c') ∧ Own5 w' w.heap.size (.slice A' l.length c') l ∧ Below w.heap.size w w' := by
  refine (bytesClone_any A l.length c w.heap.size l w (Reads.of_own h) hn (Nat.le_refl _)).mono ?_
  rintro e w1 ⟨v, rfl, ho, hb⟩
  obtain ⟨A', c', rfl, _, _⟩ := own5_len ho
  exact ⟨A', c', rfl, ho, hb⟩

set_option maxHeartbeats 400000 in
theorem cloneDeeds_any (A : Option Addr) (n c base : Nat) (dv : List Value) (w : World) (h : w.ownsRow base 55 1 (.slice A n c) n dv) (h1 : ∀ u ∈ dv, u.oneCell' = true) (hn : n ≤ 1000000) :
    Calls Try.prog 24 #[.slice A n c] w fun e w' => ∃ v, e = .returned v ∧ w'.ownsRow w.heap.size 55 1 v n dv ∧ Below w.heap.size w w' := by
  obtain ⟨i0, hi, hz0, hz1, hz2⟩ := info_parts dd_info
  have q := fun (w : World) (a : Option Addr) (n c n' c' : Nat) => Lib.run_eql_slice_nil (P := Try.prog) w 49 55 a n c n' c' Try.underlying49
  have hr : Reads w w.heap.size 1 A n dv := Reads.of_own h
  have hl := h.1
  rw [Nat.mul_one] at hl
  clear h
  rcases A with _ | ad
  · have hl : dv = [] ∧ n = 0 := by
      rcases Nat.eq_zero_or_pos n with h0 | h0
      · exact ⟨List.eq_nil_of_length_eq_zero (by rw [hl]; exact h0), h0⟩
      · obtain ⟨_, h1, _⟩ := hr.addr (by omega)
        cases h1
    obtain ⟨rfl, rfl⟩ := hl
    clear hr
    go_enter Try.func24, Try.ntmps24
    go_wp2
    go_ret
    exact ⟨_, rfl, ⟨by simp, .inl ⟨rfl, rfl⟩⟩, Below.refl _ _⟩
  · have h2 : Reads (w.alloc (.cells #[] 55)) w.heap.size 1 (some ad) n dv := Reads.alloc hr (Nat.le_refl _) _
    have HL := hide hl
    have H1 := hide h1
    clear hr hl h1
    go_enter Try.func24, Try.ntmps24
    go_wp2_with (at_builtin; refine wpList_append_any _ rfl (.tmp 5) (.tmp 6) 49 rfl w.heap.size 55 i0 _ 1 16 Try.underlying49 hi hz0 hz1 hz2 rfl (by omega) (.slice (some ⟨w.heap.size, 0, none⟩) 0 0) 0 [] rfl (World.ownsRow_made w #[] 0 (Nat.le_refl _) (Nat.zero_le _) rfl) w.heap.size (some ad) n c dv rfl h2 H1.out (by unfold maxLen; omega) (by omega) (by simp) ?_; intro v1 w1 hown hg hat)
    go_ret
    exact ⟨v1, rfl, by simpa using hown, (bel1 _ _).grown hg (by simp) (by intro k hk; simp [Value.ownBlock] at hk; omega)⟩

set_option maxHeartbeats 400000 in
theorem addUnits_any (A : Option Addr) (n c : Nat) (w : World) : Calls Try.prog 43 #[.slice A n c] w fun e w' => e = .returned (.int .i64 n) ∧ w = w' := by
  go_enter Try.func43, Try.ntmps43
  go_wp2
  go_ret
  exact ⟨rfl, rfl⟩
set_option maxHeartbeats 400000 in
theorem cutUnits_any (c : Int) (w : World) : Calls Try.prog 45 #[.int .i64 c] w fun e w' => e = .returned (.int .i64 1) ∧ w = w' := by
  go_enter Try.func45, Try.ntmps45
  go_wp2
  go_ret
  exact ⟨rfl, rfl⟩
set_option maxHeartbeats 400000 in
theorem cutDoes_zero (c : Int) (v : Value) (w : World) : Calls Try.prog 44 #[.int .i64 c, v, .int .i64 0] w fun e w' => e = .returned v ∧ w = w' := by
  go_enter Try.func44, Try.ntmps44
  go_wp2
  go_ret
  exact ⟨rfl, rfl⟩
set_option maxHeartbeats 400000 in
theorem cutDoes_one (c n k : Nat) (A : Option Addr) (cap : Nat) (w : World) (hk : 0 < k) (hc : c ≤ cap) (_hcap : cap ≤ 9223372036854775807) : Calls Try.prog 44 #[.int .i64 c, .slice A n cap, .int .i64 k] w fun e w' => e = .returned (.slice A c cap) ∧ w = w' := by
  have hk0 : ((k : Int) == 0) = false := by simp; omega
  go_enter Try.func44, Try.ntmps44
  go_wp2
  go_ret
  exact ⟨rfl, rfl⟩

set_option maxHeartbeats 400000 in
theorem addDoes_any {base base' : Nat} (A : Option Addr) (c : Nat) (l : List UInt8) (v : Value) (b : List UInt8) (k : Nat) (w : World) (ha : Own5 w base' (.slice A l.length c) l) (hk : k ≤ l.length) (hb : Own5 w base v b) (hbs : base ≤ w.heap.size) (hl : b.length + l.length ≤ 1000000) :
    Calls Try.prog 42 #[.slice A l.length c, v, .int .i64 k] w fun e w' => ∃ A' c', e = .returned (.slice A' (b ++ l.take k).length c') ∧ Own5 w' base (.slice A' (b ++ l.take k).length c') (b ++ l.take k) ∧ w.grownBy w' v.ownBlock := by
  obtain ⟨i0, hi, hz0, hz1, hz2⟩ := info_parts u8_info
  obtain ⟨A0, c0, rfl, hbc, hbm⟩ := own5_len hb
  have hcap : l.length ≤ c ∧ c ≤ maxLen := by
    obtain ⟨_, _, e, h1, h2⟩ := own5_len ha
    cases e
    exact ⟨h1, h2⟩
  obtain ⟨hc1, hc2⟩ := hcap
  unfold maxLen at hc2 hbm
  have hra : Bs w w.heap.size A k (l.take k) := by
    have h1 : Reads w w.heap.size 1 A l.length (l.map bv) := Reads.of_own ha
    refine ⟨by simp; omega, fun j u hu => h1.2 j u ?_⟩
    rw [List.map_take, List.getElem?_take] at hu
    split at hu
    · exact hu
    · cases hu
  have hkc : k ≤ c := by omega
  have hlen : (b ++ l.take k).length = b.length + k := by simp; omega
  obtain ⟨n, hn⟩ : ∃ n, n = l.length := ⟨_, rfl⟩
  obtain ⟨m, hm⟩ : ∃ m, m = b.length := ⟨_, rfl⟩
  rw [← hn] at hk hl hc1 ⊢
  rw [← hm] at hl hbc ⊢
  have hb' : w.ownsRow base 5 1 (.slice A0 m c0) m (b.map bv) := by rw [hm]; exact hb
  have HN := hide hn
  have HM := hide hm
  have HLN := hide hlen
  clear hn hm ha hb hlen
  go_enter Try.func42, Try.ntmps42
  go_wp2_with (at_builtin; refine wpList_append_two _ rfl (.tmp 7) (.tmp 10) 22 61 5 rfl Try.underlying61 base 5 i0 _ 1 1 Try.underlying22 hi hz0 hz1 hz2 rfl (by omega) (.slice A0 m c0) m (b.map bv) rfl hb' w.heap.size A k c ((l.take k).map bv) rfl hra (bv_one _) (by unfold maxLen; omega) (by omega) hbs ?_; intro v1 w1 hown hg hat)
  have hown' : Own5 w1 base v1 (b ++ l.take k) := by
    show w1.ownsRow base 5 1 v1 (b ++ l.take k).length ((b ++ l.take k).map bv)
    rw [HLN.out, ← HM.out, List.map_append]
    exact hown
  obtain ⟨A', c', rfl, _, _⟩ := own5_len hown'
  go_ret
  exact ⟨A', c', rfl, hown', hg⟩
end Go.Proofs.Ythkflglmgadlmaa
