/-
  THE WALKS of asks and link: what is wrong with a call; the link at a loc.
-/
import Derived.Test.YtgeanonphjjgeaaSmall
import Derived.Test.YtgeanonphjjgeaaAt
namespace Go.Proofs.Ytgeanonphjjgeaa
open Go.RowKit

theorem ret_int {k : IntKind} {a b : Int} (h : a = b) : Ending.returned (.int k a) = .returned (.int k b) := by rw [h]
def asksI (n : Nat) : Int := if mayKeyB n then 0 else 30

set_option maxHeartbeats 400000 in
theorem asks_row (v : Value) (A : Option Addr) (n c : Nat) (w : World) (hn : n ≤ 9223372036854775807) :
    Calls Try.prog 18 #[.iface 23 v, .slice A n c] w fun e w' => e = .returned (.int .i64 (asksI n)) ∧ w = w' := by
  cases hk : mayKeyB n with
  | true =>
    have HK := hide hk
    clear hk
    go_enter Try.func18, Try.ntmps18
    go_wp2_with fail
    refine (keyMay_any A n c _ hn).mono ?_
    rintro e w1 ⟨rfl, rfl⟩
    rw [unhide HK]
    go_wp2_with fail
    go_ret
    exact ⟨ret_int (by simp [asksI, unhide HK]), rfl⟩
  | false =>
    have HK := hide hk
    clear hk
    go_enter Try.func18, Try.ntmps18
    go_wp2_with fail
    refine (keyMay_any A n c _ hn).mono ?_
    rintro e w1 ⟨rfl, rfl⟩
    rw [unhide HK]
    go_wp2_with fail
    go_ret
    exact ⟨ret_int (by simp [asksI, unhide HK]), rfl⟩

theorem asks_nil (A : Option Addr) (n c : Nat) (w : World) :
    Calls Try.prog 18 #[.nilIface, .slice A n c] w fun e w' => e = .returned (.int .i64 2) ∧ w = w' := by
  go_enter Try.func18, Try.ntmps18
  go_wp2_with fail
  go_ret
  exact ⟨rfl, rfl⟩

theorem method_at (A : Option Addr) (n c : Nat) (w : World) : (method 198 23 (.slice A n c) "At").run Try.prog w = .ok (47, .slice A n c) w := by kernel_rfl

set_option maxHeartbeats 400000 in
theorem link_may (s o : Int) (A kA : Option Addr) (xs : List Lk) (B c kn kc : Nat) (kb : List UInt8) (below : Int) (hn : xs.length ≤ 1000000) (w : World) (hB : B ≤ w.heap.size) (hr : RowAt w B A xs) (hk : Bs w B kA kn kb)
   (hm : mayB s o = true) :
    Calls Try.prog 26 #[.iface 23 (.slice A xs.length c), .agg #[.int .u32 s, .int .u32 o], .slice kA kn kc, .int .u64 below] w fun e w' =>
      e = .returned (.tuple #[.agg (linkRes xs s o kb below).1.cs.toArray, .bool (linkRes xs s o kb below).2]) ∧ Below w.heap.size w w' := by
  have HM := hide hm
  clear hm
  have mm := method_at A xs.length c
  go_enter Try.func26, Try.ntmps26
  go_wp2_with fail
  refine (locMay_any s o _).mono ?_
  rintro e w1 ⟨rfl, hb⟩
  have hb1 := belFrom (bel2 w _ _) hb
  have B1 : Blk w1 w.heap.size 27 _ := ((Blk.new w 27 _).alloc _).below hb (by simp; omega)
  have B2 : Blk w1 (w.heap.size + 1) 35 _ := (Blk.new1 w 35 _ _).below hb (by simp)
  obtain ⟨c1, f1, s1⟩ := B1.facts
  obtain ⟨c2, f2, s2⟩ := B2.facts
  clear hb
  rw [unhide HM]
  go_wp2_with fail
  refine (at_any s o A xs B c hn w1 (by omega) (hr.below (hb1.mono hB))).mono ?_
  rintro e w2 ⟨rfl, hb⟩
  have hb2 := belFrom hb1 hb
  replace B1 := B1.below hb s1
  replace B2 := B2.below hb s2
  have hk2 : Bs w2 B kA kn kb := hk.below (hb2.mono hB)
  have hr2 := hr.below (hb2.mono hB)
  clear hb hb1 c1 f1 s1 c2 f2 s2 hk hr
  obtain ⟨c1, f1, s1⟩ := B1.facts
  obtain ⟨c2, f2, s2⟩ := B2.facts
  have fin : Hid (linkRes xs s o kb below = match findAt xs s o with | some x => (x, holdsB kb below x) | none => ({ Lk.zero with seg := s, off := o }, false)) := by
    show linkRes xs s o kb below = _
    unfold linkRes
    rw [if_pos (unhide HM)]
    rfl
  cases hf : findAt xs s o with
  | none =>
    rw [hf] at fin
    have ha : atRes xs s o = .tuple #[recV Lk.zero, .int .i64 6] := by simp [atRes, hf]
    rw [ha]
    simp only [recV, Lk.zero]
    clear ha hf
    go_wp2_with fail
    refine bodyPost_ret (results_row_tmp (ty := 35) rfl _ _ (w.heap.size + 1) 35 _ _ rfl ((B2.set8 _ _ _ _ _ _ _ _).alloc _) Try.underlying35 rfl (by kernel_rfl)) rfl ⟨?_, ?_⟩
    · rw [fin.out]; rfl
    · exact balloc (bset8 hb2 (by omega) _ _ _ _ _ _ _ _) _
  | some x =>
    rw [hf] at fin
    have ha : atRes xs s o = .tuple #[recV x, .int .i64 0] := by simp [atRes, hf]
    have hx : x ∈ xs := List.mem_of_find?_eq_some hf
    have hp := List.find?_some hf
    have hso : x.seg = s ∧ x.off = o := by simpa [atLoc] using hp
    have HSO := hide hso
    have hxk := (hr2.keys x hx).more hB
    rw [ha]
    simp only [recV]
    clear ha hf hp hso
    go_wp2_with fail
    refine (bytesEqual_any x.kA kA x.kn x.kc kn kc _ _ x.kb kb _ ((hr2.keys x hx).alloc (by omega) _) (hk2.alloc (by omega) _)).mono ?_
    rintro e w3 ⟨rfl, rfl⟩
    cases hq : (x.kb == kb) with
    | false =>
      have HQ := hide hq
      clear hq
      go_wp2_with fail
      refine bodyPost_ret (results_row_tmp (ty := 35) rfl _ _ (w.heap.size + 1) 35 _ _ rfl ((B2.set8 _ _ _ _ _ _ _ _).alloc _) Try.underlying35 rfl (by kernel_rfl)) rfl ⟨?_, ?_⟩
      · rw [fin.out, ← (unhide HSO).1, ← (unhide HSO).2]; simp [holdsB, unhide HQ, Lk.cs]
      · exact balloc (bset8 hb2 (by omega) _ _ _ _ _ _ _ _) _
    | true =>
      have HQ := hide hq
      clear hq
      go_wp2_with fail
      all_goals
        refine bodyPost_ret (results_row_tmp (ty := 35) rfl _ _ (w.heap.size + 1) 35 _ _ rfl ((B2.set8 _ _ _ _ _ _ _ _).alloc _) Try.underlying35 rfl (by kernel_rfl)) rfl ⟨?_, ?_⟩
        · rw [fin.out, ← (unhide HSO).1, ← (unhide HSO).2]; simp [holdsB, unhide HQ, Lk.cs, *] <;> (intros; omega)
        · exact balloc (bset8 hb2 (by omega) _ _ _ _ _ _ _ _) _

set_option maxHeartbeats 400000 in
theorem link_no (r : Value) (s o : Int) (K : Value) (xs : List Lk) (kb : List UInt8) (below : Int) (w : World) (hm : mayB s o = false) :
    Calls Try.prog 26 #[r, .agg #[.int .u32 s, .int .u32 o], K, .int .u64 below] w fun e w' =>
      e = .returned (.tuple #[.agg (linkRes xs s o kb below).1.cs.toArray, .bool (linkRes xs s o kb below).2]) ∧ Below w.heap.size w w' := by
  have HM := hide hm
  clear hm
  go_enter Try.func26, Try.ntmps26
  go_wp2_with fail
  refine (locMay_any s o _).mono ?_
  rintro e w1 ⟨rfl, hb⟩
  have hb1 := belFrom (bel2 w _ _) hb
  have B1 : Blk w1 w.heap.size 27 _ := ((Blk.new w 27 _).alloc _).below hb (by simp; omega)
  have B2 : Blk w1 (w.heap.size + 1) 35 _ := (Blk.new1 w 35 _ _).below hb (by simp)
  obtain ⟨c1, f1, s1⟩ := B1.facts
  obtain ⟨c2, f2, s2⟩ := B2.facts
  clear hb
  rw [unhide HM]
  go_wp2_with fail
  refine bodyPost_ret (results_row_tmp (ty := 35) rfl _ _ (w.heap.size + 1) 35 _ _ rfl (B2.set8 _ _ _ _ _ _ _ _) Try.underlying35 rfl (by kernel_rfl)) rfl ⟨?_, ?_⟩
  · simp [linkRes, unhide HM, Lk.zero, Lk.cs]
  · exact bset8 hb1 (by omega) _ _ _ _ _ _ _ _

theorem link_any (s o : Int) (A kA : Option Addr) (xs : List Lk) (B c kn kc : Nat) (kb : List UInt8) (below : Int) (hn : xs.length ≤ 1000000) (w : World) (hB : B ≤ w.heap.size) (hr : RowAt w B A xs) (hk : Bs w B kA kn kb) :
    Calls Try.prog 26 #[.iface 23 (.slice A xs.length c), .agg #[.int .u32 s, .int .u32 o], .slice kA kn kc, .int .u64 below] w fun e w' =>
      e = .returned (.tuple #[.agg (linkRes xs s o kb below).1.cs.toArray, .bool (linkRes xs s o kb below).2]) ∧ Below w.heap.size w w' := by
  cases hm : mayB s o with
  | true => exact link_may s o A kA xs B c kn kc kb below hn w hB hr hk hm
  | false => exact link_no _ s o _ xs kb below w hm
end Go.Proofs.Ytgeanonphjjgeaa
