/-
  THE WALK of wakes: the document's examples.
-/
import Derived.Test.YtgeanonphjjgeaaValue
namespace Go.Proofs.Ytgeanonphjjgeaa
open Go.RowKit Go.Shelf

def wkA (k v : Nat) : Lk := ⟨1, 16, 2, 1, some ⟨k, 0, none⟩, 1, 1, some ⟨v, 0, none⟩, 1, 1, 0, 0, [97], [120]⟩
def wkB (k : Nat) : Lk := ⟨1, 60, 5, 2, some ⟨k, 0, none⟩, 1, 1, none, 0, 0, 1, 16, [97], []⟩

theorem wk_chain (k v k' : Nat) : chainL [wkA k v, wkB k'] [97] 1 60 1099511627777 = [(wkB k', true), (wkA k v, true)] := by
  rw [chainL_cons (by decide)]
  have e1 : linkRes [wkA k v, wkB k'] 1 60 [97] 1099511627777 = (wkB k', true) := by
    simp [linkRes, mayB, noneB, standsB, findAt, atLoc, wkA, wkB, holdsB]
  rw [e1]
  simp only [if_true]
  rw [chainL_cons (by simp [wkB, noneB])]
  have e2 : linkRes [wkA k v, wkB k'] (wkB k').ps (wkB k').po [97] (wkB k').seq = (wkA k v, true) := by
    simp [linkRes, mayB, noneB, standsB, findAt, atLoc, wkA, wkB, holdsB]
  rw [e2]
  simp only [if_true]
  rw [chainL_none (by simp [wkA, noneB])]
theorem wk_chainb (k v k' : Nat) : chainL [wkA k v, wkB k'] [98] 1 60 1099511627777 = [(wkB k', false)] := by
  rw [chainL_cons (by decide)]
  have e1 : linkRes [wkA k v, wkB k'] 1 60 [98] 1099511627777 = (wkB k', false) := by
    simp [linkRes, mayB, noneB, standsB, findAt, atLoc, wkA, wkB, holdsB]
  rw [e1]
  simp
theorem wk_9 (k v k' : Nat) : newestRes [wkA k v, wkB k'] 1 60 [97] 9 = (wkB k', 0) := by simp [newestRes, mayKeyB, wk_chain, findN]; simp [wkB]
theorem wk_4 (k v k' : Nat) : newestRes [wkA k v, wkB k'] 1 60 [97] 4 = (wkA k v, 0) := by simp [newestRes, mayKeyB, wk_chain, findN]; simp [wkA, wkB]
theorem wk_1 (k v k' : Nat) : newestRes [wkA k v, wkB k'] 1 60 [97] 1 = (Lk.zero, 6) := by simp [newestRes, mayKeyB, wk_chain, findN]; simp [wkA, wkB]
theorem wk_b (k v k' : Nat) : newestRes [wkA k v, wkB k'] 1 60 [98] 9 = (Lk.zero, 36) := by simp [newestRes, mayKeyB, wk_chainb, findN]
theorem wk_v4 (k v k' : Nat) : valueRes [wkA k v, wkB k'] 1 60 [97] 4 = ([120], 0) := by simp [valueRes, wk_4]; simp [wkA]
theorem wk_v9 (k v k' : Nat) : valueRes [wkA k v, wkB k'] 1 60 [97] 9 = ([], 6) := by simp [valueRes, wk_9]; simp [wkB]

theorem bs_one {w : World} {g : Nat} {b : UInt8} (h : Mk w g 5 #[.int .u8 b.toNat]) : Bs w (g + 1) (some ⟨g, 0, none⟩) 1 [b] := Reads.ofMk h rfl

/-- the world of the examples: the two locs, the row -/
structure WkW (w W : World) : Prop where
  below : Below w.heap.size w W
  a : Blk W w.heap.size 27 #[.int .u32 1, .int .u32 16]
  b : Blk W (w.heap.size + 1) 27 #[.int .u32 1, .int .u32 60]
  row : RowAt W (w.heap.size + 6) (some ⟨w.heap.size + 1 + 1 + 1 + 1 + 1, 0, none⟩) [wkA (w.heap.size + 1 + 1) (w.heap.size + 1 + 1 + 1), wkB (w.heap.size + 1 + 1 + 1 + 1)]
  size : w.heap.size + 6 ≤ W.heap.size
theorem WkW.step {w W W' : World} (h : WkW w W) (hb : Below W.heap.size W W') : WkW w W' := by
  have hs := h.size
  exact ⟨belFrom h.below hb, h.a.below hb (by omega), h.b.below hb (by omega), h.row.below (hb.mono hs), Nat.le_trans hs hb.size⟩
theorem WkW.newest {w W : World} (h : WkW w W) (sN : Int) (b : UInt8) (k : Nat) (hk : W.heap.size = k) :
    Calls Try.prog 8 #[.iface 23 (.slice (some ⟨w.heap.size + 1 + 1 + 1 + 1 + 1, 0, none⟩) 2 2), .agg #[.int .u32 1, .int .u32 60], .slice (some ⟨k, 0, none⟩) 1 1, .int .u64 sN] (W.alloc (.cells #[.int .u8 b.toNat] 5 (1, 2))) fun e w' =>
      e = .returned (.tuple #[linkV (newestRes [wkA (w.heap.size + 1 + 1) (w.heap.size + 1 + 1 + 1), wkB (w.heap.size + 1 + 1 + 1 + 1)] 1 60 [b] sN).1, .int .i64 (newestRes [wkA (w.heap.size + 1 + 1) (w.heap.size + 1 + 1 + 1), wkB (w.heap.size + 1 + 1 + 1 + 1)] 1 60 [b] sN).2]) ∧ WkW w w' ∧ Below W.heap.size W w' := by
  subst hk
  have hs := h.size
  refine (newest_row 1 60 sN _ _ [wkA (w.heap.size + 1 + 1) (w.heap.size + 1 + 1 + 1), wkB (w.heap.size + 1 + 1 + 1 + 1)] (W.alloc (.cells #[.int .u8 b.toNat] 5 (1, 2))).heap.size 2 1 1 [b] (by simp) _ (Nat.le_refl _) ((h.row.below ((bel1 W _).mono hs)).more (by simp; omega)) ((bs_one (b := b) (Mk.new W 5 _ _)).more (by simp)) (by omega)).mono ?_
  rintro e w1 ⟨rfl, hb⟩
  have hbw := belFrom (bel1 W _) hb
  exact ⟨rfl, h.step hbw, hbw⟩
theorem WkW.value {w W : World} (h : WkW w W) (sN : Int) (b : UInt8) (k : Nat) (hk : W.heap.size = k) :
    Calls Try.prog 12 #[.iface 23 (.slice (some ⟨w.heap.size + 1 + 1 + 1 + 1 + 1, 0, none⟩) 2 2), .agg #[.int .u32 1, .int .u32 60], .slice (some ⟨k, 0, none⟩) 1 1, .int .u64 sN] (W.alloc (.cells #[.int .u8 b.toNat] 5 (1, 2))) fun e w' =>
      ∃ A c, e = .returned (.tuple #[.slice A (valueRes [wkA (w.heap.size + 1 + 1) (w.heap.size + 1 + 1 + 1), wkB (w.heap.size + 1 + 1 + 1 + 1)] 1 60 [b] sN).1.length c, .int .i64 (valueRes [wkA (w.heap.size + 1 + 1) (w.heap.size + 1 + 1 + 1), wkB (w.heap.size + 1 + 1 + 1 + 1)] 1 60 [b] sN).2]) ∧ Bs w' w'.heap.size A (valueRes [wkA (w.heap.size + 1 + 1) (w.heap.size + 1 + 1 + 1), wkB (w.heap.size + 1 + 1 + 1 + 1)] 1 60 [b] sN).1.length (valueRes [wkA (w.heap.size + 1 + 1) (w.heap.size + 1 + 1 + 1), wkB (w.heap.size + 1 + 1 + 1 + 1)] 1 60 [b] sN).1 ∧ WkW w w' ∧ Below W.heap.size W w' := by
  subst hk
  have hs := h.size
  refine (value_row 1 60 sN _ _ [wkA (w.heap.size + 1 + 1) (w.heap.size + 1 + 1 + 1), wkB (w.heap.size + 1 + 1 + 1 + 1)] (W.alloc (.cells #[.int .u8 b.toNat] 5 (1, 2))).heap.size 2 1 1 [b] (by simp) _ (Nat.le_refl _) ((h.row.below ((bel1 W _).mono hs)).more (by simp; omega)) ((bs_one (b := b) (Mk.new W 5 _ _)).more (by simp)) (by omega) ?_).mono ?_
  · intro x hx
    rcases List.mem_cons.1 hx with rfl | hx
    · simp [wkA]
    · rcases List.mem_cons.1 hx with rfl | hx
      · simp [wkB]
      · cases hx
  rintro e w1 ⟨v, rfl, hown, hb⟩
  have hbw := belFrom (bel1 W _) hb
  obtain ⟨A, c, rfl⟩ := own_slice hown
  exact ⟨A, c, rfl, Reads.of_own hown, h.step hbw, hbw⟩

set_option maxRecDepth 100000 in
set_option maxHeartbeats 1000000 in
theorem wakes_any (w : World) : Calls Try.prog 16 #[] w fun e w' => e = .returned (.bool true) ∧ Below w.heap.size w w' := by
  have kc := run_conv_const (P := Try.prog) 24 5 Try.underlying24 Try.underlying5
  go_enter Try.func16, Try.ntmps16
  go_wp2_with fail
  obtain ⟨W0, hW0⟩ : ∃ W0, ((((((w.alloc (.cells #[.int .u32 1, .int .u32 16] 27)).alloc (.cells #[.int .u32 1, .int .u32 60] 27)).alloc (.cells #[.int .u8 97] 5 (1, 2))).alloc (.cells #[.int .u8 120] 5 (1, 2))).alloc (.cells #[.int .u8 97] 5 (1, 2))).alloc
          (.cells #[.int .u32 1, .int .u32 16, .int .u64 2, .int .i64 1, .slice (some ⟨w.heap.size + 1 + 1, 0, none⟩) 1 1, .slice (some ⟨w.heap.size + 1 + 1 + 1, 0, none⟩) 1 1, .int .u32 0, .int .u32 0, .int .u32 1, .int .u32 60, .int .u64 5, .int .i64 2, .slice (some ⟨w.heap.size + 1 + 1 + 1 + 1, 0, none⟩) 1 1, .slice none 0 0, .int .u32 1, .int .u32 16] 35)) = W0 := ⟨_, rfl⟩
  have hsz : W0.heap.size = w.heap.size + 6 := by rw [← hW0]; simp
  have hb0 : Below w.heap.size w W0 := by rw [← hW0]; exact balloc (balloc (balloc (bel3 w _ _ _) _) _) _
  have Ba : Blk W0 w.heap.size 27 #[.int .u32 1, .int .u32 16] := by rw [← hW0]; exact (((((Blk.newAt rfl).alloc _).alloc _).alloc _).alloc _).alloc _
  have Bb : Blk W0 (w.heap.size + 1) 27 #[.int .u32 1, .int .u32 60] := by rw [← hW0]; exact ((((Blk.newAt (by simp)).alloc _).alloc _).alloc _).alloc _
  have hrow : RowAt W0 W0.heap.size (some ⟨w.heap.size + 1 + 1 + 1 + 1 + 1, 0, none⟩) [wkA (w.heap.size + 1 + 1) (w.heap.size + 1 + 1 + 1), wkB (w.heap.size + 1 + 1 + 1 + 1)] := by
    have m1 : Mk W0 (w.heap.size + 1 + 1) 5 #[.int .u8 97] := by rw [← hW0]; exact (((Mk.newAt (by simp)).alloc _).alloc _).alloc _
    have m2 : Mk W0 (w.heap.size + 1 + 1 + 1) 5 #[.int .u8 120] := by rw [← hW0]; exact ((Mk.newAt (by simp)).alloc _).alloc _
    have m3 : Mk W0 (w.heap.size + 1 + 1 + 1 + 1) 5 #[.int .u8 97] := by rw [← hW0]; exact (Mk.newAt (by simp)).alloc _
    refine ⟨?_, ?_, ?_⟩
    · refine (Reads.ofMk (t := 35) ?_ rfl).more (by omega)
      rw [← hW0]
      exact Mk.newAt (by simp)
    · intro x hx
      rcases List.mem_cons.1 hx with rfl | hx
      · exact (bs_one (b := 97) m1).more (by omega)
      · rcases List.mem_cons.1 hx with rfl | hx
        · exact (bs_one (b := 97) m3).more (by omega)
        · cases hx
    · intro x hx
      rcases List.mem_cons.1 hx with rfl | hx
      · exact (bs_one (b := 120) m2).more (by omega)
      · rcases List.mem_cons.1 hx with rfl | hx
        · exact Reads.none_
        · cases hx
  rw [hW0]
  clear hW0
  have H0 : WkW w W0 := ⟨hb0, Ba, Bb, hrow.more (by omega), by omega⟩
  have hk0 : w.heap.size + 1 + 1 + 1 + 1 + 1 + 1 = W0.heap.size := hsz.symm
  rw [hk0]
  clear hk0 hb0 Ba Bb hrow hsz
  refine (H0.newest 9 97 _ rfl).mono ?_
  rintro e w1 ⟨rfl, H1, _⟩
  clear H0
  obtain ⟨cb, fb, sb⟩ := H1.b.facts
  rw [wk_9]
  simp only [linkV, Lk.cs, wkB]
  go_wp2_with fail
  refine ((H1.step (bel1 w1 _)).newest 4 97 _ (by simp)).mono ?_
  rintro e w2 ⟨rfl, H2, hb⟩
  have X4 := (Blk.new w1 35 _).below hb (by simp)
  clear H1 cb fb sb hb
  obtain ⟨cb, fb, sb⟩ := H2.b.facts
  rw [wk_4]
  simp only [linkV, Lk.cs, wkA]
  go_wp2_with fail
  refine ((H2.step (bel1 w2 _)).newest 1 97 _ (by simp)).mono ?_
  rintro e w3 ⟨rfl, H3, hb⟩
  have X6 := (Blk.new w2 35 _).below hb (by simp)
  replace X4 := (X4.alloc _).below hb (by have := X4.lt; simp; omega)
  clear H2 cb fb sb hb
  obtain ⟨cb, fb, sb⟩ := H3.b.facts
  rw [wk_1]
  simp only [linkV, Lk.cs, Lk.zero]
  go_wp2_with fail
  refine ((H3.step (bel1 w3 _)).value 4 97 _ (by simp)).mono ?_
  rintro e w4 ⟨Av, cv, rfl, hv, H4, hb⟩
  replace X4 := (X4.alloc _).below hb (by have := X4.lt; simp; omega)
  replace X6 := (X6.alloc _).below hb (by have := X6.lt; simp; omega)
  clear H3 cb fb sb hb
  obtain ⟨cb, fb, sb⟩ := H4.b.facts
  simp only [wk_v4] at hv ⊢
  go_wp2_with fail
  refine (H4.value 9 97 _ (by simp)).mono ?_
  rintro e w5 ⟨Av', cv', rfl, _, H5, hb⟩
  replace X4 := X4.below hb X4.lt
  replace X6 := X6.below hb X6.lt
  replace hv := (hv.below hb)
  have hs5 := hb.size
  clear H4 cb fb sb hb
  obtain ⟨cb, fb, sb⟩ := H5.b.facts
  simp only [wk_v9]
  go_wp2_with fail
  refine (H5.newest 9 98 _ (by simp)).mono ?_
  rintro e w6 ⟨rfl, H6, hb⟩
  replace X4 := X4.below hb X4.lt
  replace X6 := X6.below hb X6.lt
  replace hv := (hv.below (hb.mono hs5))
  have hs6 := hb.size
  clear H5 cb fb sb hb
  rw [wk_b]
  simp only [linkV, Lk.cs, Lk.zero]
  obtain ⟨c4, f4, s4⟩ := X4.facts
  obtain ⟨c6, f6, s6⟩ := X6.facts
  obtain ⟨ca, fa, sa⟩ := H6.a.facts
  have hcv := conv_bytes (P := Try.prog) (hv.alloc (by omega) (.cells #[.int .u32 0, .int .u32 0, .int .u64 0, .int .i64 0, .slice none 0 0, .slice none 0 0, .int .u32 0, .int .u32 0] 35)) cv 24 5 9 Try.underlying24 Try.underlying5 Try.underlying9
  clear hv X4 X6
  simp only [List.length_cons, List.length_nil, Nat.zero_add] at hcv
  have hst : (strOf [120]).toList = [120] := strOf_toList _
  go_wp2_with fail
  go_ret
  exact ⟨rfl, balloc H6.below _⟩
end Go.Proofs.Ytgeanonphjjgeaa
