/-
  THE WALK of Row.At: what stands at a loc, the first one of the row.
-/
import Derived.Test.YtgeanonphjjgeaaProg
import Derived.Test.YtgeanonphjjgeaaDef
import Derived.WalkKit
import Derived.WalkSpells
import Derived.WalkLawsBesides
import Derived.KernelRfl
namespace Go.Proofs.Ytgeanonphjjgeaa
open Go.RowKit

/-- what At hands back -/
def recV (x : Lk) : Value := .agg #[.int .u64 x.seq, .int .i64 x.kind, .slice x.kA x.kn x.kc, .slice x.vA x.vn x.vc, .int .u32 x.ps, .int .u32 x.po]
def atRes (xs : List Lk) (s o : Int) : Value :=
  match findAt xs s o with
  | some x => .tuple #[recV x, .int .i64 0]
  | none => .tuple #[recV Lk.zero, .int .i64 6]

set_option maxHeartbeats 400000 in
theorem at_any (s o : Int) (A : Option Addr) (xs : List Lk) (B c : Nat) (hn : xs.length ≤ 1000000) (w : World) (hB : B ≤ w.heap.size) (hr : RowAt w B A xs) :
    Calls Try.prog 47 #[.slice A xs.length c, .agg #[.int .u32 s, .int .u32 o]] w fun e w' => e = .returned (atRes xs s o) ∧ Below w.heap.size w w' := by
  go_enter Try.func47, Try.ntmps47
  go_wp2
  go_loopw [7, 10] (fun x i wr => ∃ k : Nat, k ≤ xs.length ∧ i = .int .i64 k ∧ Hid ((xs.take k).find? (atLoc s o) = none) ∧ Below w.heap.size w wr ∧
      Blk wr w.heap.size 27 #[.int .u32 s, .int .u32 o] ∧ Blk wr (w.heap.size + 1) 33 #[.int .u64 0, .int .i64 0, .slice none 0 0, .slice none 0 0, .int .u32 0, .int .u32 0])
     (fun _ i _ => xs.length - (intOf i).toNat)
  case atStart => 
    refine ⟨0, Nat.zero_le _, rfl, by simp [Hid], ?_, ?_, ?_⟩
    · exact ((Below.refl _ _).alloc (Nat.le_refl _) _).alloc (by simp) _
    · exact (Blk.new _ _ _).alloc _
    · have := Blk.new (w.alloc (Obj.cells #[.int .u32 s, .int .u32 o] 27)) 33 #[.int .u64 0, .int .i64 0, .slice none 0 0, .slice none 0 0, .int .u32 0, .int .u32 0]
      simpa using this
  case round =>
    obtain ⟨k, hk, rfl, hf, hb, hb1, hb2⟩ := hrel
    have hsz := hb2.lt
    have hsz0 : w.heap.size < wr.heap.size := by omega
    have f20 := hb2.frozen 0
    have f21 := hb2.frozen 1
    have f22 := hb2.frozen 2
    have f23 := hb2.frozen 3
    have f24 := hb2.frozen 4
    have f25 := hb2.frozen 5
    have c10 := hb1.cell 0
    have c11 := hb1.cell 1
    have c20 := hb2.cell 0
    have c21 := hb2.cell 1
    have c22 := hb2.cell 2
    have c23 := hb2.cell 3
    have c24 := hb2.cell 4
    have c25 := hb2.cell 5
    simp at c10 c11 c20 c21 c22 c23 c24 c25
    by_cases hlt : k < xs.length
    · obtain ⟨ad, x, rfl, hbk, hx, hm, h0, h1, h2, h3, h4, h5, h6, h7⟩ := (hr.below (hb.mono hB)).at_ hlt
      have Hx := hide hx
      clear hx
      go_wp2
      · have q1 : x.seg = s := by assumption
        have q2 : x.off = o := by assumption
        have hfind : findAt xs s o = some x := find_hit hf.out (unhide Hx) (by simp [atLoc, q1, q2])
        refine bodyPost_ret (results_row_tmp (ty := 33) rfl _ _ (w.heap.size + 1) 33 _ _ rfl ((((((((hb2.set_ 0 _).set_ 1 _).set_ 2 _).set_ 3 _).set_ 4 _).set_ 5 _)).alloc _) Try.underlying33 rfl (by kernel_rfl)) rfl ⟨?_, ?_⟩
        · simp [atRes, hfind, recV]
        · exact (((((((hb.setCell (p := ⟨w.heap.size + 1, 0, none⟩) (by simp) _).setCell (p := ⟨w.heap.size + 1, 1, none⟩) (by simp) _).setCell (p := ⟨w.heap.size + 1, 2, none⟩) (by simp) _).setCell (p := ⟨w.heap.size + 1, 3, none⟩) (by simp) _).setCell (p := ⟨w.heap.size + 1, 4, none⟩) (by simp) _).setCell (p := ⟨w.heap.size + 1, 5, none⟩) (by simp) _).alloc (by simp; omega) _)
      all_goals
        go_roundw
        case rel => exact ⟨k + 1, by omega, by go_num, find_miss hf.out (unhide Hx) (by simp [atLoc, *]), hb.alloc (by omega) _, hb1.alloc _, hb2.alloc _⟩
        case measure => simp [intOf]; omega
    · have hfind : findAt xs s o = none := by
        have := hf.out
        rw [List.take_of_length_le (by omega)] at this
        exact this
      have Hf := hide hfind
      clear hfind
      go_wp2
      refine bodyPost_ret (results_row_tmp (ty := 33) rfl _ _ (w.heap.size + 1) 33 _ _ rfl ((((((((hb2.set_ 0 _).set_ 1 _).set_ 2 _).set_ 3 _).set_ 4 _).set_ 5 _))) Try.underlying33 rfl (by kernel_rfl)) rfl ⟨?_, ?_⟩
      · simp [atRes, unhide Hf, recV, Lk.zero]
      · exact (((((((hb.setCell (p := ⟨w.heap.size + 1, 0, none⟩) (by simp) _).setCell (p := ⟨w.heap.size + 1, 1, none⟩) (by simp) _).setCell (p := ⟨w.heap.size + 1, 2, none⟩) (by simp) _).setCell (p := ⟨w.heap.size + 1, 3, none⟩) (by simp) _).setCell (p := ⟨w.heap.size + 1, 4, none⟩) (by simp) _).setCell (p := ⟨w.heap.size + 1, 5, none⟩) (by simp) _))
end Go.Proofs.Ytgeanonphjjgeaa
