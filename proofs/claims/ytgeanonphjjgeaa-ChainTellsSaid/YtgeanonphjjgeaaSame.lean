/-
  THE WALK of same: are two records the same? Conditions: none.
-/
import Derived.Test.YtgeanonphjjgeaaSmall
import Derived.Test.YtgeanonphjjgeaaDef
namespace Go.Proofs.Ytgeanonphjjgeaa
open Go.RowKit

/-- a record's cells -/
def Lk.rec_ (x : Lk) : Array Value := #[.int .u64 x.seq, .int .i64 x.kind, .slice x.kA x.kn x.kc, .slice x.vA x.vn x.vc, .int .u32 x.ps, .int .u32 x.po]
def sameB (x y : Lk) : Bool := decide (x.seq = y.seq) && decide (x.kind = y.kind) && (x.kb == y.kb) && (x.vb == y.vb) && (decide (x.ps = y.ps) && decide (x.po = y.po))

set_option maxHeartbeats 1000000 in
theorem same_any (x y : Lk) (B : Nat) (w : World) (hB : B ≤ w.heap.size) (kx : Bs w B x.kA x.kn x.kb) (vx : Bs w B x.vA x.vn x.vb) (ky : Bs w B y.kA y.kn y.kb) (vy : Bs w B y.vA y.vn y.vb) :
    Calls Try.prog 14 #[.agg x.rec_, .agg y.rec_] w fun e w' => e = .returned (.bool (sameB x y)) ∧ Below w.heap.size w w' := by
  have hk : ∀ o o', Calls Try.prog 15 #[.slice x.kA x.kn x.kc, .slice y.kA y.kn y.kc] ((w.alloc o).alloc o') fun e w' => e = .returned (.bool (x.kb == y.kb)) ∧ (w.alloc o).alloc o' = w' := fun o o' =>
    bytesEqual_any x.kA y.kA x.kn x.kc y.kn y.kc B B x.kb y.kb _ (kx.below ((bel2 w _ _).mono hB)) (ky.below ((bel2 w _ _).mono hB))
  have hv : ∀ o o', Calls Try.prog 15 #[.slice x.vA x.vn x.vc, .slice y.vA y.vn y.vc] ((w.alloc o).alloc o') fun e w' => e = .returned (.bool (x.vb == y.vb)) ∧ (w.alloc o).alloc o' = w' := fun o o' =>
    bytesEqual_any x.vA y.vA x.vn x.vc y.vn y.vc B B x.vb y.vb _ (vx.below ((bel2 w _ _).mono hB)) (vy.below ((bel2 w _ _).mono hB))
  have HK := hide hk
  have HV := hide hv
  clear kx vx ky vy hk hv
  unfold Lk.rec_
  generalize hsb : sameB x y = res
  have HS := hide hsb
  clear hsb
  go_enter Try.func14, Try.ntmps14
  go_wp2_with (first | (refine (unhide HK _ _).mono ?_; rintro e w1 ⟨rfl, rfl⟩) | (refine (unhide HV _ _).mono ?_; rintro e w1 ⟨rfl, rfl⟩))
  all_goals
    go_ret
    refine ⟨ret_bool ?_, bel2 w _ _⟩
    rw [← HS.out]
    simp [sameB, *]
theorem sameB_refl (x : Lk) : sameB x x = true := by simp [sameB]
end Go.Proofs.Ytgeanonphjjgeaa
