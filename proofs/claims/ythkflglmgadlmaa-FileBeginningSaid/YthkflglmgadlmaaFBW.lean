/-
  THE MOMENTS IN MEMORY: a row of byte slices, a row of numbers, beside the file. Conditions: none.
-/
import Derived.Test.YthkflglmgadlmaaFBLaw
import Derived.Test.YthkflglmgadlmaaFAct
namespace Go.Proofs.Ythkflglmgadlmaa
open Go.RowKit

theorem own_keepT {w w' : World} {base : Nat} {e t : TypeId} {size n : Nat} {v : Value} {xs : List Value} {row : Option Nat} (h : w.ownsRow base e size v n xs) (hg : w.grownBy w' row) (hr : ∀ g, row = some g → ∃ cs, Mk w g t cs) (he : e ≠ t) : w'.ownsRow base e size v n xs := by
  refine own_keep h fun g hg' => ?_
  obtain ⟨_, hlt, cs, hm⟩ := own_mk h hg'
  refine hg.block g hlt fun e1 => ?_
  obtain ⟨cs', h'⟩ := hr g e1.symm
  exact he (mk_ty hm h')
theorem DdVs.keepT {w w' : World} {base : Nat} {t : TypeId} {row : Option Nat} (hg : w.grownBy w' row) (hr : ∀ g, row = some g → ∃ cs, Mk w g t cs) (ht : 5 ≠ t) : ∀ {vs : List Value} {ds : List Dd}, DdVs w base vs ds → DdVs w' base vs ds
  | [], [], _ => trivial
  | _ :: _, d :: _, h => by
    refine ⟨?_, DdVs.keepT hg hr ht h.2⟩
    cases d with
    | add l =>
      obtain ⟨A, c, hv, ho⟩ := h.1
      exact ⟨A, c, hv, own_keepT ho hg hr ht⟩
    | cut c => exact h.1
  | [], _ :: _, h => h.elim
  | _ :: _, [], h => h.elim
theorem FlAt.keepT {w w' : World} {base p : Nat} {d : Option Nat} {F : Fl} {t : TypeId} {row : Option Nat} (h : FlAt w base p d F) (hg : w.grownBy w' row) (hr : ∀ g, row = some g → ∃ cs, Mk w g t cs) (h5 : 5 ≠ t) (h51 : 51 ≠ t) (h55 : 55 ≠ t) : FlAt w' base p d F := by
  obtain ⟨sA, sc, nA, nc, D, dv, h1, h2, h3, h4, h6, h7⟩ := h.ex
  refine ⟨⟨sA, sc, nA, nc, D, dv, h1.grown hg fun e => ?_, own_keepT h2 hg hr h5, own_keepT h3 hg hr h5, own_keepT h4 hg hr h55, h6, h7.keepT hg hr h5⟩, h.hp, h.ok⟩
  obtain ⟨cs', h'⟩ := hr p e.symm
  exact h51 (mk_ty h1.mk_ h')
theorem Sub.keepT {V w w' : World} {base p : Nat} {d : Option Nat} {F : Fl} {t : TypeId} {row : Option Nat} (h : Sub V w base p d F) (hg : w.grownBy w' row) (hr : ∀ g, row = some g → ∃ cs, Mk w g t cs) (hb : ∀ g, row = some g → V.heap.size ≤ g) (h5 : 5 ≠ t) (h51 : 51 ≠ t) (h55 : 55 ≠ t) : Sub V w' base p d F :=
  ⟨h.at_.keepT hg hr h5 h51 h55, h.below.grown hg h.below.size hb, h.hq, h.he⟩

/-- the moments' values, one by one -/
def Moms (w : World) (base : Nat) : List Value → List Fl → Prop
  | [], [] => True
  | v :: vs, G :: hs => (∃ A c, v = .slice A G.now.length c ∧ Own5 w base (.slice A G.now.length c) G.now) ∧ Moms w base vs hs
  | _, _ => False
theorem Moms.imp {w w' : World} {base : Nat} (hk : ∀ v l, Own5 w base v l → Own5 w' base v l) : ∀ {vs : List Value} {hs : List Fl}, Moms w base vs hs → Moms w' base vs hs
  | [], [], _ => trivial
  | _ :: _, _ :: _, h => by
    obtain ⟨⟨A, c, hv, ho⟩, h2⟩ := h
    exact ⟨⟨A, c, hv, hk _ _ ho⟩, Moms.imp hk h2⟩
  | [], _ :: _, h => h.elim
  | _ :: _, [], h => h.elim
theorem Moms.len {w : World} {base : Nat} : ∀ {vs : List Value} {hs : List Fl}, Moms w base vs hs → vs.length = hs.length
  | [], [], _ => rfl
  | _ :: _, _ :: _, h => by simp [Moms.len h.2]
  | [], _ :: _, h => h.elim
  | _ :: _, [], h => h.elim
theorem Moms.at_ {w : World} {base : Nat} : ∀ {vs : List Value} {hs : List Fl}, Moms w base vs hs → ∀ {i : Nat} {G : Fl}, hs[i]? = some G → ∃ A c, vs[i]? = some (.slice A G.now.length c) ∧ Own5 w base (.slice A G.now.length c) G.now
  | v :: _, G :: _, h, 0, x, hx => by
    simp at hx
    subst hx
    obtain ⟨A, c, rfl, ho⟩ := h.1
    exact ⟨A, c, rfl, ho⟩
  | _ :: _, _ :: _, h, i + 1, x, hx => by
    simp at hx
    obtain ⟨A, c, hv, hd⟩ := Moms.at_ h.2 hx
    exact ⟨A, c, by simpa using hv, hd⟩
  | [], [], _, _, _, hx => by simp at hx
  | [], _ :: _, h, _, _, _ => h.elim
  | _ :: _, [], h, _, _, _ => h.elim
theorem Moms.snoc {w : World} {base : Nat} {A : Option Addr} {c : Nat} {G : Fl} : ∀ {vs : List Value} {hs : List Fl}, Moms w base vs hs → Own5 w base (.slice A G.now.length c) G.now → Moms w base (vs ++ [.slice A G.now.length c]) (hs ++ [G])
  | [], [], _, h => ⟨⟨A, c, rfl, h⟩, trivial⟩
  | _ :: _, _ :: _, h, hd => ⟨h.1, h.2.snoc hd⟩
  | [], _ :: _, h, _ => h.elim
  | _ :: _, [], h, _ => h.elim
theorem Moms.one {w : World} {base : Nat} : ∀ {vs : List Value} {hs : List Fl}, Moms w base vs hs → ∀ u ∈ vs, u.oneCell' = true
  | _ :: _, _ :: _, h, u, hu => by
    rcases List.mem_cons.1 hu with rfl | hu
    · obtain ⟨A, c, rfl, _⟩ := h.1
      rfl
    · exact Moms.one h.2 u hu
  | [], [], _, u, hu => by cases hu
  | [], _ :: _, h, _, _ => h.elim
  | _ :: _, [], h, _, _ => h.elim
/-- the two rows -/
structure MomW (w : World) (base : Nat) (mA : Option Addr) (mc : Nat) (uA : Option Addr) (uc : Nat) (hs : List Fl) : Prop where
  moms : ∃ vs, w.ownsRow base 22 1 (.slice mA hs.length mc) hs.length vs ∧ Moms w base vs hs
  units : w.ownsRow base 3 1 (.slice uA hs.length uc) hs.length (hs.map fun G => .int .i64 G.loose)
theorem MomW.stp {w w' : World} {base p : Nat} {d : Option Nat} {mA : Option Addr} {mc : Nat} {uA : Option Addr} {uc : Nat} {hs : List Fl} (h : MomW w base mA mc uA uc hs) (hS : Stp w w' p d) : MomW w' base mA mc uA uc hs := by
  obtain ⟨vs, h1, h2⟩ := h.moms
  exact ⟨⟨vs, own_stp h1 hS (by decide) (by decide), h2.imp fun v l ho => own_stp ho hS (by decide) (by decide)⟩, own_stp h.units hS (by decide) (by decide)⟩
theorem MomW.bel {w w' : World} {base : Nat} {mA : Option Addr} {mc : Nat} {uA : Option Addr} {uc : Nat} {hs : List Fl} (h : MomW w base mA mc uA uc hs) (hb : Below w.heap.size w w') : MomW w' base mA mc uA uc hs := by
  obtain ⟨vs, h1, h2⟩ := h.moms
  exact ⟨⟨vs, own_bel h1 hb, h2.imp fun v l ho => own_bel ho hb⟩, own_bel h.units hb⟩
theorem mom_info : (Try.prog.info? 22).map (fun i => (i.zero, i.size, i.bytes)) = some (some (.slice none 0 0), 1, 24) := by kernel_rfl
theorem int_info : (Try.prog.info? 3).map (fun i => (i.zero, i.size, i.bytes)) = some (some (.int .i64 0), 1, 8) := by kernel_rfl
end Go.Proofs.Ythkflglmgadlmaa
