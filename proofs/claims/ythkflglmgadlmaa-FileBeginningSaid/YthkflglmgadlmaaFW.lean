/-
  A FILE IN MEMORY, over any program: its struct is a block of type 51, its deeds a row of type 55, all bytes rows of type 5 that nobody writes again. Conditions: none.
-/
import Derived.Test.YthkflglmgadlmaaFDef
namespace Go.Proofs.Ythkflglmgadlmaa
open Go.RowKit

/-- bytes in a row of the call's own -/
abbrev Own5 (w : World) (base : Nat) (v : Value) (l : List UInt8) : Prop := w.ownsRow base 5 1 v l.length (l.map bv)
/-- a deed's value -/
def DdV (w : World) (base : Nat) (v : Value) : Dd → Prop
  | .add l => ∃ A c, v = .iface 61 (.slice A l.length c) ∧ Own5 w base (.slice A l.length c) l
  | .cut c => v = .iface 62 (.int .i64 c)
/-- deeds' values, one by one -/
def DdVs (w : World) (base : Nat) : List Value → List Dd → Prop
  | [], [] => True
  | v :: vs, d :: ds => DdV w base v d ∧ DdVs w base vs ds
  | _, _ => False

/-- a file at block p, its deeds' row in block d -/
structure FlAt (w : World) (base p : Nat) (d : Option Nat) (F : Fl) : Prop where
  ex : ∃ sA sc nA nc D dv, Blk w p 51 #[.slice sA F.safe.length sc, .slice nA F.now.length nc, D] ∧ Own5 w base (.slice sA F.safe.length sc) F.safe ∧ Own5 w base (.slice nA F.now.length nc) F.now ∧ w.ownsRow base 55 1 D dv.length dv ∧ D.ownBlock = d ∧ DdVs w base dv F.deeds
  hp : base ≤ p
  ok : F.ok

/-- one file has turned: its struct, its deeds' row -/
structure Stp (w w' : World) (p : Nat) (d : Option Nat) : Prop where
  os : w'.os = w.os
  tape : w'.tape = w.tape
  output : w'.output = w.output
  size : w.heap.size ≤ w'.heap.size
  tp : ∃ cs, Mk w p 51 cs
  td : ∀ g, d = some g → ∃ cs, Mk w g 55 cs
  block : ∀ k, k < w.heap.size → k ≠ p → some k ≠ d → w'.heap[k]? = w.heap[k]?

theorem own_keep {w w' : World} {base : Nat} {e : TypeId} {size n : Nat} {v : Value} {xs : List Value} (h : w.ownsRow base e size v n xs) (hk : ∀ g, v.ownBlock = some g → w'.heap[g]? = w.heap[g]?) : w'.ownsRow base e size v n xs := by
  refine ⟨h.1, ?_⟩
  rcases h.2 with hn | ⟨g, cap, cur, rfl, hb, hgg, rest⟩
  · exact .inl hn
  · exact .inr ⟨g, cap, cur, rfl, hb, (hk g rfl).trans hgg, rest⟩
theorem own_mk {w : World} {base : Nat} {e : TypeId} {size n : Nat} {v : Value} {xs : List Value} (h : w.ownsRow base e size v n xs) {g : Nat} (hg : v.ownBlock = some g) : base ≤ g ∧ g < w.heap.size ∧ ∃ cs, Mk w g e cs := by
  rcases h.2 with ⟨rfl, _⟩ | ⟨g', cap, cur, rfl, hb, hgg, rest⟩
  · simp [Value.ownBlock] at hg
  · simp [Value.ownBlock] at hg
    subst hg
    exact ⟨hb, (Array.getElem?_eq_some_iff.1 hgg).1, cur, _, hgg⟩
theorem mk_ty {w : World} {g : Nat} {t t' : TypeId} {cs cs' : Array Value} (h : Mk w g t cs) (h' : Mk w g t' cs') : t = t' := by
  obtain ⟨fr, h⟩ := h
  obtain ⟨fr', h'⟩ := h'
  rw [h] at h'
  injection h' with h'
  injection h'
theorem own_stp {w w' : World} {p : Nat} {d : Option Nat} {base : Nat} {e : TypeId} {size n : Nat} {v : Value} {xs : List Value} (h : w.ownsRow base e size v n xs) (hs : Stp w w' p d) (h51 : e ≠ 51) (h55 : e ≠ 55) : w'.ownsRow base e size v n xs := by
  refine own_keep h fun g hg => ?_
  obtain ⟨_, hlt, cs, hm⟩ := own_mk h hg
  refine hs.block g hlt ?_ ?_
  · rintro rfl
    obtain ⟨cs', h'⟩ := hs.tp
    exact h51 (mk_ty hm h')
  · intro e1
    obtain ⟨cs', h'⟩ := hs.td g e1.symm
    exact h55 (mk_ty hm h')
theorem own_stp55 {w w' : World} {p : Nat} {d : Option Nat} {base : Nat} {size n : Nat} {v : Value} {xs : List Value} (h : w.ownsRow base 55 size v n xs) (hs : Stp w w' p d) (hd : ∀ g, v.ownBlock = some g → some g ≠ d) : w'.ownsRow base 55 size v n xs := by
  refine own_keep h fun g hg => ?_
  obtain ⟨_, hlt, cs, hm⟩ := own_mk h hg
  refine hs.block g hlt ?_ (hd g hg)
  rintro rfl
  obtain ⟨cs', h'⟩ := hs.tp
  exact absurd (mk_ty hm h') (by decide)
theorem Mk.stp {w w' : World} {p : Nat} {d : Option Nat} {g : Nat} {t : TypeId} {cs : Array Value} (h : Mk w g t cs) (hs : Stp w w' p d) (h51 : t ≠ 51) (h55 : t ≠ 55) : Mk w' g t cs := by
  have hlt := h.lt
  obtain ⟨fr, h⟩ := h
  refine ⟨fr, (hs.block g hlt ?_ ?_).trans h⟩
  · rintro rfl
    obtain ⟨cs', h'⟩ := hs.tp
    exact h51 (mk_ty ⟨fr, h⟩ h')
  · intro e1
    obtain ⟨cs', h'⟩ := hs.td g e1.symm
    exact h55 (mk_ty ⟨fr, h⟩ h')
theorem Blk.stp {w w' : World} {p : Nat} {d : Option Nat} {g : Nat} {t : TypeId} {cs : Array Value} (h : Blk w g t cs) (hs : Stp w w' p d) (h51 : t ≠ 51) (h55 : t ≠ 55) : Blk w' g t cs := by
  have h0 : w.heap[g]? = some (.cells cs t (0, 0)) := h
  refine (hs.block g h.lt ?_ ?_).trans h0
  · rintro rfl
    obtain ⟨cs', h'⟩ := hs.tp
    exact h51 (mk_ty h.mk_ h')
  · intro e1
    obtain ⟨cs', h'⟩ := hs.td g e1.symm
    exact h55 (mk_ty h.mk_ h')
theorem DdV.stp {w w' : World} {p : Nat} {d : Option Nat} {base : Nat} {v : Value} {x : Dd} (h : DdV w base v x) (hs : Stp w w' p d) : DdV w' base v x := by
  cases x with
  | add l =>
    obtain ⟨A, c, hv, ho⟩ := h
    exact ⟨A, c, hv, own_stp ho hs (by decide) (by decide)⟩
  | cut c => exact h
theorem DdVs.stp {w w' : World} {p : Nat} {d : Option Nat} {base : Nat} : ∀ {vs : List Value} {ds : List Dd}, DdVs w base vs ds → Stp w w' p d → DdVs w' base vs ds
  | [], [], _, _ => trivial
  | _ :: _, _ :: _, h, hs => ⟨h.1.stp hs, h.2.stp hs⟩
  | [], _ :: _, h, _ => h.elim
  | _ :: _, [], h, _ => h.elim
theorem DdV.below {w w' : World} {base : Nat} {v : Value} {x : Dd} (h : DdV w base v x) (hb : Below w.heap.size w w') : DdV w' base v x := by
  cases x with
  | add l =>
    obtain ⟨A, c, hv, ho⟩ := h
    exact ⟨A, c, hv, ho.kept (only_of_below hb none) (Classical.em _)⟩
  | cut c => exact h
theorem DdVs.below {w w' : World} {base : Nat} : ∀ {vs : List Value} {ds : List Dd}, DdVs w base vs ds → Below w.heap.size w w' → DdVs w' base vs ds
  | [], [], _, _ => trivial
  | _ :: _, _ :: _, h, hs => ⟨h.1.below hs, h.2.below hs⟩
  | [], _ :: _, h, _ => h.elim
  | _ :: _, [], h, _ => h.elim
theorem DdVs.len {w : World} {base : Nat} : ∀ {vs : List Value} {ds : List Dd}, DdVs w base vs ds → vs.length = ds.length
  | [], [], _ => rfl
  | _ :: _, _ :: _, h => by simp [DdVs.len h.2]
  | [], _ :: _, h => h.elim
  | _ :: _, [], h => h.elim
theorem DdVs.at_ {w : World} {base : Nat} : ∀ {vs : List Value} {ds : List Dd}, DdVs w base vs ds → ∀ {i : Nat} {d : Dd}, ds[i]? = some d → ∃ v, vs[i]? = some v ∧ DdV w base v d
  | v :: _, d :: _, h, 0, x, hx => by
    simp at hx
    subst hx
    exact ⟨v, rfl, h.1⟩
  | _ :: _, _ :: _, h, i + 1, x, hx => by
    simp at hx
    obtain ⟨v, hv, hd⟩ := DdVs.at_ h.2 hx
    exact ⟨v, by simpa using hv, hd⟩
  | [], [], _, _, _, hx => by simp at hx
  | [], _ :: _, h, _, _, _ => h.elim
  | _ :: _, [], h, _, _, _ => h.elim
theorem DdVs.snoc {w : World} {base : Nat} {v : Value} {d : Dd} : ∀ {vs : List Value} {ds : List Dd}, DdVs w base vs ds → DdV w base v d → DdVs w base (vs ++ [v]) (ds ++ [d])
  | [], [], _, h => ⟨h, trivial⟩
  | _ :: _, _ :: _, h, hd => ⟨h.1, h.2.snoc hd⟩
  | [], _ :: _, h, _ => h.elim
  | _ :: _, [], h, _ => h.elim

/-! ### steps -/
theorem Stp.below {w w' : World} {p B : Nat} {d : Option Nat} (h : Stp w w' p d) (hp : B ≤ p) (hd : ∀ g, d = some g → B ≤ g) (hB : B ≤ w.heap.size) : Below B w w' :=
  ⟨h.os, h.tape, h.output, h.size, fun k hk => h.block k (by omega) (by omega) (fun e => by have := hd k e.symm; omega)⟩
theorem Stp.of_below {w w' : World} {p : Nat} {d : Option Nat} (h : Below w.heap.size w w') (tp : ∃ cs, Mk w p 51 cs) (td : ∀ g, d = some g → ∃ cs, Mk w g 55 cs) : Stp w w' p d :=
  ⟨h.os, h.tape, h.output, h.size, tp, td, fun k hk _ _ => h.block k hk⟩
/-- a step behind a step of the same file: its deeds' row is the old one, or a new one -/
theorem Stp.trans {w w1 w2 : World} {p : Nat} {d d1 : Option Nat} (h : Stp w w1 p d) (h1 : Stp w1 w2 p d1) (hd : ∀ g, d1 = some g → d = some g ∨ w.heap.size ≤ g) : Stp w w2 p d := by
  refine ⟨h1.os.trans h.os, h1.tape.trans h.tape, h1.output.trans h.output, Nat.le_trans h.size h1.size, h.tp, h.td, fun k hk hp hd' => ?_⟩
  refine (h1.block k (Nat.lt_of_lt_of_le hk h.size) hp ?_).trans (h.block k hk hp hd')
  intro e
  rcases hd k e.symm with e2 | e2
  · exact hd' e2.symm
  · omega
/-- the deeds' row behind a step -/
def NewD (w : World) (d d' : Option Nat) : Prop := ∀ g, d' = some g → d = some g ∨ w.heap.size ≤ g
theorem NewD.same (w : World) (d : Option Nat) : NewD w d d := fun _ h => .inl h
theorem NewD.none_ (w : World) (d : Option Nat) : NewD w d none := fun _ h => by cases h
theorem NewD.trans {w w1 : World} {d d1 d2 : Option Nat} (h : NewD w d d1) (h1 : NewD w1 d1 d2) (hs : w.heap.size ≤ w1.heap.size) : NewD w d d2 := by
  intro g hg
  rcases h1 g hg with e | e
  · exact h g e
  · exact .inr (by omega)

/-! ### a file abides -/
theorem FlAt.lt {w : World} {base p : Nat} {d : Option Nat} {F : Fl} (h : FlAt w base p d F) : p < w.heap.size := by
  obtain ⟨_, _, _, _, _, _, hb, _⟩ := h.ex
  exact hb.lt
theorem FlAt.tp {w : World} {base p : Nat} {d : Option Nat} {F : Fl} (h : FlAt w base p d F) : ∃ cs, Mk w p 51 cs := by
  obtain ⟨_, _, _, _, _, _, hb, _⟩ := h.ex
  exact ⟨_, hb.mk_⟩
theorem FlAt.td {w : World} {base p : Nat} {d : Option Nat} {F : Fl} (h : FlAt w base p d F) : ∀ g, d = some g → ∃ cs, Mk w g 55 cs := by
  obtain ⟨_, _, _, _, _, _, _, _, _, ho, hd, _⟩ := h.ex
  intro g hg
  exact (own_mk ho (hd.trans hg)).2.2
theorem FlAt.dlt {w : World} {base p : Nat} {d : Option Nat} {F : Fl} (h : FlAt w base p d F) : ∀ g, d = some g → base ≤ g ∧ g < w.heap.size := by
  obtain ⟨_, _, _, _, _, _, _, _, _, ho, hd, _⟩ := h.ex
  intro g hg
  have := own_mk ho (hd.trans hg)
  exact ⟨this.1, this.2.1⟩
theorem FlAt.below {w w' : World} {base p : Nat} {d : Option Nat} {F : Fl} (h : FlAt w base p d F) (hb : Below w.heap.size w w') : FlAt w' base p d F := by
  obtain ⟨sA, sc, nA, nc, D, dv, h1, h2, h3, h4, h5, h6⟩ := h.ex
  have hk := only_of_below hb none
  exact ⟨⟨sA, sc, nA, nc, D, dv, h1.below hb h1.lt, h2.kept hk (Classical.em _), h3.kept hk (Classical.em _), h4.kept hk (Classical.em _), h5, h6.below hb⟩, h.hp, h.ok⟩
/-- another file has turned -/
theorem FlAt.other {w w' : World} {base p q : Nat} {d e : Option Nat} {F : Fl} (h : FlAt w base q e F) (hs : Stp w w' p d) (hq : q ≠ p) (he : ∀ g, e = some g → d ≠ some g) : FlAt w' base q e F := by
  obtain ⟨sA, sc, nA, nc, D, dv, h1, h2, h3, h4, h5, h6⟩ := h.ex
  have h0 : w.heap[q]? = some (.cells _ 51 (0, 0)) := h1
  refine ⟨⟨sA, sc, nA, nc, D, dv, (hs.block q h1.lt hq ?_).trans h0, own_stp h2 hs (by decide) (by decide), own_stp h3 hs (by decide) (by decide), own_stp55 h4 hs (fun g hg e1 => he g (h5.symm.trans hg) e1.symm), h5, h6.stp hs⟩, h.hp, h.ok⟩
  intro e1
  obtain ⟨cs', h'⟩ := hs.td q e1.symm
  exact absurd (mk_ty h1.mk_ h') (by decide)
theorem bs_stp {w w' : World} {p B : Nat} {d : Option Nat} {A : Option Addr} {n : Nat} {l : List UInt8} (h : Bs w B A n l) (hs : Stp w w' p d) (hp : B ≤ p) (hd : ∀ g, d = some g → B ≤ g) (hB : B ≤ w.heap.size) : Bs w' B A n l := h.below (hs.below hp hd hB)
theorem own5_len {w : World} {base : Nat} {v : Value} {l : List UInt8} (h : Own5 w base v l) : ∃ A c, v = .slice A l.length c ∧ l.length ≤ c ∧ c ≤ maxLen := by
  rcases h.2 with ⟨rfl, h0⟩ | ⟨g, cap, cur, rfl, _, _, h1, h2, _⟩
  · exact ⟨none, 0, by rw [h0], by omega, Nat.zero_le _⟩
  · exact ⟨_, _, rfl, h1, h2⟩
end Go.Proofs.Ythkflglmgadlmaa
