/-
  A WALK AND THE REFERENCE's, side by side: what keeps both, and their Next. Conditions: as the theorems' premises say.
-/
import Derived.Test.YteiamfekdibkmaaORefOf
import Derived.Test.YteiamfekdibkmaaOXd
namespace Go.Proofs.Yteiamfekdibkmaa
open Go.RowKit Go.Shelf

theorem Xd.blk {P : Nat → Prop} {w w' : World} (h : Xd P w w') (h5 : ∀ q, P q → ∃ cs, Blk w q 5 cs) {p : Nat} {t : TypeId} {cs : Array Value} (hb : Blk w p t cs) (ht : t ≠ 5) : Blk w' p t cs := by
  have hn : ¬ P p := fun hp => by
    obtain ⟨cs', h'⟩ := h5 p hp
    have := h'.symm.trans hb
    simp at this
    exact ht this.2.symm
  exact (h.out p hn).trans hb
theorem Xd.own_ {P : Nat → Prop} {w w' : World} (h : Xd P w w') (h5 : ∀ q, P q → ∃ cs, Blk w q 5 cs) {base : Nat} {e : TypeId} {s n : Nat} {v : Value} {xs : List Value} (ho : w.ownsRow base e s v n xs) (he : e ≠ 5) : w'.ownsRow base e s v n xs :=
  h.own ho (fun _ hg hp => own_not5 ho he hg (h5 _ hp))
theorem Xd.row {P : Nat → Prop} {w w' : World} (h : Xd P w w') (h5 : ∀ q, P q → ∃ cs, Blk w q 5 cs) {base : Nat} {v : Value} {hs : List Hd} (ho : OwnRow w base v hs) (hd : ∀ y ∈ hs, ∀ q, y.v.ownBlock = some q → ¬ P q) : OwnRow w' base v hs :=
  ⟨h.own_ h5 ho.row (by decide), fun y hy => h.own (ho.bytes y hy) (hd y hy)⟩
theorem WkAt.xd {P : Nat → Prop} {w w' : World} {base p g : Nat} {rs : List Rw} {t : List Nat} (h : WkAt w base p g rs t) (hX : Xd P w w') (h5 : ∀ q, P q → ∃ cs, Blk w q 5 cs) (hd : ∀ r ∈ rs, ∀ y ∈ r.hs, ∀ q, y.v.ownBlock = some q → ¬ P q) : WkAt w' base p g rs t := by
  obtain ⟨cap, ⟨⟨vr, b1, b2⟩, r1, r2, r3⟩, ha⟩ := h.ex
  exact ⟨⟨cap, ⟨⟨vr, hX.blk h5 b1 (by decide), hX.own_ h5 b2 (by decide)⟩, fun r hr => hX.row h5 (r1 r hr) (hd r hr), r2, r3⟩, ⟨hX.own_ h5 ha.row (by decide)⟩⟩, h.len, h.few, h.rows, h.ats⟩
theorem RefAt.xd {P : Nat → Prop} {w w' : World} {base ib p : Nat} {hs : List Hd} {is : List Ih} {a : Nat} (h : RefAt w base ib p hs is a) (hX : Xd P w w') (h5 : ∀ q, P q → ∃ cs, Blk w q 5 cs) (hd : ∀ y ∈ hs, ∀ q, y.v.ownBlock = some q → ¬ P q) : RefAt w' base ib p hs is a := by
  obtain ⟨kA, kc, iA, ic, h1, h2, h3, h4⟩ := h.ex
  exact ⟨⟨kA, kc, iA, ic, hX.blk h5 h1 (by decide), hX.row h5 h2 hd, h3, hX.own_ h5 h4 (by decide)⟩, fun x hx => hX.own_ h5 (h.ins x hx) (by decide), h.len, h.le, h.few⟩
/-- a walk stays where the reference's own block turns -/
theorem WkAt.aside {w w' : World} {base p g p' : Nat} {rs : List Rw} {t : List Nat} {cs : Array Value} (h : WkAt w base p g rs t) (hb : Blk w p' 52 cs) (hg : w.grownBy w' (some p')) : WkAt w' base p g rs t := by
  obtain ⟨cap, ⟨⟨vr, b1, b2⟩, r1, r2, r3⟩, ha⟩ := h.ex
  have kp : ∀ {b e s m : Nat} {v : Value} {xs : List Value}, w.ownsRow b e s v m xs → 52 ≠ e → w'.ownsRow b e s v m xs := fun ho he => ho.kept hg (.inr (fun e => hb.mk_.ne_own ho he e.symm))
  have hne : some p ≠ some p' := fun e => by
    cases e
    have := b1.symm.trans hb
    simp at this
  exact ⟨⟨cap, ⟨⟨vr, b1.grown hg hne, kp b2 (by decide)⟩, fun r hr => ⟨kp (r1 r hr).row (by decide), fun y hy => kp ((r1 r hr).bytes y hy) (by decide)⟩, r2, r3⟩, ⟨kp ha.row (by decide)⟩⟩, h.len, h.few, h.rows, h.ats⟩
/-- the reference's stays where a walk's places turn -/
theorem RefAt.beside {w w' : World} {base ib p g b2 : Nat} {hs : List Hd} {is : List Ih} {a cap : Nat} {t : List Nat} (h : RefAt w base ib p hs is a) (ha : AtsAt w b2 g cap t) (hgi : g < ib) (hg : w.grownBy w' (some g)) : RefAt w' base ib p hs is a := by
  obtain ⟨kA, kc, iA, ic, h1, h2, h3, h4⟩ := h.ex
  have kp : ∀ {b e s m : Nat} {v : Value} {xs : List Value}, w.ownsRow b e s v m xs → e ≠ 3 → w'.ownsRow b e s v m xs := fun ho he => ho.kept hg (own_types ho ha.row he)
  exact ⟨⟨kA, kc, iA, ic, h1.grown hg (h1.mk_.ne_own ha.row (by decide)), ⟨kp h2.row (by decide), fun y hy => kp (h2.bytes y hy) (by decide)⟩, h3, kp h4 (by decide)⟩,
    fun x hx => (h.ins x hx).kept hg (.inr (fun e => by have := (own_lt (h.ins x hx) e).1; omega)), h.len, h.le, h.few⟩
theorem RefAt.blk_ {w : World} {base ib p : Nat} {hs : List Hd} {is : List Ih} {a : Nat} (h : RefAt w base ib p hs is a) : ∃ cs, Blk w p 52 cs := by
  obtain ⟨kA, kc, iA, ic, h1, _⟩ := h.ex
  exact ⟨_, h1⟩
/-- what is told when c keys were -/
def kc (K : List Key) (c : Nat) : Key := (K[c]?).getD []
def bc (K : List Key) (c : Nat) : Bool := decide (c < K.length)
def ic (R : List (List Key)) (K : List Key) (c : Nat) : List Nat := match K[c]? with | some k => inAll R k R.length | none => []
def nc (K : List Key) (c : Nat) : Nat := if c < K.length then c + 1 else c
theorem nc_le {K : List Key} {c : Nat} (h : c ≤ K.length) : nc K c ≤ K.length := by
  unfold nc
  split <;> omega
theorem nextS {w : World} {base p g : Nat} {rs : List Rw} {t : List Nat} {K : List Key} {c : Nat} (h : WkAt w base p g rs t) (hU : Un (rws rs) K) (hP : Pos (rws rs) K t c) : Calls Try.prog 11 #[.pointer (some ⟨p, 0, none⟩)] w fun e w' =>
    ∃ xA xc iA ic' t', e = .returned (.tuple #[.slice xA (kc K c).length xc, .slice iA (ic (rws rs) K c).length ic', .bool (bc K c)]) ∧ w'.ownsRow w.heap.size 5 1 (.slice xA (kc K c).length xc) (kc K c).length ((kc K c).map bv) ∧ OwnI w' w.heap.size (.slice iA (ic (rws rs) K c).length ic') (ic (rws rs) K c) ∧ WkAt w' base p g rs t' ∧ Pos (rws rs) K t' (nc K c) ∧ w.grownBy w' (some g) := by
  refine (wnext_any h).mono fun e w' hn => ?_
  unfold nextP at hn
  have hcl := hP.le
  rcases Nat.lt_or_ge c K.length with hlt | hge
  · have hk : K[c]? = some K[c] := List.getElem?_eq_getElem hlt
    rw [hP.least hU hk] at hn
    obtain ⟨vk, vi, rfl, ho, hi, hw, hg⟩ := hn
    have e1 : kc K c = K[c] := by unfold kc; rw [hk]; rfl
    have e2 : bc K c = true := decide_eq_true hlt
    have e3 : inL (rws rs) t K[c] rs.length = ic (rws rs) K c := by
      unfold ic
      rw [hk]
      show _ = inAll (rws rs) K[c] (rws rs).length
      rw [← hP.in_ hU hk, List.length_map]
    have e4 : nc K c = c + 1 := if_pos hlt
    rw [e3] at hi
    rw [e1, e2, e4]
    obtain ⟨xA, xc, rfl⟩ := slice_ofH ho
    obtain ⟨iA, ic', rfl⟩ := slice_ofH hi
    refine ⟨xA, xc, iA, ic', _, rfl, ho, hi, hw, ?_, hg⟩
    have := hP.step hU hk
    rw [List.length_map] at this
    exact this
  · have hk : K[c]? = none := List.getElem?_eq_none hge
    rw [hP.none_ hge] at hn
    obtain ⟨rfl, hw, hb⟩ := hn
    have e1 : kc K c = [] := by unfold kc; rw [hk]; rfl
    have e2 : bc K c = false := decide_eq_false (by omega)
    have e3 : ic (rws rs) K c = [] := by unfold ic; rw [hk]
    have e4 : nc K c = c := if_neg (by omega)
    rw [e1, e2, e3, e4]
    exact ⟨none, 0, none, 0, t, rfl, World.ownsRow_nil _ _ _ _, World.ownsRow_nil _ _ _ _, hw, hP, only_of_below hb _⟩
theorem rnextS {w : World} {base ib p : Nat} {hs : List Hd} {is : List Ih} {c : Nat} {R : List (List Key)} {K : List Key} (h : RefAt w base ib p hs is c) (hK : keys hs = K) (hI : is.map Ih.l = K.map (fun k => inAll R k R.length)) : Calls Try.prog 22 #[.pointer (some ⟨p, 0, none⟩)] w fun e w' =>
    ∃ yA yc oA oc, e = .returned (.tuple #[.slice yA (kc K c).length yc, .slice oA (ic R K c).length oc, .bool (bc K c)]) ∧ Bs w' w'.heap.size yA (kc K c).length (kc K c) ∧ Reads w' w'.heap.size 1 oA (ic R K c).length ((ic R K c).map iv) ∧ RefAt w' base ib p hs is (nc K c) ∧ w.grownBy w' (some p) := by
  refine (rwnext_any h).mono fun e w' hn => ?_
  obtain ⟨hg, hn⟩ := hn
  have hl : K.length = hs.length := by rw [← hK, List.length_map]
  have hcl := h.le
  rcases Nat.lt_or_ge c hs.length with hlt | hge
  · obtain ⟨x, hx⟩ : ∃ x, hs[c]? = some x := ⟨_, List.getElem?_eq_getElem hlt⟩
    obtain ⟨y, hy⟩ : ∃ y, is[c]? = some y := ⟨_, List.getElem?_eq_getElem (by rw [h.len]; exact hlt)⟩
    rw [hx, hy] at hn
    obtain ⟨rfl, hr⟩ := hn
    have hk : K[c]? = some x.l := by rw [← hK, List.getElem?_map, hx]; rfl
    have e1 : kc K c = x.l := by unfold kc; rw [hk]; rfl
    have e2 : bc K c = true := decide_eq_true (by omega)
    have e3 : ic R K c = y.l := by
      unfold ic
      rw [hk]
      have h1 : (is.map Ih.l)[c]? = (K.map (fun k => inAll R k R.length))[c]? := by rw [hI]
      rw [List.getElem?_map, List.getElem?_map, hy, hk] at h1
      exact (Option.some.inj h1).symm
    have e4 : nc K c = c + 1 := if_pos (by omega)
    rw [e1, e2, e3, e4]
    obtain ⟨_, _, _, _, _, h2, _⟩ := hr.ex
    exact ⟨x.A, x.c, y.A, y.c, rfl, Reads.of_own (h2.bytes x (List.mem_of_getElem? hx)), Reads.of_own (hr.ins y (List.mem_of_getElem? hy)), hr, hg⟩
  · have hx : hs[c]? = none := List.getElem?_eq_none hge
    have hk : K[c]? = none := List.getElem?_eq_none (by omega)
    rw [hx] at hn
    have hn2 : e = .returned (.tuple #[.slice none 0 0, .slice none 0 0, .bool false]) ∧ RefAt w' base ib p hs is c := hn
    obtain ⟨rfl, hr⟩ := hn2
    have e1 : kc K c = [] := by unfold kc; rw [hk]; rfl
    have e2 : bc K c = false := decide_eq_false (by omega)
    have e3 : ic R K c = [] := by unfold ic; rw [hk]
    have e4 : nc K c = c := if_neg (by omega)
    rw [e1, e2, e3, e4]
    exact ⟨none, 0, none, 0, rfl, Reads.none_, Reads.none_, hr, hg⟩
/-- what stays the same while both walks go on -/
structure Cn (rs : List Rw) (hs : List Hd) (is : List Ih) (R : List (List Key)) (K : List Key) (M : Nat) : Prop where
  rr : rws rs = R
  un : Un R K
  kk : keys hs = K
  ii : is.map Ih.l = K.map (fun k => inAll R k R.length)
  kl : K.length ≤ 100000
  top : ∀ r ∈ rs, ∀ y ∈ r.hs, ∀ q, y.v.ownBlock = some q → q < M
  tops : ∀ y ∈ hs, ∀ q, y.v.ownBlock = some q → q < M
/-- both walks, c keys told -/
structure St (w0 W : World) (base p g : Nat) (rs : List Rw) (ib p' : Nat) (hs : List Hd) (is : List Ih) (R : List (List Key)) (K : List Key) (M c : Nat) : Prop where
  wk : ∃ t, WkAt W base p g rs t ∧ Pos R K t c
  rf : RefAt W w0.heap.size ib p' hs is c
  gi : g < ib
  sz : M ≤ W.heap.size
  bel : Below w0.heap.size w0 W
theorem St.later {w0 W W' : World} {base p g : Nat} {rs : List Rw} {ib p' : Nat} {hs : List Hd} {is : List Ih} {R : List (List Key)} {K : List Key} {M c : Nat} (h : St w0 W base p g rs ib p' hs is R K M c) (hb : Below W.heap.size W W') : St w0 W' base p g rs ib p' hs is R K M c := by
  obtain ⟨t, h1, h2⟩ := h.wk
  exact ⟨⟨t, h1.below hb, h2⟩, h.rf.below hb, h.gi, Nat.le_trans h.sz hb.size, belFrom h.bel hb⟩
/-- bytes of a block that came later turn -/
theorem St.xd {w0 W W' : World} {base p g : Nat} {rs : List Rw} {ib p' : Nat} {hs : List Hd} {is : List Ih} {R : List (List Key)} {K : List Key} {M c : Nat} (h : St w0 W base p g rs ib p' hs is R K M c) (hC : Cn rs hs is R K M) {P : Nat → Prop} (hX : Xd P W W') (h5 : ∀ q, P q → ∃ cs, Blk W q 5 cs) (hM : ∀ q, P q → M ≤ q ∧ w0.heap.size ≤ q) : St w0 W' base p g rs ib p' hs is R K M c := by
  obtain ⟨t, h1, h2⟩ := h.wk
  exact ⟨⟨t, h1.xd hX h5 (fun r hr y hy q hq hp => by have := hC.top r hr y hy q hq; have := (hM q hp).1; omega), h2⟩,
    h.rf.xd hX h5 (fun y hy q hq hp => by have := hC.tops y hy q hq; have := (hM q hp).1; omega), h.gi, by rw [hX.size]; exact h.sz, h.bel.trans (hX.bel (fun q hq => (hM q hq).2))⟩
end Go.Proofs.Yteiamfekdibkmaa
