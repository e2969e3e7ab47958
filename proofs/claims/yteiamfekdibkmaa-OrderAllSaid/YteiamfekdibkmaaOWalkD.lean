/-
  ROWS GONE THROUGH TOGETHER, plain and in memory; the walks of none, least. Conditions: as the theorems' premises say.
-/
import Derived.Test.YteiamfekdibkmaaOAdd
import Derived.BigQuiet
import Derived.Deep.CutBlock
namespace Go.Proofs.Yteiamfekdibkmaa
open Go.RowKit Go.Shelf

/-! ### plain -/
def better (b : Option Key) (x : Key) : Bool := match b with | none => true | some y => decide (ltK x y)
/-- the least key that the first i places lead to -/
def leastU (R : List (List Key)) (t : List Nat) : Nat → Option Key
  | 0 => none
  | i + 1 => match (R.getD i [])[t.getD i 0]? with
    | none => leastU R t i
    | some x => if better (leastU R t i) x then some x else leastU R t i
abbrev leastL (R : List (List Key)) (t : List Nat) : Option Key := leastU R t R.length
/-- does a key stand at the place of row i? -/
def standsB (R : List (List Key)) (t : List Nat) (k : Key) (i : Nat) : Bool := decide ((R.getD i [])[t.getD i 0]? = some k)
def inL (R : List (List Key)) (t : List Nat) (k : Key) (m : Nat) : List Nat := (List.range m).filter (standsB R t k)
def stepT (R : List (List Key)) (t : List Nat) (k : Key) (m : Nat) : List Nat := (List.range t.length).map fun i => if i < m ∧ standsB R t k i = true then t.getD i 0 + 1 else t.getD i 0
theorem stepT_len (R : List (List Key)) (t : List Nat) (k : Key) (m : Nat) : (stepT R t k m).length = t.length := by simp [stepT]
theorem stepT_zero (R : List (List Key)) (t : List Nat) (k : Key) : stepT R t k 0 = t := by
  refine List.ext_getElem? fun i => ?_
  unfold stepT
  rw [List.getElem?_map]
  by_cases hi : i < t.length
  · rw [List.getElem?_range hi, List.getElem?_eq_getElem hi]
    simp [List.getD_eq_getElem?_getD, List.getElem?_eq_getElem hi]
  · rw [List.getElem?_eq_none (by simpa using hi), List.getElem?_eq_none (by simpa using hi)]
    rfl
theorem stepT_at {R : List (List Key)} {t : List Nat} {k : Key} {m i : Nat} (hi : i < t.length) : (stepT R t k m).getD i 0 = if i < m ∧ standsB R t k i = true then t.getD i 0 + 1 else t.getD i 0 := by
  rw [List.getD_eq_getElem?_getD]
  unfold stepT
  rw [List.getElem?_map, List.getElem?_range hi]
  rfl
theorem stepT_no {R : List (List Key)} {t : List Nat} {k : Key} {m : Nat} (h : standsB R t k m = false) : stepT R t k (m + 1) = stepT R t k m := by
  unfold stepT
  refine List.map_congr_left fun i _ => ?_
  by_cases hm : i = m
  · subst hm
    rw [h]
    simp
  · have : (i < m + 1 ∧ standsB R t k i = true) ↔ (i < m ∧ standsB R t k i = true) := by
      constructor
      · rintro ⟨h1, h2⟩; exact ⟨by omega, h2⟩
      · rintro ⟨h1, h2⟩; exact ⟨by omega, h2⟩
    simp only [this]
theorem stepT_yes {R : List (List Key)} {t : List Nat} {k : Key} {m : Nat} (hm : m < t.length) (h : standsB R t k m = true) : stepT R t k (m + 1) = (stepT R t k m).set m (t.getD m 0 + 1) := by
  refine List.ext_getElem? fun i => ?_
  rw [List.getElem?_set]
  unfold stepT
  rw [List.getElem?_map, List.getElem?_map]
  by_cases hi : i < t.length
  · rw [List.getElem?_range hi]
    by_cases him : m = i
    · subst him
      simp [h, hm]
    · rw [if_neg him]
      have : (i < m + 1 ∧ standsB R t k i = true) ↔ (i < m ∧ standsB R t k i = true) := by
        constructor
        · rintro ⟨h1, h2⟩; exact ⟨by omega, h2⟩
        · rintro ⟨h1, h2⟩; exact ⟨by omega, h2⟩
      simp only [Option.map_some, this]
  · rw [List.getElem?_eq_none (by simpa using hi)]
    have him : ¬ m = i := by omega
    rw [if_neg him]
    rfl
theorem inL_no {R : List (List Key)} {t : List Nat} {k : Key} {m : Nat} (h : standsB R t k m = false) : inL R t k (m + 1) = inL R t k m := by
  unfold inL
  rw [List.range_succ, List.filter_append]
  simp [h]
theorem inL_yes {R : List (List Key)} {t : List Nat} {k : Key} {m : Nat} (h : standsB R t k m = true) : inL R t k (m + 1) = inL R t k m ++ [m] := by
  unfold inL
  rw [List.range_succ, List.filter_append]
  simp [h]
theorem inL_len (R : List (List Key)) (t : List Nat) (k : Key) (m : Nat) : (inL R t k m).length ≤ m := by
  have := List.length_filter_le (standsB R t k) (List.range m)
  simpa [inL] using this

/-! ### in memory -/
structure Rw where
  A : Option Addr
  c : Nat
  hs : List Hd
instance : Inhabited Rw := ⟨⟨none, 0, []⟩⟩
def Rw.v (r : Rw) : Value := .slice r.A r.hs.length r.c
abbrev rws (rs : List Rw) : List (List Key) := rs.map fun r => keys r.hs
def iv (n : Nat) : Value := .int .i64 (n : Int)
/-- the places of a walk (or a copy of them) -/
structure AtsAt (w : World) (base g cap : Nat) (t : List Nat) : Prop where
  row : w.ownsRow base 3 1 (.slice (some ⟨g, 0, none⟩) t.length cap) t.length (t.map iv)
/-- the rows of a walk, at p -/
structure WalkAt (w : World) (base p g cap : Nat) (rs : List Rw) (n : Nat) : Prop where
  ex : ∃ vr, Blk w p 43 #[vr, .slice (some ⟨g, 0, none⟩) n cap] ∧ w.ownsRow base 25 1 vr rs.length (rs.map Rw.v)
  rows : ∀ r ∈ rs, OwnRow w base r.v r.hs
  ok : ∀ r ∈ rs, RowOk (keys r.hs)
  hp : base ≤ p
theorem WalkAt.below {w w' : World} {base p g cap n : Nat} {rs : List Rw} (h : WalkAt w base p g cap rs n) (hb : Below w.heap.size w w') : WalkAt w' base p g cap rs n := by
  obtain ⟨vr, h1, h2⟩ := h.ex
  exact ⟨⟨vr, h1.below hb h1.lt, own_bel h2 hb⟩, fun r hr => (h.rows r hr).later hb, h.ok, h.hp⟩
theorem AtsAt.below {w w' : World} {base g cap : Nat} {t : List Nat} (h : AtsAt w base g cap t) (hb : Below w.heap.size w w') : AtsAt w' base g cap t := ⟨own_bel h.row hb⟩
theorem WalkAt.lt {w : World} {base p g cap n : Nat} {rs : List Rw} (h : WalkAt w base p g cap rs n) : p < w.heap.size := by
  obtain ⟨vr, h1, _⟩ := h.ex
  exact h1.lt
/-- a place, read -/
theorem AtsAt.at_ {w : World} {base g cap : Nat} {t : List Nat} (h : AtsAt w base g cap t) {i a : Nat} (hi : t[i]? = some a) : w.cell? ⟨g, i, none⟩ = some (.int .i64 (a : Int)) ∧ w.frozen? ⟨g, i, none⟩ = false ∧ g < w.heap.size := by
  refine ⟨?_, h.row.frozenAt i, (own_lt h.row rfl).2⟩
  rw [h.row.cellAt i (by have := (List.getElem?_eq_some_iff.1 hi).1; omega), List.getElem?_map, hi]
  rfl
/-- places turn -/
theorem AtsAt.set {w : World} {base g cap : Nat} {t : List Nat} (h : AtsAt w base g cap t) (i a : Nat) : AtsAt (w.setCell ⟨g, i, none⟩ (.int .i64 (a : Int))) base g cap (t.set i a) ∧ w.grownBy (w.setCell ⟨g, i, none⟩ (.int .i64 (a : Int))) (some g) := by
  obtain ⟨h1, h2⟩ := h.row.stored i (.int .i64 (a : Int))
  refine ⟨⟨?_⟩, h2⟩
  have e : (t.map iv).set i (.int .i64 (a : Int)) = (t.set i a).map iv := by rw [List.map_set]; rfl
  rw [e] at h1
  rw [List.length_set]
  exact h1
/-- .. and the rows stay -/
theorem WalkAt.beside {w w' : World} {base base2 p g cap n g' cap' : Nat} {rs : List Rw} {t : List Nat} (h : WalkAt w base p g cap rs n) (ha : AtsAt w base2 g' cap' t) (hg : w.grownBy w' (some g')) : WalkAt w' base p g cap rs n := by
  obtain ⟨vr, h1, h2⟩ := h.ex
  have hne : some p ≠ some g' := h1.mk_.ne_own ha.row (by decide)
  have kp : ∀ {b e s m : Nat} {v : Value} {xs : List Value}, w.ownsRow b e s v m xs → e ≠ 3 → w'.ownsRow b e s v m xs := fun ho he => ho.kept hg (own_types ho ha.row he)
  exact ⟨⟨vr, h1.grown hg hne, kp h2 (by decide)⟩, fun r hr => ⟨kp (h.rows r hr).row (by decide), fun x hx => kp ((h.rows r hr).bytes x hx) (by decide)⟩, h.ok, h.hp⟩
theorem none_no {w : World} {base p g cap n : Nat} {rs : List Rw} (h : WalkAt w base p g cap rs n) : Calls Try.prog 32 #[.pointer (some ⟨p, 0, none⟩)] w fun e w' => e = .returned (.bool false) ∧ w = w' := by
  obtain ⟨vr, h1, h2⟩ := h.ex
  obtain ⟨Ar, cr, rfl⟩ := slice_ofH h2
  obtain ⟨g1, g2, g3⟩ := h1.facts
  have q := fun (w : World) (a : Option Addr) (n c n' c' : Nat) => Lib.run_eql_slice_nil (P := Try.prog) w 32 3 a n c n' c' Try.underlying32
  clear h h1 h2
  go_enter Try.func32, Try.ntmps32
  go_wp2
  go_ret
  exact ⟨rfl, rfl⟩
theorem sooner_any {w : World} {b : Nat} {best : Value} {ob : Option Hd} {x : Hd} {B : Nat} (hb : Blk w b 23 #[best]) (h1 : best = match ob with | none => .slice none 0 0 | some y => y.v) (h2 : ∀ y, ob = some y → goodHd w B y ∧ y.A ≠ none) (hx : goodHd w B x) :
    Calls Try.prog 44 #[x.v, .pointer (some ⟨b, 0, none⟩)] w fun e w' => e = .returned (.bool (better (ob.map Hd.l) x.l)) ∧ w = w' := by
  obtain ⟨g1, g2, g3⟩ := hb.facts
  have q := fun (w : World) (a : Option Addr) (n c n' c' : Nat) => Lib.run_eql_slice_nil (P := Try.prog) w 23 5 a n c n' c' Try.underlying23
  obtain ⟨xA, xc, xl⟩ := x
  show Calls Try.prog 44 #[.slice xA xl.length xc, _] w _
  cases ob with
  | none =>
    subst h1
    clear h2 hb
    go_enter Try.func44, Try.ntmps44
    go_wp2
    go_ret
    exact ⟨rfl, rfl⟩
  | some y =>
    obtain ⟨yA, yc, yl⟩ := y
    have h3 := h2 _ rfl
    have C := hide (kcmp_any xA yA xl.length xc yl.length yc B B xl yl w hx.1 h3.1.1)
    have e : better ((some (⟨yA, yc, yl⟩ : Hd)).map Hd.l) xl = decide (cmpK xl yl < 0) := rfl
    rw [e]
    obtain ⟨ad, hA⟩ : ∃ ad, yA = some ad := Option.ne_none_iff_exists'.1 h3.2
    subst hA
    have h4 : best = .slice (some ad) yl.length yc := h1
    subst h4
    generalize cmpK xl yl = r at C ⊢
    clear h2 h3 hb hx h1 e
    go_enter Try.func44, Try.ntmps44
    go_wp2_with fail
    refine C.out.mono ?_
    rintro e w1 ⟨rfl, rfl⟩
    go_wp2_with fail
    go_ret
    exact ⟨ret_bool rfl, rfl⟩
theorem OwnRow.rowR {w : World} {base : Nat} {r : Rw} (h : OwnRow w base r.v r.hs) : RowR w w.heap.size r.A r.hs := by
  obtain ⟨A, c, e, hr, _⟩ := h.slice_
  have : r.A = A := by have := e; simp [Rw.v] at this; exact this.1
  rw [this]
  exact hr
theorem own_some {w : World} {base : Nat} {x : Hd} (ho : w.ownsRow base 5 1 x.v x.l.length (x.l.map bv)) (hl : 1 ≤ x.l.length) : x.A ≠ none := by
  intro e
  rcases ho.2 with ⟨_, h0⟩ | ⟨g, cap, cur, e2, _⟩
  · omega
  · simp [Hd.v, e] at e2
def obv (ob : Option Hd) : Value := match ob with | none => .slice none 0 0 | some y => y.v
theorem obv_slice (ob : Option Hd) : ∃ A n c, obv ob = .slice A n c := by
  cases ob with
  | none => exact ⟨_, _, _, rfl⟩
  | some y => exact ⟨_, _, _, rfl⟩
theorem leastU_no {R : List (List Key)} {t : List Nat} {i : Nat} (h : (R.getD i [])[t.getD i 0]? = none) : leastU R t (i + 1) = leastU R t i := by rw [leastU, h]
theorem leastU_yes {R : List (List Key)} {t : List Nat} {i : Nat} {x : Key} (h : (R.getD i [])[t.getD i 0]? = some x) : leastU R t (i + 1) = if better (leastU R t i) x then some x else leastU R t i := by rw [leastU, h]
set_option maxHeartbeats 1000000 in
theorem least_any {w : World} {base base' p g cap n g' cap' : Nat} {rs : List Rw} {t : List Nat} (h : WalkAt w base p g cap rs n) (ha : AtsAt w base' g' cap' t) (hn : n = rs.length) (ht : t.length = n) (hsm : n ≤ 1000) (hrl : ∀ r ∈ rs, r.hs.length ≤ 100000) (hal : ∀ a ∈ t, a ≤ 1000000) :
    Calls Try.prog 34 #[.pointer (some ⟨p, 0, none⟩), .slice (some ⟨g', 0, none⟩) n cap'] w fun e w' => ∃ ob : Option Hd, e = .returned (.tuple #[obv ob, .bool ob.isSome]) ∧ ob.map Hd.l = leastL (rws rs) t ∧ (∀ y, ob = some y → goodHd w w.heap.size y ∧ y.A ≠ none ∧ ∃ r ∈ rs, y ∈ r.hs) ∧ Below w.heap.size w w' := by
  have eg : ∀ args w, (callFunc 44 args).run Try.prog w = .ok (.enter 44 args) w := enters_of Try.func44 (by kernel_rfl) rfl
  obtain ⟨vr, h1, h2⟩ := h.ex
  obtain ⟨Ar, cr, rfl⟩ := slice_ofH h2
  have hrr : Reads w w.heap.size 1 Ar n (rs.map Rw.v) := by rw [hn]; exact Reads.of_own h2
  rw [← hn] at h1
  have HBK := hide (h1.below (bel1 w (.cells #[.slice none 0 0] 23)) h1.lt)
  obtain ⟨g1, g2, g3⟩ := HBK.out.facts
  have HW := hide h
  have HA := hide ha
  have HRR := hide hrr
  have HN := hide hn
  have HT := hide ht
  have HRL := hide hrl
  have HAL := hide hal
  have q := fun (w : World) (a : Option Addr) (n c n' c' : Nat) => Lib.run_eql_slice_nil (P := Try.prog) w 23 5 a n c n' c' Try.underlying23
  have q2 := fun (w : World) (a : Option Addr) (n c n' c' : Nat) => run_neq_slice_nil_any (P := Try.prog) w 23 5 a n c n' c' Try.underlying23
  clear h ha h1 h2 hrr hn ht hrl hal
  go_enter Try.func34, Try.ntmps34
  go_wp2_with fail
  clear g1 g2 g3
  go_loopw [16] (fun v16 W => ∃ (i : Nat) (ob : Option Hd), i ≤ n ∧ v16 = .int .i64 i ∧ Hid (Blk W w.heap.size 23 #[obv ob]) ∧ Hid (ob.map Hd.l = leastU (rws rs) t i) ∧ Hid (∀ y, ob = some y → goodHd w w.heap.size y ∧ y.A ≠ none ∧ ∃ r ∈ rs, y ∈ r.hs) ∧ Hid (Below w.heap.size w W)) (fun v16 _ => n - (intOf v16).toNat)
  case atStart => exact ⟨0, none, by omega, rfl, hide (Blk.new w 23 _), hide rfl, hide (fun y hy => by cases hy), hide (bel1 _ _)⟩
  case round =>
    obtain ⟨i, ob, hi, rfl, HB, HE, HG, HBe⟩ := hrel
    by_cases hlt : i < n
    · obtain ⟨r, hr⟩ : ∃ r, rs[i]? = some r := ⟨_, List.getElem?_eq_getElem (by rw [← HN.out]; exact hlt)⟩
      obtain ⟨a, hat⟩ : ∃ a, t[i]? = some a := ⟨_, List.getElem?_eq_getElem (by rw [HT.out]; exact hlt)⟩
      have hrm := List.mem_of_getElem? hr
      obtain ⟨ad, rfl, hab, c1⟩ := (HRR.out.below HBe.out).2 i r.v (by rw [List.getElem?_map, hr]; rfl)
      obtain ⟨c2, _, _⟩ := (HA.out.below HBe.out).at_ hat
      have hrow := (HW.out.rows r hrm).rowR
      have hrl := HRL.out r hrm
      have hal := HAL.out a (List.mem_of_getElem? hat)
      have hiI : (i : Int) < (n : Int) := by omega
      have hgR : (rws rs).getD i [] = keys r.hs := by rw [List.getD_eq_getElem?_getD, List.getElem?_map, hr]; rfl
      have hgT : t.getD i 0 = a := by rw [List.getD_eq_getElem?_getD, hat]; rfl
      have hbsz := HBe.out.size
      have hne : ad.block ≠ w.heap.size := by omega
      have hg2 : g' ≠ w.heap.size := by have h := (own_lt (g := g') HA.out.row rfl).2; omega
      obtain ⟨rA, rc, rhs⟩ := r
      have c1' : wr.cell? (ad.add i) = some (.slice rA rhs.length rc) := c1
      simp only at hrl hgR hrow
      have HGR := hide hgR
      have HGT := hide hgT
      have HROW := hide hrow
      have HRM := hide hrm
      clear c1 hr hat hrow hgR hgT hrm
      by_cases hax : a < rhs.length
      · obtain ⟨x, hx⟩ : ∃ x, rhs[a]? = some x := ⟨_, List.getElem?_eq_getElem hax⟩
        have hxm := List.mem_of_getElem? hx
        obtain ⟨ad2, rfl, hab2, c3⟩ := (HROW.out.below HBe.out).at_ hx
        have hgx := HROW.out.good x hxm
        have hxl := (mayK_iff.1 ((HW.out.ok _ HRM.out).1 x.l (List.mem_map_of_mem hxm))).1
        have hxs := own_some ((HW.out.rows _ HRM.out).bytes x hxm) hxl
        have C1 := hide (sooner_any (ob := ob) (B := w.heap.size) HB.out (by cases ob <;> rfl) (fun y hy => ⟨(HG.out y hy).1.below HBe.out, (HG.out y hy).2.1⟩) (hgx.below HBe.out))
        have haI : (a : Int) < (rhs.length : Int) := by omega
        have hstep := leastU_yes (R := rws rs) (t := t) (i := i) (x := x.l) (by rw [HGR.out, HGT.out, List.getElem?_map, hx]; rfl)
        obtain ⟨b1, b2, b3⟩ := HB.out.facts
        obtain ⟨rn, hrn⟩ : ∃ rn, rn = rhs.length := ⟨_, rfl⟩
        rw [← hrn] at c1' haI hrl
        rw [← HE.out] at hstep
        have HGX := hide (And.intro hgx (And.intro hxs (⟨_, HRM.out, hxm⟩ : ∃ r ∈ rs, x ∈ r.hs)))
        have HST := hide hstep
        obtain ⟨xA, xc, xl⟩ := x
        have C1' : Hid (Calls Try.prog 44 #[.slice xA xl.length xc, .pointer (some ⟨w.heap.size, 0, none⟩)] wr fun e w' => e = .returned (.bool (better (ob.map Hd.l) xl)) ∧ wr = w') := C1
        simp only at c3
        obtain ⟨bn, hbn⟩ : ∃ bn, bn = better (ob.map Hd.l) xl := ⟨_, rfl⟩
        rw [← hbn] at C1'
        have HBN := hide hbn
        clear hx hxm hgx hxl hxs C1 hstep hax hrn hbn
        cases bn with
        | true =>
          go_wp2_with fail
          refine C1'.out.mono ?_
          rintro e w2 ⟨rfl, rfl⟩
          go_wp2_with fail
          go_roundw
          case rel =>
            refine ⟨i + 1, some ⟨xA, xc, xl⟩, by omega, by go_num, hide (by simpa [obv, Hd.v] using HB.out.set_ 0 (.slice xA xl.length xc)), hide ?_, hide (fun y hy => by cases hy; exact HGX.out), hide (bset HBe.out (Nat.le_refl _) 0 _)⟩
            rw [HST.out, if_pos HBN.out.symm]
            rfl
          case measure => simp [intOf]; omega
        | false =>
          go_wp2_with fail
          refine C1'.out.mono ?_
          rintro e w2 ⟨rfl, rfl⟩
          go_wp2_with fail
          go_roundw
          case rel =>
            refine ⟨i + 1, ob, by omega, by go_num, HB, hide ?_, HG, HBe⟩
            rw [HST.out, if_neg (by rw [← HBN.out]; simp)]
          case measure => simp [intOf]; omega
      · have haI : ¬ (a : Int) < (rhs.length : Int) := by omega
        have hstep := leastU_no (R := rws rs) (t := t) (i := i) (by rw [HGR.out, HGT.out]; exact List.getElem?_eq_none (by rw [List.length_map]; omega))
        have HST := hide hstep
        obtain ⟨rn, hrn⟩ : ∃ rn, rn = rhs.length := ⟨_, rfl⟩
        rw [← hrn] at c1' haI hrl
        clear hstep hax hrn
        go_wp2_with fail
        go_roundw
        case rel => exact ⟨i + 1, ob, by omega, by go_num, HB, hide (by rw [HST.out]; exact HE.out), HG, HBe⟩
        case measure => simp [intOf]; omega
    · obtain rfl : i = n := by omega
      have hnl : ¬ (i : Int) < i := by omega
      obtain ⟨b1, b2, b3⟩ := HB.out.facts
      go_upto_region 9 with fail
      cases ob with
      | none =>
        have b1' : wr.cell? ⟨w.heap.size, 0, none⟩ = some (.slice none 0 0) := b1 0
        clear b1
        go_quiet (fail)
        go_wp2_with fail
        go_ret2
        refine ⟨none, rfl, ?_, HG.out, HBe.out.trans (c := wr.drewN nq) ⟨rfl, rfl, rfl, Nat.le_refl _, fun _ _ => rfl⟩⟩
        rw [HE.out, HN.out]
        show leastU _ _ _ = leastU _ _ (rws rs).length
        rw [List.length_map]
      | some y =>
        obtain ⟨yA, yc, yl⟩ := y
        obtain ⟨ad, hA⟩ : ∃ ad, yA = some ad := Option.ne_none_iff_exists'.1 (HG.out _ rfl).2.1
        subst hA
        have b1' : wr.cell? ⟨w.heap.size, 0, none⟩ = some (.slice (some ad) yl.length yc) := b1 0
        clear b1
        go_quiet (fail)
        go_wp2_with fail
        go_ret2
        refine ⟨some ⟨some ad, yc, yl⟩, rfl, ?_, HG.out, HBe.out.trans (c := wr.drewN nq) ⟨rfl, rfl, rfl, Nat.le_refl _, fun _ _ => rfl⟩⟩
        rw [HE.out, HN.out]
        show leastU _ _ _ = leastU _ _ (rws rs).length
        rw [List.length_map]
end Go.Proofs.Yteiamfekdibkmaa
