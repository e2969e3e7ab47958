/-
  THE WALKS of holes: New, at, Has, Sure, Any, List, Many, Copy. Conditions: as the theorems' premises say.
-/
import Derived.Test.YtfdabccdgcohjaaHDel
import Derived.Deep.CutBlock
import Derived.Test.YtfdabccdgcohjaaPost
namespace Go.Proofs.Ytfdabccdgcohjaa
open Go.RowKit Go.Shelf

theorem own_mono {w : World} {base base' : Nat} {e : TypeId} {size n : Nat} {v : Value} {xs : List Value} (h : w.ownsRow base e size v n xs) (hb : base' ≤ base) : w.ownsRow base' e size v n xs := by
  refine ⟨h.1, ?_⟩
  rcases h.2 with hn | ⟨g, cap, cur, rfl, h1, rest⟩
  · exact .inl hn
  · exact .inr ⟨g, cap, cur, rfl, Nat.le_trans hb h1, rest⟩
theorem own_bel {w w' : World} {base : Nat} {e : TypeId} {size n : Nat} {v : Value} {xs : List Value} (h : w.ownsRow base e size v n xs) (hb : Below w.heap.size w w') : w'.ownsRow base e size v n xs := h.kept (only_of_below hb none) (Classical.em _)
theorem HoAt.lt {w : World} {base p : Nat} {L : List St} (h : HoAt w base p L) : p < w.heap.size := by
  obtain ⟨v, hb, _⟩ := h.ex
  exact hb.lt
theorem HoAt.below {w w' : World} {base p : Nat} {L : List St} (h : HoAt w base p L) (hb : Below w.heap.size w w') : HoAt w' base p L := by
  obtain ⟨v, h1, h2⟩ := h.ex
  exact ⟨⟨v, h1.below hb h1.lt, own_bel h2 hb⟩, h.hp, h.ok⟩
/-- other holes have turned -/
theorem HoAt.other {w w' : World} {base p q : Nat} {L K : List St} (h : HoAt w base q L) (hq : HoAt w base p K) (hg : w.grownBy w' (some p)) (hne : q ≠ p) : HoAt w' base q L := by
  obtain ⟨v, h1, h2⟩ := h.ex
  obtain ⟨u, h3, _⟩ := hq.ex
  exact ⟨⟨v, h1.grown hg (by simp [hne]), own_kept41 h2 h3.mk_ hg⟩, h.hp, h.ok⟩
theorem HoAt.mono {w : World} {base base' p : Nat} {L : List St} (h : HoAt w base p L) (hb : base' ≤ base) : HoAt w base' p L := by
  obtain ⟨v, h1, h2⟩ := h.ex
  exact ⟨⟨v, h1, own_mono h2 hb⟩, Nat.le_trans hb h.hp, h.ok⟩
theorem canon_len : ∀ {L : List St}, Canon L → ∀ {x : Nat}, (∀ s ∈ L, x < s.lo) → x ≤ 1099511627776 → L.length + x ≤ 1099511627776
  | [], _, x, _, hx => by simpa using hx
  | s :: r, ⟨h1, h2, h3, h4, h5⟩, x, h, _ => by
    have := canon_len h5 (x := s.hi) (fun t ht => by have := h4 t ht; omega) h3
    have := h s (List.mem_cons_self ..)
    rw [List.length_cons]
    omega
/-- a slice of stretches, taken apart -/
theorem own_slice {w : World} {base : Nat} {v : Value} {L : List St} (h : OwnS w base v L) : ∃ A c, v = .slice A L.length c ∧ RdS w w.heap.size A L := by
  rcases h.2 with ⟨rfl, h0⟩ | ⟨g, cap, cur, rfl, _⟩
  · refine ⟨none, 0, by rw [h0], ?_⟩
    have : L = [] := List.eq_nil_of_length_eq_zero h0
    subst this
    exact Reads.none_
  · exact ⟨_, _, rfl, Reads.of_own h⟩

theorem new_any (w : World) : Calls Try.prog 8 #[] w fun e w' => ∃ p, e = .returned (.pointer (some ⟨p, 0, none⟩)) ∧ HoAt w' w.heap.size p [] ∧ Below w.heap.size w w' ∧ p = w.heap.size := by
  go_enter Try.func8, Try.ntmps8
  go_wp2
  go_ret
  exact ⟨w.heap.size, rfl, ⟨⟨.slice none 0 0, Blk.new w 61 _, ⟨rfl, .inl ⟨rfl, rfl⟩⟩⟩, Nat.le_refl _, trivial⟩, bel1 _ _, rfl⟩

def posI : Option Nat → Int
  | none => -1
  | some k => (k : Int)
set_option maxHeartbeats 400000 in
theorem at_any {w : World} {base p : Nat} {L : List St} (h : HoAt w base p L) (n : Nat) (hsm : L.length ≤ 1000000) :
    Calls Try.prog 34 #[.pointer (some ⟨p, 0, none⟩), .int .u64 n] w fun e w' => e = .returned (.int .i64 (posI (idxL n L))) ∧ Below w.heap.size w w' := by
  obtain ⟨v, h1, h2⟩ := h.ex
  obtain ⟨A, c, rfl, hr⟩ := own_slice h2
  have eg : ∀ args w, (callFunc 40 args).run Try.prog w = .ok (.enter 40 args) w := enters_of Try.func40 (by kernel_rfl) rfl
  obtain ⟨W0, hW0⟩ : ∃ W0, W0 = w.alloc (.cells #[.int .u64 (n : Int)] 28) := ⟨_, rfl⟩
  have hb0 : Below w.heap.size w W0 := by rw [hW0]; exact bel1 _ _
  have h1' : Blk W0 p 61 #[.slice A L.length c, .bool true] := h1.below hb0 h1.lt
  have hn : Blk W0 w.heap.size 28 #[.int .u64 (n : Int)] := by rw [hW0]; exact Blk.new w 28 _
  have hcon := indexFunc_any (fun s => s.has n) 40 #[.pointer (some ⟨w.heap.size, 0, none⟩)] eg A c w.heap.size L.length L W0 rfl
    (fun W s hW _ => (atOne_any (hn.below hW hn.lt)).mono fun e w' ⟨he, hb⟩ => ⟨he, belFrom hW hb⟩) (hr.below hb0) hb0.size (by omega)
  have hx : idxI (fun s => s.has n) L = posI (idxL n L) := by
    rw [idxI, idxP_has]
    cases idxL n L <;> rfl
  rw [hx] at hcon
  generalize posI (idxL n L) = r at hcon ⊢
  obtain ⟨m, hm⟩ : ∃ m, m = L.length := ⟨_, rfl⟩
  rw [← hm] at hcon h1'
  have c1 := none_no h1'
  obtain ⟨g1, g2, g3⟩ := h1'.facts
  rw [hW0] at c1 hcon g1 g2 g3 hb0
  have HC := hide hcon
  have C1 := hide c1
  have HB := hide hb0
  clear hcon c1 h h1 h1' h2 hr hm hn hx hW0 hb0
  go_enter Try.func34, Try.ntmps34
  go_wp2_with fail
  refine C1.out.mono ?_
  rintro e w1 ⟨rfl, rfl⟩
  go_wp2_with fail
  refine HC.out.mono ?_
  rintro e w1 ⟨rfl, hb⟩
  go_wp2_with fail
  go_ret
  exact ⟨rfl, belFrom HB.out hb⟩
theorem posI_has (n : Nat) (L : List St) : decide (0 ≤ posI (idxL n L)) = has L n := by
  cases h : idxL n L with
  | none =>
    rw [idxL_none.1 h]
    rfl
  | some k =>
    cases h2 : has L n
    · rw [← idxL_none, h] at h2
      cases h2
    · simp [posI]
theorem has_any {w : World} {base p : Nat} {L : List St} (h : HoAt w base p L) (n : Nat) (hsm : L.length ≤ 1000000) :
    Calls Try.prog 14 #[.pointer (some ⟨p, 0, none⟩), .int .u64 n] w fun e w' => e = .returned (.bool (has L n)) ∧ Below w.heap.size w w' := by
  have hc := at_any h n hsm
  have hx := posI_has n L
  generalize posI (idxL n L) = r at hc hx
  have C := hide hc
  have X := hide hx
  clear hc hx
  go_enter Try.func14, Try.ntmps14
  go_wp2_with fail
  refine C.out.mono ?_
  rintro e w1 ⟨rfl, hb⟩
  go_wp2_with fail
  all_goals (go_ret; refine ⟨ret_bool ?_, hb⟩; rw [← X.out])
set_option maxHeartbeats 400000 in
theorem sure_any {w : World} {base p : Nat} {L : List St} (h : HoAt w base p L) (n m : Nat) (hsm : L.length ≤ 1000000) :
    Calls Try.prog 11 #[.pointer (some ⟨p, 0, none⟩), .int .u64 n, .int .u64 m] w fun e w' => e = .returned (.bool (sureL n m L)) ∧ Below w.heap.size w w' := by
  obtain ⟨v, h1, h2⟩ := h.ex
  obtain ⟨A, c, rfl, hr⟩ := own_slice h2
  have eg : ∀ args w, (callFunc 33 args).run Try.prog w = .ok (.enter 33 args) w := enters_of Try.func33 (by kernel_rfl) rfl
  obtain ⟨W0, hW0⟩ : ∃ W0, W0 = (w.alloc (.cells #[.int .u64 (n : Int)] 28)).alloc (.cells #[.int .u64 (m : Int)] 28) := ⟨_, rfl⟩
  have hb0 : Below w.heap.size w W0 := by rw [hW0]; exact bel2 _ _ _
  have h1' : Blk W0 p 61 #[.slice A L.length c, .bool true] := h1.below hb0 h1.lt
  have hn : Blk W0 w.heap.size 28 #[.int .u64 (n : Int)] := by rw [hW0]; exact (Blk.new w 28 _).alloc _
  have hn2 : Blk W0 (w.heap.size + 1) 28 #[.int .u64 (m : Int)] := by rw [hW0]; exact Blk.new1 w 28 _ _
  have hcon := containsFunc_any (sureB n m) 33 #[.pointer (some ⟨w.heap.size, 0, none⟩), .pointer (some ⟨w.heap.size + 1, 0, none⟩)] eg A c w.heap.size L.length L W0 rfl
    (fun W s hW hs => (sureOne_any (hn.below hW hn.lt) (hn2.below hW hn2.lt) (h.ok.mem hs).2.2).mono fun e w' ⟨he, hb⟩ => ⟨he, belFrom hW hb⟩) (hr.below hb0) hb0.size (by omega)
  have hx : (!L.any (sureB n m)) = sureL n m L := rfl
  generalize L.any (sureB n m) = r at hcon hx
  obtain ⟨m', hm⟩ : ∃ m', m' = L.length := ⟨_, rfl⟩
  rw [← hm] at hcon h1'
  have c1 := none_no h1'
  obtain ⟨g1, g2, g3⟩ := h1'.facts
  rw [hW0] at c1 hcon g1 g2 g3 hb0
  have HC := hide hcon
  have C1 := hide c1
  have HB := hide hb0
  have HX := hide hx
  clear hcon c1 h h1 h1' h2 hr hm hn hn2 hx hW0 hb0
  go_enter Try.func11, Try.ntmps11
  go_wp2_with fail
  refine C1.out.mono ?_
  rintro e w1 ⟨rfl, rfl⟩
  go_wp2_with fail
  refine HC.out.mono ?_
  rintro e w1 ⟨rfl, hb⟩
  go_wp2_with fail
  all_goals (go_ret; refine ⟨ret_bool ?_, belFrom HB.out hb⟩; rw [← HX.out])
theorem any_any {w : World} {base p : Nat} {L : List St} (h : HoAt w base p L) (m : Nat) (hsm : L.length ≤ 1000000) :
    Calls Try.prog 18 #[.pointer (some ⟨p, 0, none⟩), .int .u64 m] w fun e w' => e = .returned (.bool (!sureL 0 m L)) ∧ Below w.heap.size w w' := by
  have hc := sure_any h 0 m hsm
  have C := hide hc
  clear hc
  generalize sureL 0 m L = r at C ⊢
  go_enter Try.func18, Try.ntmps18
  go_wp2_with fail
  refine C.out.mono ?_
  rintro e w1 ⟨rfl, hb⟩
  go_wp2_with fail
  go_ret
  exact ⟨rfl, hb⟩
theorem list_any {w : World} {base p : Nat} {L : List St} (h : HoAt w base p L) (hsm : L.length ≤ 1000000) :
    Calls Try.prog 15 #[.pointer (some ⟨p, 0, none⟩)] w fun e w' => ∃ v, e = .returned v ∧ OwnS w' w.heap.size v L ∧ Below w.heap.size w w' := by
  obtain ⟨v, h1, h2⟩ := h.ex
  obtain ⟨A, c, rfl, hr⟩ := own_slice h2
  obtain ⟨m, hm⟩ : ∃ m, m = L.length := ⟨_, rfl⟩
  have hcon := clone_any A m c w.heap.size L w hr hm (by omega) (Nat.le_refl _)
  rw [← hm] at h1
  have c1 := none_no h1
  obtain ⟨g1, g2, g3⟩ := h1.facts
  have HC := hide hcon
  have C1 := hide c1
  clear hcon c1 h h1 h2 hr hm
  go_enter Try.func15, Try.ntmps15
  go_wp2_with fail
  refine C1.out.mono ?_
  rintro e w1 ⟨rfl, rfl⟩
  go_wp2_with fail
  refine HC.out.mono ?_
  rintro e w1 ⟨v, rfl, ho, hb⟩
  go_wp2_with fail
  go_ret
  exact ⟨v, rfl, ho, hb⟩
theorem copy_any {w : World} {base p : Nat} {L : List St} (h : HoAt w base p L) (hsm : L.length ≤ 1000000) :
    Calls Try.prog 21 #[.pointer (some ⟨p, 0, none⟩)] w fun e w' => ∃ q, e = .returned (.pointer (some ⟨q, 0, none⟩)) ∧ HoAt w' w.heap.size q L ∧ Below w.heap.size w w' := by
  obtain ⟨v, h1, h2⟩ := h.ex
  have C1 := hide (none_no h1)
  have C2 := hide (list_any h hsm)
  have HOK := hide h.ok
  clear h h1 h2
  go_enter Try.func21, Try.ntmps21
  go_wp2_with fail
  refine C1.out.mono ?_
  rintro e w1 ⟨rfl, rfl⟩
  go_wp2_with fail
  refine C2.out.mono ?_
  rintro e w1 ⟨v, rfl, ho, hb⟩
  obtain ⟨A, c, rfl, _⟩ := own_slice ho
  go_wp2_with fail
  go_ret
  exact ⟨w1.heap.size, rfl, ⟨⟨_, Blk.new w1 61 _, own_bel ho (bel1 _ _)⟩, hb.size, HOK.out⟩, belFrom hb (bel1 _ _)⟩
/-- the numbers of the first ones -/
theorem many_take : ∀ {L : List St} {i : Nat} {s : St}, L[i]? = some s → manyL (L.take (i + 1)) = manyL (L.take i) + (s.hi - s.lo + 1)
  | x :: r, 0, s, h => by
    simp at h
    subst h
    simp [manyL]
  | x :: r, i + 1, s, h => by
    have := many_take (L := r) (i := i) (s := s) (by simpa using h)
    rw [List.take_succ_cons, List.take_succ_cons, manyL, manyL, this]
    omega
theorem many_take_le : ∀ (L : List St) (i : Nat), manyL (L.take i) ≤ manyL L
  | [], i => by simp
  | x :: r, 0 => by simp [manyL]
  | x :: r, i + 1 => by
    have := many_take_le r i
    rw [List.take_succ_cons, manyL, manyL]
    omega
set_option maxHeartbeats 400000 in
theorem many_any {w : World} {base p : Nat} {L : List St} (h : HoAt w base p L) (hsm : L.length ≤ 1000000) :
    Calls Try.prog 17 #[.pointer (some ⟨p, 0, none⟩)] w fun e w' => e = .returned (.int .u64 (manyL L)) ∧ Below w.heap.size w w' := by
  have C2 := hide (list_any h hsm)
  have HOK := hide h.ok
  have hmm : manyL L ≤ 1099511627776 := by
    have := many_le (x := 0) h.ok (fun s hs => by have := h.ok.mem hs; omega) (by omega)
    omega
  clear h
  go_enter Try.func17, Try.ntmps17
  go_wp2_with fail
  refine C2.out.mono ?_
  rintro e w1 ⟨v, rfl, ho, hb⟩
  obtain ⟨A, c, rfl, hr⟩ := own_slice ho
  obtain ⟨m, hm⟩ : ∃ m, m = L.length := ⟨_, rfl⟩
  rw [← hm] at hsm ⊢
  have HM := hide hm
  have HR := hide hr
  have HB := hide hb
  clear ho hr hm hb C2
  go_wp2_with fail
  go_loopw [3, 5, 9] (fun v3 _ v9 W => ∃ i : Nat, i ≤ m ∧ v9 = .int .i64 i ∧ v3 = .int .u64 (manyL (L.take i)) ∧ Hid (Below w1.heap.size w1 W)) (fun _ _ v9 _ => m - (intOf v9).toNat)
  case atStart => exact ⟨0, by omega, rfl, rfl, hide (Below.refl _ _)⟩
  case round =>
    obtain ⟨i, hi, rfl, rfl, HW⟩ := hrel
    by_cases hlt : i < m
    · obtain ⟨s, hs⟩ : ∃ s, L[i]? = some s := ⟨_, List.getElem?_eq_getElem (by rw [← HM.out]; exact hlt)⟩
      obtain ⟨ad, rfl, hab, c1, c2⟩ := RdS.at_ (HR.out.below HW.out) hs
      have h1 := many_take hs
      have h2 := many_take_le L (i + 1)
      have h3 := HOK.out.mem (List.mem_of_getElem? hs)
      have HT := hide h1
      obtain ⟨t, ht⟩ : ∃ t, t = manyL (L.take i) := ⟨_, rfl⟩
      rw [← ht] at h1 ⊢
      obtain ⟨slo, shi⟩ := s
      simp only at *
      have HT2 := hide h1
      have e1 : IntKind.u64.wrap ((shi : Int) - (slo : Int)) = (shi : Int) - (slo : Int) := IntWalk.u64_in _ ⟨by omega, by omega⟩
      have e2 : IntKind.u64.wrap ((shi : Int) - (slo : Int) + 1) = (shi : Int) - (slo : Int) + 1 := IntWalk.u64_in _ ⟨by omega, by omega⟩
      have e3 : IntKind.u64.wrap ((t : Int) + ((shi : Int) - (slo : Int) + 1)) = ((t + (shi - slo + 1) : Nat) : Int) := by rw [IntWalk.u64_in _ ⟨by omega, by omega⟩]; omega
      have hbW := HW.out.size
      have hne : ad.block ≠ wr.heap.size := by omega
      clear hs h1 ht
      go_wp2_with fail
      go_roundw
      case rel => exact ⟨i + 1, by omega, by go_num, congrArg (Value.int IntKind.u64) (by have := HT2.out; omega), hide (balloc HW.out _)⟩
      case measure => simp [intOf]; omega
    · obtain rfl : i = m := by omega
      have hnl : ¬ (i : Int) < i := by omega
      go_wp2_with fail
      go_ret
      refine ⟨ret_int ?_, belFrom HB.out HW.out⟩
      rw [List.take_of_length_le (by rw [HM.out]; exact Nat.le_refl _)]
end Go.Proofs.Ytfdabccdgcohjaa
