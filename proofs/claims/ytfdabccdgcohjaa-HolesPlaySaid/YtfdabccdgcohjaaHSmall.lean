/-
  THE WALKS of the small functions of holes: none, the closures, slices.IndexFunc, slices.ContainsFunc. Conditions: as the theorems' premises say.
-/
import Derived.Test.YtfdabccdgcohjaaProg
import Derived.Test.YtfdabccdgcohjaaHW
import Derived.Shelf.Abstract
import Derived.WalkKit
import Derived.WalkSpells
import Derived.WalkLawsBesides
import Derived.KernelRfl
namespace Go.Proofs.Ytfdabccdgcohjaa
open Go.RowKit Go.Shelf

theorem ret_bool {a b : Bool} (h : a = b) : Ending.returned (.bool a) = .returned (.bool b) := by rw [h]
theorem ret_int {k : IntKind} {a b : Int} (h : a = b) : Ending.returned (.int k a) = .returned (.int k b) := by rw [h]

theorem none_no {w : World} {p : Nat} {v : Value} (h : Blk w p 61 #[v, .bool true]) : Calls Try.prog 27 #[.pointer (some ⟨p, 0, none⟩)] w fun e w' => e = .returned (.bool false) ∧ w = w' := by
  obtain ⟨c1, f1, s1⟩ := h.facts
  clear h
  go_enter Try.func27, Try.ntmps27
  go_wp2
  go_ret
  exact ⟨rfl, rfl⟩
theorem none_yes (w : World) : Calls Try.prog 27 #[.pointer none] w fun e w' => e = .returned (.bool true) ∧ w = w' := by
  go_enter Try.func27, Try.ntmps27
  go_wp2
  go_ret
  exact ⟨rfl, rfl⟩
theorem touch_any {w : World} {g : Nat} {s a : St} (h : Blk w g 41 #[.int .u64 (a.lo : Int), .int .u64 (a.hi : Int)]) (hs : s.hi ≤ 1099511627776) (ha : a.hi ≤ 1099511627776) :
    Calls Try.prog 28 #[.agg #[.int .u64 (s.lo : Int), .int .u64 (s.hi : Int)], .pointer (some ⟨g, 0, none⟩)] w fun e w' => e = .returned (.bool (touch s a)) ∧ Below w.heap.size w w' := by
  obtain ⟨c1, f1, s1⟩ := h.facts
  obtain ⟨slo, shi⟩ := s
  obtain ⟨alo, ahi⟩ := a
  have hne : g ≠ w.heap.size := by omega
  have hw1 : IntKind.u64.wrap ((ahi : Int) + 1) = (ahi : Int) + 1 := IntWalk.u64_in _ ⟨by omega, by show (ahi : Int) + 1 ≤ _; simp only at ha; omega⟩
  have hw2 : IntKind.u64.wrap ((shi : Int) + 1) = (shi : Int) + 1 := IntWalk.u64_in _ ⟨by omega, by simp only at hs; omega⟩
  simp only [touch] at *
  clear h
  go_enter Try.func28, Try.ntmps28
  go_wp2
  all_goals (go_ret; refine ⟨ret_bool ?_, bel1 _ _⟩; first | (rw [Bool.eq_iff_iff]; done) | (rw [Bool.eq_iff_iff]; simp <;> omega))
theorem behind_any {w : World} {g : Nat} {s a : St} (h : Blk w g 41 #[.int .u64 (a.lo : Int), .int .u64 (a.hi : Int)]) :
    Calls Try.prog 30 #[.agg #[.int .u64 (s.lo : Int), .int .u64 (s.hi : Int)], .pointer (some ⟨g, 0, none⟩)] w fun e w' => e = .returned (.bool (decide (a.hi < s.lo))) ∧ Below w.heap.size w w' := by
  obtain ⟨c1, f1, s1⟩ := h.facts
  obtain ⟨slo, shi⟩ := s
  obtain ⟨alo, ahi⟩ := a
  have hne : g ≠ w.heap.size := by omega
  simp only at *
  clear h
  go_enter Try.func30, Try.ntmps30
  go_wp2
  all_goals (go_ret; refine ⟨ret_bool ?_, bel1 _ _⟩; simp)
theorem atOne_any {w : World} {g n : Nat} {s : St} (h : Blk w g 28 #[.int .u64 (n : Int)]) :
    Calls Try.prog 40 #[.agg #[.int .u64 (s.lo : Int), .int .u64 (s.hi : Int)], .pointer (some ⟨g, 0, none⟩)] w fun e w' => e = .returned (.bool (s.has n)) ∧ Below w.heap.size w w' := by
  obtain ⟨c1, f1, s1⟩ := h.facts
  obtain ⟨slo, shi⟩ := s
  have hne : g ≠ w.heap.size := by omega
  simp only [St.has] at *
  clear h
  go_enter Try.func40, Try.ntmps40
  go_wp2
  all_goals (go_ret; refine ⟨ret_bool ?_, bel1 _ _⟩; first | (rw [Bool.eq_iff_iff]; done) | (rw [Bool.eq_iff_iff]; simp <;> omega))
theorem sureOne_any {w : World} {g g2 n m : Nat} {s : St} (h : Blk w g 28 #[.int .u64 (n : Int)]) (h2 : Blk w g2 28 #[.int .u64 (m : Int)]) (hs : s.hi ≤ 1099511627776) :
    Calls Try.prog 33 #[.agg #[.int .u64 (s.lo : Int), .int .u64 (s.hi : Int)], .pointer (some ⟨g, 0, none⟩), .pointer (some ⟨g2, 0, none⟩)] w fun e w' => e = .returned (.bool (sureB n m s)) ∧ Below w.heap.size w w' := by
  obtain ⟨c1, f1, s1⟩ := h.facts
  obtain ⟨c2, f2, s2⟩ := h2.facts
  obtain ⟨slo, shi⟩ := s
  have hne : g ≠ w.heap.size := by omega
  have hne2 : g2 ≠ w.heap.size := by omega
  simp only [sureB] at *
  clear h h2
  by_cases hn : n < shi
  · have hw1 : IntKind.u64.wrap ((n : Int) + 1) = (n : Int) + 1 := IntWalk.u64_in _ ⟨by omega, by omega⟩
    go_enter Try.func33, Try.ntmps33
    go_wp2
    all_goals (go_ret; refine ⟨ret_bool ?_, bel1 _ _⟩; first | (rw [Bool.eq_iff_iff]; done) | (rw [Bool.eq_iff_iff]; simp <;> omega))
  · have hn2 : ¬ (n : Int) < (shi : Int) := by omega
    go_enter Try.func33, Try.ntmps33
    go_wp2
    all_goals (go_ret; refine ⟨ret_bool ?_, bel1 _ _⟩; first | (rw [Bool.eq_iff_iff]; done) | (rw [Bool.eq_iff_iff]; simp <;> omega))
/-- the first place at which a test holds -/
def idxP (q : St → Bool) : List St → Option Nat
  | [] => none
  | s :: r => if q s then some 0 else (idxP q r).map (· + 1)
def idxI (q : St → Bool) (L : List St) : Int := match idxP q L with | none => -1 | some k => (k : Int)
theorem idxP_hit {q : St → Bool} : ∀ {L : List St} {k : Nat} {s : St}, (∀ j t, j < k → L[j]? = some t → q t = false) → L[k]? = some s → q s = true → idxP q L = some k
  | x :: r, 0, s, _, hk, hs => by
    simp at hk
    subst hk
    rw [idxP, if_pos hs]
  | x :: r, k + 1, s, h, hk, hs => by
    have h0 := h 0 x (by omega) rfl
    rw [idxP, h0, if_neg (by simp), idxP_hit (L := r) (k := k) (fun j t hj ht => h (j + 1) t (by omega) (by simpa using ht)) (by simpa using hk) hs]
    rfl
theorem idxP_miss {q : St → Bool} : ∀ {L : List St}, (∀ (j : Nat) t, L[j]? = some t → q t = false) → idxP q L = none
  | [], _ => rfl
  | x :: r, h => by
    have h0 := h 0 x rfl
    rw [idxP, h0, if_neg (by simp), idxP_miss (L := r) (fun j t ht => h (j + 1) t (by simpa using ht))]
    rfl
theorem idxP_lt {q : St → Bool} : ∀ {L : List St} {k : Nat}, idxP q L = some k → k < L.length
  | [], _, h => by cases h
  | x :: r, k, h => by
    rw [idxP] at h
    split at h
    · cases h
      simp
    · obtain ⟨k', h1, h2⟩ := Option.map_eq_some_iff.1 h
      have := idxP_lt h1
      simp
      omega
theorem idxP_has (n : Nat) : ∀ L : List St, idxP (fun s => s.has n) L = idxL n L
  | [] => rfl
  | s :: r => by rw [idxP, idxL, idxP_has n r]
theorem idxP_place (a : St) : ∀ L : List St, (idxP (fun s => decide (a.hi < s.lo)) L).getD L.length = placeL a L
  | [] => rfl
  | s :: r => by
    rw [idxP, placeL]
    by_cases h : a.hi < s.lo
    · rw [if_pos (by simpa using h), if_pos h]
      rfl
    · rw [if_neg (by simpa using h), if_neg h, ← idxP_place a r]
      cases idxP (fun s => decide (a.hi < s.lo)) r <;> simp
theorem idxP_any {q : St → Bool} : ∀ L : List St, (idxP q L).isSome = L.any q
  | [] => rfl
  | s :: r => by
    rw [idxP, List.any_cons]
    cases h : q s
    · simp [idxP_any r]
    · simp

set_option maxHeartbeats 400000 in
theorem indexFunc_any (q : St → Bool) (g : Nat) (lb : Array Value) (eg : ∀ args w, (callFunc g args).run Try.prog w = .ok (.enter g args) w) (A : Option Addr) (c B n : Nat) (L : List St) (w : World) (hn : n = L.length)
    (hp : ∀ W s, Below w.heap.size w W → s ∈ L → Calls Try.prog g (#[.agg #[.int .u64 (s.lo : Int), .int .u64 (s.hi : Int)]] ++ lb) W fun e w' => e = .returned (.bool (q s)) ∧ Below w.heap.size w w')
    (h : RdS w B A L) (hB : B ≤ w.heap.size) (hsm : n ≤ 9223372036854775807) :
    Calls Try.prog 29 #[.slice A n c, .func (.func g) #[] lb] w fun e w' => e = .returned (.int .i64 (idxI q L)) ∧ Below w.heap.size w w' := by
  have HN := hide hn
  have HP := hide hp
  have HR := hide h
  clear hn hp h
  go_enter Try.func29, Try.ntmps29
  go_wp2_with fail
  go_loopw [5, 8] (fun _ v8 W => ∃ i : Nat, i ≤ n ∧ v8 = .int .i64 i ∧ Hid (Below w.heap.size w W) ∧ Hid (∀ j t, j < i → L[j]? = some t → q t = false)) (fun _ v8 _ => n - (intOf v8).toNat)
  case atStart => exact ⟨0, by omega, rfl, hide (Below.refl _ _), hide (fun j t hj => by omega)⟩
  case round =>
    obtain ⟨i, hi, rfl, HB, HJ⟩ := hrel
    by_cases hlt : i < n
    · obtain ⟨s, hs⟩ : ∃ s, L[i]? = some s := ⟨_, List.getElem?_eq_getElem (by rw [← HN.out]; exact hlt)⟩
      obtain ⟨ad, rfl, hab, c1, c2⟩ := RdS.at_ (HR.out.below (HB.out.mono hB)) hs
      have hcall := HP.out _ s HB.out (List.mem_of_getElem? hs)
      have HS := hide hs
      clear hs
      cases hq : q s with
      | true =>
        rw [hq] at hcall
        have HC := hide hcall
        have HQ := hide hq
        clear hcall hq
        go_wp2_with fail
        refine HC.out.mono ?_
        rintro e w1 ⟨rfl, hb⟩
        go_wp2_with fail
        go_ret
        refine ⟨ret_int ?_, hb⟩
        rw [idxI, idxP_hit HJ.out HS.out HQ.out]
      | false =>
        rw [hq] at hcall
        have HC := hide hcall
        have HQ := hide hq
        clear hcall hq
        go_wp2_with fail
        refine HC.out.mono ?_
        rintro e w1 ⟨rfl, hb⟩
        go_wp2_with fail
        go_roundw
        case rel =>
          refine ⟨i + 1, by omega, by go_num, hide hb, hide (fun j t hj ht => ?_)⟩
          rcases Nat.lt_or_ge j i with h1 | h1
          · exact HJ.out j t h1 ht
          · obtain rfl : j = i := by omega
            rw [HS.out] at ht
            cases ht
            exact HQ.out
        case measure => simp [intOf]; omega
    · obtain rfl : i = n := by omega
      have hnl : ¬ (i : Int) < i := by omega
      go_wp2_with fail
      go_ret
      refine ⟨ret_int ?_, HB.out⟩
      rw [idxI, idxP_miss fun j t ht => HJ.out j t (by rw [HN.out]; exact (List.getElem?_eq_some_iff.1 ht).1) ht]
theorem containsFunc_any (q : St → Bool) (g : Nat) (lb : Array Value) (eg : ∀ args w, (callFunc g args).run Try.prog w = .ok (.enter g args) w) (A : Option Addr) (c B n : Nat) (L : List St) (w : World) (hn : n = L.length)
    (hp : ∀ W s, Below w.heap.size w W → s ∈ L → Calls Try.prog g (#[.agg #[.int .u64 (s.lo : Int), .int .u64 (s.hi : Int)]] ++ lb) W fun e w' => e = .returned (.bool (q s)) ∧ Below w.heap.size w w')
    (h : RdS w B A L) (hB : B ≤ w.heap.size) (hsm : n ≤ 9223372036854775807) :
    Calls Try.prog 32 #[.slice A n c, .func (.func g) #[] lb] w fun e w' => e = .returned (.bool (L.any q)) ∧ Below w.heap.size w w' := by
  have hc := indexFunc_any q g lb eg A c B n L w hn hp h hB hsm
  have hx : decide (0 ≤ idxI q L) = L.any q := by
    rw [← idxP_any, idxI]
    cases idxP q L <;> simp
  generalize idxI q L = x at hc hx
  have HC := hide hc
  have HX := hide hx
  clear hc hp h hn hx
  go_enter Try.func32, Try.ntmps32
  go_wp2_with fail
  refine HC.out.mono ?_
  rintro e w1 ⟨rfl, hb⟩
  go_wp2_with fail
  all_goals (go_ret; refine ⟨ret_bool ?_, hb⟩; rw [← HX.out])
end Go.Proofs.Ytfdabccdgcohjaa
