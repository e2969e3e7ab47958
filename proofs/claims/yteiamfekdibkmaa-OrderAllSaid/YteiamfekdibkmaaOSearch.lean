/-
  THE WALK of slices.BinarySearchFunc over keys, of search, Search. Conditions: as the theorems' premises say.
-/
import Derived.Test.YteiamfekdibkmaaOW
import Derived.Shelf.Abstract
namespace Go.Proofs.Yteiamfekdibkmaa
open Go.RowKit Go.Shelf

set_option maxHeartbeats 1000000 in
theorem bsearch_any (A A' : Option Addr) (n c m d B B' : Nat) (hs : List Hd) (k : Key) (w : World) (h : RowR w B A hs) (hn : n = hs.length) (hsm : n ≤ 1000000) (hp : (keys hs).Pairwise ltK) (hk : Bs w B' A' m k) :
    Calls Try.prog 47 #[.slice A n c, .slice A' m d, .func (Fn.func 12) #[] #[]] w fun e w' => e = .returned (.tuple #[.int .i64 (posL k (keys hs)), .bool (isL k (keys hs))]) ∧ w = w' := by
  have eg : ∀ args w, (callFunc 12 args).run Try.prog w = .ok (.enter 12 args) w := enters_of Try.func12 (by kernel_rfl) rfl
  have HR := hide h
  have HN := hide hn
  have HP := hide hp
  have HK := hide hk
  clear h hn hp hk
  go_enter Try.func47, Try.ntmps47
  go_wp2_with fail
  go_loopw [9, 10] (fun v9 v10 W => W = w ∧ ∃ lo hi : Nat, lo ≤ hi ∧ hi ≤ n ∧ v9 = .int .i64 lo ∧ v10 = .int .i64 hi ∧ Hid (∀ j x, j < lo → (keys hs)[j]? = some x → ltK x k) ∧ Hid (∀ j x, hi ≤ j → (keys hs)[j]? = some x → ¬ ltK x k)) (fun v9 v10 _ => (intOf v10).toNat - (intOf v9).toNat)
  case atStart => exact ⟨rfl, 0, n, by omega, Nat.le_refl _, rfl, rfl, hide (fun j x hj => by omega), hide (fun j x hj hx => by have := (List.getElem?_eq_some_iff.1 hx).1; rw [List.length_map, ← HN.out] at this; omega)⟩
  case round =>
    obtain ⟨rfl, lo, hi, hlh, hhn, rfl, rfl, HL, HH⟩ := hrel
    by_cases hlt : lo < hi
    · obtain ⟨mid, hmid⟩ : ∃ mid, mid = (lo + hi) / 2 := ⟨_, rfl⟩
      have hltI : (lo : Int) < (hi : Int) := by omega
      have hm1 : lo ≤ mid := by omega
      have hm2 : mid < hi := by omega
      have hmI : (mid : Int) < (n : Int) := by omega
      have hmd : ((lo : Int) + (hi : Int)) / 2 = (mid : Int) := by omega
      obtain ⟨x, hx⟩ : ∃ x, hs[mid]? = some x := ⟨_, List.getElem?_eq_getElem (by rw [← HN.out]; omega)⟩
      have hkx : (keys hs)[mid]? = some x.l := by rw [List.getElem?_map, hx]; rfl
      obtain ⟨ad, rfl, hab, c1⟩ := HR.out.at_ hx
      have hgx := HR.out.good x (List.mem_of_getElem? hx)
      have C1 := hide (kcmp_any x.A A' x.l.length x.c m d B B' x.l k wr hgx.1 HK.out)
      have HKX := hide hkx
      clear hx hkx hgx hmid
      by_cases hlk : ltK x.l k
      · have hl2 : cmpK x.l k < 0 := hlk
        have HLK := hide hlk
        clear hlk
        generalize cmpK x.l k = r at C1 hl2
        go_wp2_with fail
        refine C1.out.mono ?_
        rintro e w2 ⟨rfl, rfl⟩
        go_wp2_with fail
        go_roundw
        case rel =>
          refine ⟨by first | trivial | rfl, mid + 1, hi, by omega, hhn, by go_num, rfl, hide fun j y hj hy => ?_, HH⟩
          by_cases hjm : j = mid
          · subst hjm
            rw [HKX.out] at hy
            cases hy
            exact HLK.out
          · exact ltK_trans (pair_lt HP.out (by omega) hy HKX.out) HLK.out
        case measure => simp [intOf]; omega
      · have hl2 : ¬ cmpK x.l k < 0 := hlk
        have HLK := hide hlk
        clear hlk
        generalize cmpK x.l k = r at C1 hl2
        have hl3 : ¬ r < 0 := hl2
        go_wp2_with fail
        refine C1.out.mono ?_
        rintro e w2 ⟨rfl, rfl⟩
        go_wp2_with fail
        go_roundw
        case rel =>
          refine ⟨by first | trivial | rfl, lo, mid, by omega, by omega, rfl, by go_num, HL, hide fun j y hj hy => ?_⟩
          by_cases hjm : j = mid
          · subst hjm
            rw [HKX.out] at hy
            cases hy
            exact HLK.out
          · exact fun hlt => HLK.out (ltK_trans (pair_lt HP.out (by omega) HKX.out hy) hlt)
        case measure => simp [intOf]; omega
    · obtain rfl : lo = hi := by omega
      have hpos : posL k (keys hs) = lo := posL_eq (by rw [List.length_map, ← HN.out]; exact hhn) HL.out (fun x hx => HH.out lo x (Nat.le_refl _) hx)
      have HPOS := hide hpos
      clear hpos hlt hlh
      by_cases hln : lo < n
      · obtain ⟨x, hx⟩ : ∃ x, hs[lo]? = some x := ⟨_, List.getElem?_eq_getElem (by rw [← HN.out]; exact hln)⟩
        have hkx : (keys hs)[lo]? = some x.l := by rw [List.getElem?_map, hx]; rfl
        obtain ⟨ad, rfl, hab, c1⟩ := HR.out.at_ hx
        have hgx := HR.out.good x (List.mem_of_getElem? hx)
        have C1 := hide (kcmp_any x.A A' x.l.length x.c m d B B' x.l k wr hgx.1 HK.out)
        have hlnI : (lo : Int) < (n : Int) := by omega
        have his : isL k (keys hs) = decide (cmpK x.l k = 0) := by
          unfold isL
          rw [HPOS.out, hkx, Bool.eq_iff_iff, decide_eq_true_iff, decide_eq_true_iff, cmp_zero]
          simp
        generalize cmpK x.l k = r at C1 his
        have HIS := hide his
        clear hx hkx hgx his
        by_cases hr : r = 0
        · subst hr
          go_wp2_with fail
          refine C1.out.mono ?_
          rintro e w2 ⟨rfl, rfl⟩
          go_wp2_with fail
          go_ret2
          refine ⟨?_, by first | trivial | rfl⟩
          rw [HPOS.out, HIS.out]
          rfl
        · have hr2 : (r == 0) = false := by simpa using hr
          have HRN := hide hr
          go_wp2_with fail
          refine C1.out.mono ?_
          rintro e w2 ⟨rfl, rfl⟩
          go_wp2_with fail
          go_ret2
          refine ⟨?_, by first | trivial | rfl⟩
          rw [HPOS.out, HIS.out, decide_eq_false HRN.out]
          rfl
      · have hlnI : ¬ (lo : Int) < (n : Int) := by omega
        have his : isL k (keys hs) = false := by
          unfold isL
          rw [HPOS.out, List.getElem?_eq_none (by rw [List.length_map, ← HN.out]; omega)]
          rfl
        have HIS := hide his
        clear his
        go_wp2_with fail
        go_ret2
        refine ⟨?_, by first | trivial | rfl⟩
        rw [HPOS.out, HIS.out]
        rfl
/-- search -/
theorem search_any (A A' : Option Addr) (n c m d B B' : Nat) (hs : List Hd) (k : Key) (w : World) (h : RowR w B A hs) (hn : n = hs.length) (hsm : n ≤ 1000000) (hp : (keys hs).Pairwise ltK) (hk : Bs w B' A' m k) :
    Calls Try.prog 39 #[.slice A n c, .slice A' m d] w fun e w' => e = .returned (.tuple #[.int .i64 (posL k (keys hs)), .bool (isL k (keys hs))]) ∧ w = w' := by
  have C := hide (bsearch_any A A' n c m d B B' hs k w h hn hsm hp hk)
  generalize posL k (keys hs) = r1 at C ⊢
  generalize isL k (keys hs) = r2 at C ⊢
  clear h hn hp hk
  go_enter Try.func39, Try.ntmps39
  go_wp2_with fail
  refine C.out.mono ?_
  rintro e w1 ⟨rfl, rfl⟩
  go_wp2_with fail
  go_ret2
  exact ⟨rfl, rfl⟩
/-- Search's answer -/
def searchO (k : Key) (l : List Key) : Nat × Bool := if mayR l then (posL k l, isL k l) else (0, false)
theorem Search_any (A A' : Option Addr) (n c m d B B' : Nat) (hs : List Hd) (k : Key) (w : World) (h : RowR w B A hs) (hn : n = hs.length) (hsm : n ≤ 1000000) (hk : Bs w B' A' m k) :
    Calls Try.prog 16 #[.slice A n c, .slice A' m d] w fun e w' => e = .returned (.tuple #[.int .i64 (searchO k (keys hs)).1, .bool (searchO k (keys hs)).2]) ∧ w = w' := by
  have C1 := hide (may_any A n c B hs w h hn (by unfold maxLen; omega))
  unfold searchO
  cases hm : mayR (keys hs) with
  | false =>
    rw [hm] at C1
    clear h hn hk hm
    go_enter Try.func16, Try.ntmps16
    go_wp2_with fail
    refine C1.out.mono ?_
    rintro e w1 ⟨rfl, rfl⟩
    go_wp2_with fail
    go_ret2
    exact ⟨rfl, rfl⟩
  | true =>
    rw [hm] at C1
    have C2 := hide (search_any A A' n c m d B B' hs k w h hn hsm (mayR_iff.1 hm).2 hk)
    simp only [if_true]
    generalize posL k (keys hs) = r1 at C2 ⊢
    generalize isL k (keys hs) = r2 at C2 ⊢
    clear h hn hk hm
    go_enter Try.func16, Try.ntmps16
    go_wp2_with fail
    refine C1.out.mono ?_
    rintro e w1 ⟨rfl, rfl⟩
    go_wp2_with fail
    refine C2.out.mono ?_
    rintro e w1 ⟨rfl, rfl⟩
    go_wp2_with fail
    go_ret2
    exact ⟨rfl, rfl⟩
end Go.Proofs.Yteiamfekdibkmaa
