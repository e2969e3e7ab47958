/-
  THE WALK of HolesWide. Conditions: none.
-/
import Derived.Test.YtfdabccdgcohjaaHWakes
namespace Go.Proofs.Ytfdabccdgcohjaa
open Go.RowKit Go.Shelf

/-- what is left of a stretch without a number -/
def cutS (lo hi n : Nat) : List St := (if lo < n then [⟨lo, n - 1⟩] else []) ++ (if n < hi then [⟨n + 1, hi⟩] else [])
theorem wide1 {lo hi : Nat} (h1 : 2 ≤ lo) (h2 : lo ≤ hi) (h3 : hi < 1099511627776) : addO lo hi [] = (0, [⟨lo, hi⟩]) := by
  unfold addO
  rw [if_neg (by omega), if_neg (by omega)]
  rfl
theorem wide_canon {lo hi : Nat} (h1 : 2 ≤ lo) (h2 : lo ≤ hi) (h3 : hi < 1099511627776) : Canon [⟨lo, hi⟩] := ⟨by show 1 ≤ lo; omega, h2, by show hi ≤ _; omega, fun t ht => (by cases ht), trivial⟩
theorem wide2 {lo hi n : Nat} (h1 : 2 ≤ lo) (h2 : lo ≤ n) (h3 : n ≤ hi) (h4 : hi < 1099511627776) : foundO n [⟨lo, hi⟩] = (0, cutS lo hi n) := by
  have hs : St.has ⟨lo, hi⟩ n = true := St.has_iff.2 ⟨h2, h3⟩
  unfold foundO
  rw [if_neg (by omega)]
  have e : idxL n [⟨lo, hi⟩] = some 0 := by rw [idxL, if_pos hs]
  rw [e]
  show (if lo = n ∧ hi = n then ((0 : Int), ([] : List St)) else (0, (addO (n + 1) hi (addO lo (n - 1) []).2).2)) = _
  unfold cutS
  by_cases ha : lo = n
  · by_cases hb : hi = n
    · rw [if_pos ⟨ha, hb⟩, if_neg (by omega), if_neg (by omega)]
      rfl
    · rw [if_neg (by omega), if_neg (by omega), if_pos (by omega)]
      have e1 : addO lo (n - 1) [] = (0, []) := by unfold addO; rw [if_neg (by omega), if_pos (by omega)]
      rw [e1]
      have e2 : addO (n + 1) hi [] = (0, [⟨n + 1, hi⟩]) := by unfold addO; rw [if_neg (by omega), if_neg (by omega)]; rfl
      rw [e2]
      rfl
  · have e1 : addO lo (n - 1) [] = (0, [⟨lo, n - 1⟩]) := by unfold addO; rw [if_neg (by omega), if_neg (by omega)]; rfl
    rw [if_neg (by omega), if_pos (by omega), e1]
    by_cases hb : hi = n
    · rw [if_neg (by omega)]
      have e2 : addO (n + 1) hi [⟨lo, n - 1⟩] = (0, [⟨lo, n - 1⟩]) := by unfold addO; rw [if_neg (by omega), if_pos (by omega)]
      rw [e2]
      rfl
    · rw [if_pos (by omega)]
      have e2 : addO (n + 1) hi [⟨lo, n - 1⟩] = (0, [⟨lo, n - 1⟩, ⟨n + 1, hi⟩]) := by
        unfold addO
        rw [if_neg (by omega), if_neg (by omega)]
        show ((0 : Int), if n - 1 + 1 < n + 1 then (⟨lo, n - 1⟩ : St) :: [⟨n + 1, hi⟩] else _) = _
        rw [if_pos (by omega)]
      rw [e2]
      rfl
theorem cut_canon {lo hi n : Nat} (h1 : 2 ≤ lo) (h2 : lo ≤ n) (h3 : n ≤ hi) (h4 : hi < 1099511627776) : Canon (cutS lo hi n) := by
  have := foundO_canon (wide_canon h1 (Nat.le_trans h2 h3) h4) n
  rw [wide2 h1 h2 h3 h4] at this
  exact this
theorem cut_has {lo hi n : Nat} (h1 : 2 ≤ lo) (h2 : lo ≤ n) (h3 : n ≤ hi) (h4 : hi < 1099511627776) (m : Nat) : has (cutS lo hi n) m = (has [⟨lo, hi⟩] m && !(m == n)) := by
  have := foundO_has (wide_canon h1 (Nat.le_trans h2 h3) h4) (n := n) (by omega) (by omega) m
  rw [wide2 h1 h2 h3 h4] at this
  exact this
theorem cut_not {lo hi n : Nat} (h1 : 2 ≤ lo) (h2 : lo ≤ n) (h3 : n ≤ hi) (h4 : hi < 1099511627776) : has (cutS lo hi n) n = false := by
  rw [cut_has h1 h2 h3 h4]
  simp
theorem wide3 {lo hi n : Nat} (h1 : 2 ≤ lo) (h2 : lo ≤ n) (h3 : n ≤ hi) (h4 : hi < 1099511627776) : foundO (hi + 1) (cutS lo hi n) = (0, cutS lo hi n) := by
  have e : has (cutS lo hi n) (hi + 1) = false := by
    rw [cut_has h1 h2 h3 h4]
    have : has [⟨lo, hi⟩] (hi + 1) = false := by simp [has, St.has]
    rw [this]
    rfl
  unfold foundO
  rw [if_neg (by omega), idxL_none.2 e]
theorem wide4 {lo hi n : Nat} (h1 : 2 ≤ lo) (h2 : lo ≤ n) (h3 : n ≤ hi) (h4 : hi < 1099511627776) : addO n n (cutS lo hi n) = (0, [⟨lo, hi⟩]) := by
  have hc := cut_canon h1 h2 h3 h4
  have e1 : (addO n n (cutS lo hi n)).1 = 0 := by unfold addO; rw [if_neg (by omega), if_neg (by omega)]
  have e2 : (addO n n (cutS lo hi n)).2 = [⟨lo, hi⟩] := by
    refine canon_ext (addO_canon hc n n) (wide_canon h1 (Nat.le_trans h2 h3) h4) fun m => ?_
    rw [addO_has hc (by omega) (by omega), cut_has h1 h2 h3 h4]
    by_cases hm : m = n
    · subst hm
      have : has [⟨lo, hi⟩] m = true := by simp [has, St.has]; omega
      rw [this]
      simp
    · have e3 : (decide (n ≤ m) && decide (m ≤ n)) = false := by simp; omega
      have e4 : (m == n) = false := by simpa using hm
      rw [e3, e4]
      simp
  exact Prod.ext e1 e2
theorem cut_many {lo hi n : Nat} (h2 : lo ≤ n) (h3 : n ≤ hi) : manyL (cutS lo hi n) = hi - lo := by
  unfold cutS
  by_cases ha : lo < n
  · by_cases hb : n < hi
    · rw [if_pos ha, if_pos hb]; simp [manyL]; omega
    · rw [if_pos ha, if_neg hb]; simp [manyL]; omega
  · by_cases hb : n < hi
    · rw [if_neg ha, if_pos hb]; simp [manyL]; omega
    · rw [if_neg ha, if_neg hb]; simp [manyL]; omega
theorem wide5 {lo hi : Nat} (h2 : lo ≤ hi) : sureL 0 lo [⟨lo, hi⟩] = decide (lo = 0) := by
  rw [Bool.eq_iff_iff]
  simp [sureL, sureB]
  omega
theorem wide6 {lo hi : Nat} (h1 : 1 ≤ lo) : sureL 0 (lo - 1) [⟨lo, hi⟩] = true := by
  simp [sureL, sureB]
  omega
theorem wide7 {lo hi M : Nat} : sureL hi M [⟨lo, hi⟩] = true := by
  simp [sureL, sureB]
theorem wide8 {lo hi : Nat} (h1 : 1 ≤ lo) (h2 : lo ≤ hi) : sureL (lo - 1) lo [⟨lo, hi⟩] = false := by
  simp [sureL, sureB]
  omega
theorem rem_form (a M : Nat) (h : M < 18446744073709551616) (hM : 0 < M) : IntKind.u64.wrap ((a : Int).tmod (M : Int)) = ((a % M : Nat) : Int) := by
  have h1 : (a : Int).tmod (M : Int) = ((a % M : Nat) : Int) := by
    rw [Int.tmod_eq_emod_of_nonneg (by omega)]
    omega
  rw [h1]
  have := Nat.mod_lt a hM
  exact IntWalk.u64_in _ ⟨by omega, by omega⟩

set_option maxRecDepth 100000 in
set_option maxHeartbeats 4000000 in
theorem wide_any (w : World) (lo0 hi0 n0 : Nat) (b1 : lo0 < 18446744073709551616) (b2 : hi0 < 18446744073709551616) (b3 : n0 < 18446744073709551616) :
    Calls Try.prog 5 #[.int .u64 lo0, .int .u64 hi0, .int .u64 n0] w fun e w' => e = .returned (.bool true) ∧ Below w.heap.size w w' := by
  obtain ⟨a, ha⟩ : ∃ a : Nat, (lo0 : Int) % 1099511627774 = (a : Int) := ⟨lo0 % 1099511627774, by omega⟩
  obtain ⟨b, hb⟩ : ∃ b : Nat, (hi0 : Int) % 1099511627774 = (b : Int) := ⟨hi0 % 1099511627774, by omega⟩
  obtain ⟨lo, hlo⟩ : ∃ lo : Nat, 2 + min (a : Int) (b : Int) = (lo : Int) := ⟨2 + min a b, by omega⟩
  obtain ⟨hi, hhi⟩ : ∃ hi : Nat, 2 + max (a : Int) (b : Int) = (hi : Int) := ⟨2 + max a b, by omega⟩
  have hle : lo ≤ hi := by omega
  have h2 : 2 ≤ lo := by omega
  have hM : hi < 1099511627776 := by omega
  obtain ⟨e0, he⟩ : ∃ e : Nat, (hi : Int) - (lo : Int) = (e : Int) := ⟨hi - lo, by omega⟩
  obtain ⟨d, hd⟩ : ∃ d : Nat, (e0 : Int) + 1 = (d : Int) := ⟨e0 + 1, by omega⟩
  have hd0 : d ≠ 0 := by omega
  obtain ⟨r, hr⟩ : ∃ r : Nat, (n0 : Int) % (d : Int) = (r : Int) := ⟨n0 % d, by omega⟩
  have hrd : r < d := by
    have := Int.emod_lt_of_pos (n0 : Int) (b := (d : Int)) (by omega)
    omega
  obtain ⟨n, hn⟩ : ∃ n : Nat, (lo : Int) + (r : Int) = (n : Int) := ⟨lo + r, by omega⟩
  obtain ⟨l1, hl1⟩ : ∃ l1 : Nat, (lo : Int) - 1 = (l1 : Int) := ⟨lo - 1, by omega⟩
  obtain ⟨h1, hh1⟩ : ∃ h1 : Nat, (hi : Int) + 1 = (h1 : Int) := ⟨hi + 1, by omega⟩
  have hln : lo ≤ n := by omega
  have hnh : n ≤ hi := by omega
  have hmany : manyL [⟨lo, hi⟩] = d := by simp [manyL]; omega
  have hmany2 : manyL (cutS lo hi n) = e0 := by rw [cut_many hln hnh]; omega
  have hsu1 : sureL 0 lo [⟨lo, hi⟩] = false := by rw [wide5 hle]; simp; omega
  have hsu2 : sureL 0 l1 [⟨lo, hi⟩] = true := by rw [show l1 = lo - 1 by omega]; exact wide6 (by omega)
  have hsu3 : sureL l1 lo [⟨lo, hi⟩] = false := by rw [show l1 = lo - 1 by omega]; exact wide8 (by omega) hle
  have hf1 := wide2 h2 hln hnh hM
  have hf2 := wide3 h2 hln hnh hM
  rw [show hi + 1 = h1 by omega] at hf2
  have hf3 := wide4 h2 hln hnh hM
  have hnot := cut_not h2 hln hnh hM
  have hcl : (cutS lo hi n).length = (if lo < n then 1 else 0) + (if n < hi then 1 else 0) := by
    unfold cutS
    rw [List.length_append]
    congr 1
    · split <;> rfl
    · split <;> rfl
  have hadd := wide1 h2 hle hM
  have hcl2 : (cutS lo hi n).length ≤ 2 := by rw [hcl]; split <;> split <;> omega
  generalize cutS lo hi n = K at hmany2 hf1 hf2 hf3 hnot hcl hcl2
  obtain ⟨kl, hkl⟩ : ∃ kl, kl = K.length := ⟨_, rfl⟩
  rw [← hkl] at hcl hcl2
  have HKL := hide hkl
  have HM1 := hide hmany
  have HM2 := hide hmany2
  have S1 := hide hsu1
  have S2 := hide hsu2
  have S3 := hide hsu3
  have F1 := hide hf1
  have F2 := hide hf2
  have F3 := hide hf3
  have HNOT := hide hnot
  have HCL := hide hcl
  have HADD := hide hadd
  clear hmany hmany2 hsu1 hsu2 hsu3 hf1 hf2 hf3 hnot hcl hadd hkl
  go_enter Try.func5, Try.ntmps5
  go_wp2_with fail
  refine (new_any w).mono ?_
  rintro e w1 ⟨p, rfl, h1, hb1, -⟩
  have HO := hide (OwnH.new h1 hb1)
  clear h1 hb1 ha hb hlo hhi hr
  go_wp2_with fail
  refine (add_any HO.out.at_ lo hi (by omega) (by omega) (by simp)).mono ?_
  rintro e w2 ⟨rfl, h2, hg⟩
  rw [HADD.out] at h2 ⊢
  replace HO := hide (HO.out.step h2 hg)
  clear h2 hg
  go_wp2_with fail
  refine (any_any HO.out.at_ lo (by simp)).mono ?_
  rintro e w3 ⟨rfl, hb⟩
  rw [S1.out]
  replace HO := hide (HO.out.later hb)
  clear hb
  go_wp2_with fail
  refine (any_any HO.out.at_ l1 (by simp)).mono ?_
  rintro e w4 ⟨rfl, hb⟩
  rw [S2.out]
  replace HO := hide (HO.out.later hb)
  clear hb
  go_wp2_with fail
  refine (sure_any HO.out.at_ hi 1099511627776 (by simp)).mono ?_
  rintro e w5 ⟨rfl, hb⟩
  rw [wide7]
  replace HO := hide (HO.out.later hb)
  clear hb
  go_wp2_with fail
  refine (sure_any HO.out.at_ l1 lo (by simp)).mono ?_
  rintro e w6 ⟨rfl, hb⟩
  rw [S3.out]
  replace HO := hide (HO.out.later hb)
  clear hb
  go_wp2_with fail
  refine (many_any HO.out.at_ (by simp)).mono ?_
  rintro e w7 ⟨rfl, hb⟩
  rw [HM1.out]
  replace HO := hide (HO.out.later hb)
  clear hb
  go_wp2_with fail
  refine (found_any HO.out.at_ n (by omega) (by simp)).mono ?_
  rintro e w8 ⟨rfl, h2, hg⟩
  rw [F1.out] at h2 ⊢
  replace HO := hide (HO.out.step h2 hg)
  clear h2 hg
  go_wp2_with fail
  refine (found_any HO.out.at_ h1 (by omega) (by rw [← HKL.out]; omega)).mono ?_
  rintro e w9 ⟨rfl, h2, hg⟩
  rw [F2.out] at h2 ⊢
  replace HO := hide (HO.out.step h2 hg)
  clear h2 hg
  have four : (¬ (lo : Int) < (n : Int) ∧ ¬ (n : Int) < (hi : Int) ∧ kl = 0) ∨ (¬ (lo : Int) < (n : Int) ∧ (n : Int) < (hi : Int) ∧ kl = 1) ∨ ((lo : Int) < (n : Int) ∧ ¬ (n : Int) < (hi : Int) ∧ kl = 1) ∨ ((lo : Int) < (n : Int) ∧ (n : Int) < (hi : Int) ∧ kl = 2) := by
    have := HCL.out
    split at this <;> split at this <;> omega
  have HKB := hide hcl2
  clear HCL hcl2
  rcases four with ⟨c1, c2, rfl⟩ | ⟨c1, c2, rfl⟩ | ⟨c1, c2, rfl⟩ | ⟨c1, c2, rfl⟩
  all_goals (
    go_wp2_with fail
    refine (list_any HO.out.at_ (by rw [← HKL.out]; omega)).mono ?_
    rintro e wa ⟨v, rfl, ho, hb⟩
    replace HO := hide (HO.out.later hb)
    obtain ⟨A, c, rfl, hr⟩ := own_slice ho
    rw [← HKL.out]
    clear ho hr hb
    go_wp2_with fail
    refine (has_any HO.out.at_ n (by rw [← HKL.out]; omega)).mono ?_
    rintro e wb ⟨rfl, hb⟩
    rw [HNOT.out]
    replace HO := hide (HO.out.later hb)
    clear hb
    go_wp2_with fail
    refine (many_any HO.out.at_ (by rw [← HKL.out]; omega)).mono ?_
    rintro e wc ⟨rfl, hb⟩
    rw [HM2.out]
    replace HO := hide (HO.out.later hb)
    clear hb
    go_wp2_with fail
    refine (add_any HO.out.at_ n n (by omega) (by omega) (by rw [← HKL.out]; omega)).mono ?_
    rintro e wd ⟨rfl, h2, hg⟩
    rw [F3.out] at h2 ⊢
    replace HO := hide (HO.out.step h2 hg)
    clear h2 hg
    go_wp2_with fail
    refine (list_any HO.out.at_ (by simp)).mono ?_
    rintro e we ⟨v, rfl, ho, hb⟩
    replace HO := hide (HO.out.later hb)
    obtain ⟨A, c, rfl, hr⟩ := own_slice ho
    have HR := hide hr
    clear ho hr hb
    go_wp2_with fail
    refine (eq_lit [⟨lo, hi⟩] HR.out rfl rfl rfl rfl (by simp) (by simp)).mono ?_
    rintro e wf ⟨rfl, hb⟩
    rw [eqS_self]
    replace HO := hide (HO.out.later hb)
    clear hb HR
    go_wp2_with fail
    refine (wakes_any _).mono ?_
    rintro e wz ⟨rfl, hb⟩
    replace HO := hide (HO.out.later hb)
    clear hb
    go_wp2_with fail
    go_ret
    exact ⟨rfl, HO.out.below⟩)
end Go.Proofs.Ytfdabccdgcohjaa
