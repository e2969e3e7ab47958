/-
  MASKS OF ROWS, plain. Conditions: none.
-/
import Derived.Test.YteiamfekdibkmaaORefOf
import Derived.Test.YteiamfekdibkmaaOUndoD
import Derived.Test.YteiamfekdibkmaaOMapD
namespace Go.Proofs.Yteiamfekdibkmaa
open Go.RowKit Go.Shelf

def maskL (l : List Nat) : Int := l.foldl (fun m j => bits .or .i64 m ((2 ^ j : Nat) : Int)) 0
theorem maskL_snoc (l : List Nat) (j : Nat) : maskL (l ++ [j]) = bits .or .i64 (maskL l) ((2 ^ j : Nat) : Int) := by
  unfold maskL
  rw [List.foldl_append]
  rfl
theorem mask_five : ∀ b0 b1 b2 b3 b4 : Bool, ∀ n : Fin 6, 0 ≤ maskL ((List.range n.val).filter (fun i => [b0, b1, b2, b3, b4].getD i false)) ∧ maskL ((List.range n.val).filter (fun i => [b0, b1, b2, b3, b4].getD i false)) < 32 ∧ ((List.range n.val).filter (fun i => [b0, b1, b2, b3, b4].getD i false) ≠ [] → maskL ((List.range n.val).filter (fun i => [b0, b1, b2, b3, b4].getD i false)) ≠ 0) := by
  decide +kernel
theorem mask_ok (f : Nat → Bool) {n : Nat} (hn : n ≤ 5) : 0 ≤ maskL ((List.range n).filter f) ∧ maskL ((List.range n).filter f) < 32 ∧ ((List.range n).filter f ≠ [] → maskL ((List.range n).filter f) ≠ 0) := by
  have e : (List.range n).filter f = (List.range n).filter (fun i => [f 0, f 1, f 2, f 3, f 4].getD i false) := List.filter_congr fun i hi => by
    have := List.mem_range.1 hi
    match i, (show i < 5 by omega) with
    | 0, _ => rfl
    | 1, _ => rfl
    | 2, _ => rfl
    | 3, _ => rfl
    | 4, _ => rfl
  rw [e]
  exact mask_five (f 0) (f 1) (f 2) (f 3) (f 4) ⟨n, by omega⟩
theorem inAll_mask {R : List (List Key)} {k : Key} {n : Nat} (hn : n ≤ 5) : 0 ≤ maskL (inAll R k n) ∧ maskL (inAll R k n) < 32 ∧ (inAll R k n ≠ [] → maskL (inAll R k n) ≠ 0) := mask_ok _ hn
theorem wf_small {v : Int} (h0 : 0 ≤ v) (h1 : v < 32) : (Lit.int .i64 v).wf = true := by
  simp [Lit.wf, IntKind.min, IntKind.max, IntKind.bits, IntKind.signed]
  omega
/-- the masks when i rows, and j keys of the next, were put -/
def mF (R : List (List Key)) (r : List Key) (i j : Nat) (k : Key) : Int := if k ∈ r.take j then maskL (inAll R k i ++ [i]) else maskL (inAll R k i)
theorem mF_zero (R : List (List Key)) (r : List Key) (i : Nat) (k : Key) : mF R r i 0 k = maskL (inAll R k i) := by simp [mF]
theorem mF_all {R : List (List Key)} {r : List Key} {i j : Nat} (hr : R[i]? = some r) (hok : RowOk r) (hj : r.length ≤ j) (k : Key) : mF R r i j k = maskL (inAll R k (i + 1)) := by
  have hg : R.getD i [] = r := getD_some hr
  unfold mF
  rw [List.take_of_length_le hj]
  have h1 := isL_mem (k := k) hok.2
  cases hi : isL k r with
  | true =>
    rw [if_pos (h1.1 hi), inAll_yes (by rw [hg]; exact hi)]
  | false =>
    rw [if_neg (fun hm => by rw [h1.2 hm] at hi; cases hi), inAll_no (by rw [hg]; exact hi)]
theorem not_before {r : List Key} (hok : RowOk r) {j : Nat} {k : Key} (hk : r[j]? = some k) : k ∉ r.take j := not_take hok.2 hk
theorem mF_next {R : List (List Key)} {r : List Key} {i j : Nat} {l : Key} (hk : r[j]? = some l) (hok : RowOk r) (k : Key) : (if k = l then bits .or .i64 (mF R r i j l) ((2 ^ i : Nat) : Int) else mF R r i j k) = mF R r i (j + 1) k := by
  have h0 : mF R r i j l = maskL (inAll R l i) := by unfold mF; rw [if_neg (not_before hok hk)]
  rw [h0, ← maskL_snoc]
  unfold mF
  rw [List.take_add_one, hk]
  by_cases hkl : k = l
  · subst hkl
    rw [if_pos rfl, if_pos (by simp)]
  · rw [if_neg hkl]
    simp [hkl]
theorem MpAt.congr {w : World} {b n : Nat} {K : List Key} {F F' : Key → Int} (h : MpAt w b n K F) (hF : ∀ k, F k = F' k) : MpAt w b n K F' := by
  have : F = F' := funext hF
  rw [← this]
  exact h
theorem MpAt.more {w : World} {b n n' : Nat} {K : List Key} {F : Key → Int} (h : MpAt w b n K F) (hn : n ≤ n') : MpAt w b n' K F := by
  obtain ⟨D, h1, h2⟩ := h.ex
  exact ⟨D, h1.mono hn, h2⟩
theorem putK_both {acc : List Key} {k : Key} (h : RowOk acc) (hk : mayK k = true) : (putK acc k).length = if k ∈ acc then acc.length else acc.length + 1 := by
  unfold putK
  rw [addK_is h hk]
  cases hi : isL k acc with
  | true =>
    have hm : k ∈ acc := (isL_mem h.2).1 hi
    rw [if_pos hm]
    rfl
  | false =>
    have hn : k ∉ acc := fun hm => by rw [(isL_mem h.2).2 hm] at hi; cases hi
    rw [if_neg hn]
    exact withL_len k acc
theorem fold_ok {l : List Key} (h : ∀ k ∈ l, mayK k = true) : RowOk (l.foldl putK []) := (allK_go l [] ⟨fun k hk => (by cases hk), List.Pairwise.nil⟩ h).1
end Go.Proofs.Yteiamfekdibkmaa
