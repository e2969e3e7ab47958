/-
  THE WALKS of the reference's Add and Drop. Conditions: as the theorems' premises say.
-/
import Derived.Test.YteiamfekdibkmaaORef
namespace Go.Proofs.Yteiamfekdibkmaa
open Go.RowKit Go.Shelf

theorem rd1_take {w : World} {B : Nat} {A : Option Addr} {n k : Nat} {xs : List Value} (h : Reads w B 1 A n xs) (hk : k ≤ n) : Reads w B 1 A k (xs.take k) :=
  ⟨by have := h.1; rw [List.length_take]; omega, fun j u hu => by
    rw [List.getElem?_take] at hu
    split at hu
    · exact h.2 j u hu
    · cases hu⟩
theorem rd1_drop {w : World} {B : Nat} {A : Option Addr} {n c k : Nat} {xs : List Value} (h : Reads w B 1 A n xs) (hk : k ≤ n) (hnc : n ≤ c) : Reads w B 1 (if c = k then A else A.map (·.add k)) (n - k) (xs.drop k) := by
  refine ⟨by have := h.1; rw [List.length_drop]; omega, fun j u hu => ?_⟩
  rw [List.getElem?_drop] at hu
  obtain ⟨ad, rfl, hb, hc⟩ := h.2 _ u hu
  have hlt := (List.getElem?_eq_some_iff.1 hu).1
  have := h.1
  rw [if_neg (by omega)]
  exact ⟨ad.add k, rfl, by rw [add_block]; exact hb, by rw [add_add_]; exact hc⟩
theorem sl25_from (A : Option Addr) (n c i : Nat) (h : i ≤ n) (w : World) :
    (Instr.slice 25 (.slice A n c) (some (.int .i64 i)) none none).run Try.prog w = .ok (.slice (if c = i then A else A.map (·.add i)) (n - i) (c - i)) w := by
  rw [run_slice_l w 25 A n c el25 .i64 i (by omega) (by omega), sz25]
  simp only [Result.andThen, sliced, Int.toNat_natCast, Nat.mul_one]
theorem bel_own {w0 w w' : World} {v : Value} {L : List Value} {n : Nat} (hb : Below w0.heap.size w0 w) (h : w.ownsRow w0.heap.size 23 1 v n L) (hg : w.grownBy w' v.ownBlock) : Below w0.heap.size w0 w' :=
  hb.grown hg hb.size (fun _ hj => (own_lt h hj).1)
theorem take_one {L : List Value} (h : ∀ u ∈ L, u.oneCell' = true) (r : Nat) : ∀ u ∈ L.take r, u.oneCell' = true := fun u hu => h u (List.mem_of_mem_take hu)
theorem drop_one {L : List Value} (h : ∀ u ∈ L, u.oneCell' = true) (r : Nat) : ∀ u ∈ L.drop r, u.oneCell' = true := fun u hu => h u (List.mem_of_mem_drop hu)

set_option maxHeartbeats 1000000 in
theorem radd_any (A A' : Option Addr) (n c m d B B' : Nat) (hs : List Hd) (k : Key) (w : World) (h : RowR w B A hs) (hn : n = hs.length) (hnc : n ≤ c) (hsm : n ≤ 100000) (hk : Bs w B' A' m k) (hB : B ≤ w.heap.size) :
    Calls Try.prog 27 #[.slice A n c, .slice A' m d] w fun e w' => ∃ v, e = .returned (.tuple #[v, .int .i64 (addK k (keys hs)).1]) ∧ ∃ hs', OwnH w' w.heap.size v hs' ∧ keys hs' = (addK k (keys hs)).2 ∧ (∀ x ∈ hs', x ∈ hs ∨ x = ⟨A', d, k⟩) ∧ Below w.heap.size w w' := by
  have C1 := hide (rmay_any A n c B hs w h hn (by unfold maxLen; omega))
  have C2 := hide (fun W => rmay1_any A' m d k hk.len.symm W)
  unfold addK
  cases hm : mayR (keys hs) with
  | false =>
    rw [hm] at C1
    rw [Bool.false_and, if_pos rfl]
    clear h hn hk hm C2
    go_enter Try.func27, Try.ntmps27
    go_wp2_with fail
    refine C1.out.mono ?_
    rintro e w1 ⟨rfl, hb1⟩
    have HB := hide hb1
    clear hb1
    go_wp2_with fail
    go_ret2
    exact ⟨_, rfl, [], World.ownsRow_nil _ _ _ _, rfl, (fun x hx => by cases hx), HB.out _⟩
  | true =>
    rw [hm] at C1
    cases hmk : mayK k with
    | false =>
      rw [hmk] at C2
      rw [Bool.and_false, if_pos rfl]
      clear h hn hk hm hmk
      go_enter Try.func27, Try.ntmps27
      go_wp2_with fail
      refine C1.out.mono ?_
      rintro e w1 ⟨rfl, hb1⟩
      have HB := hide hb1
      clear hb1
      go_wp2_with fail
      refine (C2.out _).mono ?_
      rintro e w2 ⟨rfl, rfl⟩
      go_wp2_with fail
      go_ret2
      exact ⟨_, rfl, [], World.ownsRow_nil _ _ _ _, rfl, (fun x hx => by cases hx), HB.out _⟩
    | true =>
      rw [hmk] at C2
      rw [Bool.and_self, if_neg (by simp)]
      have C3 := hide (fun (W : World) (hb : ∀ B, Below B w W) => rsearch_any A A' n c m d B B' hs k W (h.below (hb B)) hn (by omega) (Reads.below hk (hb B')))
      unfold searchO at C3
      rw [hm, if_pos rfl] at C3
      cases hi : isL k (keys hs) with
      | true =>
        rw [hi] at C3
        rw [if_pos rfl]
        generalize posL k (keys hs) = r at C3
        clear h hn hk hm hmk hi
        go_enter Try.func27, Try.ntmps27
        go_wp2_with fail
        refine C1.out.mono ?_
        rintro e w1 ⟨rfl, hb1⟩
        have HB := hide hb1
        clear hb1
        go_wp2_with fail
        refine (C2.out _).mono ?_
        rintro e w2 ⟨rfl, rfl⟩
        go_wp2_with fail
        refine (C3.out _ HB.out).mono ?_
        rintro e w2 ⟨rfl, hb2⟩
        have HB2 := hide (fun B => (HB.out B).trans (hb2 B))
        clear hb2
        go_wp2_with fail
        go_ret2
        exact ⟨_, rfl, [], World.ownsRow_nil _ _ _ _, rfl, (fun x hx => by cases hx), HB2.out _⟩
      | false =>
        rw [hi] at C3
        rw [if_neg (by simp)]
        obtain ⟨i0, hi0, hz0, hz1, hz2⟩ := info_parts hd_info
        have hmk2 := hk.len
        obtain ⟨r, hr⟩ : ∃ r, r = posL k (keys hs) := ⟨_, rfl⟩
        have hrle := posL_le k (keys hs)
        rw [← hr, List.length_map, ← hn] at hrle
        have hw : withL k (keys hs) = (keys hs).take r ++ k :: (keys hs).drop r := by rw [hr]; rfl
        rw [hw]
        simp only at C3
        rw [← hr] at C3
        have hrd : Reads w B 1 A n (hdc hs) := by rw [hn]; exact h.rd
        obtain ⟨q, hq⟩ : ∃ q, q = n - r := ⟨_, rfl⟩
        obtain ⟨cq, hcq⟩ : ∃ cq, cq = c - r := ⟨_, rfl⟩
        have sl1 := sl25_from A n c r hrle
        have hd2 := rd1_drop hrd hrle hnc
        rw [← hq, ← hcq] at sl1
        rw [← hq] at hd2
        generalize (if c = r then A else A.map (·.add r)) = AX at sl1 hd2
        have hd1 := rd1_take hrd hrle
        have HD1 := hide hd1
        have HD2 := hide hd2
        have sl2 := sl_to A n c (r : Int) r rfl (by omega)
        have HM2 := hide hmk2
        have HQ := hide hq
        have ho1 := hide (hdc_one hs)
        have hqb : q ≤ 100000 := by omega
        clear h hn hk hm hmk hi hw hr hrd hd1 hd2 hmk2 hq hcq
        go_enter Try.func27, Try.ntmps27
        go_wp2_with fail
        refine C1.out.mono ?_
        rintro e w1 ⟨rfl, hb1⟩
        have HB := hide hb1
        clear hb1
        go_wp2_with fail
        refine (C2.out _).mono ?_
        rintro e w2 ⟨rfl, rfl⟩
        go_wp2_with fail
        refine (C3.out _ HB.out).mono ?_
        rintro e w3 ⟨rfl, hb2⟩
        have HB3 := hide (fun B => (HB.out B).trans (hb2 B))
        clear hb2
        have hsz3 := (HB3.out 0).size
        go_wp2_with (first
          | (at_builtin; refine wpList_append_any _ rfl (.tmp 24) (.tmp 27) 25 rfl w.heap.size 23 i0 _ 1 24 el25' hi0 hz0 hz1 hz2 rfl (by omega) (.slice none 0 0) 0 [] rfl (World.ownsRow_nil _ _ _ _) B A r c ((hdc hs).take r) rfl (Reads.below HD1.out (HB3.out B)) (take_one ho1.out r) (by unfold maxLen; omega) (by omega) (by omega) ?_; intro v4 w4 ho4 hg4 hat4; rw [Nat.zero_add, List.nil_append] at ho4; have hb4 : Below w.heap.size w w4 := (HB3.out _).grown hg4 hsz3 (fun j hj => by cases hj); have hsz4 := hb4.size; clear hg4 hat4; obtain ⟨A4, c4, rfl⟩ := slice_ofH ho4)
          | (at_builtin; refine wpList_append_any _ rfl (.tmp 29) (.tmp 31) 25 rfl w.heap.size 23 i0 _ 1 24 el25' hi0 hz0 hz1 hz2 rfl (by omega) (.slice A4 r c4) r ((hdc hs).take r) rfl (ho4.alloc _) (w4.heap.size + 1) (some ⟨w4.heap.size, 0, none⟩) 1 1 [.slice A' m d] rfl (Reads.ofBlk (Blk.new w4 23 _) rfl) (fun u hu => by rw [List.mem_singleton.1 hu]; rfl) (by unfold maxLen; omega) (by omega) (by simp; omega) ?_; intro v5 w5 ho5 hg5 hat5; have hb5 : Below w.heap.size w w5 := (balloc hb4 _).grown hg5 (by simp; omega) (fun j hj => (own_lt ho4 hj).1); have hsz5 := hb5.size; clear hg5 hat5; obtain ⟨A5, c5, rfl⟩ := slice_ofH ho5)
          | (at_builtin; refine wpList_append_any _ rfl (.tmp 33) (.tmp 36) 25 rfl w.heap.size 23 i0 _ 1 24 el25' hi0 hz0 hz1 hz2 rfl (by omega) (.slice A5 (r + 1) c5) (r + 1) _ rfl ho5 B AX q cq ((hdc hs).drop r) rfl (Reads.below HD2.out (hb5.mono hB)) (drop_one ho1.out r) (by unfold maxLen; omega) (by omega) (by omega) ?_; intro v6 w6 ho6 hg6 hat6; have hb6 : Below w.heap.size w w6 := hb5.grown hg6 (by omega) (fun j hj => (own_lt ho5 hj).1); clear hg6 hat6))
        go_ret2
        refine ⟨v6, rfl, hs.take r ++ [(⟨A', d, k⟩ : Hd)] ++ hs.drop r, ?_, ?_, ?_, hb6⟩
        · have hv : (Hd.v ⟨A', d, k⟩) = .slice A' m d := by unfold Hd.v; rw [HM2.out]
          have e1 : hdc (hs.take r ++ [(⟨A', d, k⟩ : Hd)] ++ hs.drop r) = (hdc hs).take r ++ [.slice A' m d] ++ (hdc hs).drop r := by
            rw [hdc_app, hdc_app, hdc_take, hdc_drop, ← hv]
            rfl
          have e2 : (hs.take r ++ [(⟨A', d, k⟩ : Hd)] ++ hs.drop r).length = r + 1 + q := by
            have := congrArg List.length e1
            rw [hdc_len] at this
            exact this.trans (ho6.1.trans (Nat.mul_one _))
          show w6.ownsRow _ 23 1 _ (hs.take r ++ [(⟨A', d, k⟩ : Hd)] ++ hs.drop r).length (hdc (hs.take r ++ [(⟨A', d, k⟩ : Hd)] ++ hs.drop r))
          rw [e1, e2]
          exact ho6
        · show (hs.take r ++ [(⟨A', d, k⟩ : Hd)] ++ hs.drop r).map Hd.l = _
          rw [List.map_append, List.map_append, List.map_take, List.map_drop, List.append_assoc]
          rfl
        · intro x hx
          rcases List.mem_append.1 hx with hx | hx
          · rcases List.mem_append.1 hx with hx | hx
            · exact .inl (List.mem_of_mem_take hx)
            · exact .inr (List.mem_singleton.1 hx)
          · exact .inl (List.mem_of_mem_drop hx)
set_option maxHeartbeats 1000000 in
theorem rdrop_any (A A' : Option Addr) (n c m d B B' : Nat) (hs : List Hd) (k : Key) (w : World) (h : RowR w B A hs) (hn : n = hs.length) (hnc : n ≤ c) (hsm : n ≤ 100000) (hk : Bs w B' A' m k) (hB : B ≤ w.heap.size) :
    Calls Try.prog 28 #[.slice A n c, .slice A' m d] w fun e w' => ∃ v, e = .returned (.tuple #[v, .int .i64 (dropK k (keys hs)).1]) ∧ ∃ hs', OwnH w' w.heap.size v hs' ∧ keys hs' = (dropK k (keys hs)).2 ∧ (∀ x ∈ hs', x ∈ hs) ∧ Below w.heap.size w w' := by
  have C1 := hide (rmay_any A n c B hs w h hn (by unfold maxLen; omega))
  have C2 := hide (fun W => rmay1_any A' m d k hk.len.symm W)
  unfold dropK
  cases hm : mayR (keys hs) with
  | false =>
    rw [hm] at C1
    rw [Bool.false_and, if_pos rfl]
    clear h hn hk hm C2
    go_enter Try.func28, Try.ntmps28
    go_wp2_with fail
    refine C1.out.mono ?_
    rintro e w1 ⟨rfl, hb1⟩
    have HB := hide hb1
    clear hb1
    go_wp2_with fail
    go_ret2
    exact ⟨_, rfl, [], World.ownsRow_nil _ _ _ _, rfl, (fun x hx => by cases hx), HB.out _⟩
  | true =>
    rw [hm] at C1
    cases hmk : mayK k with
    | false =>
      rw [hmk] at C2
      rw [Bool.and_false, if_pos rfl]
      clear h hn hk hm hmk
      go_enter Try.func28, Try.ntmps28
      go_wp2_with fail
      refine C1.out.mono ?_
      rintro e w1 ⟨rfl, hb1⟩
      have HB := hide hb1
      clear hb1
      go_wp2_with fail
      refine (C2.out _).mono ?_
      rintro e w2 ⟨rfl, rfl⟩
      go_wp2_with fail
      go_ret2
      exact ⟨_, rfl, [], World.ownsRow_nil _ _ _ _, rfl, (fun x hx => by cases hx), HB.out _⟩
    | true =>
      rw [hmk] at C2
      rw [Bool.and_self, if_neg (by simp)]
      have C3 := hide (fun (W : World) (hb : ∀ B, Below B w W) => rsearch_any A A' n c m d B B' hs k W (h.below (hb B)) hn (by omega) (Reads.below hk (hb B')))
      unfold searchO at C3
      rw [hm, if_pos rfl] at C3
      cases hi : isL k (keys hs) with
      | false =>
        rw [hi] at C3
        rw [if_neg (by simp)]
        generalize posL k (keys hs) = r at C3
        clear h hn hk hm hmk hi
        go_enter Try.func28, Try.ntmps28
        go_wp2_with fail
        refine C1.out.mono ?_
        rintro e w1 ⟨rfl, hb1⟩
        have HB := hide hb1
        clear hb1
        go_wp2_with fail
        refine (C2.out _).mono ?_
        rintro e w2 ⟨rfl, rfl⟩
        go_wp2_with fail
        refine (C3.out _ HB.out).mono ?_
        rintro e w2 ⟨rfl, hb2⟩
        have HB2 := hide (fun B => (HB.out B).trans (hb2 B))
        clear hb2
        go_wp2_with fail
        go_ret2
        exact ⟨_, rfl, [], World.ownsRow_nil _ _ _ _, rfl, (fun x hx => by cases hx), HB2.out _⟩
      | true =>
        have hat := isL_iff.1 hi
        rw [hi] at C3
        rw [if_pos rfl]
        obtain ⟨i0, hi0, hz0, hz1, hz2⟩ := info_parts hd_info
        have hmk2 := hk.len
        obtain ⟨r, hr⟩ : ∃ r, r = posL k (keys hs) := ⟨_, rfl⟩
        rw [← hr] at hat
        have hrlt := (List.getElem?_eq_some_iff.1 hat).1
        rw [List.length_map, ← hn] at hrlt
        have hrle : r ≤ n := by omega
        have hw : lessL k (keys hs) = (keys hs).take r ++ (keys hs).drop (r + 1) := by rw [hr]; rfl
        obtain ⟨p1, hp1⟩ : ∃ p1 : Nat, (r : Int) + 1 = (p1 : Int) := ⟨r + 1, by omega⟩
        have hp1n : p1 = r + 1 := by omega
        have hp1le : p1 ≤ n := by omega
        have hwr : IntKind.i64.wrap (p1 : Int) = (p1 : Int) := IntWalk.i64_in _ ⟨by omega, by omega⟩
        rw [← hp1n] at hw
        rw [hw]
        simp only at C3
        rw [← hr] at C3
        have hrd : Reads w B 1 A n (hdc hs) := by rw [hn]; exact h.rd
        obtain ⟨q, hq⟩ : ∃ q, q = n - p1 := ⟨_, rfl⟩
        obtain ⟨cq, hcq⟩ : ∃ cq, cq = c - p1 := ⟨_, rfl⟩
        have sl1 := sl25_from A n c p1 hp1le
        have hd2 := rd1_drop hrd hp1le hnc
        rw [← hq, ← hcq] at sl1
        rw [← hq] at hd2
        generalize (if c = p1 then A else A.map (·.add p1)) = AX at sl1 hd2
        have hd1 := rd1_take hrd hrle
        have HD1 := hide hd1
        have HD2 := hide hd2
        have sl2 := sl_to A n c (r : Int) r rfl (by omega)
        have HM2 := hide hmk2
        have HQ := hide hq
        have ho1 := hide (hdc_one hs)
        have hqb : q ≤ 100000 := by omega
        have HP1 := hide hp1n
        clear h hn hk hm hmk hi hw hr hat hrd hd1 hd2 hmk2 hq hcq hp1n hrlt
        go_enter Try.func28, Try.ntmps28
        go_wp2_with fail
        refine C1.out.mono ?_
        rintro e w1 ⟨rfl, hb1⟩
        have HB := hide hb1
        clear hb1
        go_wp2_with fail
        refine (C2.out _).mono ?_
        rintro e w2 ⟨rfl, rfl⟩
        go_wp2_with fail
        refine (C3.out _ HB.out).mono ?_
        rintro e w3 ⟨rfl, hb2⟩
        have HB3 := hide (fun B => (HB.out B).trans (hb2 B))
        clear hb2
        have hsz3 := (HB3.out 0).size
        go_wp2_with (first
          | (at_builtin; refine wpList_append_any _ rfl (.tmp 25) (.tmp 28) 25 rfl w.heap.size 23 i0 _ 1 24 el25' hi0 hz0 hz1 hz2 rfl (by omega) (.slice none 0 0) 0 [] rfl (World.ownsRow_nil _ _ _ _) B A r c ((hdc hs).take r) rfl (Reads.below HD1.out (HB3.out B)) (take_one ho1.out r) (by unfold maxLen; omega) (by omega) (by omega) ?_; intro v4 w4 ho4 hg4 hat4; rw [Nat.zero_add, List.nil_append] at ho4; have hb4 : Below w.heap.size w w4 := (HB3.out _).grown hg4 hsz3 (fun j hj => by cases hj); have hsz4 := hb4.size; clear hg4 hat4; obtain ⟨A4, c4, rfl⟩ := slice_ofH ho4)
          | (at_builtin; refine wpList_append_any _ rfl (.tmp 30) (.tmp 34) 25 rfl w.heap.size 23 i0 _ 1 24 el25' hi0 hz0 hz1 hz2 rfl (by omega) (.slice A4 r c4) r _ rfl ho4 B AX q cq ((hdc hs).drop p1) rfl (Reads.below HD2.out (hb4.mono hB)) (drop_one ho1.out p1) (by unfold maxLen; omega) (by omega) (by omega) ?_; intro v6 w6 ho6 hg6 hat6; have hb6 : Below w.heap.size w w6 := hb4.grown hg6 (by omega) (fun j hj => (own_lt ho4 hj).1); clear hg6 hat6))
        go_ret2
        refine ⟨v6, rfl, hs.take r ++ hs.drop p1, ?_, ?_, ?_, hb6⟩
        · have e1 : hdc (hs.take r ++ hs.drop p1) = (hdc hs).take r ++ (hdc hs).drop p1 := by rw [hdc_app, hdc_take, hdc_drop]
          have e2 : (hs.take r ++ hs.drop p1).length = r + q := by
            have := congrArg List.length e1
            rw [hdc_len] at this
            exact this.trans (ho6.1.trans (Nat.mul_one _))
          show w6.ownsRow _ 23 1 _ (hs.take r ++ hs.drop p1).length (hdc (hs.take r ++ hs.drop p1))
          rw [e1, e2]
          exact ho6
        · show (hs.take r ++ hs.drop p1).map Hd.l = _
          rw [List.map_append, List.map_take, List.map_drop]
        · intro x hx
          rcases List.mem_append.1 hx with hx | hx
          · exact List.mem_of_mem_take hx
          · exact List.mem_of_mem_drop hx
end Go.Proofs.Yteiamfekdibkmaa
