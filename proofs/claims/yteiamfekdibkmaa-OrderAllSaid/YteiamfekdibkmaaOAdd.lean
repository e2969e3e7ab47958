/-
  THE WALKS of Add, Drop, Next. Conditions: as the theorems' premises say.
-/
import Derived.Test.YteiamfekdibkmaaODel
namespace Go.Proofs.Yteiamfekdibkmaa
open Go.RowKit Go.Shelf

def addK (k : Key) (l : List Key) : Int × List Key := if (mayR l && mayK k) = false then (1, []) else if isL k l then (9, []) else (0, withL k l)
def dropK (k : Key) (l : List Key) : Int × List Key := if (mayR l && mayK k) = false then (1, []) else if isL k l then (0, lessL k l) else (6, [])
def nextK (k : Key) (l : List Key) : Option Key := if mayR l then l[posL k l + (if isL k l then 1 else 0)]? else none
theorem keys_len {hs hs' : List Hd} (h : keys hs' = keys hs) : hs'.length = hs.length := by
  have := congrArg List.length h
  simpa using this
/-- bytes stay beside a row of headers that turns -/
theorem OwnRow.turn {w w' : World} {base : Nat} {v v' : Value} {L L' : List Hd} (h : OwnRow w base v L) (hr : OwnH w' base v' L') (hg : w.grownBy w' v.ownBlock) (hm : ∀ x ∈ L', w.ownsRow base 5 1 x.v x.l.length (x.l.map bv)) : OwnRow w' base v' L' :=
  ⟨hr, fun x hx => (hm x hx).kept hg (own_types (hm x hx) h.row (by decide))⟩
theorem bel_row {w0 w w' : World} {v : Value} {L : List Hd} (hb : Below w0.heap.size w0 w) (h : OwnH w w0.heap.size v L) (hg : w.grownBy w' v.ownBlock) : Below w0.heap.size w0 w' :=
  hb.grown hg hb.size (fun _ hj => (own_lt h hj).1)

set_option maxHeartbeats 1000000 in
theorem add_any (A A' : Option Addr) (n c m d B B' : Nat) (hs : List Hd) (k : Key) (w : World) (h : RowR w B A hs) (hn : n = hs.length) (hsm : n ≤ 100000) (hk : Bs w B' A' m k) (hB : B ≤ w.heap.size) (hB' : B' ≤ w.heap.size) :
    Calls Try.prog 18 #[.slice A n c, .slice A' m d] w fun e w' => ∃ v, e = .returned (.tuple #[v, .int .i64 (addK k (keys hs)).1]) ∧ ∃ hs', OwnRow w' w.heap.size v hs' ∧ keys hs' = (addK k (keys hs)).2 ∧ Below w.heap.size w w' := by
  have C1 := hide (may_any A n c B hs w h hn (by unfold maxLen; omega))
  have C2 := hide (may1_any A' m d k hk.len.symm w)
  unfold addK
  cases hm : mayR (keys hs) with
  | false =>
    rw [hm] at C1
    rw [Bool.false_and, if_pos rfl]
    clear h hn hk hm C2
    go_enter Try.func18, Try.ntmps18
    go_wp2_with fail
    refine C1.out.mono ?_
    rintro e w1 ⟨rfl, rfl⟩
    go_wp2_with fail
    go_ret2
    exact ⟨_, rfl, [], OwnRow.nil _ _, rfl, Below.refl _ _⟩
  | true =>
    rw [hm] at C1
    cases hmk : mayK k with
    | false =>
      rw [hmk] at C2
      rw [Bool.and_false, if_pos rfl]
      clear h hn hk hm hmk
      go_enter Try.func18, Try.ntmps18
      go_wp2_with fail
      refine C1.out.mono ?_
      rintro e w1 ⟨rfl, rfl⟩
      go_wp2_with fail
      refine C2.out.mono ?_
      rintro e w1 ⟨rfl, rfl⟩
      go_wp2_with fail
      go_ret2
      exact ⟨_, rfl, [], OwnRow.nil _ _, rfl, Below.refl _ _⟩
    | true =>
      rw [hmk] at C2
      rw [Bool.and_self, if_neg (by simp)]
      have hok := mayR_iff.1 hm
      have C3 := hide (search_any A A' n c m d B B' hs k w h hn (by omega) hok.2 hk)
      cases hi : isL k (keys hs) with
      | true =>
        rw [hi] at C3
        rw [if_pos rfl]
        generalize posL k (keys hs) = r at C3
        clear h hn hk hm hmk hi hok
        go_enter Try.func18, Try.ntmps18
        go_wp2_with fail
        refine C1.out.mono ?_
        rintro e w1 ⟨rfl, rfl⟩
        go_wp2_with fail
        refine C2.out.mono ?_
        rintro e w1 ⟨rfl, rfl⟩
        go_wp2_with fail
        refine C3.out.mono ?_
        rintro e w1 ⟨rfl, rfl⟩
        go_wp2_with fail
        go_ret2
        exact ⟨_, rfl, [], OwnRow.nil _ _, rfl, Below.refl _ _⟩
      | false =>
        rw [hi] at C3
        rw [if_neg (by simp)]
        have C4 := hide (own_any A n c B hs w h hB hn (by omega) (fun x hx => by have := (mayK_iff.1 (hok.1 x.l (List.mem_map_of_mem hx))).2; omega))
        have hml := mayK_iff.1 hmk
        have hmk2 := hk.len
        obtain ⟨r, hr⟩ : ∃ r, r = posL k (keys hs) := ⟨_, rfl⟩
        have hrle := posL_le k (keys hs)
        rw [← hr, List.length_map, ← hn] at hrle
        have hw : withL k (keys hs) = (keys hs).take r ++ k :: (keys hs).drop r := by rw [hr]; rfl
        rw [hw]
        rw [← hr] at C3
        have HK := hide hk
        have HN := hide hn
        clear h hn hk hm hmk hi hok hw hr
        go_enter Try.func18, Try.ntmps18
        go_wp2_with fail
        refine C1.out.mono ?_
        rintro e w1 ⟨rfl, rfl⟩
        go_wp2_with fail
        refine C2.out.mono ?_
        rintro e w1 ⟨rfl, rfl⟩
        go_wp2_with fail
        refine C3.out.mono ?_
        rintro e w1 ⟨rfl, rfl⟩
        go_wp2_with fail
        refine C4.out.mono ?_
        rintro e w2 ⟨v2, rfl, hs2, ho2, hk2, hb2⟩
        have hl2 := keys_len hk2
        have C5 := hide (bytesClone_any A' m d B' k w2 (HK.out.below (hb2.mono hB')) (by omega) (Nat.le_trans hB' hb2.size))
        have HO2 := hide ho2
        have HK2 := hide hk2
        have HB2 := hide hb2
        have HL2 := hide hl2
        obtain ⟨A2, c2, rfl, _⟩ := ho2.slice_
        clear ho2 hk2 hb2 hl2
        go_wp2_with fail
        refine C5.out.mono ?_
        rintro e w3 ⟨v3, rfl, ho3, hb3⟩
        obtain ⟨A3, c3, rfl⟩ := slice_ofH ho3
        have hmk3 : m = k.length := hmk2.symm
        rw [hmk3] at ho3
        have HO3 := hide (own_mono ho3 HB2.out.size : w3.ownsRow w.heap.size 5 1 (.slice A3 k.length c3) k.length (k.map bv))
        have HB3 := hide (belFrom HB2.out hb3)
        have HOR := hide (HO2.out.later hb3)
        have C6 := hide (insert_any (k := r) (x := ⟨A3, c3, k⟩) (own_bel HOR.out.row (bel1 w3 (.cells #[.slice A3 k.length c3] 23))) (Blk.new w3 23 #[.slice A3 k.length c3]) (fun e => by have := (own_lt HOR.out.row e).2; omega) (by have := HB3.out.size; simp; omega) (by rw [HL2.out, ← HN.out]; omega) (by rw [HL2.out, ← HN.out]; exact hrle))
        have HMK := hide hmk3
        clear ho3 hb3 hmk3 hmk2 hml
        rw [HMK.out]
        go_wp2_with fail
        refine C6.out.mono ?_
        rintro e w4 ⟨v4, rfl, ho4, hg4⟩
        go_wp2_with fail
        go_ret2
        refine ⟨v4, rfl, hs2.take r ++ (⟨A3, c3, k⟩ : Hd) :: hs2.drop r, ?_, ?_, ?_⟩
        · have hx0 : ∀ x ∈ hs2, (w3.alloc (.cells #[.slice A3 k.length c3] 23)).ownsRow w.heap.size 5 1 x.v x.l.length (x.l.map bv) := fun x hx => (HOR.out.bytes x hx).alloc _
          have hxk : (w3.alloc (.cells #[.slice A3 k.length c3] 23)).ownsRow w.heap.size 5 1 (Hd.v ⟨A3, c3, k⟩) (Hd.l ⟨A3, c3, k⟩).length ((Hd.l ⟨A3, c3, k⟩).map bv) := HO3.out.alloc _
          refine OwnRow.turn (HOR.out.later (bel1 w3 _)) ho4 hg4 (fun x hx => ?_)
          rcases List.mem_append.1 hx with hx | hx
          · exact hx0 x (List.mem_of_mem_take hx)
          · rcases List.mem_cons.1 hx with rfl | hx
            · exact hxk
            · exact hx0 x (List.mem_of_mem_drop hx)
        · show (hs2.take r ++ (⟨A3, c3, k⟩ : Hd) :: hs2.drop r).map Hd.l = _
          rw [List.map_append, List.map_cons, List.map_take, List.map_drop]
          show (keys hs2).take r ++ k :: (keys hs2).drop r = _
          rw [HK2.out]
        · exact bel_row (balloc HB3.out _) (own_bel HOR.out.row (bel1 w3 _)) hg4

set_option maxHeartbeats 1000000 in
theorem drop_any (A A' : Option Addr) (n c m d B B' : Nat) (hs : List Hd) (k : Key) (w : World) (h : RowR w B A hs) (hn : n = hs.length) (hsm : n ≤ 100000) (hk : Bs w B' A' m k) (hB : B ≤ w.heap.size) :
    Calls Try.prog 19 #[.slice A n c, .slice A' m d] w fun e w' => ∃ v, e = .returned (.tuple #[v, .int .i64 (dropK k (keys hs)).1]) ∧ ∃ hs', OwnRow w' w.heap.size v hs' ∧ keys hs' = (dropK k (keys hs)).2 ∧ Below w.heap.size w w' := by
  have C1 := hide (may_any A n c B hs w h hn (by unfold maxLen; omega))
  have C2 := hide (may1_any A' m d k hk.len.symm w)
  unfold dropK
  cases hm : mayR (keys hs) with
  | false =>
    rw [hm] at C1
    rw [Bool.false_and, if_pos rfl]
    clear h hn hk hm C2
    go_enter Try.func19, Try.ntmps19
    go_wp2_with fail
    refine C1.out.mono ?_
    rintro e w1 ⟨rfl, rfl⟩
    go_wp2_with fail
    go_ret2
    exact ⟨_, rfl, [], OwnRow.nil _ _, rfl, Below.refl _ _⟩
  | true =>
    rw [hm] at C1
    cases hmk : mayK k with
    | false =>
      rw [hmk] at C2
      rw [Bool.and_false, if_pos rfl]
      clear h hn hk hm hmk
      go_enter Try.func19, Try.ntmps19
      go_wp2_with fail
      refine C1.out.mono ?_
      rintro e w1 ⟨rfl, rfl⟩
      go_wp2_with fail
      refine C2.out.mono ?_
      rintro e w1 ⟨rfl, rfl⟩
      go_wp2_with fail
      go_ret2
      exact ⟨_, rfl, [], OwnRow.nil _ _, rfl, Below.refl _ _⟩
    | true =>
      rw [hmk] at C2
      rw [Bool.and_self, if_neg (by simp)]
      have hok := mayR_iff.1 hm
      have C3 := hide (search_any A A' n c m d B B' hs k w h hn (by omega) hok.2 hk)
      cases hi : isL k (keys hs) with
      | false =>
        rw [hi] at C3
        rw [if_neg (by simp)]
        generalize posL k (keys hs) = r at C3
        clear h hn hk hm hmk hi hok
        go_enter Try.func19, Try.ntmps19
        go_wp2_with fail
        refine C1.out.mono ?_
        rintro e w1 ⟨rfl, rfl⟩
        go_wp2_with fail
        refine C2.out.mono ?_
        rintro e w1 ⟨rfl, rfl⟩
        go_wp2_with fail
        refine C3.out.mono ?_
        rintro e w1 ⟨rfl, rfl⟩
        go_wp2_with fail
        go_ret2
        exact ⟨_, rfl, [], OwnRow.nil _ _, rfl, Below.refl _ _⟩
      | true =>
        have hat := isL_iff.1 hi
        rw [hi] at C3
        rw [if_pos rfl]
        have C4 := hide (own_any A n c B hs w h hB hn (by omega) (fun x hx => by have := (mayK_iff.1 (hok.1 x.l (List.mem_map_of_mem hx))).2; omega))
        obtain ⟨r, hr⟩ : ∃ r, r = posL k (keys hs) := ⟨_, rfl⟩
        rw [← hr] at C3 hat
        have hrlt := (List.getElem?_eq_some_iff.1 hat).1
        rw [List.length_map, ← hn] at hrlt
        have hw : lessL k (keys hs) = (keys hs).take r ++ (keys hs).drop (r + 1) := by rw [hr]; rfl
        rw [hw]
        have hwr : IntKind.i64.wrap ((r : Int) + 1) = (r : Int) + 1 := IntWalk.i64_in _ ⟨by omega, by omega⟩
        have HN := hide hn
        clear h hn hk hm hmk hi hok hw hr hat
        go_enter Try.func19, Try.ntmps19
        go_wp2_with fail
        refine C1.out.mono ?_
        rintro e w1 ⟨rfl, rfl⟩
        go_wp2_with fail
        refine C2.out.mono ?_
        rintro e w1 ⟨rfl, rfl⟩
        go_wp2_with fail
        refine C3.out.mono ?_
        rintro e w1 ⟨rfl, rfl⟩
        go_wp2_with fail
        refine C4.out.mono ?_
        rintro e w2 ⟨v2, rfl, hs2, ho2, hk2, hb2⟩
        have hl2 := keys_len hk2
        have hrow : ∃ g c2, v2 = .slice (some ⟨g, 0, none⟩) hs2.length c2 := by
          rcases ho2.row.2 with ⟨_, h0⟩ | ⟨g, cap, cur, e, _⟩
          · rw [hl2, ← HN.out] at h0
            omega
          · exact ⟨g, cap, e⟩
        obtain ⟨g, c2, rfl⟩ := hrow
        have C6 := hide (delete_any (k := r) ho2.row rfl (by rw [hl2, ← HN.out]; exact hrlt))
        have HO2 := hide ho2
        have HK2 := hide hk2
        have HB2 := hide hb2
        clear ho2 hk2 hb2 hl2
        go_wp2_with fail
        refine C6.out.mono ?_
        rintro e w4 ⟨v4, rfl, ho4, hg4⟩
        go_wp2_with fail
        go_ret2
        refine ⟨v4, rfl, hs2.take r ++ hs2.drop (r + 1), ?_, ?_, ?_⟩
        · refine OwnRow.turn HO2.out ho4 hg4 (fun x hx => HO2.out.bytes x ?_)
          rcases List.mem_append.1 hx with hx | hx
          · exact List.mem_of_mem_take hx
          · exact List.mem_of_mem_drop hx
        · show (hs2.take r ++ hs2.drop (r + 1)).map Hd.l = _
          rw [List.map_append, List.map_take, List.map_drop]
          show (keys hs2).take r ++ (keys hs2).drop (r + 1) = _
          rw [HK2.out]
        · exact bel_row HB2.out HO2.out.row hg4

set_option maxHeartbeats 1000000 in
theorem next_any (A A' : Option Addr) (n c m d B B' : Nat) (hs : List Hd) (k : Key) (w : World) (h : RowR w B A hs) (hn : n = hs.length) (hsm : n ≤ 100000) (hk : Bs w B' A' m k) (hB : B ≤ w.heap.size) :
    Calls Try.prog 25 #[.slice A n c, .slice A' m d] w fun e w' => ∃ v, e = .returned (.tuple #[v, .bool (nextK k (keys hs)).isSome]) ∧ w'.ownsRow w.heap.size 5 1 v ((nextK k (keys hs)).getD []).length (((nextK k (keys hs)).getD []).map bv) ∧ Below w.heap.size w w' := by
  have C1 := hide (may_any A n c B hs w h hn (by unfold maxLen; omega))
  unfold nextK
  cases hm : mayR (keys hs) with
  | false =>
    rw [hm] at C1
    rw [if_neg (by simp)]
    clear h hn hk hm
    go_enter Try.func25, Try.ntmps25
    go_wp2_with fail
    refine C1.out.mono ?_
    rintro e w1 ⟨rfl, rfl⟩
    go_wp2_with fail
    go_ret2
    exact ⟨_, rfl, World.ownsRow_nil _ _ _ _, Below.refl _ _⟩
  | true =>
    rw [hm] at C1
    rw [if_pos rfl]
    have hok := mayR_iff.1 hm
    have C3 := hide (search_any A A' n c m d B B' hs k w h hn (by omega) hok.2 hk)
    obtain ⟨r, hr⟩ : ∃ r, r = posL k (keys hs) := ⟨_, rfl⟩
    obtain ⟨is, his⟩ : ∃ is, is = isL k (keys hs) := ⟨_, rfl⟩
    have hrle := posL_le k (keys hs)
    have hilt : is = true → r < n := fun hi => by
      rw [his] at hi
      have := (List.getElem?_eq_some_iff.1 (isL_iff.1 hi)).1
      rw [List.length_map, ← hn, ← hr] at this
      exact this
    rw [← hr, List.length_map, ← hn] at hrle
    rw [← hr, ← his] at C3 ⊢
    obtain ⟨q, hq⟩ : ∃ q, q = r + (if is then 1 else 0) := ⟨_, rfl⟩
    rw [← hq]
    have hqn : q ≤ n := by rw [hq]; cases is with | true => have := hilt rfl; simp; omega | false => simpa using hrle
    have hqr : is = true → (r : Int) + 1 = (q : Int) := fun hi => by rw [hq, hi]; simp
    have hqr2 : is = false → r = q := fun hi => by rw [hq, hi]; simp
    have HR := hide h
    have HN := hide hn
    have HOK := hide hok
    clear h hn hk hm hok hr his hq hrle hilt
    by_cases hlt : q < n
    · obtain ⟨x, hx⟩ : ∃ x, hs[q]? = some x := ⟨_, List.getElem?_eq_getElem (by rw [← HN.out]; exact hlt)⟩
      have hkx : (keys hs)[q]? = some x.l := by rw [List.getElem?_map, hx]; rfl
      rw [hkx]
      obtain ⟨ad, rfl, hab, c1⟩ := HR.out.at_ hx
      have hgx := HR.out.good x (List.mem_of_getElem? hx)
      have hml := (mayK_iff.1 (HOK.out.1 x.l (List.mem_of_getElem? hkx))).2
      have C5 := hide (bytesClone_any x.A x.l.length x.c B x.l w hgx.1 (by omega) hB)
      have hqI : (q : Int) < (n : Int) := by omega
      have hqne : ((q : Int) == (n : Int)) = false := by simp; omega
      have hqne2 : ¬ (q : Int) = (n : Int) := by omega
      clear hx hkx hgx
      cases is with
      | true =>
        have hqr3 := hqr rfl
        clear hqr hqr2
        go_enter Try.func25, Try.ntmps25
        go_wp2_with fail
        refine C1.out.mono ?_
        rintro e w1 ⟨rfl, rfl⟩
        go_wp2_with fail
        refine C3.out.mono ?_
        rintro e w1 ⟨rfl, rfl⟩
        go_wp2_with fail
        refine C5.out.mono ?_
        rintro e w2 ⟨v2, rfl, ho2, hb2⟩
        go_wp2_with fail
        go_ret2
        exact ⟨v2, rfl, ho2, hb2⟩
      | false =>
        obtain rfl := hqr2 rfl
        clear hqr hqr2
        go_enter Try.func25, Try.ntmps25
        go_wp2_with fail
        refine C1.out.mono ?_
        rintro e w1 ⟨rfl, rfl⟩
        go_wp2_with fail
        refine C3.out.mono ?_
        rintro e w1 ⟨rfl, rfl⟩
        go_wp2_with fail
        refine C5.out.mono ?_
        rintro e w2 ⟨v2, rfl, ho2, hb2⟩
        go_wp2_with fail
        go_ret2
        exact ⟨v2, rfl, ho2, hb2⟩
    · obtain rfl : q = n := by omega
      have hkx : (keys hs)[q]? = none := List.getElem?_eq_none (by rw [List.length_map, ← HN.out]; exact Nat.le_refl _)
      rw [hkx]
      clear hkx hlt
      cases is with
      | true =>
        have hqr3 := hqr rfl
        clear hqr hqr2
        go_enter Try.func25, Try.ntmps25
        go_wp2_with fail
        refine C1.out.mono ?_
        rintro e w1 ⟨rfl, rfl⟩
        go_wp2_with fail
        refine C3.out.mono ?_
        rintro e w1 ⟨rfl, rfl⟩
        go_wp2_with fail
        go_ret2
        exact ⟨_, rfl, World.ownsRow_nil _ _ _ _, Below.refl _ _⟩
      | false =>
        obtain rfl := hqr2 rfl
        clear hqr hqr2
        go_enter Try.func25, Try.ntmps25
        go_wp2_with fail
        refine C1.out.mono ?_
        rintro e w1 ⟨rfl, rfl⟩
        go_wp2_with fail
        refine C3.out.mono ?_
        rintro e w1 ⟨rfl, rfl⟩
        go_wp2_with fail
        go_ret2
        exact ⟨_, rfl, World.ownsRow_nil _ _ _ _, Below.refl _ _⟩
end Go.Proofs.Yteiamfekdibkmaa
