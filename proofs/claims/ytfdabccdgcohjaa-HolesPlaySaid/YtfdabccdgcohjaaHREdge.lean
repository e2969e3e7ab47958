/-
  THE WALK of the document's Edges. Conditions: as the theorems' premises say.
-/
import Derived.Test.YtfdabccdgcohjaaHRW
import Derived.Deep.DeepCutAuto
import Derived.Deep.CutBlock
namespace Go.Proofs.Ytfdabccdgcohjaa
open Go.RowKit Go.Shelf

def nv (n : Nat) : Value := .int .u64 (n : Int)
abbrev OwnN (w : World) (base : Nat) (v : Value) (E : List Nat) : Prop := w.ownsRow base 28 1 v E.length (E.map nv)
theorem nv_one (E : List Nat) : ∀ u ∈ E.map nv, u.oneCell' = true := by
  intro u hu
  obtain ⟨n, _, rfl⟩ := List.mem_map.1 hu
  rfl
theorem n_info : (Try.prog.info? 28).map (fun i => (i.zero, i.size, i.bytes)) = some (some (.int .u64 0), 1, 8) := by kernel_rfl
theorem el70 : Try.prog.underlying 70 = some (.slice (Try.prog.elem 70)) := by kernel_rfl
theorem el70' : Try.prog.underlying 70 = some (.slice 28) := by kernel_rfl
theorem sz70 (w : World) : (sizeOf (Try.prog.elem 70)).run Try.prog w = .ok 1 w := by kernel_rfl
theorem sl70_from (A : Option Addr) (n c i : Nat) (h : i ≤ n) (w : World) :
    (Instr.slice 70 (.slice A n c) (some (.int .i64 i)) none none).run Try.prog w = .ok (.slice (if c = i then A else A.map (·.add i)) (n - i) (c - i)) w := by
  rw [run_slice_l w 70 A n c el70 .i64 i (by omega) (by omega), sz70]
  simp only [Result.andThen, sliced, Int.toNat_natCast, Nat.mul_one]
theorem sl70_to (A : Option Addr) (n c k : Nat) (h : k ≤ c) (w : World) :
    (Instr.slice 70 (.slice A n c) none (some (.int .i64 k)) none).run Try.prog w = .ok (.slice A k c) w := by
  rw [run_slice_h w 70 _ n c el70 .i64 k (by omega) (by omega), sz70]
  simp only [Result.andThen, sliced, Int.toNat_natCast]
  by_cases h0 : c = 0
  · simp [h0]
  · rw [if_neg h0]
    cases A <;> simp [Addr.add]
theorem rd1_take {w : World} {B : Nat} {A : Option Addr} {n k : Nat} {xs : List Value} (h : Reads w B 1 A n xs) (hk : k ≤ n) : Reads w B 1 A k (xs.take k) :=
  ⟨by have := h.1; rw [List.length_take]; omega, fun j u hu => by
    rw [List.getElem?_take] at hu
    split at hu
    · exact h.2 j u hu
    · cases hu⟩
theorem rd1_drop {w : World} {B : Nat} {A : Option Addr} {n c k : Nat} {xs : List Value} (h : Reads w B 1 A n xs) (hk : k ≤ n) (hnc : n ≤ c) : Reads w B 1 (if c = k then A else A.map (·.add k)) (n - k) (xs.drop k) := by
  refine ⟨by have := h.1; rw [List.length_drop]; omega, fun j u hu => ?_⟩
  rw [List.getElem?_drop] at hu
  obtain ⟨ad, rfl, hb, hc⟩ := h.2 _ u hu
  have hlt := (List.getElem?_eq_some_iff.1 hu).1
  have := h.1
  rw [if_neg (by omega)]
  exact ⟨ad.add k, rfl, by rw [add_block]; exact hb, by rw [add_add_]; exact hc⟩
theorem own_sliceN {w : World} {base : Nat} {v : Value} {E : List Nat} (h : OwnN w base v E) : ∃ A c, v = .slice A E.length c ∧ Reads w w.heap.size 1 A E.length (E.map nv) ∧ E.length ≤ c := by
  rcases h.2 with ⟨rfl, h0⟩ | ⟨g, cap, cur, rfl, _, _, h1, _⟩
  · refine ⟨none, 0, by rw [h0], ?_, by omega⟩
    have : E = [] := List.eq_nil_of_length_eq_zero h0
    subst this
    exact Reads.none_
  · exact ⟨_, _, rfl, Reads.of_own h, h1⟩
theorem slice_ofN {w : World} {base n : Nat} {v : Value} {xs : List Value} (h : w.ownsRow base 28 1 v n xs) : ∃ A c, v = .slice A n c := by
  rcases h.2 with ⟨rfl, h0⟩ | ⟨g, cap, cur, rfl, _⟩
  · exact ⟨none, 0, by rw [h0]⟩
  · exact ⟨_, _, rfl⟩
theorem rd1_at {w : World} {B : Nat} {A : Option Addr} {E : List Nat} (h : Reads w B 1 A E.length (E.map nv)) {k e : Nat} (hk : E[k]? = some e) : ∃ ad, A = some ad ∧ ad.block < B ∧ w.cell? (ad.add k) = some (.int .u64 (e : Int)) :=
  h.2 k (nv e) (by rw [List.getElem?_map, hk]; rfl)

set_option maxRecDepth 100000 in
set_option maxHeartbeats 4000000 in
theorem edges_any {w : World} {base q : Nat} {S : List Sd} (h : RefAt w base q S) (hsm : S.length ≤ 1000) :
    Calls Try.prog 37 #[.pointer (some ⟨q, 0, none⟩)] w fun e w' => ∃ v E, e = .returned v ∧ OwnN w' w.heap.size v E ∧ EdgesUp S (2 * S.length) E ∧ Below w.heap.size w w' := by
  obtain ⟨v, h1, h2⟩ := h.ex
  obtain ⟨A, c, rfl, hr⟩ := own_sliceD h2
  obtain ⟨m, hm⟩ : ∃ m, m = S.length := ⟨_, rfl⟩
  rw [← hm] at h1 hsm
  have HOK := hide h.ok
  have HM := hide hm
  have HR := hide hr
  have H1 := hide h1
  obtain ⟨i0, hi0, hz0, hz1, hz2⟩ := info_parts n_info
  clear h h1 h2 hm hr
  go_enter Try.func37, Try.ntmps37
  go_wp2_with fail
  go_loopw [3, 4] (fun v3 v4 W => ∃ (i : Nat) (E : List Nat), i ≤ 2 * m ∧ v4 = .int .i64 i ∧ Hid (OwnN W w.heap.size v3 E) ∧ Hid (EdgesUp S i E) ∧ Hid (Below w.heap.size w W)) (fun _ v4 _ => 2 * m - (intOf v4).toNat)
  case atStart => exact ⟨0, [], by omega, rfl, hide (World.ownsRow_nil _ _ _ _), hide (EdgesUp.start S), hide (Below.refl _ _)⟩
  case round =>
    obtain ⟨i, E, hi, rfl, HO, HE, HW⟩ := hrel
    obtain ⟨g1, g2, g3⟩ := (H1.out.below HW.out H1.out.lt).facts
    obtain ⟨A3, c3, rfl, hr3, hlc⟩ := own_sliceN HO.out
    have hel := HE.out.len
    obtain ⟨ln, hln⟩ : ∃ ln, ln = E.length := ⟨_, rfl⟩
    rw [← hln] at hr3 hlc hel ⊢
    have HR3 := hide hr3
    have HLN := hide hln
    clear hr3 hln
    by_cases hlt : i < 2 * m
    · obtain ⟨j, hj⟩ : ∃ j, j = i / 2 := ⟨_, rfl⟩
      have hjm : j < m := by omega
      have hjI : (j : Int) < (m : Int) := by omega
      have hq2 : (i : Int) / 2 = (j : Int) := by omega
      have hltI : (i : Int) < 2 * (m : Int) := by omega
      obtain ⟨x, hx⟩ : ∃ x, S[i / 2]? = some x := ⟨_, List.getElem?_eq_getElem (by rw [← HM.out]; omega)⟩
      have hxo := HOK.out x (List.mem_of_getElem? hx)
      obtain ⟨ad, rfl, hab, c1, c2, c4⟩ := RdD.at_ (HR.out.below HW.out) hx
      rw [← hj] at c1 c2 c4
      have HX := hide hx
      have HJ := hide hj
      clear hx c4 hj
      by_cases hle : x.hi < x.lo
      · have hleI : (x.hi : Int) < (x.lo : Int) := by omega
        go_upto_region 5 with fail
        go_quiet (fail)
        have HW1 := hide (belFrom HW.out (u' := wr.drewN nq) ⟨rfl, rfl, rfl, Nat.le_refl _, fun _ _ => rfl⟩)
        have HO1 : Hid (OwnN (wr.drewN nq) w.heap.size (.slice A3 E.length c3) E) := HO
        clear g1 g2 g3 c1 c2
        generalize wr.drewN nq = W1 at HW1 HO1 ⊢
        go_wp2_with fail
        go_roundw
        case rel => exact ⟨i + 1, E, by omega, by go_num, by rw [HLN.out]; exact HO1, hide (HE.out.skip HX.out (fun h => by omega)), HW1⟩
        case measure => simp [intOf]; omega
      · have hleI : ¬ (x.hi : Int) < (x.lo : Int) := by omega
        go_upto_region 5 with fail
        go_quiet (fail)
        have B1 : Below wr.heap.size wr (wr.drewN nq) := ⟨rfl, rfl, rfl, Nat.le_refl _, fun _ _ => rfl⟩
        have HW1 := hide (belFrom HW.out B1)
        have HO1 : Hid (OwnN (wr.drewN nq) w.heap.size (.slice A3 E.length c3) E) := HO
        have HR4 := hide (HR3.out.below B1)
        clear g1 g2 g3 c1 c2 HW HO HR3 B1
        generalize hwg : wr.drewN nq = W1 at HW1 HO1 HR4 ⊢
        have hsw : wr.heap.size = W1.heap.size := by rw [← hwg]; rfl
        rw [hsw] at HR4
        clear hwg hsw
        obtain ⟨g1, g2, g3⟩ := (H1.out.below HW1.out H1.out.lt).facts
        obtain ⟨ad', hade, hab', c1, c2, _⟩ := RdD.at_ (HR.out.below HW1.out) HX.out
        cases hade
        rw [← HJ.out] at c1 c2
        go_upto_if 48 with fail
        go_cut [5] (fun v5 W => W = W1 ∧ ∃ n : Nat, v5 = .int .u64 n ∧ 1 ≤ n ∧ n ≤ 1099511627777 ∧ (i % 2 = 0 → n = x.lo) ∧ (i % 2 = 1 → n = x.hi + 1))
        case first =>
          by_cases hodd : i % 2 = 1
          · have hoI : (i : Int) % 2 = 1 := by omega
            have hwx : IntKind.u64.wrap ((x.hi : Int) + 1) = ((x.hi + 1 : Nat) : Int) := by rw [IntWalk.u64_in _ ⟨by omega, by omega⟩]; omega
            go_wp2_with fail
            go_meet
            case rel => exact ⟨rfl, x.hi + 1, rfl, by omega, by omega, by omega, fun _ => rfl⟩
          · have hoI : (i : Int) % 2 = 0 := by omega
            go_wp2_with fail
            go_meet
            case rel => exact ⟨rfl, x.lo, rfl, by omega, by omega, fun _ => rfl, by omega⟩
        case rest =>
          obtain ⟨rfl, n, rfl, hn1, hn2, hn3, hn4⟩ := hcut
          have HN := hide (And.intro hn3 hn4)
          clear hn3 hn4 c1 c2 g1 g2
          go_wp2_with fail
          go_loopw [6] (fun v6 W => W = wc ∧ ∃ k : Nat, k ≤ ln ∧ v6 = .int .i64 k ∧ Hid (∀ j e, j < k → E[j]? = some e → e < n)) (fun v6 _ => ln - (intOf v6).toNat)
          case atStart => exact ⟨rfl, 0, by omega, rfl, hide (fun j e hj => by omega)⟩
          case round =>
            obtain ⟨rfl, k, hk, rfl, HLT⟩ := hrel
            by_cases hkl : k < ln
            · obtain ⟨e, he⟩ : ∃ e, E[k]? = some e := ⟨_, List.getElem?_eq_getElem (by rw [← HLN.out]; exact hkl)⟩
              obtain ⟨ad3, rfl, hab3, c0⟩ := rd1_at (by rw [← HLN.out]; exact HR4.out) he
              have hkI : (k : Int) < (ln : Int) := by omega
              have HEK := hide he
              clear he
              by_cases hen : e < n
              · have heI : (e : Int) < (n : Int) := by omega
                go_wp2_with fail
                go_roundw
                case rel =>
                  refine ⟨by first | trivial | rfl, k + 1, by omega, by go_num, hide fun j z hj hz => ?_⟩
                  by_cases h : j = k
                  · subst h
                    rw [HEK.out] at hz
                    cases hz
                    exact hen
                  · exact HLT.out j z (by omega) hz
                case measure => simp [intOf]; omega
              · have heI : ¬ (e : Int) < (n : Int) := by omega
                by_cases heq : e = n
                · subst heq
                  go_wp2_with fail
                  go_roundw
                  case rel => exact ⟨i + 1, E, by omega, by go_num, by rw [HLN.out]; exact HO1, hide (HE.out.skip HX.out (fun _ => ⟨fun h => by rw [← HN.out.1 h]; exact List.mem_of_getElem? HEK.out, fun h => by rw [← HN.out.2 h]; exact List.mem_of_getElem? HEK.out⟩)), HW1⟩
                  case measure => simp [intOf]; omega
                · have heqI : ¬ (e : Int) = (n : Int) := by omega
                  have HGT : Hid (∀ z, E[k]? = some z → n < z) := hide fun z hz => by
                    rw [HEK.out] at hz
                    cases hz
                    omega
                  have HEQ := hide heq
                  clear heq
                  have hsl := sl70_from (some ad3) ln c3 k (by omega)
                  have hst := sl70_to (some ad3) ln c3 k (by omega)
                  have HDR := fun {W : World} {B : Nat} (h : Reads W B 1 (some ad3) ln (E.map nv)) => rd1_drop h (k := k) (by omega) hlc
                  obtain ⟨A7, hA7⟩ : ∃ A7, (if c3 = k then (some ad3) else (some ad3).map (·.add k)) = A7 := ⟨_, rfl⟩
                  rw [hA7] at hsl HDR
                  have HDH := hide (fun W B => @HDR W B)
                  clear hA7 HDR
                  have hbase := HW1.out.size
                  go_upto_region 15 with (at_builtin; refine wpList_append_any _ rfl (.tmp 85) (.tmp 88) 70 rfl w.heap.size 28 i0 _ 1 8 el70' hi0 hz0 hz1 hz2 rfl (by omega) (.slice none 0 0) 0 [] rfl (World.ownsRow_nil _ _ _ _) wr.heap.size (some ad3) k c3 ((E.map nv).take k) rfl (rd1_take HR4.out (by omega)) (fun u hu => nv_one E u (List.mem_of_mem_take hu)) (by unfold maxLen; omega) (by omega) hbase ?_; intro v1 w1 ho1 hg1 hat1; obtain ⟨A5, c5, rfl⟩ := slice_ofN ho1)
                  rw [Nat.zero_add, List.nil_append] at ho1
                  rw [Nat.zero_add] at hat1; try rw [Nat.zero_add]
                  have b1 : Below wr.heap.size wr w1 := (Below.refl _ _).grown hg1 (Nat.le_refl _) (fun j hj => by simp [Value.ownBlock] at hj)
                  have hj1 : ∀ j, (Value.slice A5 k c5).ownBlock = some j → wr.heap.size ≤ j := fun j hj => by
                    rcases hat1 with h | h
                    · rw [h] at hj; simp [Value.ownBlock] at hj
                    · rw [h] at hj; cases hj; exact Nat.le_refl _
                  have HB1 := hide b1
                  have HJ1 := hide hj1
                  have HO5 := hide ho1
                  have hs1 := b1.size
                  clear ho1 hg1 hat1 b1 hj1
                  go_upto_region 16 with (at_builtin; refine wpList_append_any _ rfl (.tmp 90) (.tmp 92) 70 rfl w.heap.size 28 i0 _ 1 8 el70' hi0 hz0 hz1 hz2 rfl (by omega) (.slice A5 k c5) k ((E.map nv).take k) rfl (HO5.out.alloc _) (w1.heap.size + 1) (some ⟨w1.heap.size, 0, none⟩) 1 1 [nv n] rfl (Reads.ofBlk (Blk.new w1 28 _) rfl) (fun u hu => by rw [List.mem_singleton.1 hu]; rfl) (by unfold maxLen; omega) (by omega) (by simp; omega) ?_; intro v2 w2 ho2 hg2 hat2; obtain ⟨A6, c6, rfl⟩ := slice_ofN ho2)
                  have b2 : Below wr.heap.size wr w2 := (balloc HB1.out _).grown hg2 (by simp; omega) (fun j hj => HJ1.out j hj)
                  have hj2 : ∀ j, (Value.slice A6 (k + 1) c6).ownBlock = some j → wr.heap.size ≤ j := fun j hj => by
                    rcases hat2 with h | h
                    · rw [h] at hj; exact HJ1.out j hj
                    · rw [h] at hj; simp at hj; omega
                  have HB2 := hide b2
                  have HJ2 := hide hj2
                  have HO6 := hide ho2
                  have hs2 := b2.size
                  clear ho2 hg2 hat2 b2 hj2 HB1 HJ1 HO5
                  go_wp2_with (at_builtin; refine wpList_append_any _ rfl (.tmp 94) (.tmp 97) 70 rfl w.heap.size 28 i0 _ 1 8 el70' hi0 hz0 hz1 hz2 rfl (by omega) (.slice A6 (k + 1) c6) (k + 1) ((E.map nv).take k ++ [nv n]) rfl HO6.out wr.heap.size A7 (ln - k) (c3 - k) ((E.map nv).drop k) rfl (HDH.out _ _ (HR4.out.below HB2.out)) (fun u hu => nv_one E u (List.mem_of_mem_drop hu)) (by unfold maxLen; omega) (by omega) (by omega) ?_; intro v3 w3 ho3 hg3 hat3; obtain ⟨A8, c8, rfl⟩ := slice_ofN ho3)
                  have b3 : Below wr.heap.size wr w3 := HB2.out.grown hg3 (by omega) (fun j hj => HJ2.out j hj)
                  have ho4 : OwnN w3 w.heap.size (.slice A8 (k + 1 + (ln - k)) c8) (E.take k ++ n :: E.drop k) := by
                    show w3.ownsRow _ 28 1 _ (E.take k ++ n :: E.drop k).length ((E.take k ++ n :: E.drop k).map nv)
                    have e1 : (E.take k ++ n :: E.drop k).length = k + 1 + (ln - k) := by
                      rw [List.length_append, List.length_cons, List.length_take, List.length_drop, ← HLN.out]
                      omega
                    have e2 : (E.take k ++ n :: E.drop k).map nv = (E.map nv).take k ++ [nv n] ++ (E.map nv).drop k := by
                      rw [List.map_append, List.map_cons, List.map_take, List.map_drop, List.append_assoc]
                      rfl
                    rw [e1, e2]
                    exact ho3
                  go_roundw
                  case rel => exact ⟨i + 1, _, by omega, by go_num, hide ho4, hide (HE.out.put HX.out (k := k) (n := n) (by rw [← HLN.out]; omega) HN.out ⟨hn1, hn2⟩ HLT.out HGT.out), hide (belFrom HW1.out b3)⟩
                  case measure => simp [intOf]; omega
            · have hnl : ¬ (k : Int) < (ln : Int) := by omega
              have HGT : Hid (∀ z, E[k]? = some z → n < z) := hide fun z hz => by
                have := (List.getElem?_eq_some_iff.1 hz).1
                have := HLN.out
                omega
              have hsl := sl70_from A3 ln c3 k (by omega)
              have hst := sl70_to A3 ln c3 k (by omega)
              have HDR := fun {W : World} {B : Nat} (h : Reads W B 1 A3 ln (E.map nv)) => rd1_drop h (k := k) (by omega) hlc
              obtain ⟨A7, hA7⟩ : ∃ A7, (if c3 = k then A3 else A3.map (·.add k)) = A7 := ⟨_, rfl⟩
              rw [hA7] at hsl HDR
              have HDH := hide (fun W B => @HDR W B)
              clear hA7 HDR
              have hbase := HW1.out.size
              go_upto_region 15 with (at_builtin; refine wpList_append_any _ rfl (.tmp 85) (.tmp 88) 70 rfl w.heap.size 28 i0 _ 1 8 el70' hi0 hz0 hz1 hz2 rfl (by omega) (.slice none 0 0) 0 [] rfl (World.ownsRow_nil _ _ _ _) wr.heap.size A3 k c3 ((E.map nv).take k) rfl (rd1_take HR4.out (by omega)) (fun u hu => nv_one E u (List.mem_of_mem_take hu)) (by unfold maxLen; omega) (by omega) hbase ?_; intro v1 w1 ho1 hg1 hat1; obtain ⟨A5, c5, rfl⟩ := slice_ofN ho1)
              rw [Nat.zero_add, List.nil_append] at ho1
              rw [Nat.zero_add] at hat1; try rw [Nat.zero_add]
              have b1 : Below wr.heap.size wr w1 := (Below.refl _ _).grown hg1 (Nat.le_refl _) (fun j hj => by simp [Value.ownBlock] at hj)
              have hj1 : ∀ j, (Value.slice A5 k c5).ownBlock = some j → wr.heap.size ≤ j := fun j hj => by
                rcases hat1 with h | h
                · rw [h] at hj; simp [Value.ownBlock] at hj
                · rw [h] at hj; cases hj; exact Nat.le_refl _
              have HB1 := hide b1
              have HJ1 := hide hj1
              have HO5 := hide ho1
              have hs1 := b1.size
              clear ho1 hg1 hat1 b1 hj1
              go_upto_region 16 with (at_builtin; refine wpList_append_any _ rfl (.tmp 90) (.tmp 92) 70 rfl w.heap.size 28 i0 _ 1 8 el70' hi0 hz0 hz1 hz2 rfl (by omega) (.slice A5 k c5) k ((E.map nv).take k) rfl (HO5.out.alloc _) (w1.heap.size + 1) (some ⟨w1.heap.size, 0, none⟩) 1 1 [nv n] rfl (Reads.ofBlk (Blk.new w1 28 _) rfl) (fun u hu => by rw [List.mem_singleton.1 hu]; rfl) (by unfold maxLen; omega) (by omega) (by simp; omega) ?_; intro v2 w2 ho2 hg2 hat2; obtain ⟨A6, c6, rfl⟩ := slice_ofN ho2)
              have b2 : Below wr.heap.size wr w2 := (balloc HB1.out _).grown hg2 (by simp; omega) (fun j hj => HJ1.out j hj)
              have hj2 : ∀ j, (Value.slice A6 (k + 1) c6).ownBlock = some j → wr.heap.size ≤ j := fun j hj => by
                rcases hat2 with h | h
                · rw [h] at hj; exact HJ1.out j hj
                · rw [h] at hj; simp at hj; omega
              have HB2 := hide b2
              have HJ2 := hide hj2
              have HO6 := hide ho2
              have hs2 := b2.size
              clear ho2 hg2 hat2 b2 hj2 HB1 HJ1 HO5
              go_wp2_with (at_builtin; refine wpList_append_any _ rfl (.tmp 94) (.tmp 97) 70 rfl w.heap.size 28 i0 _ 1 8 el70' hi0 hz0 hz1 hz2 rfl (by omega) (.slice A6 (k + 1) c6) (k + 1) ((E.map nv).take k ++ [nv n]) rfl HO6.out wr.heap.size A7 (ln - k) (c3 - k) ((E.map nv).drop k) rfl (HDH.out _ _ (HR4.out.below HB2.out)) (fun u hu => nv_one E u (List.mem_of_mem_drop hu)) (by unfold maxLen; omega) (by omega) (by omega) ?_; intro v3 w3 ho3 hg3 hat3; obtain ⟨A8, c8, rfl⟩ := slice_ofN ho3)
              have b3 : Below wr.heap.size wr w3 := HB2.out.grown hg3 (by omega) (fun j hj => HJ2.out j hj)
              have ho4 : OwnN w3 w.heap.size (.slice A8 (k + 1 + (ln - k)) c8) (E.take k ++ n :: E.drop k) := by
                show w3.ownsRow _ 28 1 _ (E.take k ++ n :: E.drop k).length ((E.take k ++ n :: E.drop k).map nv)
                have e1 : (E.take k ++ n :: E.drop k).length = k + 1 + (ln - k) := by
                  rw [List.length_append, List.length_cons, List.length_take, List.length_drop, ← HLN.out]
                  omega
                have e2 : (E.take k ++ n :: E.drop k).map nv = (E.map nv).take k ++ [nv n] ++ (E.map nv).drop k := by
                  rw [List.map_append, List.map_cons, List.map_take, List.map_drop, List.append_assoc]
                  rfl
                rw [e1, e2]
                exact ho3
              go_roundw
              case rel => exact ⟨i + 1, _, by omega, by go_num, hide ho4, hide (HE.out.put HX.out (k := k) (n := n) (by rw [← HLN.out]; omega) HN.out ⟨hn1, hn2⟩ HLT.out HGT.out), hide (belFrom HW1.out b3)⟩
              case measure => simp [intOf]; omega
    · obtain rfl : i = 2 * m := by omega
      go_wp2_with fail
      go_ret
      exact ⟨_, E, rfl, by rw [HLN.out]; exact HO.out, by rw [← HM.out]; exact HE.out, HW.out⟩
end Go.Proofs.Ytfdabccdgcohjaa
