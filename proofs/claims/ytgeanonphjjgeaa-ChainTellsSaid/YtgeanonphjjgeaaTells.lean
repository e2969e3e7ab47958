/-
  THE WALK of ChainTells: links, chains and values are the document's. Conditions: as the theorem's premises say.
-/
import Derived.Test.YtgeanonphjjgeaaRefN
import Derived.Test.YtgeanonphjjgeaaSame
import Derived.BigRegion
import Derived.BigQuiet
import Derived.Deep.DeepCutAuto
import Derived.Deep.CutBlock
import Derived.StillTailTactics
namespace Go.Proofs.Ytgeanonphjjgeaa
open Go.RowKit

theorem RowAt.take {w : World} {B : Nat} {A : Option Addr} {ys : List Lk} (h : RowAt w B A ys) {m : Nat} (hm : m ≤ ys.length) : RowAt w B A (ys.take m) := by
  have e : (ys.take m).length = m := by simp [hm]
  refine ⟨⟨?_, fun j u hu => ?_⟩, fun x hx => h.keys x (List.mem_of_mem_take hx), fun x hx => h.vals x (List.mem_of_mem_take hx)⟩
  · have h1 := h.cells.1
    have := walkCells_take ys m
    show (walkCells (ys.take m)).length = _
    rw [← this, List.length_take, h1, e]
    have := Nat.mul_le_mul_right 8 hm
    omega
  · refine h.cells.2 j u ?_
    have h2 : (walkCells (ys.take m))[j]? = some u := hu
    rw [← walkCells_take] at h2
    rw [List.getElem?_take] at h2
    split at h2
    · exact h2
    · cases h2
theorem Bs.take {w : World} {B : Nat} {A : Option Addr} {n : Nat} {l : List UInt8} (h : Bs w B A n l) {m : Nat} (hm : m ≤ n) : Bs w B A m (l.take m) := by
  have hl := h.len
  refine ⟨by simp; omega, fun j u hu => h.2 j u ?_⟩
  rw [List.map_take, List.getElem?_take] at hu
  split at hu
  · exact hu
  · cases hu
theorem bv_map (V : List UInt8) : (V.map (fun b => (b.toNat : Int))).map (Value.int .u8) = V.map bv := by
  rw [List.map_map]
  rfl
theorem take_snoc_ {α : Type} {xs : List α} {i : Nat} {x : α} (h : xs[i]? = some x) : xs.take (i + 1) = xs.take i ++ [x] := by rw [List.take_add_one, h]; rfl
/-- the zero link, or one of the row -/
theorem newest_bs {w : World} {B : Nat} {A : Option Addr} {xs : List Lk} (h : RowAt w B A xs) (s o : Int) (kb : List UInt8) (sN : Int) :
    Bs w B (newestRes xs s o kb sN).1.kA (newestRes xs s o kb sN).1.kn (newestRes xs s o kb sN).1.kb ∧ Bs w B (newestRes xs s o kb sN).1.vA (newestRes xs s o kb sN).1.vn (newestRes xs s o kb sN).1.vb := by
  by_cases he : (newestRes xs s o kb sN).2 = 0
  · have := newestRes_mem he
    exact ⟨h.keys _ this, h.vals _ this⟩
  · have hz : (newestRes xs s o kb sN).1 = Lk.zero := by
      unfold newestRes at he ⊢
      split at he
      · rename_i hk
        rw [if_pos hk]
        generalize chainL xs kb s o 1099511627777 = l at he
        induction l with
        | nil => rfl
        | cons y l ih =>
          obtain ⟨y, b⟩ := y
          simp only [findN] at he ⊢
          cases b with
          | false => rfl
          | true =>
            simp only [if_true] at he ⊢
            split at he
            · rename_i hy
              exact absurd rfl he
            · rename_i hy
              rw [if_neg hy]
              exact ih he
      · rename_i hk
        rw [if_neg hk]
    rw [hz]
    exact ⟨Reads.none_, Reads.none_⟩
theorem walkRes_mem {xs : List Lk} {s o most : Int} {kb : List UInt8} : ∀ x ∈ (walkRes xs s o kb most).1, x ∈ xs := by
  intro x hx
  unfold walkRes at hx
  split at hx
  · split at hx
    · cases hx
    · have main : ∀ (l : List (Lk × Bool)) (acc : List Lk), (∀ y ∈ l, y.2 = true → y.1 ∈ xs) → (∀ y ∈ acc, y ∈ xs) → ∀ x ∈ (walkN most l acc).1, x ∈ xs := by
        intro l
        induction l with
        | nil => intro acc _ ha x hx; exact ha x hx
        | cons y l ih =>
          obtain ⟨y, b⟩ := y
          intro acc hl ha x hx
          simp only [walkN] at hx
          cases b with
          | false => cases hx
          | true =>
            have hy : y ∈ xs := hl (y, true) (List.mem_cons_self ..) rfl
            have ha' : ∀ z ∈ acc ++ [y], z ∈ xs := by
              intro z hz
              rcases List.mem_append.1 hz with hz | hz
              · exact ha z hz
              · rw [List.mem_singleton.1 hz]; exact hy
            simp only [if_true] at hx
            split at hx
            · exact ha' x hx
            · exact ih _ (fun z hz => hl z (List.mem_cons_of_mem _ hz)) ha' x hx
      exact main _ [] (fun y hy hb => chainF_mem xs kb _ _ _ _ y hy hb) (fun y hy => by cases hy) x hx
  · cases hx

set_option maxRecDepth 100000 in
set_option maxHeartbeats 2000000 in
theorem tells_any (A kA : Option Addr) (n c kn kc : Nat) (ys : List Lk) (hyl : n = ys.length) (kb : List UInt8) (s o sN most : Int) (w : World) (hr : RowAt w w.heap.size A ys) (hkb : Bs w w.heap.size kA kn kb) (hu : ∀ x ∈ ys, 0 ≤ x.seq) (hv : ∀ x ∈ ys, x.vn ≤ 140737488355328)
    (hnc : n ≤ c) (hc : c ≤ 9223372036854775807) (hknc : kn ≤ kc) (hkc : kc ≤ 9223372036854775807) :
    Calls Try.prog 3 #[.slice A n c, .agg #[.slice kA kn kc, .int .u32 s, .int .u32 o, .int .u64 sN, .int .i64 most]] w fun e w' => e = .returned (.bool true) ∧ Below w.heap.size w w' := by
  obtain ⟨i0, hi0, hz0, hz1, hz2⟩ := info_parts one_info
  have HYL := hide hyl
  clear hyl
  obtain ⟨m, hm⟩ : ∃ m : Nat, (if (40 : Int) < (n : Int) then (40 : Int) else (n : Int)) = m := ⟨min n 40, by split <;> omega⟩
  obtain ⟨km, hkm⟩ : ∃ km : Nat, (if (80 : Int) < (kn : Int) then (80 : Int) else (kn : Int)) = km := ⟨min kn 80, by split <;> omega⟩
  have hm1 : m ≤ n := by split at hm <;> omega
  have hm2 : m ≤ 40 := by split at hm <;> omega
  have hm3 : m ≤ c := by omega
  have hkm1 : km ≤ kn := by split at hkm <;> omega
  have hkm2 : km ≤ 80 := by split at hkm <;> omega
  have hkm3 : km ≤ kc := by omega
  go_enter Try.func3, Try.ntmps3
  go_upto_region 1 with fail
  go_region
  go_wp2_with fail
  obtain ⟨W0, hW0⟩ : ∃ W0, (w.alloc (.cells #[.slice kA km kc, .int .u32 s, .int .u32 o, .int .u64 sN, .int .i64 most] 30)).drew = W0 := ⟨_, rfl⟩
  have hb0 : Below w.heap.size w W0 := by rw [← hW0]; exact bdrew (bel1 w _) 1
  have HB3 : Blk W0 w.heap.size 30 #[.slice kA km kc, .int .u32 s, .int .u32 o, .int .u64 sN, .int .i64 most] := by rw [← hW0]; exact Blk.new w 30 _
  rw [hW0]
  clear hW0
  go_loopw [5, 7, 39] (fun v5 _ v39 wr => ∃ (k : Nat) (ov : Value), ov = v5 ∧ k ≤ m ∧ v39 = .int .i64 k ∧ wr.ownsRow W0.heap.size 36 8 ov k (walkCells (ys.take k)) ∧ Below W0.heap.size W0 wr) (fun _ _ v39 _ => m - (intOf v39).toNat)
  case atStart => exact ⟨0, _, rfl, by omega, rfl, ⟨rfl, .inl ⟨rfl, rfl⟩⟩, Below.refl _ _⟩
  case round =>
    obtain ⟨k, ov, rfl, hk, rfl, hown, hb⟩ := hrel
    by_cases hlt : k < m
    · · obtain ⟨ad, x, rfl, hab, hx, hmem, c0, c1, c2, c3, c4, c5, c6, c7⟩ := ((hr.below hb0).below (hb.mono hb0.size)).at_ (by have := HYL.out; omega : k < ys.length)
        have HX := hide hx
        have HOWN := hide hown
        clear hown hx
        have hsz := hb.size
        have hbase : ∀ r, ov.ownBlock = some r → W0.heap.size ≤ r := fun r e => Nat.le_of_not_lt fun h => own_ne HOWN.out h e.symm
        have HBA := hide hbase
        clear hbase
        go_wp2_with (at_builtin; refine wpList_append_any _ rfl (.tmp 43) (.tmp 45) 31 rfl W0.heap.size 36 i0 _ 8 80 Try.underlying31 hi0 hz0 hz1 hz2 rfl (by omega) ov k (walkCells (ys.take k)) rfl ((HOWN.out.alloc _).alloc _) (wr.heap.size + 1 + 1) (some ⟨wr.heap.size + 1, 0, none⟩) 1 1 x.cs rfl (Reads.ofBlk (Blk.newAt (by simp)) rfl) (by intro u hu; simp [Lk.cs] at hu; rcases hu with rfl | rfl | rfl | rfl | rfl | rfl | rfl | rfl <;> rfl) (by unfold maxLen; omega) (by omega) (by simp; omega) ?_; intro v' wf hown' hg' hat')
        go_roundw
        case rel =>
          have e1 : wf.ownsRow W0.heap.size 36 8 v' (k + 1) (walkCells (ys.take (k + 1))) := by rw [take_snoc_ HX.out]; simpa [walkCells] using hown'
          have e2 := (balloc (balloc hb (.cells x.cs.toArray 35)) (.cells x.cs.toArray 36)).grown hg' (by simp; omega) HBA.out
          exact ⟨k + 1, v', rfl, by omega, by go_num, e1, e2⟩
        case measure => simp [intOf]; omega
    · obtain rfl : k = m := by omega
      obtain ⟨wo, rfl⟩ : ∃ wo : World, wo = wr := ⟨_, rfl⟩
      have hnl : ¬ (k : Int) < k := by omega
      obtain ⟨A5, cp5, rfl⟩ := own_slice hown
      have hkl : k ≤ ys.length := by have := HYL.out; omega
      obtain ⟨xs, hxs⟩ : ∃ xs, xs = ys.take k := ⟨_, rfl⟩
      have hxl : xs.length = k := by rw [hxs]; simp [hkl]
      have R : RowAt wo wo.heap.size A xs := by rw [hxs]; exact (((hr.below hb0).below (hb.mono hb0.size)).take hkl).more (Nat.le_trans hb0.size hb.size)
      have hux : ∀ x ∈ xs, 0 ≤ x.seq := fun x hx => hu x (by rw [hxs] at hx; exact List.mem_of_mem_take hx)
      have hvx : ∀ x ∈ xs, x.vn ≤ 140737488355328 := fun x hx => hv x (by rw [hxs] at hx; exact List.mem_of_mem_take hx)
      have K : Bs wo wo.heap.size kA km (kb.take km) := (Bs.take ((hkb.below hb0).below (hb.mono hb0.size)) hkm1).more (Nat.le_trans hb0.size hb.size)
      rw [← hxs] at hown
      have R' : RowAt wo wo.heap.size A5 xs := ⟨by rw [hxl]; exact Reads.of_own hown, R.keys, R.vals⟩
      have B3 : Blk wo w.heap.size 30 #[.slice kA km kc, .int .u32 s, .int .u32 o, .int .u64 sN, .int .i64 most] := HB3.below hb HB3.lt
      have hbw : Below w.heap.size w wo := hb0.trans (hb.mono hb0.size)
      generalize kb.take km = kb' at K
      have HXL := hide hxl
      have HUX := hide hux
      have HVX := hide hvx
      have HR := hide R
      have HR' := hide R'
      have HK := hide K
      have hkn : km ≤ 9223372036854775807 := by omega
      have hx1 : xs.length ≤ 1000000 := by omega
      clear hxs hxl hux hvx R R' K hown hr hkb hu hv HYL hb HB3 hb0 hm hkm
      obtain ⟨f1, f2, f3⟩ := B3.facts
      have c1 := newest_row s o sN A kA xs wo.heap.size c km kc kb' hx1 wo (Nat.le_refl _) HR.out HK.out hkn
      rw [HXL.out] at c1
      go_wp2_with fail
      refine c1.mono ?_
      rintro e w1 ⟨rfl, hb1⟩
      obtain ⟨y, hy⟩ : ∃ y, newestRes xs s o kb' sN = y := ⟨_, rfl⟩
      rw [hy]
      obtain ⟨x1, er⟩ := y
      have HY := hide hy
      clear hy c1
      simp only [linkV, Lk.cs]
      replace B3 := B3.below hb1 f3
      clear f1 f2 f3
      obtain ⟨f1, f2, f3⟩ := B3.facts
      go_wp2_with fail
      have bA := balloc hb1 (.cells #[.int .u32 x1.seg, .int .u32 x1.off, .int .u64 x1.seq, .int .i64 x1.kind, .slice x1.kA x1.kn x1.kc, .slice x1.vA x1.vn x1.vc, .int .u32 x1.ps, .int .u32 x1.po] 35)
      have B8 : Blk (w1.alloc (.cells #[.int .u32 x1.seg, .int .u32 x1.off, .int .u64 x1.seq, .int .i64 x1.kind, .slice x1.kA x1.kn x1.kc, .slice x1.vA x1.vn x1.vc, .int .u32 x1.ps, .int .u32 x1.po] 35)) w1.heap.size 35 x1.cs.toArray := Blk.new w1 35 _
      replace B3 := B3.alloc (.cells #[.int .u32 x1.seg, .int .u32 x1.off, .int .u64 x1.seq, .int .i64 x1.kind, .slice x1.kA x1.kn x1.kc, .slice x1.vA x1.vn x1.vc, .int .u32 x1.ps, .int .u32 x1.po] 35)
      have c2 := refNewest_any s o sN A5 kA xs wo.heap.size cp5 km kc kb' hx1 _ bA.size (HR'.out.below bA) (HK.out.below bA) HUX.out hkn
      rw [HXL.out, HY.out] at c2
      refine c2.mono ?_
      rintro e w2 ⟨rfl, hb2⟩
      simp only [linkV, Lk.cs]
      replace B3 := B3.below hb2 B3.lt
      replace B8 := B8.below hb2 B8.lt
      have bB := belFrom bA hb2
      clear f1 f2 f3 c2 hb2 bA hb1
      obtain ⟨f1, f2, f3⟩ := B3.facts
      go_wp2_with fail
      have bA := balloc bB (.cells #[.int .u32 x1.seg, .int .u32 x1.off, .int .u64 x1.seq, .int .i64 x1.kind, .slice x1.kA x1.kn x1.kc, .slice x1.vA x1.vn x1.vc, .int .u32 x1.ps, .int .u32 x1.po] 36)
      have B10 : Blk (w2.alloc (.cells #[.int .u32 x1.seg, .int .u32 x1.off, .int .u64 x1.seq, .int .i64 x1.kind, .slice x1.kA x1.kn x1.kc, .slice x1.vA x1.vn x1.vc, .int .u32 x1.ps, .int .u32 x1.po] 36)) w2.heap.size 36 x1.cs.toArray := Blk.new w2 36 _
      replace B3 := B3.alloc (.cells #[.int .u32 x1.seg, .int .u32 x1.off, .int .u64 x1.seq, .int .i64 x1.kind, .slice x1.kA x1.kn x1.kc, .slice x1.vA x1.vn x1.vc, .int .u32 x1.ps, .int .u32 x1.po] 36)
      replace B8 := B8.alloc (.cells #[.int .u32 x1.seg, .int .u32 x1.off, .int .u64 x1.seq, .int .i64 x1.kind, .slice x1.kA x1.kn x1.kc, .slice x1.vA x1.vn x1.vc, .int .u32 x1.ps, .int .u32 x1.po] 36)
      have c2 := walk_row s o most A kA xs wo.heap.size c km kc kb' hx1 _ bA.size (HR.out.below bA) (HK.out.below bA) hkn
      rw [HXL.out] at c2
      refine c2.mono ?_
      rintro e w3 ⟨v7, rfl, hownP, hb3⟩
      have hpm := walkRes_mem (xs := xs) (s := s) (o := o) (kb := kb') (most := most)
      obtain ⟨z, hz⟩ : ∃ z, walkRes xs s o kb' most = z := ⟨_, rfl⟩
      rw [hz] at hownP hpm ⊢
      obtain ⟨P, pe⟩ := z
      have HZ := hide hz
      have HPM := hide hpm
      simp only at hownP ⊢
      obtain ⟨A7, cp7, rfl⟩ := own_slice hownP
      replace B3 := B3.below hb3 B3.lt
      replace B8 := B8.below hb3 B8.lt
      replace B10 := B10.below hb3 B10.lt
      have bB := belFrom bA hb3
      have hplb : P.length ≤ 9223372036854775807 := by have := own_cap hownP; unfold maxLen at this; omega
      have rdP : Reads w3 w3.heap.size 8 A7 P.length (walkCells P) := Reads.of_own hownP
      have HRP := hide rdP
      clear f1 f2 f3 c2 hb3 bA hz hpm hownP rdP
      obtain ⟨f1, f2, f3⟩ := B3.facts
      go_wp2_with fail
      have c2 := refWalk_any s o most A5 kA xs wo.heap.size cp5 km kc kb' hx1 _ bB.size (HR'.out.below bB) (HK.out.below bB) HUX.out hkn
      rw [HXL.out, HZ.out] at c2
      refine c2.mono ?_
      rintro e w4 ⟨v8, rfl, hownQ, hb4⟩
      simp only at hownQ ⊢
      obtain ⟨A8, cp8, rfl⟩ := own_slice hownQ
      replace B3 := B3.below hb4 B3.lt
      replace B8 := B8.below hb4 B8.lt
      replace B10 := B10.below hb4 B10.lt
      have rdQ : Reads w4 w4.heap.size 8 A8 P.length (walkCells P) := Reads.of_own hownQ
      have HRQ := hide rdQ
      replace HRP := hide ((HRP.out.below hb4).more hb4.size)
      have bA := belFrom bB hb4
      have hz4 := bA.size
      have hz3 := B3.lt
      clear f1 f2 f3 c2 hb4 bB hownQ rdQ
      obtain ⟨f1, f2, f3⟩ := B3.facts
      go_wp2_with fail
      have c2 := value_row s o sN A kA xs wo.heap.size c km kc kb' hx1 _ bA.size (HR.out.below bA) (HK.out.below bA) hkn HVX.out
      rw [HXL.out] at c2
      refine c2.mono ?_
      rintro e w5 ⟨v9, rfl, hownV, hb5⟩
      obtain ⟨z, hz⟩ : ∃ z, valueRes xs s o kb' sN = z := ⟨_, rfl⟩
      rw [hz] at hownV ⊢
      obtain ⟨V, ve⟩ := z
      have HZV := hide hz
      simp only at hownV ⊢
      obtain ⟨A9, cp9, rfl⟩ := own_slice hownV
      replace B3 := B3.below hb5 B3.lt
      replace B8 := B8.below hb5 B8.lt
      replace B10 := B10.below hb5 B10.lt
      replace HRP := hide ((HRP.out.below hb5).more hb5.size)
      replace HRQ := hide ((HRQ.out.below hb5).more hb5.size)
      have bB := belFrom bA hb5
      have hvlb : V.length ≤ 9223372036854775807 := by have := own_cap hownV; unfold maxLen at this; omega
      have HOV := hide hownV
      have hz5 := hb5.size
      clear f1 f2 f3 c2 hb5 hz hownV
      obtain ⟨f1, f2, f3⟩ := B3.facts
      go_wp2_with fail
      have c2 := refValue_any s o sN A5 kA xs wo.heap.size cp5 km kc kb' hx1 _ bB.size (HR'.out.below bB) (HK.out.below bB) HUX.out hkn
      rw [HXL.out, HZV.out] at c2
      refine c2.mono ?_
      rintro e w6 ⟨A10, n10, cp10, rfl, hbs, hb6⟩
      simp only at hbs ⊢
      obtain rfl := hbs.len
      replace B3 := B3.below hb6 B3.lt
      replace B8 := B8.below hb6 B8.lt
      replace B10 := B10.below hb6 B10.lt
      replace HRP := hide ((HRP.out.below hb6).more hb6.size)
      replace HRQ := hide ((HRQ.out.below hb6).more hb6.size)
      replace HOV := hide (HOV.out.kept (only_of_below hb6 none) (Classical.em _))
      have bC := belFrom bB hb6
      have HBS := hide hbs
      have hz6 := hb6.size
      clear f1 f2 f3 c2 hb6 bB hbs
      simp only [Lk.cs] at B8 B10
      obtain ⟨f1, f2, f3⟩ := B3.facts
      obtain ⟨f4, f5, f6⟩ := B8.facts
      obtain ⟨f7, f8, f9⟩ := B10.facts
      obtain ⟨kx, vx⟩ := newest_bs (HR.out.below bC) s o kb' sN
      rw [HY.out] at kx vx
      have HKX := hide kx
      have HVX1 := hide vx
      have HB3 := hide B3
      obtain ⟨pl, hpl⟩ : ∃ pl, pl = P.length := ⟨_, rfl⟩
      have HPL := hide hpl
      rw [← hpl] at hplb ⊢
      clear hpl kx vx B3 B8 B10
      go_wp2_with fail
      refine (same_any x1 x1 wo.heap.size _ bC.size HKX.out HVX1.out HKX.out HVX1.out).mono ?_
      rintro e w7 ⟨rfl, hb7⟩
      rw [sameB_refl]
      have bov : Bs w7 w7.heap.size A9 V.length V := ((Reads.of_own HOV.out).below hb7).more hb7.size
      have bsv : Bs w7 wo.heap.size A10 V.length V := HBS.out.below (hb7.mono bC.size)
      go_wp2_with fail
      refine (bytesEqual_any A9 A10 V.length cp9 V.length cp10 _ _ V V w7 bov bsv).mono ?_
      rintro e w8 ⟨rfl, rfl⟩
      rw [show (V == V) = true from beq_self_eq_true _]
      go_wp2_with fail
      have hz7 := hb7.size
      go_loopw [20, 160] (fun _ v160 W => ∃ i : Nat, i ≤ pl ∧ v160 = .int .i64 i ∧ Below w7.heap.size w7 W) (fun _ v160 _ => pl - (intOf v160).toNat)
      case atStart => exact ⟨0, by omega, rfl, Below.refl _ _⟩
      case round =>
        obtain ⟨i, hi, rfl, hb9⟩ := hrel
        by_cases hlt : i < pl
        · obtain ⟨ad, x, rfl, hab, hx, hmx, c0, c1, c2, c3, c4, c5, c6, c7⟩ := cells_at (((HRP.out.below hb7).more hb7.size).below hb9) (by rw [← HPL.out]; exact hlt)
          obtain ⟨ad', x', rfl, hab', hx', _, d0, d1, d2, d3, d4, d5, d6, d7⟩ := cells_at (((HRQ.out.below hb7).more hb7.size).below hb9) (by rw [← HPL.out]; exact hlt)
          rw [hx] at hx'
          injection hx' with hx'
          subst hx'
          have hmem := HPM.out x hmx
          have bD := bC.trans ((hb7.mono bC.size).trans (hb9.mono (Nat.le_trans bC.size hb7.size)))
          have kx := (HR.out.below bD).keys x hmem
          have vx := (HR.out.below bD).vals x hmem
          have HKX2 := hide kx
          have HVX2 := hide vx
          clear hx kx vx hmx
          go_upto_region 19 with fail
          refine wp_region_still_tail 22 (by kernel_rfl) (by kernel_rfl) ?_
          rw [show ({ wr with drawn := wr.drawn + 1 } : World) = wr.drew from rfl]
          simp only [List.take_succ_cons, List.take_zero, List.drop_succ_cons, List.drop_zero]
          repeat still_step
          refine wpStill_nil ?_
          go_wp2_with fail
          have bdr : Below wo.heap.size wr wr.drew := bdrew (Below.refl _ _) 1
          refine (same_any x x wo.heap.size wr.drew bD.size (HKX2.out.below bdr) (HVX2.out.below bdr) (HKX2.out.below bdr) (HVX2.out.below bdr)).mono ?_
          rintro e w9 ⟨rfl, hb10⟩
          rw [sameB_refl]
          go_wp2_with fail
          go_roundw
          case rel => exact ⟨i + 1, by omega, by go_num, belFrom (bdrew hb9 1) hb10⟩
          case measure => simp [intOf]; omega
        · obtain rfl : i = pl := by omega
          have hnl : ¬ (i : Int) < i := by omega
          obtain ⟨wp, rfl⟩ : ∃ wp : World, wp = wr := ⟨_, rfl⟩
          have hz9 := hb9.size
          have bE := bC.trans ((hb7.mono bC.size).trans (hb9.mono (Nat.le_trans bC.size hb7.size)))
          have B3 : Blk wp w.heap.size 30 #[.slice kA km kc, .int .u32 s, .int .u32 o, .int .u64 sN, .int .i64 most] := (HB3.out.below hb7 HB3.out.lt).below hb9 (Nat.lt_of_lt_of_le HB3.out.lt hz7)
          have own := (HOV.out.kept (only_of_below hb7 none) (Classical.em _)).kept (only_of_below hb9 none) (Classical.em _)
          have bsv : Bs wp wo.heap.size A10 V.length V := (HBS.out.below (hb7.mono bC.size)).below (hb9.mono (Nat.le_trans bC.size hb7.size))
          have HOWN := hide own
          replace HBS := hide bsv
          have HB4 := hide B3
          have HBE := hide bE
          obtain ⟨vl, hvl⟩ : ∃ vl, vl = V.length := ⟨_, rfl⟩
          have HVL := hide hvl
          rw [← hvl] at hvlb ⊢
          clear own bsv B3 bE hvl HRP HRQ HOV hb7 hb9
          go_wp2_with fail
          go_loopw [21, 191] (fun _ v191 W => ∃ (j : Nat) (zs : List Int), j ≤ vl ∧ v191 = .int .i64 j ∧ zs.length = vl ∧ W.ownsRow w4.heap.size 5 1 (.slice A9 vl cp9) vl (zs.map (Value.int .u8)) ∧ Below w4.heap.size wp W) (fun _ v191 _ => vl - (intOf v191).toNat)
          case atStart => exact ⟨0, V.map (fun b => (b.toNat : Int)), by omega, rfl, by rw [List.length_map, ← HVL.out], by rw [HVL.out, bv_map]; exact HOWN.out, Below.refl _ _⟩
          case round =>
            obtain ⟨j, zs, hj, rfl, hzl, hown, hb9⟩ := hrel
            by_cases hlt : j < vl
            · obtain ⟨g, cap, hv, hg1, hg2⟩ := own_form hown (by omega)
              injection hv with hv1 hv2 hv3
              subst hv1 hv3
              have hzj : (zs.map (Value.int .u8))[j]? = some (.int .u8 zs[j]) := by simp [hzl, hlt]
              generalize zs[j]'(by omega) = z at hzj
              have c0 : wr.cell? ⟨g, j, none⟩ = some (.int .u8 z) := by rw [hown.cellAt j (by omega)]; exact hzj
              have f0 := hown.frozenAt j
              have HOW := hide hown
              have HZL := hide hzl
              clear hown hzl hzj
              go_wp2_with fail
              go_roundw
              case rel => exact ⟨j + 1, zs.set j (bits BinOp.xor IntKind.u8 z 255), by omega, by go_num, by rw [List.length_set]; exact HZL.out, by rw [List.map_set]; exact (HOW.out.stored j _).1, hb9.setCell (p := ⟨g, j, none⟩) hg1 _⟩
              case measure => simp [intOf]; omega
            · obtain rfl : j = vl := by omega
              have hnl2 : ¬ (j : Int) < j := by omega
              have bF := HBE.out.trans (hb9.mono hz4)
              have B3 := HB4.out.below hb9 hz3
              obtain ⟨f1, f2, f3⟩ := B3.facts
              have c2 := value_row s o sN A kA xs wo.heap.size c km kc kb' hx1 wr bF.size (HR.out.below bF) (HK.out.below bF) hkn HVX.out
              rw [HXL.out, HZV.out] at c2
              have bsv : Bs wr wo.heap.size A10 V.length V := HBS.out.below (hb9.mono hz4)
              have HBS2 := hide bsv
              clear bsv hown HBS
              go_wp2_with fail
              refine c2.mono ?_
              rintro e w11 ⟨v11, rfl, hownU, hb11⟩
              simp only at hownU ⊢
              obtain ⟨A11, cp11, rfl⟩ := own_slice hownU
              have bov : Bs w11 w11.heap.size A11 V.length V := Reads.of_own hownU
              have bsv := HBS2.out.below (hb11.mono bF.size)
              have BV := hide bov
              have BW := hide bsv
              have bG := belFrom bF hb11
              clear hownU bov bsv c2 f1 f2 f3 B3
              rw [← HVL.out]
              go_wp2_with fail
              refine (bytesEqual_any A11 A10 j cp11 j cp10 _ _ V V w11 (by rw [HVL.out]; exact BV.out) (by rw [HVL.out]; exact BW.out)).mono ?_
              rintro e w12 ⟨rfl, rfl⟩
              rw [show (V == V) = true from beq_self_eq_true _]
              go_wp2_with fail
              refine (wakes_any _).mono ?_
              rintro e w13 ⟨rfl, hb13⟩
              go_wp2_with fail
              go_ret
              exact ⟨rfl, belFrom (hbw.trans (bG.mono hbw.size)) hb13⟩
end Go.Proofs.Ytgeanonphjjgeaa
