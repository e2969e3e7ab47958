/-
  THE WALK of OrderWalks. Conditions: ra the theorems' premises say.
-/
import Derived.Test.YteiamfekdibkmaaOWState
import Derived.Test.YteiamfekdibkmaaOCopy
import Derived.Test.YteiamfekdibkmaaOUndoD
namespace Go.Proofs.Yteiamfekdibkmaa
open Go.RowKit Go.Shelf

theorem step_append_own {P : Program} {ops : Array Oper} {o : Oper} {a : Act} {w : World} {K : Act → World → Prop} {Q : Exit → Act → World → Prop} {E : Prop}
    (hg : o.guard = none) (d x : Operand) (t : TypeId) (hop : o.op = Op.call { callee := Callee.builtin Builtin.append, args := #[d, x], argTypes := #[t, t] })
    (base : Nat) (e : TypeId) (i : TypeInfo) (z : Value) (size bytes : Nat) (ht : P.underlying t = some (.slice e)) (hi : P.info? e = some i) (hz : i.zero = some z)
    (hsize : i.size = size) (hby : i.bytes = bytes) (hzs : z.cells.size = size) (hsz : 0 < size) (v : Value) (n : Nat) (xs : List Value) (hd : a.eval d = v) (hown : w.ownsRow base e size v n xs)
    (B : Nat) (A : Option Addr) (m c : Nat) (news : List Value) (hx : a.eval x = .slice A m c) (hr : Reads w B size A m news) (h1 : ∀ u ∈ news, u.oneCell' = true)
    (h63 : n + m ≤ maxLen) (hbytes : (n + m) * bytes ≤ 140737488355328) (hbase : base ≤ w.heap.size)
    (h : ∀ v' w', w'.ownsRow base e size v' (n + m) (xs ++ news) → w.grownBy w' v.ownBlock → (v'.ownBlock = v.ownBlock ∨ v'.ownBlock = some w.heap.size) → K (a.put o.dst v') w') :
    if Region.wanted o (yielded ops a.tmps) = true then Oper.wp P o a w K Q else E := by
  obtain ⟨v', w', hrun, k2, k3, k4⟩ := run_append_any (P := P) w base t o.type e i z size bytes ht hi hz hsize hby hzs hsz v n xs hown B A m c news hr h1 h63 hbytes hbase
  exact step_append_at hg d x t t hop _ _ hd hx hrun (h v' w' k2 k3 k4)

theorem rws_push (rs : List Rw) (r : Rw) : rws (rs ++ [r]) = rws rs ++ [keys r.hs] := by
  show (rs ++ [r]).map _ = _
  rw [List.map_append]
  rfl
/-- two rows of rows of the call's own: nothing in common -/
structure AB (w0 W : World) (va vb : Value) (ra rb : List Rw) : Prop where
  a : OwnRs W w0.heap.size va ra
  b : OwnRs W w0.heap.size vb rb
  ne : ∀ q, va.ownBlock = some q → vb.ownBlock ≠ some q
  ap : ∀ r ∈ ra, ∀ x ∈ r.hs, ∀ r' ∈ rb, ∀ y ∈ r'.hs, ∀ q, x.v.ownBlock = some q → y.v.ownBlock ≠ some q
  bel : Below w0.heap.size w0 W
theorem AB.later {w0 W W' : World} {va vb : Value} {ra rb : List Rw} (h : AB w0 W va vb ra rb) (hb : Below W.heap.size W W') : AB w0 W' va vb ra rb :=
  ⟨h.a.later hb, h.b.later hb, h.ne, h.ap, belFrom h.bel hb⟩
theorem AB.swap {w0 W : World} {va vb : Value} {ra rb : List Rw} (h : AB w0 W va vb ra rb) : AB w0 W vb va rb ra :=
  ⟨h.b, h.a, fun q hb ha => h.ne q ha hb, fun r hr x hx r' hr' y hy q hq hq' => h.ap r' hr' y hy r hr x hx q hq' hq, h.bel⟩
theorem AB.push {w0 W W1 w2 : World} {va vb va2 : Value} {ra rb : List Rw} {r : Rw} (h : AB w0 W va vb ra rb) (hr : OwnRow W1 W.heap.size r.v r.hs) (hb : Below W.heap.size W W1) (o : Obj)
    (ho : w2.ownsRow w0.heap.size 25 1 va2 (ra.length + 1) (ra.map Rw.v ++ [r.v])) (hg : (W1.alloc o).grownBy w2 va.ownBlock) (hat : va2.ownBlock = va.ownBlock ∨ va2.ownBlock = some (W1.alloc o).heap.size) : AB w0 w2 va2 vb (ra ++ [r]) rb := by
  have hbo := hb.trans ((bel1 W1 o).mono hb.size)
  have h2 := h.later hbo
  have hr2 : OwnRow (W1.alloc o) w0.heap.size r.v r.hs := (hr.mono h.bel.size).later (bel1 W1 o)
  have kp : ∀ {b s m : Nat} {e : TypeId} {v : Value} {xs : List Value}, (W1.alloc o).ownsRow b e s v m xs → e ≠ 25 → w2.ownsRow b e s v m xs := fun ho he => ho.kept hg (own_types ho h2.a.row he)
  have kr : ∀ {r : Rw}, OwnRow (W1.alloc o) w0.heap.size r.v r.hs → OwnRow w2 w0.heap.size r.v r.hs := fun hr => ⟨kp hr.row (by decide), fun x hx => kp (hr.bytes x hx) (by decide)⟩
  refine ⟨⟨?_, fun x hx => ?_⟩, ⟨?_, fun x hx => kr (h2.b.rows x hx)⟩, fun q hq hq' => ?_, fun x hx => ?_, ?_⟩
  · rw [List.length_append, List.map_append]
    exact ho
  · rcases List.mem_append.1 hx with hx | hx
    · exact kr (h2.a.rows x hx)
    · rw [List.mem_singleton.1 hx]
      exact kr hr2
  · refine h2.b.row.kept hg ?_
    cases hvb : vb.ownBlock with
    | none => exact .inl rfl
    | some q => exact .inr (fun e => h.ne q e.symm hvb)
  · rcases hat with e | e
    · exact h.ne q (e ▸ hq) hq'
    · rw [e] at hq
      cases hq
      have := (own_lt h2.b.row hq').2
      omega
  · rcases List.mem_append.1 hx with hx | hx
    · exact h.ap x hx
    · rw [List.mem_singleton.1 hx]
      intro y hy r' hr' z hz q hq hq'
      have h1 := (own_lt (hr.bytes y hy) hq).1
      have h2 := (own_lt ((h.b.rows r' hr').bytes z hz) hq').2
      omega
  · exact h2.bel.grown hg h2.bel.size (fun q hq => (own_lt h2.a.row hq).1)
theorem own_len {w : World} {base : Nat} {e : TypeId} {s n : Nat} {v : Value} {xs : List Value} (h : w.ownsRow base e s v n xs) : n ≤ 9223372036854775807 := by
  rcases h.2 with ⟨_, h0⟩ | ⟨g, cap, cur, rfl, _, _, h1, h2, _⟩
  · omega
  · unfold maxLen at h2
    omega
/-- the blocks of the keys of some rows -/
def Pa (ra : List Rw) (q : Nat) : Prop := ∃ r ∈ ra, ∃ x ∈ r.hs, x.v.ownBlock = some q
theorem pa_five {w : World} {base : Nat} {v : Value} {ra : List Rw} (h : OwnRs w base v ra) : ∀ q, Pa ra q → (∃ cs, Blk w q 5 cs) ∧ base ≤ q ∧ q < w.heap.size := fun _ ⟨r, hr, x, hx, hq⟩ => ⟨own_blk ((h.rows r hr).bytes x hx) hq, own_lt ((h.rows r hr).bytes x hx) hq⟩
/-- the keys that were handed in turn, both walks stay -/
theorem St.turn {w0 wc W W' : World} {p g : Nat} {rs : List Rw} {ib p' : Nat} {hs : List Hd} {is : List Ih} {R : List (List Key)} {K : List Key} {M c : Nat} {va vb va' vb' : Value} {ra rb : List Rw} (h : St w0 W wc.heap.size p g rs ib p' hs is R K M c) (hA : AB w0 wc va vb ra rb) (hA2 : AB w0 W va' vb' ra rb) (hm : ∀ x ∈ hs, ∃ r ∈ rb, x ∈ r.hs) (hX : Xd (Pa ra) W W') : St w0 W' wc.heap.size p g rs ib p' hs is R K M c := by
  obtain ⟨t, h1, h2⟩ := h.wk
  have h5 := fun q hq => (pa_five hA2.a q hq).1
  refine ⟨⟨t, h1.xd hX h5 (fun r hr y hy q hq hp => ?_), h2⟩, h.rf.xd hX h5 (fun y hy q hq hp => ?_), h.gi, by rw [hX.size]; exact h.sz, h.bel.trans (hX.bel (fun q hq => (pa_five hA.a q hq).2.1))⟩
  · obtain ⟨cap, hwa, _⟩ := h1.ex
    have e1 := (own_lt ((hwa.rows r hr).bytes y hy) hq).1
    have e2 := (pa_five hA.a q hp).2.2
    omega
  · obtain ⟨r, hr, hyr⟩ := hm y hy
    obtain ⟨r', hr', x, hx, hq'⟩ := hp
    exact hA.ap r' hr' x hx r hr y hyr q hq' hq
set_option maxRecDepth 100000 in
set_option maxHeartbeats 4000000 in
theorem walks_any (A A' : Option Addr) (n c m d : Nat) (s : Int) (rs : List Rw) (ss : List Hd) (w : World) (h : RowsR w w.heap.size A rs) (hn : n = rs.length) (hsm : n ≤ maxLen) (hl : ∀ r ∈ rs, r.hs.length ≤ maxLen) (hk : RowR w w.heap.size A' ss) (hm : m = ss.length) (hmm : m ≤ maxLen) (hs0 : 0 ≤ s) (hs1 : s < 256) :
    Calls Try.prog 5 #[.slice A n c, .slice A' m d, .int .u8 s] w fun e w' => e = .returned (.bool true) ∧ Below w.heap.size w w' := by
  obtain ⟨j0, hj0, hy0, hy1, hy2⟩ := info_parts row_info
  have H := hide h
  have HN := hide hn
  have HL := hide hl
  have HS := hide hk
  have HM := hide hm
  unfold maxLen at hsm hmm
  clear h hn hl hk hm
  obtain ⟨N, hN⟩ : ∃ N : Nat, 1 + s % 5 = (N : Int) := ⟨(1 + s % 5).toNat, by omega⟩
  have hN5 : 1 ≤ N ∧ N ≤ 5 := by omega
  obtain ⟨R, hR⟩ : ∃ R, R = ((rws rs).take 6).map copK := ⟨_, rfl⟩
  have HR30 : Hid (∀ r ∈ R, r.length ≤ 30) := hide (fun r hr => by
    rw [hR] at hr
    obtain ⟨x, _, rfl⟩ := List.mem_map.1 hr
    exact copK_len x)
  have HR6 : Hid (R.length ≤ 6) := hide (by rw [hR, List.length_map, List.length_take]; omega)
  have HR := hide hR
  clear hR
  go_enter Try.func5, Try.ntmps5
  go_upto_block 0 with fail
  go_cut [7, 8] (fun v7 v8 W => ∃ (ra rb : List Rw), Hid (AB w W v7 v8 ra rb) ∧ Hid (rws ra = R) ∧ Hid (rws rb = R))
  case first =>
   go_wp2_with fail
   go_loopw [7, 8, 9] (fun v7 v8 v9 W => ∃ (i : Nat) (ra rb : List Rw), i ≤ n ∧ i ≤ 6 ∧ v9 = .int .i64 i ∧ Hid (AB w W v7 v8 ra rb) ∧ Hid (rws ra = ((rws rs).take i).map copK) ∧ Hid (rws rb = ((rws rs).take i).map copK)) (fun _ _ v9 _ => n - (intOf v9).toNat)
   case atStart => exact ⟨0, [], [], by omega, by omega, rfl, hide ⟨⟨World.ownsRow_nil _ _ _ _, fun r hr => (by cases hr)⟩, ⟨World.ownsRow_nil _ _ _ _, fun r hr => (by cases hr)⟩, fun q hq => (by cases hq), fun r hr => (by cases hr), Below.refl _ _⟩, hide rfl, hide rfl⟩
   case round =>
     obtain ⟨i, ra, rb, hi, hi6, rfl, HAB, HKA, HKB⟩ := hrel
     obtain ⟨Aa, ca, rfl⟩ := slice_ofH HAB.out.a.row
     obtain ⟨Ab, cb, rfl⟩ := slice_ofH HAB.out.b.row
     have hla : ra.length = i := by
       have := congrArg List.length HKA.out
       rw [List.length_map, List.length_map, List.length_take, List.length_map, ← HN.out] at this
       omega
     have hlb : rb.length = i := by
       have := congrArg List.length HKB.out
       rw [List.length_map, List.length_map, List.length_take, List.length_map, ← HN.out] at this
       omega
     have HLA := hide hla
     have HLB := hide hlb
     rw [hla, hlb]
     by_cases hlt : i < n ∧ i < 6
     · obtain ⟨r, hr⟩ : ∃ r, rs[i]? = some r := ⟨_, List.getElem?_eq_getElem (by rw [← HN.out]; exact hlt.1)⟩
       have hrm := List.mem_of_getElem? hr
       have hkr : (rws rs)[i]? = some (keys r.hs) := by rw [List.getElem?_map, hr]; rfl
       have hRr := H.out.below HAB.out.bel
       obtain ⟨ad, rfl, hab, c1⟩ := hRr.rd.2 i r.v (by rw [List.getElem?_map, hr]; rfl)
       have hgood := hRr.good r hrm
       have hrl := HL.out r hrm
       have hiI : (i : Int) < (n : Int) := by omega
       have hi6I : (i : Int) < 6 := by omega
       obtain ⟨rA, rc, rhs⟩ := r
       have c1' : wr.cell? (ad.add i) = some (.slice rA rhs.length rc) := c1
       simp only at hrl hkr hgood
       obtain ⟨rl, hrl2⟩ : ∃ rl, rl = rhs.length := ⟨_, rfl⟩
       rw [← hrl2] at c1' hrl
       have hsz := HAB.out.bel.size
       have C1 : Hid (∀ W, Below w.heap.size w W → Calls Try.prog 20 #[.slice rA rl rc] W fun e w' => ∃ v, e = .returned v ∧ ∃ hs', OwnRow w' W.heap.size v hs' ∧ keys hs' = copK (keys rhs) ∧ Below W.heap.size W w') := hide (fun W hW => copied_any rA rl rc w.heap.size rhs W ((H.out.below hW).good _ hrm) hrl2 hW.size hrl)
       have HCE : Hid (∀ W, Below w.heap.size w W → W.cell? (ad.add i) = some (.slice rA rl rc)) := hide (fun W hW => by
         obtain ⟨ad', e, _, h⟩ := (H.out.below hW).rd.2 i (Rw.v ⟨rA, rc, rhs⟩) (by rw [List.getElem?_map, hr]; rfl)
         cases e
         rw [hrl2]
         exact h)
       have HKR := hide hkr
       have B0 : Below wr.heap.size wr wr.drew := ⟨rfl, rfl, rfl, Nat.le_refl _, fun _ _ => rfl⟩
       have HD := hide (HAB.out.later B0)
       rw [hla, hlb] at HD
       have HDA := hide HD.out.a.row
       have HDB := hide HD.out.b.row
       rw [hla] at HDA
       rw [hlb] at HDB
       clear hr hrm hkr hRr c1 hgood hrl2 hla hlb B0 hab
       go_upto_block 1 with fail
       go_cut [7, 8] (fun v7 v8 W => ∃ (ra' rb' : List Rw), Hid (AB w W v7 v8 ra' rb') ∧ Hid (rws ra' = ((rws rs).take (i + 1)).map copK) ∧ Hid (rws rb' = ((rws rs).take (i + 1)).map copK))
       case first =>
         go_upto_region 5 with fail
         go_region_held3 (fun W => W.cell? (ad.add i) = some (.slice rA rl rc)) (first | exact HCE.out _ HD.out.bel | exact HCE.out _ HB1.out | exact HCE.out _ (balloc HB1.out _) | exact HCE.out _ HD2.out.bel | exact HCE.out _ HB3.out | exact HCE.out _ (balloc HB3.out _) | exact HCE.out _ HD5.out.bel | fail) (first
           | (go_at_call 20; refine (C1.out wr.drew (by exact HD.out.bel)).mono ?_; rintro e w1 ⟨v1, rfl, h1, ho1, hk1, hb1⟩; obtain ⟨A1, c1, rfl, _⟩ := ho1.slice_; have HB1 := hide (belFrom HD.out.bel hb1); have HO1 := hide (own_bel HDA.out hb1); have HHO1 := hide ho1; have HHB1 := hide hb1; have HHK1 := hide hk1)
           | (refine step_append_own rfl (.tmp 37) (.tmp 43) 22 rfl w.heap.size 25 j0 _ 1 24 el22 hj0 hy0 hy1 hy2 rfl (by omega) (.slice Aa i ca) i (ra.map Rw.v) (by simp [Act.eval]) (HO1.out.alloc _) (w1.heap.size + 1) (some ⟨w1.heap.size, 0, none⟩) 1 1 [.slice A1 h1.length c1] (by simp [Act.eval]) (Reads.ofBlk (Blk.new w1 25 _) rfl) (fun u hu => by rw [List.mem_singleton.1 hu]; rfl) (by unfold maxLen; omega) (by omega) (by have := HB1.out.size; simp; omega) ?_; intro v2 w2 ho2 hg2 hat2; obtain ⟨A2, c2, rfl⟩ := slice_ofH ho2; have HD2 := hide (HD.out.push (r := ⟨A1, c1, h1⟩) HHO1.out HHB1.out _ (by rw [HLA.out]; exact ho2) hg2 hat2))
           | (go_at_call 20; refine (C1.out w2 (by exact HD2.out.bel)).mono ?_; rintro e w3 ⟨v3, rfl, h3, ho3, hk3, hb3⟩; obtain ⟨A3, c3, rfl, _⟩ := ho3.slice_; have HB3 := hide (belFrom HD2.out.bel hb3); have HO3 := hide (own_bel HD2.out.b.row hb3); rw [HLB.out] at HO3; have HHO3 := hide ho3; have HHB3 := hide hb3; have HHK3 := hide hk3)
           | (refine step_append_own rfl (.tmp 45) (.tmp 51) 22 rfl w.heap.size 25 j0 _ 1 24 el22 hj0 hy0 hy1 hy2 rfl (by omega) (.slice Ab i cb) i (rb.map Rw.v) (by simp [Act.eval]) (HO3.out.alloc _) (w3.heap.size + 1) (some ⟨w3.heap.size, 0, none⟩) 1 1 [.slice A3 h3.length c3] (by simp [Act.eval]) (Reads.ofBlk (Blk.new w3 25 _) rfl) (fun u hu => by rw [List.mem_singleton.1 hu]; rfl) (by unfold maxLen; omega) (by omega) (by have := HB3.out.size; simp; omega) ?_; intro v5 w5 ho5 hg5 hat5; obtain ⟨A5, c5, rfl⟩ := slice_ofH ho5; have HD5 := hide (HD2.out.swap.push (r := ⟨A3, c3, h3⟩) HHO3.out HHB3.out _ (by rw [HLB.out]; exact ho5) hg5 hat5).swap)
           | fail)
         all_goals (
           have hka : rws (ra ++ [(⟨A1, c1, h1⟩ : Rw)]) = ((rws rs).take (i + 1)).map copK := by
             rw [rws_push, show keys h1 = copK (keys rhs) from HHK1.out, HKA.out, List.take_add_one, HKR.out, List.map_append]
             rfl
           have hkb : rws (rb ++ [(⟨A3, c3, h3⟩ : Rw)]) = ((rws rs).take (i + 1)).map copK := by
             rw [rws_push, show keys h3 = copK (keys rhs) from HHK3.out, HKB.out, List.take_add_one, HKR.out, List.map_append]
             rfl
           have HKA2 := hide hka
           have HKB2 := hide hkb
           clear hka hkb
           go_wp2_with fail
           go_meet
           exact ⟨_, _, HD5, HKA2, HKB2⟩)
       obtain ⟨ra2, rb2, HD2, HKA2, HKB2⟩ := hcut
       clear c1'
       go_wp2_with fail
       go_roundw
       case rel => exact ⟨i + 1, ra2, rb2, by omega, by omega, by go_num, HD2, HKA2, HKB2⟩
       case measure => simp [intOf]; omega
     · have hfin : (rws rs).take i = (rws rs).take 6 := by
         by_cases h30 : i = 6
         · rw [h30]
         · rw [List.take_of_length_le (by rw [List.length_map, ← HN.out]; omega), List.take_of_length_le (by rw [List.length_map, ← HN.out]; omega)]
       have HKA2 : Hid (rws ra = R) := hide (by rw [HKA.out, hfin, HR.out])
       have HKB2 : Hid (rws rb = R) := hide (by rw [HKB.out, hfin, HR.out])
       have HAB2 : Hid (AB w wr (.slice Aa i ca) (.slice Ab i cb) ra rb) := hide (by
         have h := HAB.out
         rw [hla, hlb] at h
         exact h)
       clear hfin hla hlb HKA HKB
       by_cases hin : i < n
       · have hiI : (i : Int) < (n : Int) := by omega
         have hi6I : ¬ (i : Int) < 6 := by omega
         clear hlt
         go_wp2_with fail
         go_meet
         exact ⟨ra, rb, HAB2, HKA2, HKB2⟩
       · have hiI : ¬ (i : Int) < (n : Int) := by omega
         clear hlt
         go_wp2_with fail
         go_meet
         exact ⟨ra, rb, HAB2, HKA2, HKB2⟩
  obtain ⟨ra, rb, HAB, HKA, HKB⟩ := hcut
  obtain ⟨wq, hwq⟩ : ∃ W, W = wc := ⟨_, rfl⟩
  subst hwq
  obtain ⟨Aa, ca, rfl⟩ := slice_ofH HAB.out.a.row
  obtain ⟨Ab, cb, rfl⟩ := slice_ofH HAB.out.b.row
  have hla : ra.length = R.length := by have := congrArg List.length HKA.out; rwa [List.length_map] at this
  have hlb : rb.length = R.length := by have := congrArg List.length HKB.out; rwa [List.length_map] at this
  obtain ⟨q, hq⟩ : ∃ q, q = R.length := ⟨_, rfl⟩
  rw [← hq] at hla hlb
  have hra : ∀ r ∈ ra, r.hs.length ≤ 30 := fun r hr => by
    have h1 : keys r.hs ∈ rws ra := List.mem_map_of_mem hr
    rw [HKA.out] at h1
    have := HR30.out _ h1
    rw [List.length_map] at this
    exact this
  have hrb : ∀ r ∈ rb, r.hs.length ≤ 30 := fun r hr => by
    have h1 : keys r.hs ∈ rws rb := List.mem_map_of_mem hr
    rw [HKB.out] at h1
    have := HR30.out _ h1
    rw [List.length_map] at this
    exact this
  have hrs : RowsR wq wq.heap.size Aa ra := ⟨by have h1 := HAB.out.a.row; exact Reads.of_own h1, fun r hr => by
    have h1 := HAB.out.a.rows r hr
    exact own_rd h1⟩
  have hq6 : q ≤ 6 := by rw [hq]; exact HR6.out
  have C1 := of_any Aa q ca wq.heap.size ra wq hrs (Nat.le_refl _) hla.symm (by omega) (fun r hr => by have := hra r hr; omega)
  have C1H := hide C1
  have HRB := hide hrb
  have HRA := hide hra
  have HLA := hide hla
  have HLB := hide hlb
  have HQ := hide hq
  rw [hla, hlb]
  clear C1 hrb hra hrs hla hlb hq
  go_wp2_with fail
  refine C1H.out.mono ?_
  rintro e w1 hof
  unfold ofP at hof
  rw [HKA.out] at hof
  have hob : ∀ w1 : World, Below wq.heap.size wq w1 → OwnRs w1 w.heap.size (.slice Ab q cb) rb := fun w1 hb => by
    have h := (HAB.out.later hb).b
    rw [HLB.out] at h
    exact h
  have HOB := hide hob
  clear hob C1H
  rcases hof with ⟨hok, rfl, hb1⟩ | ⟨hok, p, g, rs', rfl, hrr, hwk, hb1⟩
  · have C2 := rof_any Ab q cb w.heap.size rb w1 (HOB.out w1 hb1) HLB.out.symm (by omega) (Nat.le_trans HAB.out.bel.size hb1.size) HRB.out
    have C2H := hide C2
    have HB1 := hide (belFrom HAB.out.bel hb1)
    have HOK := hide hok
    clear C2 hok hb1
    go_wp2_with fail
    refine C2H.out.mono ?_
    rintro e w2 hof
    unfold rofP at hof
    rw [HKB.out, HOK.out] at hof
    rcases hof with ⟨_, rfl, hb2⟩ | ⟨h, _⟩
    · have HB2 := hide (belFrom HB1.out hb2)
      have C3 := knows_any w2
      clear hb2 C2H
      go_wp2_with fail
      refine C3.mono ?_
      rintro e w3 ⟨rfl, hb3⟩
      have HB3 := hide (belFrom HB2.out hb3)
      clear hb3 C3
      go_wp2_with fail
      go_ret
      exact ⟨rfl, HB3.out⟩
    · cases h
  · have C2 := rof_any Ab q cb w.heap.size rb w1 (HOB.out w1 hb1) HLB.out.symm (by omega) (Nat.le_trans HAB.out.bel.size hb1.size) HRB.out
    have C2H := hide C2
    have HB1 := hide hb1
    have HOK := hide hok
    have HRR := hide hrr
    have HWK := hide hwk
    clear C2 hok hb1 hrr hwk
    go_wp2_with fail
    refine C2H.out.mono ?_
    rintro e w2 hof
    unfold rofP at hof
    rw [HKB.out, HOK.out] at hof
    rcases hof with ⟨h, _⟩ | ⟨_, p', hs', is', rfl, hp', hrf, hks, hin, hmem, hb2⟩
    · cases h
    · have hrows : ∀ r ∈ R, RowOk r := fun r hr => mayR_iff.1 (List.all_eq_true.1 HOK.out r hr)
      have hun := allK_un hrows
      obtain ⟨K, hK⟩ : ∃ K, K = allK R.flatten := ⟨_, rfl⟩
      rw [← hK] at hun hks
      have HUN := hide hun
      have HROWS := hide hrows
      have hC : Cn rs' hs' is' R K w2.heap.size := ⟨HRR.out, hun, hks, by rw [hin, hks, HLB.out, HQ.out], by rw [← hks, List.length_map]; exact hrf.few,
        fun r hr y hy x hx => by
          obtain ⟨cap, hwa, _⟩ := HWK.out.ex
          have := (own_lt ((hwa.rows r hr).bytes y hy) hx).2
          have := hb2.size
          omega, fun y hy x hx => by
          obtain ⟨_, _, _, _, _, h2, _⟩ := hrf.ex
          exact (own_lt (h2.bytes y hy) hx).2⟩
      have HC := hide hC
      have hrep : ra.length = R.length := by rw [HLA.out, HQ.out]
      have hst : St w w2 wq.heap.size p g rs' w1.heap.size p' hs' is' R K w2.heap.size 0 := ⟨⟨_, HWK.out.below hb2, by rw [hrep]; exact Pos.start hun⟩, hrf, HWK.out.glt.2.1, Nat.le_refl _, belFrom (belFrom HAB.out.bel HB1.out) hb2⟩
      have HST := hide hst
      have HAB2 := hide ((HAB.out.later HB1.out).later hb2)
      have HMEM := hide hmem
      have hbz : w.heap.size ≤ wq.heap.size := HAB.out.bel.size
      clear hrows hun hK hC hst hrf hks hin hmem hb2 hrep C2H
      have H5 : Hid (∀ q, Pa ra q → ∃ cs, Blk w2 q 5 cs) := hide (fun q hq => (pa_five HAB2.out.a q hq).1)
      go_wp2_with fail
      go_loopw [14] (fun v14 W => ∃ i : Nat, i ≤ q ∧ v14 = .int .i64 i ∧ Hid (Xd (Pa ra) w2 W)) (fun v14 _ => q - (intOf v14).toNat)
      case atStart => exact ⟨0, by omega, rfl, hide (Xd.refl _ _)⟩
      case round =>
        obtain ⟨i, hi, rfl, HX⟩ := hrel
        by_cases hlt : i < q
        · obtain ⟨r, hr⟩ : ∃ r, ra[i]? = some r := ⟨_, List.getElem?_eq_getElem (by rw [HLA.out]; exact hlt)⟩
          have hrm := List.mem_of_getElem? hr
          have hkr : R[i]? = some (keys r.hs) := by rw [← HKA.out, List.getElem?_map, hr]; rfl
          have hok := HROWS.out _ (List.mem_of_getElem? hkr)
          have hrl := HRA.out r hrm
          have hce : ∀ W, Xd (Pa ra) w2 W → ∃ a, Aa = some a ∧ W.cell? (a.add i) = some (.slice r.A r.hs.length r.c) := fun W hX => by
            have h1 := hX.own_ H5.out HAB2.out.a.row (by decide)
            obtain ⟨a, e, _, h⟩ := (Reads.of_own h1).2 i r.v (by rw [List.getElem?_map, hr]; rfl)
            exact ⟨a, e, h⟩
          obtain ⟨a, rfl, c1⟩ := hce _ HX.out
          have HCE : Hid (∀ W, Xd (Pa ra) w2 W → W.cell? (a.add i) = some (.slice r.A r.hs.length r.c)) := hide (fun W hX => by
            obtain ⟨a', e, h⟩ := hce W hX
            cases e
            exact h)
          have HOR := hide (HAB2.out.a.rows r hrm)
          have HRM := hide hrm
          have HOK2 := hide hok
          have hiI : (i : Int) < (q : Int) := by omega
          obtain ⟨rA, rc, rhs⟩ := r
          simp only at hrl HCE
          obtain ⟨rl, hrl2⟩ : ∃ rl, rl = rhs.length := ⟨_, rfl⟩
          rw [← hrl2] at hrl HCE
          have HRL := hide hrl2
          clear hr hrm hkr hok hce c1 hrl2
          go_wp2_with fail
          go_loopw [15] (fun v15 W => ∃ k : Nat, k ≤ rl ∧ v15 = .int .i64 k ∧ Hid (Xd (Pa ra) w2 W)) (fun v15 _ => rl - (intOf v15).toNat)
          case atStart => exact ⟨0, by omega, rfl, HX⟩
          case round =>
            obtain ⟨k, hk, rfl, HX2⟩ := hrel
            have c1 := HCE.out _ HX2.out
            by_cases hkl : k < rl
            · obtain ⟨x, hx⟩ : ∃ x, rhs[k]? = some x := ⟨_, List.getElem?_eq_getElem (by rw [← HRL.out]; exact hkl)⟩
              have hxm := List.mem_of_getElem? hx
              have h1 := HX2.out.own_ H5.out HOR.out.row (by decide)
              obtain ⟨a3, hA3, _, c2⟩ := (Reads.of_own h1).2 k x.v (by rw [List.getElem?_map, hx]; rfl)
              have hA3' : rA = some a3 := hA3
              subst hA3'
              have hxl : 1 ≤ x.l.length := (mayK_iff.1 (HOK2.out.1 x.l (List.mem_map_of_mem hxm))).1
              obtain ⟨gx, b, cs, hxA, hpg, hbk, hbv⟩ := HX2.out.byte (HOR.out.bytes x hxm) (fun q hq => ⟨_, HRM.out, x, hxm, hq⟩) (j := 0) (by omega)
              obtain ⟨xA, xc, xl⟩ := x
              simp only at hxA hxl
              subst hxA
              obtain ⟨xn, hxn⟩ : ∃ xn, xn = xl.length := ⟨_, rfl⟩
              have c2' : wr.cell? (a3.add k) = some (.slice (some ⟨gx, 0, none⟩) xn xc) := by rw [hxn]; exact c2
              have c3 := (hbk.cell 0).trans hbv
              have c4 := hbk.frozen 0
              have c5 := hbk.lt
              have hkI : (k : Int) < (rl : Int) := by omega
              have hx0 : (0 : Int) < (xn : Int) := by omega
              have hx0' : 0 < xn := by omega
              have HSET := hide (fun b' : Int => HX2.out.set (b := b') hpg hbk hbv)
              clear hx hxm h1 c2 hxl hpg hbk hbv hA3 hxn
              go_wp2_with fail
              go_roundw
              case rel => exact ⟨k + 1, by omega, by go_num, hide (HSET.out _)⟩
              case measure => simp [intOf]; omega
            · have hkI : ¬ (k : Int) < (rl : Int) := by omega
              go_wp2_with fail
              go_roundw
              case rel => exact ⟨i + 1, by omega, by go_num, HX2⟩
              case measure => simp [intOf]; omega
        · obtain rfl : i = q := by omega
          have hiI : ¬ (i : Int) < (i : Int) := by omega
          have hst2 := HST.out.turn HAB.out HAB2.out HMEM.out HX.out
          have HST2 := hide hst2
          have HMW : Hid (w2.heap.size ≤ wr.heap.size) := hide (Nat.le_of_eq HX.out.size.symm)
          clear hst2 HST HX
          go_wp2_with fail
          have HSS : Hid (∀ W, Below w.heap.size w W → RowR W w.heap.size A' ss) := hide (fun W hb => HS.out.below hb)
          have HP0 := hide hp'
          clear hlt hi hiI H5 HMEM HAB2 HUN HROWS HWK HRA HRB HLA HLB HOB HAB HKA HKB HB1 HOK HR hp'
          go_loopw [16] (fun v16 W => ∃ (k c : Nat), k ≤ 21 ∧ k ≤ m + 1 ∧ v16 = .int .i64 k ∧ Hid (St w W wq.heap.size p g rs' w1.heap.size p' hs' is' R K w2.heap.size c)) (fun v16 _ => 21 - (intOf v16).toNat)
          case atStart => exact ⟨0, 0, by omega, by omega, rfl, HST2⟩
          case round =>
            obtain ⟨k, c, hk21, hkm, rfl, HST⟩ := hrel
            clear HST2
            by_cases hlt : k ≤ m ∧ k ≤ 20
            · have hkI : (k : Int) ≤ (m : Int) := by omega
              have hk20 : (k : Int) ≤ 20 := by omega
              go_wp2_with fail
              go_loopw [17] (fun v17 W => ∃ (j c : Nat), j ≤ N ∧ v17 = .int .i64 j ∧ Hid (St w W wq.heap.size p g rs' w1.heap.size p' hs' is' R K w2.heap.size c)) (fun v17 _ => N - (intOf v17).toNat)
              case atStart => exact ⟨0, c, by omega, rfl, HST⟩
              case round =>
                obtain ⟨j, c, hj5, rfl, HST3⟩ := hrel
                clear HST
                by_cases hjN : j < N
                · have hjI : (j : Int) < (N : Int) := by omega
                  obtain ⟨t, hwk, hpos⟩ := HST3.out.wk
                  have C1 := nextS (K := K) (c := c) hwk (by rw [HC.out.rr]; exact HC.out.un) (by rw [HC.out.rr]; exact hpos)
                  rw [HC.out.rr] at C1
                  have hcle := nc_le hpos.le
                  obtain ⟨cap, _, hats⟩ := hwk.ex
                  have HATS := hide hats
                  have hglt := hwk.glt
                  have hwsz := HST3.out.bel.size
                  have HRN : Hid (∀ W, RefAt W w.heap.size w1.heap.size p' hs' is' c → Calls Try.prog 22 #[.pointer (some ⟨p', 0, none⟩)] W fun e w' => ∃ yA yc oA oc, e = .returned (.tuple #[.slice yA (kc K c).length yc, .slice oA (ic R K c).length oc, .bool (bc K c)]) ∧ Bs w' w'.heap.size yA (kc K c).length (kc K c) ∧ Reads w' w'.heap.size 1 oA (ic R K c).length ((ic R K c).map iv) ∧ RefAt w' w.heap.size w1.heap.size p' hs' is' (nc K c) ∧ W.grownBy w' (some p')) := hide (fun W h => rnextS h HC.out.kk HC.out.ii)
                  obtain ⟨key, hkey⟩ : ∃ key, key = kc K c := ⟨_, rfl⟩
                  obtain ⟨ks, hks⟩ : ∃ ks, ks = ic R K c := ⟨_, rfl⟩
                  obtain ⟨bb, hbb⟩ : ∃ bb, bb = bc K c := ⟨_, rfl⟩
                  obtain ⟨c2, hc2⟩ : ∃ c2, c2 = nc K c := ⟨_, rfl⟩
                  rw [← hkey, ← hks, ← hbb, ← hc2] at C1 HRN
                  rw [← hc2] at hcle
                  have C1H := hide C1
                  clear C1 hkey hks hbb hc2 hwk hpos hats
                  go_wp2_with fail
                  refine C1H.out.mono ?_
                  rintro e w3 ⟨xA, xc, iA, ic', t', rfl, hox, hoi, hwk3, hpos3, hg3⟩
                  have hrf3 := HST3.out.rf.beside HATS.out HST3.out.gi hg3
                  have hbel3 : Below w.heap.size w w3 := HST3.out.bel.grown hg3 HST3.out.bel.size (fun q hq => by cases hq; omega)
                  have HRF3 := hide hrf3
                  have HBEL3 := hide hbel3
                  have HOX := hide hox
                  have HOI := hide hoi
                  have HWK3 := hide hwk3
                  have HPOS3 := hide hpos3
                  have HSZ3 : Hid (wr.heap.size ≤ w3.heap.size) := hide hg3.size
                  clear hrf3 hbel3 hox hoi hwk3 hpos3 hg3 C1H HATS
                  go_wp2_with fail
                  refine (HRN.out _ HRF3.out).mono ?_
                  rintro e w4 ⟨yA, yc, oA, oc, rfl, hby, hro, hrf4, hg4⟩
                  obtain ⟨cs3, hblk3⟩ := HRF3.out.blk_
                  have hp3 := HRF3.out.lt
                  have hwk4 := HWK3.out.aside hblk3 hg4
                  have kp : ∀ {b s m : Nat} {e : TypeId} {v : Value} {xs : List Value}, w3.ownsRow b e s v m xs → 52 ≠ e → w4.ownsRow b e s v m xs := fun ho he => ho.kept hg4 (.inr (fun e => hblk3.mk_.ne_own ho he e.symm))
                  have HOX4 := hide (kp HOX.out (by decide))
                  have HOI4 := hide (kp HOI.out (by decide))
                  have hst4 : St w w4 wq.heap.size p g rs' w1.heap.size p' hs' is' R K w2.heap.size c2 := ⟨⟨t', hwk4, HPOS3.out⟩, hrf4, HST3.out.gi, Nat.le_trans HST3.out.sz (Nat.le_trans HSZ3.out hg4.size), HBEL3.out.grown hg4 HBEL3.out.size (fun q hq => by cases hq; have := HP0.out; have := HST3.out.gi; omega)⟩
                  have HST4 := hide hst4
                  have HSZ4 : Hid (wr.heap.size ≤ w4.heap.size) := hide (Nat.le_trans HSZ3.out hg4.size)
                  have HRO := hide hro
                  have HBY := hide hby
                  clear hblk3 hp3 hwk4 kp hst4 hro hby hrf4 hg4 HRN HRF3 HBEL3 HWK3 HPOS3 HSZ3 HOX HOI cs3
                  have hqk : hs'.length = K.length := by rw [← HC.out.kk, List.length_map]
                  obtain ⟨qk, hqk2⟩ : ∃ qk, qk = K.length := ⟨_, rfl⟩
                  have hqk6 : qk ≤ 100000 := by rw [hqk2]; exact HC.out.kl
                  obtain ⟨d2, hd2⟩ : ∃ d2, d2 = qk - c2 := ⟨_, rfl⟩
                  obtain ⟨kA, kcc, iA4, ic4, hb52, _, _, _⟩ := HST4.out.rf.ex
                  rw [hqk, ← hqk2] at hb52
                  have HKW : Hid (∀ W, Below w4.heap.size w4 W → W.cell? ⟨p', 0, none⟩ = some (.slice kA qk kcc) ∧ W.cell? ⟨p', 2, none⟩ = some (.int .i64 (c2 : Int)) ∧ (convert 23 9 (.slice xA key.length xc)).run Try.prog W = .ok (.string (strOf key)) W ∧ (convert 23 9 (.slice yA key.length yc)).run Try.prog W = .ok (.string (strOf key)) W) := hide (fun W hW => by
                    have h := hb52.below hW hb52.lt
                    exact ⟨h.cell 0, h.cell 2, conv_bytes (P := Try.prog) (Reads.of_own (own_bel HOX4.out hW) : Bs W _ xA key.length key) xc 23 5 9 Try.underlying23 Try.underlying5 Try.underlying9, conv_bytes (P := Try.prog) (Reads.below HBY.out hW : Bs W _ yA key.length key) yc 23 5 9 Try.underlying23 Try.underlying5 Try.underlying9⟩)
                  have CL : Hid (∀ W, Below w4.heap.size w4 W → Calls Try.prog 10 #[.pointer (some ⟨p, 0, none⟩)] W fun e w' => e = .returned (.int .i64 (d2 : Int)) ∧ Below W.heap.size W w') := hide (fun W hW => by
                    obtain ⟨t5, h1, h2⟩ := (HST4.out.later hW).wk
                    have h3 := left_any (K := K) (c := c2) h1 (by rw [HC.out.rr]; exact HC.out.un) (by rw [HC.out.rr]; exact h2) (by have := HC.out.kl; omega)
                    rw [hd2, hqk2]
                    exact h3)
                  have hsub : (qk : Int) - (c2 : Int) = (d2 : Int) := by omega
                  have hwd : IntKind.i64.wrap (d2 : Int) = (d2 : Int) := IntWalk.i64_in _ ⟨by omega, by omega⟩
                  have hpl := hb52.lt
                  clear hqk hqk2 hd2 hb52
                  have HMX : Hid (∀ q, (Value.slice xA key.length xc).ownBlock = some q → w2.heap.size ≤ q ∧ w.heap.size ≤ q) := hide (fun q hq => by
                    have h1 := (own_lt HOX4.out hq).1
                    have h2 := HST3.out.sz
                    have h3 := HST3.out.bel.size
                    omega)
                  go_upto_region 27 with fail
                  go_cut [163] (fun v163 W => v163 = .bool false ∧ Hid (Below w4.heap.size w4 W))
                  case first =>
                    go_region_held3 (fun W => W.cell? ⟨p', 0, none⟩ = some (.slice kA qk kcc) ∧ W.cell? ⟨p', 2, none⟩ = some (.int .i64 (c2 : Int)) ∧ (convert 23 9 (.slice xA key.length xc)).run Try.prog W = .ok (.string (strOf key)) W ∧ (convert 23 9 (.slice yA key.length yc)).run Try.prog W = .ok (.string (strOf key)) W) (first | exact HKW.out _ ⟨rfl, rfl, rfl, Nat.le_refl _, fun _ _ => rfl⟩ | exact HKW.out _ hb5' | fail) (first | (go_at_call 10; refine (CL.out _ (by exact ⟨rfl, rfl, rfl, Nat.le_refl _, fun _ _ => rfl⟩)).mono ?_; rintro e w5 ⟨rfl, hb5⟩; have hb5' : Below w4.heap.size w4 w5 := ⟨hb5.os, hb5.tape, hb5.output, hb5.size, hb5.block⟩) | fail)
                    all_goals (go_wp2_with fail; go_meet; exact ⟨rfl, hb5'⟩)
                  obtain ⟨rfl, HB5⟩ := hcut
                  have HST5 := hide (HST4.out.later HB5.out)
                  have HOX5 := hide (own_bel HOX4.out HB5.out)
                  have HOI5 := hide (own_bel HOI4.out HB5.out)
                  have HRO5 := hide (HRO.out.below HB5.out)
                  obtain ⟨kin, hkin⟩ : ∃ kin, kin = ks.length := ⟨_, rfl⟩
                  have HKIN := hide hkin
                  rw [← hkin]
                  have hkin63 : kin ≤ 9223372036854775807 := by rw [hkin]; exact own_len HOI5.out
                  clear HST4 HOX4 HOI4 HRO HB5 HST3 HKW CL HBY hsub hwd hpl hkin HSZ4
                  go_wp2_with fail
                  go_loopw [24] (fun v24 W => ∃ z : Nat, z ≤ kin ∧ v24 = .int .i64 z ∧ Hid (∀ B, Below B wc W)) (fun v24 _ => kin - (intOf v24).toNat)
                  case atStart => exact ⟨0, by omega, rfl, hide (fun B => Below.refl _ _)⟩
                  case round =>
                    obtain ⟨z, hz, rfl, HZ⟩ := hrel
                    by_cases hzl : z < kin
                    · obtain ⟨x, hx⟩ : ∃ x, ks[z]? = some x := ⟨_, List.getElem?_eq_getElem (by rw [← HKIN.out]; exact hzl)⟩
                      obtain ⟨ad1, rfl, _, e1⟩ := (Reads.of_own (own_bel HOI5.out (HZ.out _))).2 z (iv x) (by rw [List.getElem?_map, hx]; rfl)
                      obtain ⟨ad2, rfl, _, e2⟩ := (HRO5.out.below (HZ.out _)).2 z (iv x) (by rw [List.getElem?_map, hx]; rfl)
                      have e1' : wr.cell? (ad1.add z) = some (.int .i64 (x : Int)) := e1
                      have e2' : wr.cell? (ad2.add z) = some (.int .i64 (x : Int)) := e2
                      have hzI : (z : Int) < (kin : Int) := by omega
                      clear e1 e2 hx
                      go_upto_region 32 with fail
                      go_quiet (fail)
                      go_wp2_with fail
                      go_roundw
                      case rel => exact ⟨z + 1, by omega, by go_num, hide (fun B => (HZ.out B).trans (anyB _ _ _))⟩
                      case measure => simp [intOf]; omega
                    · have hzI : ¬ (z : Int) < (kin : Int) := by omega
                      obtain ⟨W6, hW6⟩ : ∃ W, W = wr := ⟨_, rfl⟩
                      subst hW6
                      have HST6 := hide (HST5.out.later (HZ.out _))
                      have HOX6 := hide (own_bel HOX5.out (HZ.out _))
                      obtain ⟨kn, hkn⟩ : ∃ kn, kn = key.length := ⟨_, rfl⟩
                      have HKN := hide hkn
                      rw [← hkn]
                      have hkn63 : kn ≤ 9223372036854775807 := by rw [hkn]; exact own_len HOX6.out
                      clear HST5 HOX5 HOI5 HRO5 HZ hkn hzl hz
                      go_wp2_with fail
                      go_loopw [25] (fun v25 W => ∃ z : Nat, z ≤ kn ∧ v25 = .int .i64 z ∧ Hid (Xd (fun q => (Value.slice xA key.length xc).ownBlock = some q) W6 W)) (fun v25 _ => kn - (intOf v25).toNat)
                      case atStart => exact ⟨0, by omega, rfl, hide (Xd.refl _ _)⟩
                      case round =>
                        obtain ⟨z2, hz2, rfl, HX⟩ := hrel
                        by_cases hzl2 : z2 < kn
                        · obtain ⟨gx, b, cs, hxA, hpg, hbk, hbv⟩ := HX.out.byte (x := ⟨xA, xc, key⟩) HOX6.out (fun q hq => hq) (j := z2) (by show z2 < key.length; rw [← HKN.out]; exact hzl2)
                          have c3 := (hbk.cell z2).trans hbv
                          have c4 := hbk.frozen z2
                          have c5 := hbk.lt
                          have HSET := hide (fun b' : Int => HX.out.set (b := b') hpg hbk hbv)
                          have hxA' : xA = some ⟨gx, 0, none⟩ := hxA
                          have hzI2 : (z2 : Int) < (kn : Int) := by omega
                          clear hpg hbk hbv hxA
                          subst hxA'
                          go_wp2_with fail
                          go_roundw
                          case rel => exact ⟨z2 + 1, by omega, by go_num, hide (HSET.out _)⟩
                          case measure => simp [intOf]; omega
                        · have hzI2 : ¬ (z2 : Int) < (kn : Int) := by omega
                          have hst7 := HST6.out.xd HC.out HX.out (fun q hq => own_blk HOX6.out hq) HMX.out
                          have HST7 := hide hst7
                          clear hst7 HST6 HX HOX6
                          go_wp2_with fail
                          go_roundw
                          case rel => exact ⟨j + 1, c2, by omega, by go_num, HST7⟩
                          case measure => simp [intOf]; omega
                · have hjI : ¬ (j : Int) < (N : Int) := by omega
                  by_cases hks : k < m ∧ k < 20
                  · obtain ⟨x, hx⟩ : ∃ x, ss[k]? = some x := ⟨_, List.getElem?_eq_getElem (by rw [← HM.out]; exact hks.1)⟩
                    have hrr := HSS.out wr HST3.out.bel
                    obtain ⟨ad, rfl, hab, c1⟩ := hrr.at_ hx
                    have hgx := hrr.good x (List.mem_of_getElem? hx)
                    have hkI2 : (k : Int) < (m : Int) := by omega
                    have hk202 : (k : Int) < 20 := by omega
                    obtain ⟨xA, xc, xl⟩ := x
                    simp only at c1
                    obtain ⟨xn, hxn⟩ : ∃ xn, xn = xl.length := ⟨_, rfl⟩
                    obtain ⟨mk, hmk⟩ : ∃ mk : Nat, min (xn : Int) 70 = (mk : Int) := ⟨min xn 70, by omega⟩
                    have hmk2 : mk ≤ xn := by omega
                    obtain ⟨key, hkey⟩ : ∃ key, key = xl.take mk := ⟨_, rfl⟩
                    have hb1 : Bs wr w.heap.size xA mk key := by
                      rw [hkey]
                      exact bs_take hgx.1 (m := mk) (by show mk ≤ xl.length; omega)
                    have hsl := sl23_to xA xn xc mk (by have := hgx.2.1; simp only at this; omega)
                    rw [← hxn] at c1
                    have HB1' := hide hb1
                    have hx63 : xn ≤ 9223372036854775807 := by have h1 := hgx.2.1; have h2 := hgx.2.2; unfold maxLen at h2; simp only at h1 h2; omega
                    clear hx hrr hgx hb1 hxn hkey hks
                    go_upto_region 39 with fail
                    go_quiet (fail)
                    have HST4 := hide (HST3.out.later (anyB wr nq _))
                    have HB2 : Hid (Bs (wr.drewN nq) w.heap.size xA mk key) := HB1'
                    clear c1 HST3 HB1'
                    generalize wr.drewN nq = W4 at HST4 HB2 ⊢
                    obtain ⟨t, hwk, hpos⟩ := HST4.out.wk
                    have C1 := seek_any hwk xA mk xc w.heap.size key HB2.out hbz
                    rw [HC.out.rr] at C1
                    obtain ⟨z, hz⟩ : ∃ z : Int, z = if mayK key then 0 else 1 := ⟨_, rfl⟩
                    obtain ⟨t2, ht2⟩ : ∃ t2, t2 = if mayK key then R.map (posL key) else t := ⟨_, rfl⟩
                    obtain ⟨c2, hc2⟩ : ∃ c2, c2 = if mayK key then posL key K else c := ⟨_, rfl⟩
                    rw [← hz, ← ht2] at C1
                    have hpos2 : Pos R K t2 c2 := by
                      rw [ht2, hc2]
                      split
                      · exact Pos.sought HC.out.un key
                      · exact hpos
                    have HPOS2 := hide hpos2
                    obtain ⟨cap, _, hats⟩ := hwk.ex
                    have HATS := hide hats
                    have hglt := hwk.glt
                    have hwsz := HST4.out.bel.size
                    have C2 : ∀ W, RefAt W w.heap.size w1.heap.size p' hs' is' c → Bs W w.heap.size xA mk key → Calls Try.prog 23 #[.pointer (some ⟨p', 0, none⟩), .slice xA mk xc] W fun e w' => e = .returned (.int .i64 z) ∧ RefAt w' w.heap.size w1.heap.size p' hs' is' c2 ∧ W.grownBy w' (some p') := fun W h hb => by
                      have h1 := rwseek_any h (by rw [HC.out.kk]; exact HC.out.un.ok) xA mk xc w.heap.size key hb
                      rw [HC.out.kk, ← hz, ← hc2] at h1
                      exact h1
                    have C2H := hide C2
                    have C1H := hide C1
                    clear C1 C2 hz ht2 hc2 hpos2 hpos hats hwk
                    go_wp2_with fail
                    refine C1H.out.mono ?_
                    rintro e w5 ⟨rfl, hwk5, hg5⟩
                    have hrf5 := HST4.out.rf.beside HATS.out HST4.out.gi hg5
                    have hbel5 : Below w.heap.size w w5 := HST4.out.bel.grown hg5 HST4.out.bel.size (fun q hq => by cases hq; omega)
                    have hb5 : Bs w5 w.heap.size xA mk key := Reads.grown HB2.out hg5 hwsz (fun q hq => by cases hq; omega)
                    have HRF5 := hide hrf5
                    have HBEL5 := hide hbel5
                    have HBS5 := hide hb5
                    have HWK5 := hide hwk5
                    have HSZ5 : Hid (W4.heap.size ≤ w5.heap.size) := hide hg5.size
                    clear hrf5 hbel5 hb5 hwk5 hg5 C1H
                    go_wp2_with fail
                    refine (C2H.out _ HRF5.out HBS5.out).mono ?_
                    rintro e w6 ⟨rfl, hrf6, hg6⟩
                    obtain ⟨cs5, hblk5⟩ := HRF5.out.blk_
                    have hst6 : St w w6 wq.heap.size p g rs' w1.heap.size p' hs' is' R K w2.heap.size c2 := ⟨⟨t2, HWK5.out.aside hblk5 hg6, HPOS2.out⟩, hrf6, HST4.out.gi, Nat.le_trans HST4.out.sz (Nat.le_trans HSZ5.out hg6.size), HBEL5.out.grown hg6 HBEL5.out.size (fun q hq => by cases hq; have := HP0.out; have := HST4.out.gi; omega)⟩
                    have HST6 := hide hst6
                    have hzz : (z != z) = false := by simp
                    clear hst6 hrf6 hg6 hblk5 HRF5 HBS5 HWK5 HST4 HB2 HATS HSZ5 C2H cs5
                    go_wp2_with fail
                    go_roundw
                    case rel => exact ⟨k + 1, c2, by omega, by omega, by go_num, HST6⟩
                    case measure => simp [intOf]; omega
                  · by_cases hkm2 : k < m
                    · have hkI2 : (k : Int) < (m : Int) := by omega
                      have hk202 : ¬ (k : Int) < 20 := by omega
                      clear hks
                      go_wp2_with fail
                      go_roundw
                      case rel => exact ⟨k + 1, c, by omega, by omega, by go_num, HST3⟩
                      case measure => simp [intOf]; omega
                    · have hkI2 : ¬ (k : Int) < (m : Int) := by omega
                      clear hks
                      go_wp2_with fail
                      go_roundw
                      case rel => exact ⟨k + 1, c, by omega, by omega, by go_num, HST3⟩
                      case measure => simp [intOf]; omega
            · have hkn := knows_any wr
              have HKN0 := hide hkn
              have HBEL := hide HST.out.bel
              clear hkn HST
              by_cases hkm2 : k ≤ m
              · have hkI : (k : Int) ≤ (m : Int) := by omega
                have hk20 : ¬ (k : Int) ≤ 20 := by omega
                clear hlt
                go_wp2_with fail
                refine HKN0.out.mono ?_
                rintro e w4 ⟨rfl, hb4⟩
                have HW4 := hide (belFrom HBEL.out hb4)
                clear hb4 HKN0
                go_wp2_with fail
                go_ret
                exact ⟨rfl, HW4.out⟩
              · have hkI : ¬ (k : Int) ≤ (m : Int) := by omega
                clear hlt
                go_wp2_with fail
                refine HKN0.out.mono ?_
                rintro e w4 ⟨rfl, hb4⟩
                have HW4 := hide (belFrom HBEL.out hb4)
                clear hb4 HKN0
                go_wp2_with fail
                go_ret
                exact ⟨rfl, HW4.out⟩
end Go.Proofs.Yteiamfekdibkmaa
