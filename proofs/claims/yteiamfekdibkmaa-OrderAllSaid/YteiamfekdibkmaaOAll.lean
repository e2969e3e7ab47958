/-
  THE WALK of OrderAll. Conditions: as the theorems' premises say.
-/
import Derived.Test.YteiamfekdibkmaaOMask
import Derived.Test.YteiamfekdibkmaaOWState
import Derived.StillTailTactics
namespace Go.Proofs.Yteiamfekdibkmaa
open Go.RowKit Go.Shelf

theorem own_push25 {w W w' : World} {base : Nat} {v v' : Value} {rs : List Rw} {r : Rw} (h : OwnRs w base v rs) (hr : OwnRow W base r.v r.hs) (hb : Below w.heap.size w W) (ho : w'.ownsRow base 25 1 v' (rs.length + 1) (rs.map Rw.v ++ [r.v])) (hg : W.grownBy w' v.ownBlock) : OwnRs w' base v' (rs ++ [r]) ∧ OwnRow w' base r.v r.hs := by
  have h2 := h.later hb
  have kp : ∀ {r : Rw}, OwnRow W base r.v r.hs → OwnRow w' base r.v r.hs := fun hr => ⟨hr.row.kept hg (own_types hr.row h2.row (by decide)), fun x hx => (hr.bytes x hx).kept hg (own_types (hr.bytes x hx) h2.row (by decide))⟩
  refine ⟨⟨?_, fun x hx => ?_⟩, kp hr⟩
  · rw [List.length_append, List.map_append]
    exact ho
  · rcases List.mem_append.1 hx with hx | hx
    · exact kp (h2.rows x hx)
    · rw [List.mem_singleton.1 hx]
      exact kp hr
theorem own_map {w w' : World} {base b : Nat} {e : TypeId} {s n : Nat} {v : Value} {xs : List Value} (h : w.ownsRow base e s v n xs) (hb : b < base) (hg : w.grownBy w' (some b)) : w'.ownsRow base e s v n xs :=
  h.kept hg (.inr (fun e => own_ne h hb e.symm))
theorem OwnRow.map_ {w w' : World} {base b : Nat} {v : Value} {hs : List Hd} (h : OwnRow w base v hs) (hb : b < base) (hg : w.grownBy w' (some b)) : OwnRow w' base v hs := ⟨own_map h.row hb hg, fun x hx => own_map (h.bytes x hx) hb hg⟩
theorem OwnRs.map_ {w w' : World} {base b : Nat} {v : Value} {rs : List Rw} (h : OwnRs w base v rs) (hb : b < base) (hg : w.grownBy w' (some b)) : OwnRs w' base v rs := ⟨own_map h.row hb hg, fun r hr => (h.rows r hr).map_ hb hg⟩
theorem wpList_mapUpdate_mp (w : World) {ops : Array Oper} {rest : List Oper} {o : Oper} {a : Act} {Q : Exit → Act → World → Prop}
    (hg : o.guard = none) (m x v : Operand) (hop : o.op = Op.mapUpdate 24 m x v) (b n : Nat) (K K' : List Key) (F : Key → Int)
    (hm : a.eval m = .map (some b)) (hown : MpAt w b n K F) (hn : n < maxLen) (l : Key) (hl : l.length ≤ maxLen) (val : Int) (hx : a.eval x = .string (strOf l)) (hv : a.eval v = .int .i64 val) (hval : (Lit.int .i64 val).wf = true)
    (hlen : K'.length = if l ∈ K then K.length else K.length + 1) (hmem : ∀ x, x ∈ K' ↔ x = l ∨ x ∈ K)
    (hK : ∀ w', MpAt w' b (n + 1) K' (fun k => if k = l then val else F k) → w.grownBy w' (some b) → wpList Try.prog ops Q rest (a.put o.dst undef) w') :
    wpList Try.prog ops Q (o :: rest) a w := by
  refine wpList_plain hg fun K' hK' => ?_
  obtain ⟨w', hrun, r1, r2⟩ := hown.put hn hl hval hlen hmem
  unfold Oper.wp
  simp [execOp, hop, hm, hx, hv, hrun, Result.andThen]
  exact hK' _ _ (hK w' r1 r2)
theorem rws_snoc (rs : List Rw) (r : Rw) : rws (rs ++ [r]) = rws rs ++ [keys r.hs] := by
  show (rs ++ [r]).map _ = _
  rw [List.map_append]
  rfl
theorem flat_len : ∀ {R : List (List Key)}, (∀ r ∈ R, r.length ≤ 30) → R.flatten.length ≤ 30 * R.length
  | [], _ => by simp
  | r :: R, h => by
    have h1 := flat_len (R := R) (fun x hx => h x (List.mem_cons_of_mem _ hx))
    have h2 := h r (List.mem_cons_self ..)
    rw [List.flatten_cons, List.length_append, List.length_cons]
    omega
def lenV (v : Value) : Nat := match v with | .slice _ n _ => n | _ => 0
/-- a walk of which c keys were told, and the map of masks -/
structure Wa (w0 W : World) (base p g : Nat) (rs : List Rw) (R : List (List Key)) (K : List Key) (c : Nat) : Prop where
  wk : ∃ t, WkAt W base p g rs t ∧ Pos R K t c
  mp : MpAt W w0.heap.size 150 K (fun k => maskL (inAll R k R.length))
  bel : Below w0.heap.size w0 W
  bb : w0.heap.size < base
theorem Wa.later {w0 W W' : World} {base p g : Nat} {rs : List Rw} {R : List (List Key)} {K : List Key} {c : Nat} (h : Wa w0 W base p g rs R K c) (hb : Below W.heap.size W W') : Wa w0 W' base p g rs R K c := by
  obtain ⟨t, h1, h2⟩ := h.wk
  exact ⟨⟨t, h1.below hb, h2⟩, h.mp.below hb, belFrom h.bel hb, h.bb⟩
/-- keys told, beside a walk whose places turn -/
theorem OwnRow.beside {w w' : World} {b b2 g cap : Nat} {v : Value} {hs : List Hd} {t : List Nat} (h : OwnRow w b v hs) (ha : AtsAt w b2 g cap t) (hg : w.grownBy w' (some g)) : OwnRow w' b v hs :=
  ⟨h.row.kept hg (own_types h.row ha.row (by decide)), fun x hx => (h.bytes x hx).kept hg (own_types (h.bytes x hx) ha.row (by decide))⟩
theorem Wa.next {w0 W W' : World} {base p g : Nat} {rs : List Rw} {R : List (List Key)} {K : List Key} {c c' : Nat} {t' : List Nat} (h : Wa w0 W base p g rs R K c) (h1 : WkAt W' base p g rs t') (h2 : Pos R K t' c') (hg : W.grownBy W' (some g)) : Wa w0 W' base p g rs R K c' := by
  have hb := h1.glt.1
  have hbb := h.bb
  exact ⟨⟨t', h1, h2⟩, h.mp.kept hg (fun e => by cases e; omega), h.bel.grown hg h.bel.size (fun q hq => by cases hq; omega), h.bb⟩
/-- a walk stays where a row of headers that came later turns -/
theorem WkAt.told {w w' : World} {base p g tb n : Nat} {rs : List Rw} {t : List Nat} {v : Value} {xs : List Value} (h : WkAt w base p g rs t) (ho : w.ownsRow tb 23 1 v n xs) (hg : w.grownBy w' v.ownBlock) (hM : ∀ r ∈ rs, ∀ q, r.v.ownBlock = some q → q < tb) : WkAt w' base p g rs t := by
  obtain ⟨cap, ⟨⟨vr, b1, b2⟩, r1, r2, r3⟩, ha⟩ := h.ex
  have kp : ∀ {b e s m : Nat} {u : Value} {xs : List Value}, w.ownsRow b e s u m xs → e ≠ 23 → w'.ownsRow b e s u m xs := fun hu he => hu.kept hg (own_types hu ho he)
  refine ⟨⟨cap, ⟨⟨vr, b1.grown hg (b1.mk_.ne_own ho (by decide)), kp b2 (by decide)⟩, fun r hr => ⟨(r1 r hr).row.kept hg ?_, fun y hy => kp ((r1 r hr).bytes y hy) (by decide)⟩, r2, r3⟩, ⟨kp ha.row (by decide)⟩⟩, h.len, h.few, h.rows, h.ats⟩
  cases hq : r.v.ownBlock with
  | none => exact .inl rfl
  | some q => exact .inr (fun e => by
      have h1 := hM r hr q hq
      have h2 := (own_lt ho e.symm).1
      omega)
theorem Wa.told {w0 W W' : World} {base p g tb n : Nat} {rs : List Rw} {R : List (List Key)} {K : List Key} {c : Nat} {v : Value} {xs : List Value} (h : Wa w0 W base p g rs R K c) (ho : W.ownsRow tb 23 1 v n xs) (hg : W.grownBy W' v.ownBlock) (hM : ∀ r ∈ rs, ∀ q, r.v.ownBlock = some q → q < tb) (htb : w0.heap.size < tb) : Wa w0 W' base p g rs R K c := by
  obtain ⟨t, h1, h2⟩ := h.wk
  exact ⟨⟨t, h1.told ho hg hM, h2⟩, h.mp.kept hg (fun e => own_ne ho htb e), h.bel.grown hg h.bel.size (fun q hq => by have := (own_lt ho hq).1; omega), h.bb⟩
/-- rows laid, and the map of their keys, so far -/
structure Ly (w0 W : World) (v : Value) (ra : List Rw) (n : Nat) (K : List Key) (F : Key → Int) : Prop where
  row : OwnRs W (w0.heap.size + 1) v ra
  mp : MpAt W w0.heap.size n K F
  bel : Below w0.heap.size w0 W
  sz : w0.heap.size + 1 ≤ W.heap.size
set_option maxRecDepth 100000 in
set_option maxHeartbeats 4000000 in
theorem all_any (A A' : Option Addr) (n c m d : Nat) (rs : List Rw) (k : Key) (w : World) (h : RowsR w w.heap.size A rs) (hn : n = rs.length) (hsm : n ≤ maxLen) (hl : ∀ r ∈ rs, r.hs.length ≤ maxLen) (hk : Bs w w.heap.size A' m k) (hmd : m ≤ d) :
    Calls Try.prog 3 #[.slice A n c, .slice A' m d] w fun e w' => e = .returned (.bool true) ∧ Below w.heap.size w w' := by
  obtain ⟨j0, hj0, hy0, hy1, hy2⟩ := info_parts row_info
  obtain ⟨i0, hi0, hz0, hz1, hz2⟩ := info_parts hd_info
  have hmm := @run_makeMap Try.prog
  have H := hide h
  have HN := hide hn
  have HL := hide hl
  have hm := hk.len
  obtain ⟨mk, hmk⟩ : ∃ mk : Nat, min (m : Int) 64 = (mk : Int) := ⟨min m 64, by omega⟩
  have hmk2 : mk ≤ m := by omega
  have hmk64 : mk ≤ 64 := by omega
  have hsl := sl23_to A' m d mk (by omega)
  have hbk : Bs w w.heap.size A' mk (k.take mk) := bs_take hk (m := mk) hmk2
  obtain ⟨k2, hk2⟩ : ∃ k2, k2 = k.take mk := ⟨_, rfl⟩
  rw [← hk2] at hbk
  have HKL2 : Hid (k2.length = mk) := hide hbk.len
  have HK := hide hbk
  clear hm hbk hk2
  unfold maxLen at hsm
  obtain ⟨R, hR⟩ : ∃ R, R = ((rws rs).take 5).map laidL := ⟨_, rfl⟩
  have HR30 : Hid (∀ r ∈ R, r.length ≤ 30 ∧ RowOk r) := hide (fun r hr => by
    rw [hR] at hr
    obtain ⟨x, _, rfl⟩ := List.mem_map.1 hr
    exact ⟨laid_len x, laid_ok x⟩)
  have HR5 : Hid (R.length ≤ 5) := hide (by rw [hR, List.length_map, List.length_take]; omega)
  have HR := hide hR
  clear h hn hl hk hR
  go_enter Try.func3, Try.ntmps3
  go_upto_block 0 with fail
  go_cut [5] (fun v5 W => ∃ ra : List Rw, Hid (rws ra = R) ∧ Hid (Ly w W v5 ra 150 (R.flatten.foldl putK []) (fun k => maskL (inAll R k R.length))))
  case first =>
    go_wp2_with fail
    go_loopw [5, 7] (fun v5 v7 W => ∃ (i : Nat) (ra : List Rw), i ≤ n ∧ i ≤ 5 ∧ v7 = .int .i64 i ∧ Hid (rws ra = R.take i) ∧ Hid (Ly w W v5 ra (30 * i) ((R.take i).flatten.foldl putK []) (fun k => maskL (inAll R k i)))) (fun _ v7 _ => n - (intOf v7).toNat)
    case atStart => exact ⟨0, [], by omega, by omega, rfl, hide rfl, hide ⟨⟨World.ownsRow_nil _ _ _ _, fun r hr => (by cases hr)⟩, MpAt.made w, bel1 _ _, by simp⟩⟩
    case round =>
      obtain ⟨i, ra, hi, hi5, rfl, HKA, HLY⟩ := hrel
      obtain ⟨A5, c5, rfl⟩ := slice_ofH HLY.out.row.row
      have hrl5 : R.length = min 5 n := by rw [HR.out, List.length_map, List.length_take, List.length_map, ← HN.out]
      have hla : ra.length = i := by
        have := congrArg List.length HKA.out
        rw [List.length_map, List.length_take] at this
        omega
      have HLA := hide hla
      rw [hla]
      by_cases hlt : i < n ∧ i < 5
      · obtain ⟨r, hr⟩ : ∃ r, rs[i]? = some r := ⟨_, List.getElem?_eq_getElem (by rw [← HN.out]; exact hlt.1)⟩
        have hrm := List.mem_of_getElem? hr
        have hkr : R[i]? = some (laidL (keys r.hs)) := by rw [HR.out, List.getElem?_map, List.getElem?_take, if_pos hlt.2, List.getElem?_map, hr]; rfl
        have hRr := H.out.below HLY.out.bel
        obtain ⟨ad, rfl, hab, c1⟩ := hRr.rd.2 i r.v (by rw [List.getElem?_map, hr]; rfl)
        have hgood := hRr.good r hrm
        have hrl := HL.out r hrm
        have hiI : (i : Int) < (n : Int) := by omega
        have hi5I : (i : Int) < 5 := by omega
        obtain ⟨rA, rc, rhs⟩ := r
        have c1' : wr.cell? (ad.add i) = some (.slice rA rhs.length rc) := c1
        simp only at hrl hkr hgood
        obtain ⟨rl, hrl2⟩ : ∃ rl, rl = rhs.length := ⟨_, rfl⟩
        rw [← hrl2] at c1' hrl
        have C1 := hide (laid_any rA rl rc w.heap.size rhs wr hgood hrl2 HLY.out.bel.size hrl)
        obtain ⟨row, hrow⟩ : ∃ row, row = laidL (keys rhs) := ⟨_, rfl⟩
        rw [← hrow] at C1 hkr
        have HKR := hide hkr
        have hrow30 : row.length ≤ 30 := (HR30.out row (List.mem_of_getElem? hkr)).1
        have hrok : RowOk row := (HR30.out row (List.mem_of_getElem? hkr)).2
        have HROK := hide hrok
        have hwsz := HLY.out.sz
        clear hr hrm hkr hRr c1 hgood hrl2 hla hrow hrok hrl5
        go_wp2_with fail
        refine C1.out.mono ?_
        rintro e w2 ⟨v2, rfl, h2, ho2, hk2, hb2⟩
        obtain ⟨A2, c2, rfl, _⟩ := ho2.slice_
        have hq2 : h2.length = row.length := by have := congrArg List.length hk2; rw [List.length_map] at this; exact this
        obtain ⟨q2, hq⟩ : ∃ q2, q2 = h2.length := ⟨_, rfl⟩
        have hq30 : q2 ≤ 30 := by omega
        have HO2 := hide ho2
        have HB2 := hide hb2
        have HK2 : Hid (keys h2 = row) := hide hk2
        have HQ2 : Hid (q2 = h2.length) := hide hq
        have HQ3 : Hid (q2 = row.length) := hide (hq.trans hq2)
        have hro : w2.ownsRow (w.heap.size + 1) 25 1 (.slice A5 i c5) i (ra.map Rw.v) := by
          have h := own_bel HLY.out.row.row hb2
          rw [HLA.out] at h
          exact h
        have HRO := hide hro
        have hb2s := hb2.size
        rw [← hq]
        clear C1 ho2 hb2 hk2 hq hq2 hro c1'
        go_wp2_with (at_builtin; refine wpList_append_any _ rfl (.tmp 44) (.tmp 46) 22 rfl (w.heap.size + 1) 25 j0 _ 1 24 el22 hj0 hy0 hy1 hy2 rfl (by omega) (.slice A5 i c5) i (ra.map Rw.v) rfl (HRO.out.alloc _) (w2.heap.size + 1) (some ⟨w2.heap.size, 0, none⟩) 1 1 [.slice A2 q2 c2] rfl (Reads.ofBlk (Blk.new w2 25 _) rfl) (fun u hu => by rw [List.mem_singleton.1 hu]; rfl) (by unfold maxLen; omega) (by omega) (by simp; omega) ?_; intro v3 w3 ho3 hg3 hat3; obtain ⟨A3, c3, rfl⟩ := slice_ofH ho3)
        have hpush := own_push25 (base := w.heap.size + 1) (r := ⟨A2, c2, h2⟩) (HLY.out.row.later HB2.out) ((HO2.out.mono hwsz).later (bel1 w2 (.cells #[.slice A2 q2 c2] 25))) (bel1 w2 (.cells #[.slice A2 q2 c2] 25)) (by rw [HLA.out]; show w3.ownsRow _ 25 1 _ _ (ra.map Rw.v ++ [.slice A2 h2.length c2]); rw [← HQ2.out]; exact ho3) (by rw [HLA.out]; exact hg3)
        have hmp3 : MpAt w3 w.heap.size (30 * i) ((R.take i).flatten.foldl putK []) (fun k => maskL (inAll R k i)) := ((HLY.out.mp.below HB2.out).below (bel1 w2 (.cells #[.slice A2 q2 c2] 25))).kept hg3 (fun e => own_ne HRO.out (Nat.lt_succ_self _) e)
        have hbel3 : Below w.heap.size w w3 := (balloc (belFrom HLY.out.bel HB2.out) _).grown hg3 (by simp; omega) (fun _ hj => by have := (own_lt HRO.out hj).1; omega)
        have hsz3 : w.heap.size + 1 ≤ w3.heap.size := by have := hg3.size; simp at this; omega
        have HPUSH := hide hpush
        have HMP3 := hide hmp3
        have HBEL3 := hide hbel3
        have HSZ3 := hide hsz3
        clear hpush hmp3 hbel3 hsz3 ho3 hg3 hat3 hb2s
        go_loopw [50] (fun v50 W => ∃ j : Nat, j ≤ q2 ∧ v50 = .int .i64 j ∧ Hid (w3.grownBy W (some w.heap.size)) ∧ Hid (MpAt W w.heap.size (30 * i + j) (((R.take i).flatten ++ row.take j).foldl putK []) (mF R row i j))) (fun v50 _ => q2 - (intOf v50).toNat)
        case atStart => exact ⟨0, by omega, rfl, hide (World.grownBy.refl _ _), hide (by rw [List.take_zero, List.append_nil]; exact HMP3.out.congr (fun k => (mF_zero R row i k).symm))⟩
        case round =>
          obtain ⟨j, hj, rfl, HG, HMP⟩ := hrel
          clear HMP3
          by_cases hjl : j < q2
          · obtain ⟨x, hx⟩ : ∃ x, h2[j]? = some x := ⟨_, List.getElem?_eq_getElem (by rw [← HQ2.out]; exact hjl)⟩
            have hkx : row[j]? = some x.l := by rw [← HK2.out, List.getElem?_map, hx]; rfl
            have hxm := List.mem_of_getElem? hx
            have hor := HPUSH.out.2.map_ (Nat.lt_succ_self _) HG.out
            obtain ⟨ad2, hA2, _, d1⟩ := (own_rd hor).at_ hx
            have hA2' : A2 = some ad2 := hA2
            subst hA2'
            have hbs := Reads.of_own (hor.bytes x hxm)
            have hmay := HROK.out.1 x.l (List.mem_of_getElem? hkx)
            have hxl := (mayK_iff.1 hmay).2
            have hjI : (j : Int) < (q2 : Int) := by omega
            obtain ⟨xA, xc, xl⟩ := x
            simp only at d1 hkx hxl hmay
            have B0 : ∀ B, Below B wr wr.drew := fun _ => ⟨rfl, rfl, rfl, Nat.le_refl _, fun _ _ => rfl⟩
            have q1 := conv_bytes (P := Try.prog) (Reads.below hbs (B0 _) : Bs wr.drew _ xA xl.length xl) xc 23 5 9 Try.underlying23 Try.underlying5 Try.underlying9
            have HMD : Hid (MpAt wr.drew w.heap.size (30 * i + j) (((R.take i).flatten ++ row.take j).foldl putK []) (mF R row i j)) := hide (HMP.out.below (B0 _))
            have q2' := HMD.out.look (l := xl) (by unfold maxLen; omega)
            obtain ⟨pw, hpw⟩ : ∃ pw : Nat, (2 : Int) ^ i = (pw : Int) := ⟨2 ^ i, by simp⟩
            have hpwn : pw = 2 ^ i := by
              have h1 : ((2 ^ i : Nat) : Int) = (pw : Int) := by rw [← hpw]; simp
              exact (Int.ofNat_inj.1 h1).symm
            have hpw16 : pw ≤ 32 := by rw [hpwn]; exact Nat.pow_le_pow_right (n := 2) (by omega) (show i ≤ 5 by omega)
            have hwpw : IntKind.i64.wrap (pw : Int) = (pw : Int) := IntWalk.i64_in _ ⟨by omega, by omega⟩
            obtain ⟨fx, hfx⟩ : ∃ fx, fx = mF R row i j xl := ⟨_, rfl⟩
            rw [← hfx] at q2'
            have HPW := hide hpwn
            have HFX := hide hfx
            have HKX := hide hkx
            have HMAY := hide hmay
            clear hx hkx hxm hbs hmay hA2 hpwn hfx B0
            go_upto_region 11 with fail
            clear d1
            refine wp_region_still_tail 7 (by kernel_rfl) (by kernel_rfl) ?_
            rw [show ({ wr with drawn := wr.drawn + 1 } : World) = wr.drew from rfl]
            simp only [List.take_succ_cons, List.take_zero, List.drop_succ_cons, List.drop_zero]
            repeat still_step
            refine wpStill_nil ?_
            have hkall : ∀ y ∈ (R.take i).flatten ++ row.take j, mayK y = true := fun y hy => by
              rcases List.mem_append.1 hy with hy | hy
              · obtain ⟨r', hr', hy'⟩ := List.mem_flatten.1 hy
                exact (HR30.out r' (List.mem_of_mem_take hr')).2.1 y hy'
              · exact HROK.out.1 y (List.mem_of_mem_take hy)
            have hkn : ((R.take i).flatten ++ row.take (j + 1)).foldl putK [] = putK (((R.take i).flatten ++ row.take j).foldl putK []) xl := by
              rw [List.take_add_one, HKX.out, ← List.append_assoc, List.foldl_append]
              rfl
            have hval : (Lit.int .i64 (bits .or .i64 fx (pw : Int))).wf = true := by
              have e0 : fx = maskL (inAll R xl i) := by rw [HFX.out]; unfold mF; rw [if_neg (not_before HROK.out HKX.out)]
              have hg : R.getD i [] = row := getD_some HKR.out
              have e1 : bits .or .i64 fx (pw : Int) = maskL (inAll R xl (i + 1)) := by
                rw [inAll_yes (by rw [hg]; exact (isL_mem HROK.out.2).2 (List.mem_of_getElem? HKX.out)), maskL_snoc, e0, HPW.out]
              have hm := inAll_mask (R := R) (k := xl) (n := i + 1) (by omega)
              rw [e1]
              exact wf_small hm.1 hm.2.1
            have HVAL := hide hval
            have hlen := putK_both (k := xl) (fold_ok hkall) HMAY.out
            have hmem := (putK_is (k := xl) (fold_ok hkall) HMAY.out).2
            rw [← hkn] at hlen hmem
            have HLEN := hide hlen
            have HMEM := hide hmem
            clear hkall hkn hval hlen hmem
            go_wp2_with (at_mapUpdate; refine wpList_mapUpdate_mp _ rfl (.tmp 54) (.tmp 56) (.tmp 60) rfl w.heap.size (30 * i + j) _ (((R.take i).flatten ++ row.take (j + 1)).foldl putK []) _ rfl HMD.out (by unfold maxLen; omega) xl (by unfold maxLen; omega) (bits .or .i64 fx (pw : Int)) rfl rfl HVAL.out HLEN.out HMEM.out ?_; intro w5 hmp5 hg5)
            go_roundw
            case rel =>
              refine ⟨j + 1, by omega, by go_num, hide (HG.out.trans ((only_drew (World.grownBy.refl _ _)).trans hg5)), hide ?_⟩
              refine MpAt.congr hmp5 (fun y => ?_)
              have h1 := mF_next (R := R) (i := i) HKX.out HROK.out y
              rw [← HFX.out, ← HPW.out] at h1
              exact h1
            case measure => simp [intOf]; omega
          · have hjI : ¬ (j : Int) < (q2 : Int) := by omega
            have hjq : j = q2 := by omega
            have hfl : (R.take i).flatten ++ row.take j = (R.take (i + 1)).flatten := by
              rw [List.take_of_length_le (l := row) (by rw [← HQ3.out]; omega), List.take_add_one, HKR.out]
              simp
            have hmp : MpAt wr w.heap.size (30 * (i + 1)) ((R.take (i + 1)).flatten.foldl putK []) (fun k => maskL (inAll R k (i + 1))) := by
              rw [← hfl]
              exact (HMP.out.congr (fun k => mF_all HKR.out HROK.out (by rw [← HQ3.out]; omega) k)).more (by omega)
            have hly : Ly w wr (.slice A3 (i + 1) c3) (ra ++ [⟨A2, c2, h2⟩]) (30 * (i + 1)) ((R.take (i + 1)).flatten.foldl putK []) (fun k => maskL (inAll R k (i + 1))) :=
              ⟨HPUSH.out.1.map_ (Nat.lt_succ_self _) HG.out, hmp, HBEL3.out.grown HG.out HBEL3.out.size (fun q hq => by cases hq; exact Nat.le_refl _), Nat.le_trans HSZ3.out HG.out.size⟩
            have hka : rws (ra ++ [(⟨A2, c2, h2⟩ : Rw)]) = R.take (i + 1) := by
              rw [rws_snoc, show keys h2 = row from HK2.out, HKA.out, List.take_add_one, HKR.out]
              rfl
            have HLY2 := hide hly
            have HKA2 := hide hka
            clear hfl hmp hly hka hjq
            go_wp2_with fail
            go_roundw
            case rel => exact ⟨i + 1, _, by omega, by omega, by go_num, HKA2, HLY2⟩
            case measure => simp [intOf]; omega
      · have hRi : R.take i = R := List.take_of_length_le (by omega)
        have hRl : i = R.length := by omega
        have HKA2 : Hid (rws ra = R) := hide (by rw [HKA.out, hRi])
        have hly : Ly w wr (.slice A5 i c5) ra 150 (R.flatten.foldl putK []) (fun k => maskL (inAll R k R.length)) := by
          have h1 := HLY.out
          rw [HLA.out, hRi] at h1
          rw [← hRl]
          exact ⟨h1.row, h1.mp.more (by omega), h1.bel, h1.sz⟩
        have HLY2 := hide hly
        clear hRi hRl hly hrl5 hla
        by_cases hin : i < n
        · have hiI : (i : Int) < (n : Int) := by omega
          have hi5I : ¬ (i : Int) < 5 := by omega
          clear hlt
          go_wp2_with fail
          go_meet
          exact ⟨ra, HKA2, HLY2⟩
        · have hiI : ¬ (i : Int) < (n : Int) := by omega
          clear hlt
          go_wp2_with fail
          go_meet
          exact ⟨ra, HKA2, HLY2⟩
  obtain ⟨ra, HKA, HLY⟩ := hcut
  obtain ⟨wq, hwq⟩ : ∃ W, W = wc := ⟨_, rfl⟩
  subst hwq
  obtain ⟨A5, c5, rfl⟩ := slice_ofH HLY.out.row.row
  have hla : ra.length = R.length := by have := congrArg List.length HKA.out; rwa [List.length_map] at this
  obtain ⟨q, hq⟩ : ∃ q, q = R.length := ⟨_, rfl⟩
  rw [← hq] at hla
  have hra : ∀ r ∈ ra, r.hs.length ≤ 30 := fun r hr => by
    have h1 : keys r.hs ∈ rws ra := List.mem_map_of_mem hr
    rw [HKA.out] at h1
    have := (HR30.out _ h1).1
    rw [List.length_map] at this
    exact this
  have hrs : RowsR wq wq.heap.size A5 ra := ⟨by have h1 := HLY.out.row.row; exact Reads.of_own h1, fun r hr => by
    have h1 := HLY.out.row.rows r hr
    exact own_rd h1⟩
  have hq5 : q ≤ 5 := by rw [hq]; exact HR5.out
  have C1 := of_any A5 q c5 wq.heap.size ra wq hrs (Nat.le_refl _) hla.symm (by omega) (fun r hr => by have := hra r hr; omega)
  have C1H := hide C1
  obtain ⟨K, hK⟩ : ∃ K, K = allK R.flatten := ⟨_, rfl⟩
  have hU : Un R K := by rw [hK]; exact allK_un (fun r hr => (HR30.out r hr).2)
  have hK150 : K.length ≤ 150 := by
    have h1 := allK_len R.flatten []
    have h2 := flat_len (R := R) (fun r hr => (HR30.out r hr).1)
    rw [hK]
    unfold allK
    simp only [List.length_nil] at h1
    omega
  have HU := hide hU
  have HMP : Hid (MpAt wq w.heap.size 150 K (fun k => maskL (inAll R k R.length))) := hide (by rw [hK]; exact HLY.out.mp)
  have hOK : ofOk R = true := List.all_eq_true.2 fun r hr => mayR_iff.2 (HR30.out r hr).2
  have HOK := hide hOK
  have HLA := hide hla
  have HQ := hide hq
  obtain ⟨kl, hkl⟩ : ∃ kl, kl = K.length := ⟨_, rfl⟩
  have HKL := hide hkl
  rw [← hkl] at hK150
  have hwsz := HLY.out.sz
  rw [hla]
  clear C1 hra hrs hla hq hK hU hOK hkl
  go_wp2_with fail
  refine C1H.out.mono ?_
  rintro e w1 hof
  unfold ofP at hof
  rw [HKA.out, HOK.out] at hof
  rcases hof with ⟨h, _⟩ | ⟨_, p, g, rs', rfl, hrr, hwk, hb1⟩
  · cases h
  · have hwa : Wa w w1 wq.heap.size p g rs' R K 0 := ⟨⟨_, hwk, by rw [HLA.out, HQ.out]; exact Pos.start HU.out⟩, HMP.out.below hb1, belFrom HLY.out.bel hb1, by omega⟩
    have HRR : Hid (rws rs' = R) := hide hrr
    have HWA := hide hwa
    have CL : Hid (∀ (W : World) (c : Nat), Wa w W wq.heap.size p g rs' R K c → Calls Try.prog 10 #[.pointer (some ⟨p, 0, none⟩)] W fun e w' => e = .returned (.int .i64 ((kl - c : Nat) : Int)) ∧ Below W.heap.size W w') := hide (fun W c h => by
      obtain ⟨t5, h1, h2⟩ := h.wk
      have h3 := left_any (K := K) (c := c) h1 (by rw [HRR.out]; exact HU.out) (by rw [HRR.out]; exact h2) (by rw [← HKL.out]; omega)
      rw [HKL.out]
      exact h3)
    have CN : Hid (∀ (W : World) (c : Nat), Wa w W wq.heap.size p g rs' R K c → Calls Try.prog 11 #[.pointer (some ⟨p, 0, none⟩)] W fun e w' => ∃ xA xc iA ic', e = .returned (.tuple #[.slice xA (kc K c).length xc, .slice iA (ic R K c).length ic', .bool (bc K c)]) ∧ w'.ownsRow W.heap.size 5 1 (.slice xA (kc K c).length xc) (kc K c).length ((kc K c).map bv) ∧ OwnI w' W.heap.size (.slice iA (ic R K c).length ic') (ic R K c) ∧ Wa w w' wq.heap.size p g rs' R K (nc K c) ∧ W.grownBy w' (some g)) := hide (fun W c h => by
      obtain ⟨t5, h1, h2⟩ := h.wk
      have h3 := nextS (K := K) (c := c) h1 (by rw [HRR.out]; exact HU.out) (by rw [HRR.out]; exact h2)
      rw [HRR.out] at h3
      exact h3.mono fun e w' ⟨xA, xc, iA, ic', t', e1, e2, e3, e4, e5, e6⟩ => ⟨xA, xc, iA, ic', e1, e2, e3, h.next e4 e5 e6, e6⟩)
    have C2 := CL.out w1 0 hwa
    rw [Nat.sub_zero] at C2
    have C2H := hide C2
    clear C2 hrr hwk hb1 hwa C1H
    go_wp2_with fail
    refine C2H.out.mono ?_
    rintro e w2 ⟨rfl, hb2⟩
    have HW2 := hide (HWA.out.later hb2)
    have qm := fun ty => HW2.out.mp.len ty
    rw [← HKL.out] at qm
    clear hb2 C2H
    go_wp2_with fail
    clear qm
    have HTOP : Hid (∀ r ∈ rs', ∀ q, r.v.ownBlock = some q → q < w2.heap.size) := hide (fun r hr q hq => by
      obtain ⟨t, h1, _⟩ := HW2.out.wk
      obtain ⟨cap, hwa, _⟩ := h1.ex
      exact (own_lt (hwa.rows r hr).row hq).2)
    have htb : w.heap.size < w2.heap.size := by have h1 := HW2.out.mp.ex; obtain ⟨D, h2, _⟩ := h1; exact h2.lt
    go_loopw [13] (fun v13 W => ∃ (c : Nat) (hsT : List Hd), c ≤ kl ∧ Hid (Wa w W wq.heap.size p g rs' R K c) ∧ Hid (OwnRow W w2.heap.size v13 hsT) ∧ Hid (keys hsT = K.take c) ∧ Hid (w2.heap.size ≤ W.heap.size)) (fun v13 _ => kl - lenV v13)
    case atStart => exact ⟨0, [], by omega, HW2, hide (OwnRow.nil _ _), hide rfl, hide (Nat.le_refl _)⟩
    case round =>
      obtain ⟨c, hsT, hc, HWA3, HOT, HKT, HSZT⟩ := hrel
      obtain ⟨At, ct, rfl⟩ := slice_ofH HOT.out.row
      have hlt : hsT.length = c := by
        have := congrArg List.length HKT.out
        rw [List.length_map, List.length_take, ← HKL.out] at this
        omega
      have HLT := hide hlt
      rw [hlt]
      have C3 := CN.out wr c HWA3.out
      obtain ⟨t3, hwk3, _⟩ := HWA3.out.wk
      obtain ⟨cap3, _, hats3⟩ := hwk3.ex
      have HATS := hide hats3
      clear hlt hwk3 hats3
      by_cases hck : c < kl
      · obtain ⟨key, hkc⟩ : ∃ key, K[c]? = some key := ⟨_, List.getElem?_eq_getElem (by rw [← HKL.out]; exact hck)⟩
        have e1 : kc K c = key := by unfold kc; rw [hkc]; rfl
        have e2 : bc K c = true := decide_eq_true (by rw [← HKL.out]; exact hck)
        have e3 : ic R K c = inAll R key R.length := by unfold ic; rw [hkc]
        have e4 : nc K c = c + 1 := if_pos (by rw [← HKL.out]; exact hck)
        rw [e1, e2, e3, e4] at C3
        obtain ⟨ks, hks⟩ : ∃ ks, ks = inAll R key R.length := ⟨_, rfl⟩
        rw [← hks] at C3
        have hkin5 : ks.length ≤ 5 := by rw [hks]; exact Nat.le_trans (inAll_len _ _ _) HR5.out
        have hks5 : ∀ x ∈ ks, x < 5 := fun x hx => by
          rw [hks] at hx
          have h1 := List.mem_range.1 (List.mem_filter.1 hx).1
          have := HR5.out
          omega
        have C3H := hide C3
        have HKC := hide hkc
        have HKS := hide hks
        have HK5 := hide hks5
        clear C3 hkc e1 e2 e3 e4 hks hks5
        go_wp2_with fail
        refine C3H.out.mono ?_
        rintro e w3 ⟨xA, xc, iA, ic', rfl, hox, hoi, hwa4, hg3⟩
        have HWA4 := hide hwa4
        have HOX := hide hox
        have HOI := hide hoi
        have HOT3 := hide (HOT.out.beside HATS.out hg3)
        have HSZ3 : Hid (wr.heap.size ≤ w3.heap.size) := hide hg3.size
        obtain ⟨kin, hkin⟩ : ∃ kin, kin = ks.length := ⟨_, rfl⟩
        have HKIN := hide hkin
        rw [← hkin] at hkin5 ⊢
        clear C3H hox hoi hwa4 hg3 hkin
        go_wp2_with fail
        go_loopw [17, 86] (fun v17 v86 W => ∃ (z : Nat) (mv : Int), z ≤ kin ∧ v86 = .int .i64 z ∧ v17 = .int .i64 mv ∧ Hid (mv = maskL (ks.take z)) ∧ Hid (∀ B, Below B w3 W)) (fun _ v86 _ => kin - (intOf v86).toNat)
        case atStart => exact ⟨0, 0, by omega, rfl, rfl, hide rfl, hide (fun B => Below.refl _ _)⟩
        case round =>
          obtain ⟨z, mv, hz, rfl, rfl, HMV, HZ⟩ := hrel
          by_cases hzl : z < kin
          · obtain ⟨x, hx⟩ : ∃ x, ks[z]? = some x := ⟨_, List.getElem?_eq_getElem (by rw [← HKIN.out]; exact hzl)⟩
            obtain ⟨ad1, rfl, _, f1⟩ := (Reads.of_own (own_bel HOI.out (HZ.out _))).2 z (iv x) (by rw [List.getElem?_map, hx]; rfl)
            have f1' : wr.cell? (ad1.add z) = some (.int .i64 (x : Int)) := f1
            have hx5 := HK5.out x (List.mem_of_getElem? hx)
            obtain ⟨pw, hpw⟩ : ∃ pw : Nat, (2 : Int) ^ x = (pw : Int) := ⟨2 ^ x, by simp⟩
            have hpwn : pw = 2 ^ x := by
              have h1 : ((2 ^ x : Nat) : Int) = (pw : Int) := by rw [← hpw]; simp
              exact (Int.ofNat_inj.1 h1).symm
            have hpw16 : pw ≤ 32 := by rw [hpwn]; exact Nat.pow_le_pow_right (n := 2) (by omega) (show x ≤ 5 by omega)
            have hwpw : IntKind.i64.wrap (pw : Int) = (pw : Int) := IntWalk.i64_in _ ⟨by omega, by omega⟩
            have hzI : (z : Int) < (kin : Int) := by omega
            have hmv : bits .or .i64 mv (pw : Int) = maskL (ks.take (z + 1)) := by
              rw [List.take_add_one, hx]
              show _ = maskL (ks.take z ++ [x])
              rw [maskL_snoc, ← HMV.out, hpwn]
            have HMV2 := hide hmv
            clear f1 hx hpwn hmv
            go_wp2_with fail
            go_roundw
            case rel => exact ⟨z + 1, _, by omega, by go_num, rfl, HMV2, HZ⟩
            case measure => simp [intOf]; omega
          · have hzI : ¬ (z : Int) < (kin : Int) := by omega
            obtain ⟨W4, hW4⟩ : ∃ W, W = wr := ⟨_, rfl⟩
            subst hW4
            have hmv : mv = maskL (inAll R key R.length) := by rw [HMV.out, List.take_of_length_le (by rw [← HKIN.out]; omega), HKS.out]
            have hne : mv ≠ 0 := by
              rw [hmv]
              refine (inAll_mask HR5.out).2.2 (fun he => ?_)
              obtain ⟨r, hr, hkr⟩ := (HU.out.mem key).1 (List.mem_of_getElem? HKC.out)
              obtain ⟨i0, hi0⟩ := List.mem_iff_getElem?.1 hr
              have h1 : i0 ∈ inAll R key R.length := List.mem_filter.2 ⟨List.mem_range.2 (List.getElem?_eq_some_iff.1 hi0).1, by rw [getD_some hi0]; exact (isL_mem (HU.out.rows r hr).2).2 hkr⟩
              rw [he] at h1
              cases h1
            have hmvB : (mv == 0) = false := by simpa using hne
            have HWA5 := hide (HWA4.out.later (HZ.out _))
            have HOX5 := hide (own_bel HOX.out (HZ.out _))
            have HOT5 := hide (HOT3.out.later (HZ.out _))
            have HSZ4 : Hid (w2.heap.size ≤ W4.heap.size) := hide (Nat.le_trans HSZT.out (Nat.le_trans HSZ3.out (HZ.out 0).size))
            have hkmay := HU.out.ok.1 key (List.mem_of_getElem? HKC.out)
            have hk64 := (mayK_iff.1 hkmay).2
            clear HWA4 HOX HOI HOT3 HSZ3 HZ hzl hz
            obtain ⟨d1, hd1⟩ : ∃ d1 : Nat, (kl : Int) - (c : Int) = (d1 : Int) := ⟨kl - c, by omega⟩
            obtain ⟨d2, hd2⟩ : ∃ d2 : Nat, (d1 : Int) - 1 = (d2 : Int) := ⟨d1 - 1, by omega⟩
            have hdn : kl - (c + 1) = d2 := by omega
            have C5 := CL.out W4 (c + 1) HWA5.out
            rw [hdn] at C5
            have C5H := hide C5
            have q1 := conv_bytes (P := Try.prog) (Reads.of_own HOX5.out : Bs W4 _ xA key.length key) xc 23 5 9 Try.underlying23 Try.underlying5 Try.underlying9
            have q2 := HWA5.out.mp.look (l := key) (by unfold maxLen; omega)
            rw [← hmv] at q2
            have hmvmv : (mv != mv) = false := by simp
            clear C5 hdn hmv
            go_upto_region 25 with fail
            go_cut [131] (fun v131 W => v131 = .bool false ∧ Hid (Below W4.heap.size W4 W))
            case first =>
              by_cases hc0 : c = 0
              · have hcI : ¬ (0 : Int) < (c : Int) := by omega
                have hcN : ¬ 0 < c := by omega
                clear hc0
                go_wp2_with fail
                refine C5H.out.mono ?_
                rintro e w5 ⟨rfl, hb5⟩
                have qm := fun ty => (HWA5.out.later hb5).mp.len ty
                rw [← HKL.out] at qm
                have HB5 := hide hb5
                clear hb5
                go_wp2_with fail
                go_meet
                exact ⟨rfl, HB5⟩
              · have hcI : (0 : Int) < (c : Int) := by omega
                have hcN : 0 < c := by omega
                obtain ⟨c1, hc1⟩ : ∃ c1 : Nat, (c : Int) - 1 = (c1 : Int) := ⟨c - 1, by omega⟩
                obtain ⟨y, hy⟩ : ∃ y, hsT[c1]? = some y := ⟨_, List.getElem?_eq_getElem (by rw [HLT.out]; omega)⟩
                have hyk : K[c1]? = some y.l := by
                  have h1 : (keys hsT)[c1]? = some y.l := by rw [List.getElem?_map, hy]; rfl
                  rw [HKT.out, List.getElem?_take, if_pos (by omega)] at h1
                  exact h1
                have hlt2 : cmpK y.l key < 0 := pair_lt HU.out.ok.2 (by omega) hyk HKC.out
                have hrd := HOT5.out
                obtain ⟨ad, hAt, _, f1⟩ := (Reads.of_own hrd.row).2 c1 y.v (by rw [List.getElem?_map, hy]; rfl)
                subst hAt
                have hgy := good_own (hrd.bytes y (List.mem_of_getElem? hy))
                obtain ⟨yA, yc, yl⟩ := y
                have f1' : W4.cell? (ad.add c1) = some (.slice yA yl.length yc) := f1
                simp only at hlt2
                have C6 := kcmp_any yA xA yl.length yc key.length xc W4.heap.size W4.heap.size yl key W4 hgy.1 (Reads.of_own HOX5.out)
                obtain ⟨r, hr⟩ : ∃ r, r = cmpK yl key := ⟨_, rfl⟩
                rw [← hr] at C6 hlt2
                have C6H := hide C6
                have hr0 : ¬ (0 : Int) ≤ r := by omega
                have hc1I : (c1 : Int) < (c : Int) := by omega
                clear hc0 hy hyk hrd f1 hgy C6 hr hlt2
                go_wp2_with fail
                refine C6H.out.mono ?_
                rintro e w5 ⟨rfl, rfl⟩
                go_wp2_with fail
                refine C5H.out.mono ?_
                rintro e w5 ⟨rfl, hb5⟩
                have qm := fun ty => (HWA5.out.later hb5).mp.len ty
                rw [← HKL.out] at qm
                have HB5 := hide hb5
                clear hb5
                go_wp2_with fail
                go_meet
                have h0 : ¬ (0 : Int) ≤ r := by omega
                exact ⟨by simp [h0], HB5⟩
            obtain ⟨rfl, HB5⟩ := hcut
            have HWA6 := hide (HWA5.out.later HB5.out)
            have HOX6 := hide (own_mono (own_bel HOX5.out HB5.out) (Nat.le_refl _) : wc.ownsRow wr.heap.size 5 1 (.slice xA key.length xc) key.length (key.map bv))
            have HOT6 := hide (HOT5.out.later HB5.out)
            have HSZ5 : Hid (w2.heap.size ≤ wc.heap.size) := hide (Nat.le_trans HSZ4.out HB5.out.size)
            have hrow : wc.ownsRow w2.heap.size 23 1 (.slice At c ct) c (hdc hsT) := by
              have h1 := HOT6.out.row
              unfold OwnH at h1
              rw [HLT.out] at h1
              exact h1
            have HROW := hide hrow
            obtain ⟨kn, hkn⟩ : ∃ kn, kn = key.length := ⟨_, rfl⟩
            have HKN := hide hkn
            rw [← hkn]
            clear HWA5 HOX5 HOT5 HSZ4 HB5 C5H hrow hkn q1 q2 hd1 hd2 hmvmv hmvB
            go_wp2_with (at_builtin; refine wpList_append_any _ rfl (.tmp 132) (.tmp 134) 25 rfl w2.heap.size 23 i0 _ 1 24 el25' hi0 hz0 hz1 hz2 rfl (by omega) (.slice At c ct) c (hdc hsT) rfl (HROW.out.alloc _) (wc.heap.size + 1) (some ⟨wc.heap.size, 0, none⟩) 1 1 [.slice xA kn xc] rfl (Reads.ofBlk (Blk.new wc 23 _) rfl) (fun u hu => by rw [List.mem_singleton.1 hu]; rfl) (by unfold maxLen; omega) (by omega) (by have := HSZ5.out; simp; omega) ?_; intro v7 w7 ho7 hg7 hat7; obtain ⟨A7, c7, rfl⟩ := slice_ofH ho7)
            have hpush : OwnRow w7 w2.heap.size (.slice A7 (c + 1) c7) (hsT ++ [⟨xA, xc, key⟩]) := by
              refine HOT6.out.push (x := ⟨xA, xc, key⟩) (own_mono HOX6.out HSZT.out) (bel1 wc (.cells #[.slice xA kn xc] 23)) ?_ (by rw [HLT.out]; exact hg7)
              rw [HLT.out]
              show w7.ownsRow w2.heap.size 23 1 _ _ (hdc hsT ++ [.slice xA key.length xc])
              rw [← HKN.out]
              exact ho7
            have hwa7 := (HWA6.out.later (bel1 wc (.cells #[.slice xA kn xc] 23))).told (HROW.out.alloc _) hg7 HTOP.out htb
            have hk7 : keys (hsT ++ [(⟨xA, xc, key⟩ : Hd)]) = K.take (c + 1) := by
              rw [List.take_add_one, HKC.out, ← HKT.out]
              show (hsT ++ [_]).map Hd.l = _
              rw [List.map_append]
              rfl
            have hsz7 : w2.heap.size ≤ w7.heap.size := by have h1 := HSZ5.out; have h2 := hg7.size; simp at h2; omega
            go_roundw
            case rel => exact ⟨c + 1, _, by omega, hide hwa7, hide hpush, hide hk7, hide hsz7⟩
            case measure => simp [lenV]; omega
      · obtain rfl : c = kl := by omega
        have e1 : kc K c = [] := by unfold kc; rw [List.getElem?_eq_none (by rw [← HKL.out]; exact Nat.le_refl _)]; rfl
        have e2 : bc K c = false := decide_eq_false (by rw [← HKL.out]; omega)
        have e3 : ic R K c = [] := by unfold ic; rw [List.getElem?_eq_none (by rw [← HKL.out]; exact Nat.le_refl _)]
        have e4 : nc K c = c := if_neg (by rw [← HKL.out]; omega)
        rw [e1, e2, e3, e4] at C3
        have C3H := hide C3
        have hkt : keys hsT = K := by rw [HKT.out, List.take_of_length_le (by rw [← HKL.out]; exact Nat.le_refl _)]
        have HKT2 := hide hkt
        clear C3 e1 e2 e3 e4 hkt HKT
        go_wp2_with fail
        refine C3H.out.mono ?_
        rintro e w3 ⟨xA, xc, iA, ic', rfl, _, _, hwa4, hg3⟩
        have HWA4 := hide hwa4
        have HOT3 := hide (HOT.out.beside HATS.out hg3)
        have HSZ3 : Hid (w2.heap.size ≤ w3.heap.size) := hide (Nat.le_trans HSZT.out hg3.size)
        have C4 := may_any At c ct w3.heap.size hsT w3 (by
          have h1 := HOT3.out
          exact ⟨by have h2 := h1.row; exact Reads.of_own h2, fun x hx => good_own (h1.bytes x hx)⟩) HLT.out.symm (by unfold maxLen; omega)
        rw [HKT2.out, mayR_iff.2 HU.out.ok] at C4
        have C4H := hide C4
        have qm := fun ty => HWA4.out.mp.len ty
        rw [← HKL.out] at qm
        have hcc : ((c : Int) != (c : Int)) = false := by simp
        clear C3H hwa4 hg3 C4
        go_wp2_with fail
        refine C4H.out.mono ?_
        rintro e w4 ⟨rfl, rfl⟩
        obtain ⟨t4, hwk4, hpos4⟩ := HWA4.out.wk
        have C6 := seek_any hwk4 A' mk d w.heap.size k2 (Reads.below HK.out HWA4.out.bel) (by omega)
        rw [HRR.out] at C6
        obtain ⟨cap4, _, hats4⟩ := hwk4.ex
        have HATS4 := hide hats4
        cases hmay : mayK k2 with
        | false =>
          rw [hmay] at C6
          have hmk0 : mk = 0 := by
            rcases Nat.eq_zero_or_pos mk with h0 | h0
            · exact h0
            · have h1 : mayK k2 = true := mayK_iff.2 ⟨by rw [HKL2.out]; omega, by rw [HKL2.out]; omega⟩
              rw [hmay] at h1
              cases h1
          subst hmk0
          have C6H := hide C6
          clear C6 hwk4 hpos4 hats4 hmay C4H qm
          go_wp2_with fail
          refine C6H.out.mono ?_
          rintro e w5 ⟨rfl, hwk5, hg5⟩
          have hglt := hwk5.glt.1
          have hbb := HWA4.out.bb
          have HB5 := hide (HWA4.out.bel.grown hg5 HWA4.out.bel.size (fun q hq => by cases hq; omega))
          have C7 := knows_any w5
          clear C6H hwk5 hg5
          go_wp2_with fail
          refine C7.mono ?_
          rintro e w6 ⟨rfl, hb6⟩
          have HB6 := hide (belFrom HB5.out hb6)
          clear hb6 C7
          go_wp2_with fail
          go_ret
          exact ⟨rfl, HB6.out⟩
        | true =>
          rw [hmay] at C6
          have C6H := hide C6
          have HPOS := hide (Pos.sought HU.out k2)
          clear C6 hwk4 hpos4 hats4 hmay C4H qm
          go_wp2_with fail
          refine C6H.out.mono ?_
          rintro e w5 ⟨rfl, hwk5, hg5⟩
          have HWA5 := hide (HWA4.out.next hwk5 HPOS.out hg5)
          have HOT5 := hide (HOT3.out.beside HATS4.out hg5)
          have hrd5 : RowR w5 w5.heap.size At hsT := by
            have h1 := HOT5.out
            exact ⟨by have h2 := h1.row; exact Reads.of_own h2, fun x hx => good_own (h1.bytes x hx)⟩
          have C7 := Search_any At A' c ct mk d w5.heap.size w.heap.size hsT k2 w5 hrd5 HLT.out.symm (by omega) (Reads.below HK.out HWA5.out.bel)
          unfold searchO at C7
          rw [HKT2.out, mayR_iff.2 HU.out.ok, if_pos rfl] at C7
          simp only at C7
          obtain ⟨a, ha⟩ : ∃ a, a = posL k2 K := ⟨_, rfl⟩
          have hale : a ≤ c := by rw [ha, HKL.out]; exact posL_le _ _
          rw [← ha] at C7 HWA5
          generalize isL k2 K = ib at C7
          have C7H := hide C7
          clear C7 C6H hwk5 hg5 hrd5 ha HATS4 HWA4 HOT3 HPOS
          go_wp2_with fail
          refine C7H.out.mono ?_
          rintro e w6 ⟨rfl, rfl⟩
          go_wp2_with fail
          go_loopw [20] (fun v20 W => ∃ a : Nat, a ≤ c ∧ v20 = .int .i64 a ∧ Hid (Wa w W wq.heap.size p g rs' R K a) ∧ Hid (OwnRow W w2.heap.size (.slice At hsT.length ct) hsT)) (fun v20 _ => c - (intOf v20).toNat)
          case atStart => exact ⟨a, hale, rfl, HWA5, HOT5⟩
          case round =>
            obtain ⟨a, hac, rfl, HWA6, HOT6⟩ := hrel
            clear HWA5 HOT5
            obtain ⟨t6, hwk6, _⟩ := HWA6.out.wk
            obtain ⟨cap6, _, hats6⟩ := hwk6.ex
            have HATS6 := hide hats6
            have C8 := CN.out wr a HWA6.out
            clear hwk6 hats6
            by_cases hlt2 : a < c
            · obtain ⟨y, hy⟩ : ∃ y, hsT[a]? = some y := ⟨_, List.getElem?_eq_getElem (by rw [HLT.out]; exact hlt2)⟩
              have hky : K[a]? = some y.l := by rw [← HKT2.out, List.getElem?_map, hy]; rfl
              have e1 : kc K a = y.l := by unfold kc; rw [hky]; rfl
              have e2 : bc K a = true := decide_eq_true (by rw [← HKL.out]; exact hlt2)
              have e4 : nc K a = a + 1 := if_pos (by rw [← HKL.out]; exact hlt2)
              rw [e1, e2, e4] at C8
              have C8H := hide C8
              have HY := hide hy
              have haI : (a : Int) < (c : Int) := by omega
              clear C8 hky e1 e2 e4 hy
              go_wp2_with fail
              refine C8H.out.mono ?_
              rintro e w7 ⟨xA, xc, iA, ic', rfl, hox, _, hwa7, hg7⟩
              have HWA7 := hide hwa7
              have HOT7 := hide (HOT6.out.beside HATS6.out hg7)
              have hot7 := HOT7.out
              obtain ⟨ad, hAt, _, f1⟩ := (Reads.of_own hot7.row).2 a y.v (by rw [List.getElem?_map, HY.out]; rfl)
              subst hAt
              have hby := (good_own (hot7.bytes y (List.mem_of_getElem? HY.out))).1
              obtain ⟨yA, yc, yl⟩ := y
              have f1' : w7.cell? (ad.add a) = some (.slice yA yl.length yc) := f1
              have q1 := fun z => conv_bytes (P := Try.prog) (Reads.below (Reads.of_own hox) (anyB w7 z _) : Bs (w7.drewN z) _ xA yl.length yl) xc 23 5 9 Try.underlying23 Try.underlying5 Try.underlying9
              have q2 := fun z => conv_bytes (P := Try.prog) (Reads.below hby (anyB w7 z _) : Bs (w7.drewN z) _ yA yl.length yl) yc 23 5 9 Try.underlying23 Try.underlying5 Try.underlying9
              clear hwa7 hg7 hot7 f1 hby hox C8H
              go_upto_region 37 with fail
              go_quiet (fail)
              have HWA8 := hide (HWA7.out.later (anyB w7 nq _))
              have HOT8 := hide (HOT7.out.later (anyB w7 nq _))
              clear q1 q2 f1'
              generalize w7.drewN nq = w8 at HWA8 HOT8 ⊢
              go_wp2_with fail
              go_roundw
              case rel => exact ⟨a + 1, by omega, by go_num, HWA8, HOT8⟩
              case measure => simp [intOf]; omega
            · obtain rfl : a = c := by omega
              have e1 : kc K a = [] := by unfold kc; rw [List.getElem?_eq_none (by rw [← HKL.out]; exact Nat.le_refl _)]; rfl
              have e2 : bc K a = false := decide_eq_false (by rw [← HKL.out]; omega)
              have e3 : ic R K a = [] := by unfold ic; rw [List.getElem?_eq_none (by rw [← HKL.out]; exact Nat.le_refl _)]
              have e4 : nc K a = a := if_neg (by rw [← HKL.out]; omega)
              rw [e1, e2, e3, e4] at C8
              have C8H := hide C8
              have haI : ¬ (a : Int) < (a : Int) := by omega
              clear C8 e1 e2 e3 e4
              go_wp2_with fail
              refine C8H.out.mono ?_
              rintro e w7 ⟨xA, xc, iA, ic', rfl, _, _, hwa7, _⟩
              have C9 := CL.out w7 a hwa7
              rw [Nat.sub_self] at C9
              have C9H := hide C9
              have HB7 := hide hwa7.bel
              clear C9 C8H hwa7
              go_wp2_with fail
              refine C9H.out.mono ?_
              rintro e w8 ⟨rfl, hb8⟩
              have HB8 := hide (belFrom HB7.out hb8)
              have C10 := knows_any w8
              clear hb8 C9H
              go_wp2_with fail
              refine C10.mono ?_
              rintro e w9 ⟨rfl, hb9⟩
              have HB9 := hide (belFrom HB8.out hb9)
              clear hb9 C10
              go_wp2_with fail
              go_ret
              exact ⟨rfl, HB9.out⟩
end Go.Proofs.Yteiamfekdibkmaa
