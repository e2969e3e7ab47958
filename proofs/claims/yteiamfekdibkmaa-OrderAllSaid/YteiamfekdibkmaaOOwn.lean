/-
  ROWS OF KEYS OF THE CALL'S OWN; the walk of own. Conditions: as the theorems' premises say.
-/
import Derived.Test.YteiamfekdibkmaaOSearch
import Derived.Test.YteiamfekdibkmaaPost
namespace Go.Proofs.Yteiamfekdibkmaa
open Go.RowKit Go.Shelf

def Hd.cs (x : Hd) : List Value := [x.v]
abbrev hdc (L : List Hd) : List Value := L.map Hd.v
theorem hdc_len (L : List Hd) : (hdc L).length = L.length := List.length_map _
theorem hdc_app (X Y : List Hd) : hdc (X ++ Y) = hdc X ++ hdc Y := List.map_append
theorem hdc_cons (x : Hd) (r : List Hd) : hdc (x :: r) = x.v :: hdc r := rfl
theorem hdc_one (L : List Hd) : ∀ u ∈ hdc L, u.oneCell' = true := hd_one L
theorem hdc_take (L : List Hd) (i : Nat) : (hdc L).take i = hdc (L.take i) := List.map_take.symm
theorem hdc_drop (L : List Hd) (i : Nat) : (hdc L).drop i = hdc (L.drop i) := List.map_drop.symm
/-- a row of headers of the call's own -/
abbrev OwnH (w : World) (base : Nat) (v : Value) (L : List Hd) : Prop := w.ownsRow base 23 1 v L.length (hdc L)
/-- .. and what they lead to as well -/
structure OwnRow (w : World) (base : Nat) (v : Value) (L : List Hd) : Prop where
  row : OwnH w base v L
  bytes : ∀ h ∈ L, w.ownsRow base 5 1 h.v h.l.length (h.l.map bv)
theorem own_mono {w : World} {base base' : Nat} {e : TypeId} {size n : Nat} {v : Value} {xs : List Value} (h : w.ownsRow base e size v n xs) (hb : base' ≤ base) : w.ownsRow base' e size v n xs := by
  refine ⟨h.1, ?_⟩
  rcases h.2 with hn | ⟨g, cap, cur, rfl, h1, rest⟩
  · exact .inl hn
  · exact .inr ⟨g, cap, cur, rfl, Nat.le_trans hb h1, rest⟩
theorem own_bel {w w' : World} {base : Nat} {e : TypeId} {size n : Nat} {v : Value} {xs : List Value} (h : w.ownsRow base e size v n xs) (hb : Below w.heap.size w w') : w'.ownsRow base e size v n xs := h.kept (only_of_below hb none) (Classical.em _)
theorem own_mk {w : World} {base : Nat} {e : TypeId} {size n : Nat} {v : Value} {xs : List Value} (h : w.ownsRow base e size v n xs) {g : Nat} (hg : v.ownBlock = some g) : ∃ cs, Mk w g e cs := by
  rcases h.2 with ⟨rfl, _⟩ | ⟨g', cap, cur, rfl, hb, hgg, rest⟩
  · simp [Value.ownBlock] at hg
  · simp [Value.ownBlock] at hg
    subst hg
    exact ⟨cur, _, hgg⟩
/-- rows of two types have two blocks -/
theorem own_types {w : World} {b b' : Nat} {e e' : TypeId} {s s' n n' : Nat} {v v' : Value} {xs xs' : List Value} (h : w.ownsRow b e s v n xs) (h' : w.ownsRow b' e' s' v' n' xs') (hne : e ≠ e') : v.ownBlock = none ∨ v.ownBlock ≠ v'.ownBlock := by
  cases hv : v.ownBlock with
  | none => exact .inl rfl
  | some g =>
    refine .inr fun e1 => ?_
    obtain ⟨cs, f, h1⟩ := own_mk h hv
    obtain ⟨cs', f', h2⟩ := own_mk h' e1.symm
    have := h1.symm.trans h2
    simp at this
    exact hne this.2.1
theorem OwnRow.mono {w : World} {base base' : Nat} {v : Value} {L : List Hd} (h : OwnRow w base v L) (hb : base' ≤ base) : OwnRow w base' v L := ⟨own_mono h.row hb, fun x hx => own_mono (h.bytes x hx) hb⟩
theorem OwnRow.later {w w' : World} {base : Nat} {v : Value} {L : List Hd} (h : OwnRow w base v L) (hb : Below w.heap.size w w') : OwnRow w' base v L := ⟨own_bel h.row hb, fun x hx => own_bel (h.bytes x hx) hb⟩
theorem OwnRow.nil (w : World) (base : Nat) : OwnRow w base (.slice none 0 0) [] := ⟨World.ownsRow_nil _ _ _ _, fun x hx => by cases hx⟩
theorem good_own {w : World} {base : Nat} {h : Hd} (ho : w.ownsRow base 5 1 h.v h.l.length (h.l.map bv)) : goodHd w w.heap.size h := by
  refine ⟨Reads.of_own ho, ?_⟩
  rcases ho.2 with ⟨e, h0⟩ | ⟨g, cap, cur, e, _, _, h1, h2, _⟩
  · have e2 : h.c = 0 := by have := e; simp [Hd.v] at this; exact this.2.2
    rw [h0, e2]
    exact ⟨Nat.le_refl _, Nat.zero_le _⟩
  · have e2 : h.c = cap := by have := e; simp [Hd.v] at this; exact this.2
    rw [e2]
    exact ⟨h1, h2⟩
/-- a slice of headers, taken apart -/
theorem OwnH.slice_ {w : World} {base : Nat} {v : Value} {L : List Hd} (h : OwnH w base v L) : ∃ A c, v = .slice A L.length c ∧ Reads w w.heap.size 1 A L.length (hdc L) ∧ L.length ≤ c ∧ c ≤ maxLen := by
  rcases h.2 with ⟨rfl, h0⟩ | ⟨g, cap, cur, rfl, _, _, h1, h2, _⟩
  · refine ⟨none, 0, by rw [h0], ?_, by omega, Nat.zero_le _⟩
    have : L = [] := List.eq_nil_of_length_eq_zero h0
    subst this
    exact Reads.none_
  · exact ⟨_, _, rfl, Reads.of_own h, h1, h2⟩
theorem OwnRow.slice_ {w : World} {base : Nat} {v : Value} {L : List Hd} (h : OwnRow w base v L) : ∃ A c, v = .slice A L.length c ∧ RowR w w.heap.size A L ∧ L.length ≤ c ∧ c ≤ maxLen := by
  obtain ⟨A, c, e, hr, h1, h2⟩ := OwnH.slice_ h.row
  exact ⟨A, c, e, ⟨hr, fun x hx => good_own (h.bytes x hx)⟩, h1, h2⟩
theorem slice_ofH {w : World} {base n : Nat} {v : Value} {xs : List Value} {e : TypeId} (h : w.ownsRow base e 1 v n xs) : ∃ A c, v = .slice A n c := by
  rcases h.2 with ⟨rfl, h0⟩ | ⟨g, cap, cur, rfl, _⟩
  · exact ⟨none, 0, by rw [h0]⟩
  · exact ⟨_, _, rfl⟩
theorem hd_info : (Try.prog.info? 23).map (fun i => (i.zero, i.size, i.bytes)) = some (some (.slice none 0 0), 1, 24) := by kernel_rfl
theorem el25 : Try.prog.underlying 25 = some (.slice (Try.prog.elem 25)) := by kernel_rfl
theorem el25' : Try.prog.underlying 25 = some (.slice 23) := by kernel_rfl
/-- a key more, behind -/
theorem OwnRow.push {w W w' : World} {base : Nat} {v v' : Value} {L : List Hd} {x : Hd} (h : OwnRow w base v L) (hx : w.ownsRow base 5 1 x.v x.l.length (x.l.map bv)) (hbW : Below w.heap.size w W) (hown : w'.ownsRow base 23 1 v' (L.length + 1) (hdc L ++ [x.v])) (hg : W.grownBy w' v.ownBlock) : OwnRow w' base v' (L ++ [x]) := by
  refine ⟨?_, fun y hy => ?_⟩
  · show w'.ownsRow base 23 1 v' (L ++ [x]).length (hdc (L ++ [x]))
    rw [List.length_append, hdc_app]
    exact hown
  · have key : ∀ y : Hd, w.ownsRow base 5 1 y.v y.l.length (y.l.map bv) → w'.ownsRow base 5 1 y.v y.l.length (y.l.map bv) := fun y hy =>
      (own_bel hy hbW).kept hg (own_types hy h.row (by decide))
    rcases List.mem_append.1 hy with hy | hy
    · exact key y (h.bytes y hy)
    · rw [List.mem_singleton.1 hy]
      exact key x hx

set_option maxHeartbeats 1000000 in
theorem own_any (A : Option Addr) (n c B : Nat) (hs : List Hd) (w : World) (h : RowR w B A hs) (hB : B ≤ w.heap.size) (hn : n = hs.length) (hsm : n ≤ 1000000) (hl : ∀ x ∈ hs, x.l.length ≤ 140737488355328) :
    Calls Try.prog 31 #[.slice A n c] w fun e w' => ∃ v, e = .returned v ∧ ∃ hs', OwnRow w' w.heap.size v hs' ∧ keys hs' = keys hs ∧ Below w.heap.size w w' := by
  obtain ⟨i0, hi0, hz0, hz1, hz2⟩ := info_parts hd_info
  have HR := hide h
  have HN := hide hn
  have HL := hide hl
  clear h hn hl
  go_enter Try.func31, Try.ntmps31
  go_wp2_with fail
  go_loopw [3, 8] (fun v3 v8 W => ∃ (i : Nat) (hs' : List Hd), i ≤ n ∧ v8 = .int .i64 i ∧ Hid (OwnRow W w.heap.size v3 hs') ∧ Hid (keys hs' = (keys hs).take i) ∧ Hid (Below w.heap.size w W)) (fun _ v8 _ => n - (intOf v8).toNat)
  case atStart => exact ⟨0, [], by omega, rfl, hide (OwnRow.nil _ _), hide rfl, hide (Below.refl _ _)⟩
  case round =>
    obtain ⟨i, hs', hi, rfl, HO, HK, HW⟩ := hrel
    have hl' : hs'.length = i := by
      have := congrArg List.length HK.out
      rw [List.length_map, List.length_take, List.length_map, ← HN.out] at this
      omega
    obtain ⟨A3, c3, rfl, hr3, _, _⟩ := HO.out.slice_
    by_cases hlt : i < n
    · obtain ⟨x, hx⟩ : ∃ x, hs[i]? = some x := ⟨_, List.getElem?_eq_getElem (by rw [← HN.out]; exact hlt)⟩
      have hkx : (keys hs)[i]? = some x.l := by rw [List.getElem?_map, hx]; rfl
      obtain ⟨ad, rfl, hab, c1⟩ := (HR.out.below (HW.out.mono hB)).at_ hx
      have hgx := (HR.out.below (HW.out.mono hB)).good x (List.mem_of_getElem? hx)
      have hiI : (i : Int) < (n : Int) := by omega
      have C1 := hide (bytesClone_any x.A x.l.length x.c B x.l wr hgx.1 (HL.out x (List.mem_of_getElem? hx)) (Nat.le_trans hB HW.out.size))
      have HL' := hide hl'
      rw [hl'] at HO ⊢
      have HKX := hide hkx
      clear hx hkx hgx hr3 hl'
      go_wp2_with fail
      refine C1.out.mono ?_
      rintro e w2 ⟨v2, rfl, ho2, hb2⟩
      obtain ⟨A2, c2, rfl⟩ := slice_ofH ho2
      have hor : OwnRow w2 w.heap.size (.slice A3 i c3) hs' := HO.out.later hb2
      have hxo : w2.ownsRow w.heap.size 5 1 (Hd.v ⟨A2, c2, x.l⟩) (Hd.l ⟨A2, c2, x.l⟩).length ((Hd.l ⟨A2, c2, x.l⟩).map bv) := own_mono ho2 HW.out.size
      have HOR := hide hor
      have HXO := hide hxo
      have HB2 := hide (belFrom HW.out hb2)
      have hrow : w2.ownsRow w.heap.size 23 1 (.slice A3 i c3) i (hdc hs') := by
        have h := hor.row
        unfold OwnH at h
        rw [HL'.out] at h
        exact h
      have HROW := hide hrow
      have hsz := HB2.out.size
      clear ho2 hb2 hor hxo hrow C1 HO
      go_wp2_with (at_builtin; refine wpList_append_any _ rfl (.tmp 12) (.tmp 15) 25 rfl w.heap.size 23 i0 _ 1 24 el25' hi0 hz0 hz1 hz2 rfl (by omega) (.slice A3 i c3) i (hdc hs') rfl (HROW.out.alloc _) (w2.heap.size + 1) (some ⟨w2.heap.size, 0, none⟩) 1 1 [.slice A2 x.l.length c2] rfl (Reads.ofBlk (Blk.new w2 23 _) rfl) (fun u hu => by rw [List.mem_singleton.1 hu]; rfl) (by unfold maxLen; omega) (by omega) (by simp; omega) ?_; intro v4 w4 ho4 hg4 hat4; obtain ⟨A4, c4, rfl⟩ := slice_ofH ho4)
      have hpush : OwnRow w4 w.heap.size (.slice A4 (i + 1) c4) (hs' ++ [⟨A2, c2, x.l⟩]) := HOR.out.push HXO.out (bel1 w2 _) (by rw [HL'.out]; exact ho4) hg4
      have hb4 : Below w.heap.size w w4 := (balloc HB2.out _).grown hg4 (by simp; omega) (fun j hj => (own_lt HROW.out hj).1)
      go_roundw
      case rel =>
        refine ⟨i + 1, _, by omega, by go_num, hide hpush, hide ?_, hide hb4⟩
        show (hs' ++ [(⟨A2, c2, x.l⟩ : Hd)]).map Hd.l = _
        rw [List.map_append, List.take_add_one, HKX.out]
        show keys hs' ++ [x.l] = _
        rw [HK.out]
        rfl
      case measure => simp [intOf]; omega
    · obtain rfl : i = n := by omega
      rw [hl'] at HO ⊢
      clear hr3 hl'
      have hnl : ¬ (i : Int) < i := by omega
      go_wp2_with fail
      go_ret
      exact ⟨_, rfl, hs', HO.out, by rw [HK.out, List.take_of_length_le (by rw [List.length_map, ← HN.out]; exact Nat.le_refl _)], HW.out⟩
end Go.Proofs.Yteiamfekdibkmaa
