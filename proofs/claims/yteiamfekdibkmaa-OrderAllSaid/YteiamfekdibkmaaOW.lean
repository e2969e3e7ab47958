/-
  ROWS OF KEYS IN MEMORY: headers and what they lead to; the walks of key.May, key.Compare, bytes.Clone, bytes.Equal. Conditions: as the theorems' premises say.
-/
import Derived.Test.YteiamfekdibkmaaProg
import Derived.Test.YteiamfekdibkmaaODef
import Derived.Test.YteiamfekdibkmaaLib
import Derived.WalkKit
import Derived.WalkSpells
import Derived.WalkLawsBesides
import Derived.KernelRfl
namespace Go.Proofs.Yteiamfekdibkmaa
open Go.RowKit

theorem ret_bool {a b : Bool} (h : a = b) : Ending.returned (.bool a) = .returned (.bool b) := by rw [h]
theorem ret_int {k : IntKind} {a b : Int} (h : a = b) : Ending.returned (.int k a) = .returned (.int k b) := by rw [h]
theorem strOf_toList (l : List UInt8) : (strOf l).toList = l := ByteArray.toList_mk l
theorem loadBytes_run {P : Program} {w : World} : ∀ (l : List UInt8) (a : Addr) (acc : ByteArray), (∀ j x, l[j]? = some x → w.cell? (a.add j) = some (.int .u8 x.toNat)) →
    (Extern.Bytes.loadBytes a l.length acc).run P w = .ok ⟨acc.data ++ l.toArray⟩ w
  | [], a, acc, _ => by simp [Extern.Bytes.loadBytes]
  | x :: l, a, acc, h => by
    have h0 : w.cell? a = some (.int .u8 x.toNat) := by
      have := h 0 x rfl
      simpa [Addr.add] using this
    have ih := loadBytes_run (P := P) l (a.add 1) (acc.push x) (fun j y hy => by
      have := h (j + 1) y (by simpa using hy)
      rw [add_add_, Nat.add_comm 1 j]
      exact this)
    have hx : ((x.toNat : Int).toNat).toUInt8 = x := by simp
    simp only [List.length_cons, Extern.Bytes.loadBytes, Sem.run_bind, run_load, h0, Result.andThen, hx]
    rw [ih]
    congr 1
    apply ByteArray.ext
    simp
theorem bytesOf_run {P : Program} {w : World} {B : Nat} {A : Option Addr} {n c : Nat} {l : List UInt8} (h : Bs w B A n l) : (Extern.Bytes.bytesOf (.slice A n c)).run P w = .ok (strOf l) w := by
  have hn := h.len
  rcases A with _ | ad
  · rcases Nat.eq_zero_or_pos n with h0 | h0
    · have : l = [] := List.eq_nil_of_length_eq_zero (by omega)
      subst this
      rfl
    · obtain ⟨ad, e, _⟩ := h.addr (by simp; omega)
      cases e
  · have h1 := loadBytes_run (P := P) (w := w) l ad .empty (fun j x hx => by
      obtain ⟨ad', e, _, hc⟩ := h.2 j (bv x) (by rw [List.getElem?_map, hx]; rfl)
      cases e
      exact hc)
    rw [hn] at h1
    show (Extern.Bytes.loadBytes ad n .empty).run P w = _
    rw [h1]
    congr 1
    apply ByteArray.ext
    simp [strOf]
theorem compare_run {P : Program} {w : World} {B B' : Nat} {A A' : Option Addr} {n c m d : Nat} {l l' : List UInt8} (h : Bs w B A n l) (h' : Bs w B' A' m l') :
    (Extern.BytealgCompare.compare #[.slice A n c, .slice A' m d]).run P w = .ok (.int .i64 (cmpK l l')) w := by
  change Sem.run P (do pure (goInt (Extern.BytealgCompare.cmp (← Extern.Bytes.bytesOf (.slice A n c)) (← Extern.Bytes.bytesOf (.slice A' m d))))) w = _
  simp only [Sem.run_bind, bytesOf_run h, bytesOf_run h', Sem.run_pure, Result.andThen]
  rw [Go.Lib.cmp_eq]
  rfl
theorem compare46 {w : World} {B B' : Nat} {A A' : Option Addr} {n c m d : Nat} {l l' : List UInt8} (h : Bs w B A n l) (h' : Bs w B' A' m l') :
    (callFunc 46 #[.slice A n c, .slice A' m d]).run Try.prog w = .ok (.value (.int .i64 (cmpK l l'))) w := by
  rw [run_callFunc_extern Try.func46 (by kernel_rfl) (by kernel_rfl) (by kernel_rfl) (e := Extern.BytealgCompare.compare) (by kernel_rfl), compare_run h h']
  rfl
/-- a header: where its bytes lie, how many may, what they are -/
structure Hd where
  A : Option Addr
  c : Nat
  l : Key
instance : Inhabited Hd := ⟨⟨none, 0, []⟩⟩
def Hd.v (h : Hd) : Value := .slice h.A h.l.length h.c
abbrev keys (hs : List Hd) : List Key := hs.map Hd.l
theorem hd_one (hs : List Hd) : ∀ u ∈ hs.map Hd.v, u.oneCell' = true := by
  intro u hu
  obtain ⟨h, _, rfl⟩ := List.mem_map.1 hu
  rfl
def goodHd (w : World) (B : Nat) (h : Hd) : Prop := Bs w B h.A h.l.length h.l ∧ h.l.length ≤ h.c ∧ h.c ≤ maxLen
/-- a slice that reads as a row of keys -/
structure RowR (w : World) (B : Nat) (A : Option Addr) (hs : List Hd) : Prop where
  rd : Reads w B 1 A hs.length (hs.map Hd.v)
  good : ∀ h ∈ hs, goodHd w B h
theorem goodHd.below {w w' : World} {B : Nat} {h : Hd} (g : goodHd w B h) (hb : Below B w w') : goodHd w' B h := ⟨Reads.below g.1 hb, g.2⟩
theorem goodHd.more {w : World} {B B' : Nat} {h : Hd} (g : goodHd w B h) (hB : B ≤ B') : goodHd w B' h := ⟨Reads.more g.1 hB, g.2⟩
theorem RowR.below {w w' : World} {B : Nat} {A : Option Addr} {hs : List Hd} (h : RowR w B A hs) (hb : Below B w w') : RowR w' B A hs := ⟨h.rd.below hb, fun x hx => (h.good x hx).below hb⟩
theorem RowR.more {w : World} {B B' : Nat} {A : Option Addr} {hs : List Hd} (h : RowR w B A hs) (hB : B ≤ B') : RowR w B' A hs := ⟨h.rd.more hB, fun x hx => (h.good x hx).more hB⟩
theorem RowR.at_ {w : World} {B : Nat} {A : Option Addr} {hs : List Hd} (h : RowR w B A hs) {k : Nat} {x : Hd} (hk : hs[k]? = some x) : ∃ ad, A = some ad ∧ ad.block < B ∧ w.cell? (ad.add k) = some (.slice x.A x.l.length x.c) :=
  h.rd.2 k x.v (by rw [List.getElem?_map, hk]; rfl)

/-! ### small functions -/
theorem may1_any (A : Option Addr) (n c : Nat) (l : Key) (hn : n = l.length) (w : World) : Calls Try.prog 38 #[.slice A n c] w fun e w' => e = .returned (.bool (mayK l)) ∧ w = w' := by
  unfold mayK
  rw [← hn]
  clear hn
  by_cases h1 : 1 ≤ n
  · have h1' : (1 : Int) ≤ (n : Int) := by omega
    by_cases h2 : n ≤ 64
    · have h2' : (n : Int) ≤ 64 := by omega
      rw [decide_eq_true h1, decide_eq_true h2]
      go_enter Try.func38, Try.ntmps38
      go_wp2
      go_ret
      exact ⟨rfl, rfl⟩
    · have h2' : ¬ (n : Int) ≤ 64 := by omega
      rw [decide_eq_true h1, decide_eq_false h2]
      go_enter Try.func38, Try.ntmps38
      go_wp2
      go_ret
      exact ⟨rfl, rfl⟩
  · have h1' : ¬ (1 : Int) ≤ (n : Int) := by omega
    rw [decide_eq_false h1, Bool.false_and]
    go_enter Try.func38, Try.ntmps38
    go_wp2
    go_ret
    exact ⟨rfl, rfl⟩
theorem bcmp_any (A A' : Option Addr) (n c m d B B' : Nat) (l l' : Key) (w : World) (h : Bs w B A n l) (h' : Bs w B' A' m l') :
    Calls Try.prog 37 #[.slice A n c, .slice A' m d] w fun e w' => e = .returned (.int .i64 (cmpK l l')) ∧ w = w' := by
  have k1 := compare46 (c := c) (d := d) h h'
  generalize cmpK l l' = r at k1 ⊢
  clear h h'
  go_enter Try.func37, Try.ntmps37
  go_wp2
  go_ret
  exact ⟨rfl, rfl⟩
theorem kcmp_any (A A' : Option Addr) (n c m d B B' : Nat) (l l' : Key) (w : World) (h : Bs w B A n l) (h' : Bs w B' A' m l') :
    Calls Try.prog 12 #[.slice A n c, .slice A' m d] w fun e w' => e = .returned (.int .i64 (cmpK l l')) ∧ w = w' := by
  have C := hide (bcmp_any A A' n c m d B B' l l' w h h')
  generalize cmpK l l' = r at C ⊢
  clear h h'
  go_enter Try.func12, Try.ntmps12
  go_wp2_with fail
  refine C.out.mono ?_
  rintro e w1 ⟨rfl, rfl⟩
  go_wp2_with fail
  go_ret
  exact ⟨rfl, rfl⟩
set_option maxHeartbeats 400000 in
theorem bytesEqual_any (A A' : Option Addr) (n c m d B B' : Nat) (l l' : List UInt8) (w : World) (h : Bs w B A n l) (h' : Bs w B' A' m l') :
    Calls Try.prog 45 #[.slice A n c, .slice A' m d] w fun e w' => e = .returned (.bool (l == l')) ∧ w = w' := by
  have k1 := conv_bytes (P := Try.prog) h c 23 5 9 Try.underlying23 Try.underlying5 Try.underlying9
  have k2 := conv_bytes (P := Try.prog) h' d 23 5 9 Try.underlying23 Try.underlying5 Try.underlying9
  clear h h'
  go_enter Try.func45, Try.ntmps45
  go_wp2
  go_ret
  exact ⟨ret_bool (by simp [strOf_toList]), rfl⟩
theorem u8_info : (Try.prog.info? 5).map (fun i => (i.zero, i.size, i.bytes)) = some (some (.int .u8 0), 1, 1) := by kernel_rfl
theorem bv_one (l : List UInt8) : ∀ u ∈ l.map bv, u.oneCell' = true := by
  intro u hu
  obtain ⟨b, _, rfl⟩ := List.mem_map.1 hu
  rfl
set_option maxHeartbeats 400000 in
theorem bytesClone_any (A : Option Addr) (n c B : Nat) (l : List UInt8) (w : World) (h : Bs w B A n l) (hn : n ≤ 140737488355328) (hB : B ≤ w.heap.size) :
    Calls Try.prog 36 #[.slice A n c] w fun e w' => ∃ v, e = .returned v ∧ w'.ownsRow w.heap.size 5 1 v n (l.map bv) ∧ Below w.heap.size w w' := by
  obtain ⟨i0, hi, hz0, hz1, hz2⟩ := info_parts u8_info
  have q := fun (w : World) (a : Option Addr) (n c n' c' : Nat) => Lib.run_eql_slice_nil (P := Try.prog) w 23 5 a n c n' c' Try.underlying23
  rcases A with _ | ad
  · have hl : l = [] ∧ n = 0 := by
      rcases Nat.eq_zero_or_pos n with h0 | h0
      · exact ⟨List.eq_nil_of_length_eq_zero (by rw [h.len]; exact h0), h0⟩
      · obtain ⟨_, h1, _⟩ := h.addr (by simp [h.len]; omega)
        cases h1
    obtain ⟨rfl, rfl⟩ := hl
    clear h
    go_enter Try.func36, Try.ntmps36
    go_wp2
    go_ret
    exact ⟨_, rfl, ⟨by simp, .inl ⟨rfl, rfl⟩⟩, Below.refl _ _⟩
  · have h2 : Reads (w.alloc (.cells #[] 5)) B 1 (some ad) n (l.map bv) := Reads.alloc h hB _
    clear h
    go_enter Try.func36, Try.ntmps36
    go_wp2_with (at_builtin; refine wpList_append_any _ rfl (.tmp 5) (.tmp 6) 23 rfl w.heap.size 5 i0 _ 1 1 Try.underlying23 hi hz0 hz1 hz2 rfl (by omega) (.slice (some ⟨w.heap.size, 0, none⟩) 0 0) 0 [] rfl (World.ownsRow_made w #[] 0 (Nat.le_refl _) (Nat.zero_le _) rfl) B (some ad) n c (l.map bv) rfl h2 (bv_one l) (by unfold maxLen; omega) (by omega) (by simp) ?_; intro v1 w1 hown hg hat)
    go_ret
    exact ⟨v1, rfl, by simpa using hown, (bel1 _ _).grown hg (by simp) (by intro k hk; simp [Value.ownBlock] at hk; omega)⟩

/-! ### is it a row? -/
theorem rowOk_next {l : List Key} {i : Nat} {k : Key} (h : RowOk (l.take i)) (hk : l[i]? = some k) (h1 : mayK k = true) (h2 : ∀ j p, i = j + 1 → l[j]? = some p → ltK p k) : RowOk (l.take (i + 1)) := by
  rw [List.take_add_one, hk]
  refine ⟨fun x hx => ?_, List.pairwise_append.2 ⟨h.2, List.pairwise_singleton _ _, fun x hx y hy => ?_⟩⟩
  · rcases List.mem_append.1 hx with hx | hx
    · exact h.1 x hx
    · have : x = k := by simpa using hx
      subst this
      exact h1
  · have : y = k := by simpa using hy
    subst this
    obtain ⟨a, ha⟩ := List.mem_iff_getElem?.1 hx
    rw [List.getElem?_take] at ha
    split at ha
    · rename_i hai
      obtain ⟨j, rfl⟩ : ∃ j, i = j + 1 := ⟨i - 1, by omega⟩
      obtain ⟨p, hp⟩ : ∃ p, l[j]? = some p := ⟨_, List.getElem?_eq_getElem (by have := (List.getElem?_eq_some_iff.1 hk).1; omega)⟩
      have h3 := h2 j p rfl hp
      by_cases haj : a = j
      · subst haj
        rw [hp] at ha
        cases ha
        exact h3
      · have h4 := pair_lt h.2 (i := a) (j := j) (by omega) (by rw [List.getElem?_take, if_pos hai]; exact ha) (by rw [List.getElem?_take, if_pos (by omega)]; exact hp)
        exact ltK_trans h4 h3
    · cases ha
theorem mayR_false {l : List Key} (h : ¬ RowOk l) : mayR l = false := by
  cases hm : mayR l with
  | false => rfl
  | true => exact absurd (mayR_iff.1 hm) h
set_option maxHeartbeats 1000000 in
theorem may_any (A : Option Addr) (n c B : Nat) (hs : List Hd) (w : World) (h : RowR w B A hs) (hn : n = hs.length) (hsm : n ≤ maxLen) :
    Calls Try.prog 13 #[.slice A n c] w fun e w' => e = .returned (.bool (mayR (keys hs))) ∧ w = w' := by
  have HR := hide h
  have HN := hide hn
  clear h hn
  unfold maxLen at hsm
  go_enter Try.func13, Try.ntmps13
  go_wp2_with fail
  go_loopw [7] (fun v7 W => ∃ i : Nat, i ≤ n ∧ v7 = .int .i64 i ∧ Hid (RowOk ((keys hs).take i)) ∧ W = w) (fun v7 _ => n - (intOf v7).toNat)
  case atStart => exact ⟨0, by omega, rfl, hide ⟨fun k hk => (by simp at hk), (by simp)⟩, rfl⟩
  case round =>
    obtain ⟨i, hi, rfl, HO, rfl⟩ := hrel
    by_cases hlt : i < n
    · obtain ⟨x, hx⟩ : ∃ x, hs[i]? = some x := ⟨_, List.getElem?_eq_getElem (by rw [← HN.out]; exact hlt)⟩
      have hkx : (keys hs)[i]? = some x.l := by rw [List.getElem?_map, hx]; rfl
      obtain ⟨ad, rfl, hab, c1⟩ := HR.out.at_ hx
      have hgx := HR.out.good x (List.mem_of_getElem? hx)
      have hiI : (i : Int) < (n : Int) := by omega
      have C1 := hide (may1_any x.A x.l.length x.c x.l rfl wr)
      have HKX := hide hkx
      have HGX := hide hgx
      clear hx hkx hgx
      cases hm : mayK x.l with
      | false =>
        rw [hm] at C1
        have HM := hide hm
        clear hm
        go_wp2_with fail
        refine C1.out.mono ?_
        rintro e w2 ⟨rfl, rfl⟩
        go_wp2_with fail
        go_ret
        refine ⟨ret_bool ?_, rfl⟩
        rw [mayR_false]
        intro hok
        have := hok.1 _ (List.mem_of_getElem? HKX.out)
        rw [HM.out] at this
        cases this
      | true =>
        rw [hm] at C1
        have HM := hide hm
        clear hm
        by_cases hi0 : i = 0
        · have hi0' : ¬ (0 : Int) < (i : Int) := by omega
          have HI0 := hide hi0
          clear hi0
          go_wp2_with fail
          refine C1.out.mono ?_
          rintro e w2 ⟨rfl, rfl⟩
          go_wp2_with fail
          go_roundw
          case rel => exact ⟨i + 1, by omega, by go_num, hide (rowOk_next HO.out HKX.out HM.out (fun j p hj _ => by have := HI0.out; omega)), by first | trivial | rfl⟩
          case measure => simp [intOf]; omega
        · obtain ⟨j, hj⟩ : ∃ j : Nat, (i : Int) - 1 = (j : Int) := ⟨i - 1, by omega⟩
          have hjn : i = j + 1 := by omega
          obtain ⟨y, hy⟩ : ∃ y, hs[j]? = some y := ⟨_, List.getElem?_eq_getElem (by rw [← HN.out]; omega)⟩
          have hky : (keys hs)[j]? = some y.l := by rw [List.getElem?_map, hy]; rfl
          obtain ⟨ad', hade, _, c2⟩ := HR.out.at_ hy
          cases hade
          have hgy := HR.out.good y (List.mem_of_getElem? hy)
          have C2 := hide (kcmp_any y.A x.A y.l.length y.c x.l.length x.c B B y.l x.l wr hgy.1 HGX.out.1)
          have hi0' : (0 : Int) < (i : Int) := by omega
          have hjI : (j : Int) < (n : Int) := by omega
          have HJN := hide hjn
          have HKY := hide hky
          clear hy hky hgy hi0 hjn
          by_cases hlk : ltK y.l x.l
          · have hl2 : cmpK y.l x.l < 0 := hlk
            have HL := hide hlk
            clear hlk
            generalize cmpK y.l x.l = r at C2 hl2
            have hl3 : ¬ (0 : Int) ≤ r := by omega
            go_wp2_with fail
            refine C1.out.mono ?_
            rintro e w2 ⟨rfl, rfl⟩
            go_wp2_with fail
            refine C2.out.mono ?_
            rintro e w2 ⟨rfl, rfl⟩
            go_wp2_with fail
            go_roundw
            case rel =>
              refine ⟨i + 1, by omega, by go_num, hide (rowOk_next HO.out HKX.out HM.out (fun j' p hj' hp => ?_)), by first | trivial | rfl⟩
              have h1 := HJN.out
              obtain rfl : j' = j := by omega
              rw [HKY.out] at hp
              cases hp
              exact HL.out
            case measure => simp [intOf]; omega
          · have hl2 : ¬ cmpK y.l x.l < 0 := hlk
            have HL := hide hlk
            clear hlk
            generalize cmpK y.l x.l = r at C2 hl2
            have hl3 : (0 : Int) ≤ r := by omega
            go_wp2_with fail
            refine C1.out.mono ?_
            rintro e w2 ⟨rfl, rfl⟩
            go_wp2_with fail
            refine C2.out.mono ?_
            rintro e w2 ⟨rfl, rfl⟩
            go_wp2_with fail
            go_ret
            refine ⟨ret_bool ?_, rfl⟩
            rw [mayR_false]
            intro hok
            have h1 := HJN.out
            exact HL.out (pair_lt hok.2 (by omega) HKY.out HKX.out)
    · obtain rfl : i = n := by omega
      have hnl : ¬ (i : Int) < i := by omega
      go_wp2_with fail
      go_ret
      refine ⟨ret_bool ?_, rfl⟩
      have h1 := HO.out
      rw [List.take_of_length_le (by rw [List.length_map, ← HN.out]; exact Nat.le_refl _)] at h1
      rw [mayR_iff.2 h1]
end Go.Proofs.Yteiamfekdibkmaa
