/-
  THE WALKS of the file's functions: New, Size, Safe, Loose, Read, all. Conditions: as the theorems' premises say.
-/
import Derived.Test.YthkflglmgadlmaaFSmall
namespace Go.Proofs.Ythkflglmgadlmaa
open Go.RowKit

theorem own_mono {w : World} {base base' : Nat} {e : TypeId} {size n : Nat} {v : Value} {xs : List Value} (h : w.ownsRow base e size v n xs) (hb : base' ≤ base) : w.ownsRow base' e size v n xs := by
  obtain ⟨h1, h2⟩ := h
  refine ⟨h1, ?_⟩
  rcases h2 with h2 | ⟨g, cap, cur, rfl, hb', r⟩
  · exact .inl h2
  · exact .inr ⟨g, cap, cur, rfl, by omega, r⟩
theorem DdVs.mono {w : World} {base base' : Nat} (hb : base' ≤ base) : ∀ {vs : List Value} {ds : List Dd}, DdVs w base vs ds → DdVs w base' vs ds
  | [], [], _ => trivial
  | _ :: _, d :: _, h => by
    refine ⟨?_, DdVs.mono hb h.2⟩
    cases d with
    | add l =>
      obtain ⟨A, c, hv, ho⟩ := h.1
      exact ⟨A, c, hv, own_mono ho hb⟩
    | cut c => exact h.1
  | [], _ :: _, h => h.elim
  | _ :: _, [], h => h.elim
theorem FlAt.mono {w : World} {base base' p : Nat} {d : Option Nat} {F : Fl} (h : FlAt w base p d F) (hb : base' ≤ base) : FlAt w base' p d F := by
  obtain ⟨sA, sc, nA, nc, D, dv, h1, h2, h3, h4, h5, h6⟩ := h.ex
  exact ⟨⟨sA, sc, nA, nc, D, dv, h1, own_mono h2 hb, own_mono h3 hb, own_mono h4 hb, h5, h6.mono hb⟩, by have := h.hp; omega, h.ok⟩

/-- a new file -/
def NewPost (w : World) (F : Fl) (e : Ending) (w' : World) : Prop := ∃ p d, e = .returned (.pointer (some ⟨p, 0, none⟩)) ∧ FlAt w' w.heap.size p d F ∧ Below w.heap.size w w'

set_option maxHeartbeats 400000 in
theorem new_any (A : Option Addr) (n c B : Nat) (l : List UInt8) (w : World) (h : Bs w B A n l) (hn : n ≤ 140737488355328) (hB : B ≤ w.heap.size) :
    Calls Try.prog 7 #[.slice A n c] w (NewPost w (.rest l)) := by
  have hl := h.len
  subst hl
  go_enter Try.func7, Try.ntmps7
  go_wp2_with fail
  refine (bytesClone_any A _ c B l w h hn hB).mono ?_
  rintro e w1 ⟨v1, rfl, ho1, hb1⟩
  go_wp2_with fail
  refine (bytesClone_any A _ c B l w1 (h.below (hb1.mono hB)) hn (Nat.le_trans hB hb1.size)).mono ?_
  rintro e w2 ⟨v2, rfl, ho2, hb2⟩
  obtain ⟨A1, c1, rfl, _, _⟩ := own5_len ho1
  obtain ⟨A2, c2, rfl, _, _⟩ := own5_len ho2
  go_wp2_with fail
  go_ret
  have hb3 := belFrom hb1 hb2
  exact ⟨w2.heap.size, none, rfl, ⟨⟨A1, c1, A2, c2, .slice none 0 0, [], Blk.new w2 51 _, (ho1.kept (only_of_below hb2 none) (Classical.em _)).alloc _, own_mono (ho2.alloc _) hb1.size, ⟨rfl, .inl ⟨rfl, rfl⟩⟩, rfl, trivial⟩, hb3.size, Fl.ok_rest l⟩, balloc hb3 _⟩

set_option maxHeartbeats 400000 in
theorem size_any {base p : Nat} {d : Option Nat} {F : Fl} {w : World} (h : FlAt w base p d F) : Calls Try.prog 15 #[.pointer (some ⟨p, 0, none⟩)] w fun e w' => e = .returned (.int .i64 F.now.length) ∧ w = w' := by
  obtain ⟨sA, sc, nA, nc, D, dv, h1, h2, h3, h4, h5, h6⟩ := h.ex
  obtain ⟨c1, f1, s1⟩ := h1.facts
  clear h h1 h2 h3 h4 h5 h6
  go_enter Try.func15, Try.ntmps15
  go_wp2_with fail
  go_ret
  exact ⟨rfl, rfl⟩
set_option maxHeartbeats 400000 in
theorem safe_any {base p : Nat} {d : Option Nat} {F : Fl} {w : World} (h : FlAt w base p d F) : Calls Try.prog 14 #[.pointer (some ⟨p, 0, none⟩)] w fun e w' => e = .returned (.int .i64 F.safe.length) ∧ w = w' := by
  obtain ⟨sA, sc, nA, nc, D, dv, h1, h2, h3, h4, h5, h6⟩ := h.ex
  obtain ⟨c1, f1, s1⟩ := h1.facts
  clear h h1 h2 h3 h4 h5 h6
  go_enter Try.func14, Try.ntmps14
  go_wp2_with fail
  go_ret
  exact ⟨rfl, rfl⟩

theorem loose_take (ds : List Dd) (i : Nat) (d : Dd) (h : ds[i]? = some d) : loose (ds.take (i + 1)) = loose (ds.take i) + d.units := by
  rw [List.take_add_one, h, loose_append]
  simp [loose]
theorem loose_take_le (ds : List Dd) (i : Nat) : loose (ds.take i) ≤ loose ds := by
  have := loose_append (ds.take i) (ds.drop i)
  rw [List.take_append_drop] at this
  omega

theorem m_units_add (A : Option Addr) (n c : Nat) (w : World) : (method 179 61 (.slice A n c) "hourbook/file.units").run Try.prog w = .ok (43, .slice A n c) w := by kernel_rfl
theorem m_units_cut (c : Int) (w : World) : (method 179 62 (.int .i64 c) "hourbook/file.units").run Try.prog w = .ok (45, .int .i64 c) w := by kernel_rfl
theorem m_does_add (A : Option Addr) (n c : Nat) (w : World) : (method 179 61 (.slice A n c) "hourbook/file.does").run Try.prog w = .ok (42, .slice A n c) w := by kernel_rfl
theorem m_does_cut (c : Int) (w : World) : (method 179 62 (.int .i64 c) "hourbook/file.does").run Try.prog w = .ok (44, .int .i64 c) w := by kernel_rfl

set_option maxHeartbeats 400000 in
theorem loose_any {base p : Nat} {d : Option Nat} {F : Fl} {w : World} (h : FlAt w base p d F) (hsm : F.loose ≤ 1000000) : Calls Try.prog 10 #[.pointer (some ⟨p, 0, none⟩)] w fun e w' => e = .returned (.int .i64 F.loose) ∧ w = w' := by
  obtain ⟨sA, sc, nA, nc, D, dv, h1, h2, h3, h4, h5, h6⟩ := h.ex
  obtain ⟨c1, f1, s1⟩ := h1.facts
  have hdl := h6.len
  have hcount := F.count h.ok
  have hlen : dv.length ≤ 1000000 := by omega
  have hsl : ∃ A c, D = .slice A dv.length c := by
    rcases h4.2 with ⟨rfl, h0⟩ | ⟨g, cap, cur, rfl, _⟩
    · exact ⟨_, _, by rw [h0]⟩
    · exact ⟨_, _, rfl⟩
  obtain ⟨DA, dc, rfl⟩ := hsl
  have hrd : Reads w w.heap.size 1 DA dv.length dv := Reads.of_own h4
  obtain ⟨m, hm⟩ : ∃ m, m = dv.length := ⟨_, rfl⟩
  rw [← hm] at hlen
  rw [← hm] at c1
  have HM := hide hm
  have H6 := hide h6
  have HRD := hide hrd
  have HDL := hide hdl
  clear h h1 h2 h3 h4 h5 h6 hm hrd hdl
  go_enter Try.func10, Try.ntmps10
  go_wp2_with fail
  go_loop [3, 5, 13] (fun v3 _ v13 => ∃ i : Nat, i ≤ m ∧ v13 = .int .i64 i ∧ v3 = .int .i64 (loose (F.deeds.take i))) (fun _ _ v13 => m - (intOf v13).toNat)
  case atStart => exact ⟨0, by omega, rfl, rfl⟩
  case round =>
    obtain ⟨i, hi, rfl, rfl⟩ := hrel
    by_cases hlt : i < m
    · have hi2 : i < F.deeds.length := by have := HM.out; have := HDL.out; omega
      have hd : F.deeds[i]? = some F.deeds[i] := List.getElem?_eq_getElem hi2
      generalize F.deeds[i]'hi2 = d1 at hd
      obtain ⟨v, hv, hdv⟩ := H6.out.at_ hd
      obtain ⟨ad, rfl, hab, hc⟩ := HRD.out.addr (by have := HM.out; omega)
      have c2 := hc i v hv
      have hlt2 := loose_take _ _ _ hd
      have hle := loose_take_le F.deeds (i + 1)
      have HL := hide hlt2
      unfold Fl.loose at hsm
      clear hlt2 hd hv hc
      cases d1 with
      | add l =>
        obtain ⟨A, c, rfl, ho⟩ := hdv
        have mm := m_units_add A l.length c
        go_wp2_with fail
        refine (addUnits_any A l.length c _).mono ?_
        rintro e w1 ⟨rfl, rfl⟩
        have hu : (Dd.add l).units = l.length := rfl
        rw [hu] at HL
        have hb1 : loose (F.deeds.take i) + l.length ≤ 1000000 := by have := HL.out; omega
        clear hu
        go_wp2_with fail
        go_round
        case rel => exact ⟨i + 1, by omega, by go_num, by rw [HL.out]; go_num⟩
        case measure => simp [intOf]; omega
      | cut c =>
        obtain rfl := hdv
        have mm := m_units_cut c
        go_wp2_with fail
        refine (cutUnits_any c _).mono ?_
        rintro e w1 ⟨rfl, rfl⟩
        have hu : (Dd.cut c).units = 1 := rfl
        rw [hu] at HL
        have hb1 : loose (F.deeds.take i) + 1 ≤ 1000000 := by have := HL.out; omega
        clear hu
        go_wp2_with fail
        go_round
        case rel => exact ⟨i + 1, by omega, by go_num, by rw [HL.out]; go_num⟩
        case measure => simp [intOf]; omega
    · obtain rfl : i = m := by omega
      have hnl : ¬ (i : Int) < i := by omega
      go_wp2_with fail
      go_ret
      refine ⟨ret_int ?_, rfl⟩
      rw [List.take_of_length_le (by have := HM.out; have := HDL.out; omega)]
      rfl

/-- bytes in new memory, and a number -/
def ReadPost (w : World) (y : List UInt8 × Int) (e : Ending) (w' : World) : Prop := ∃ A c, e = .returned (.tuple #[.slice A y.1.length c, .int .i64 y.2]) ∧ Own5 w' w.heap.size (.slice A y.1.length c) y.1 ∧ Below w.heap.size w w'
theorem bs_sub {w : World} {B : Nat} {a : Addr} {n i k : Nat} {l : List UInt8} (h : Bs w B (some a) n l) (hk : i + k ≤ n) : Bs w B (some (a.add i)) k ((l.drop i).take k) := by
  have hl := h.len
  refine ⟨by simp; omega, fun j u hu => ?_⟩
  have hj : j < k := by
    have := (List.getElem?_eq_some_iff.1 hu).1
    simp at this
    omega
  have h2 : (l.map bv)[i + j]? = some u := by
    rw [List.map_take, List.getElem?_take_of_lt hj, List.map_drop, List.getElem?_drop] at hu
    exact hu
  obtain ⟨ad, e, hb, hc⟩ := h.2 (i + j) u h2
  cases e
  exact ⟨a.add i, rfl, by rw [add_block]; exact hb, by rw [add_add_]; exact hc⟩
theorem bs_empty (w : World) (B : Nat) (A : Option Addr) : Bs w B A 0 [] := ⟨rfl, fun j u hu => by simp at hu⟩

set_option maxHeartbeats 400000 in
theorem read_ok {base p : Nat} {d : Option Nat} {F : Fl} {w : World} (h : FlAt w base p d F) (i k : Nat) (hik : i + k ≤ F.now.length) (hsm : F.now.length ≤ 1000000) :
    Calls Try.prog 21 #[.pointer (some ⟨p, 0, none⟩), .int .i64 i, .int .i64 k] w (ReadPost w ((F.now.drop i).take k, 0)) := by
  obtain ⟨sA, sc, nA, nc, D, dv, h1, h2, h3, h4, h5, h6⟩ := h.ex
  obtain ⟨c1, f1, s1⟩ := h1.facts
  obtain ⟨_, _, e, hcap, hcm⟩ := own5_len h3
  cases e
  unfold maxLen at hcm
  have hb : Bs w w.heap.size nA F.now.length F.now := Reads.of_own h3
  have hrl : ((F.now.drop i).take k).length = k := by simp; omega
  obtain ⟨n, hn⟩ : ∃ n, n = F.now.length := ⟨_, rfl⟩
  rw [← hn] at hik hsm hcap c1 hb
  have HRL := hide hrl
  have HB := hide hb
  clear h h1 h2 h3 h4 h5 h6 hrl hb hn
  have hg1 : i ≤ n := by omega
  have hg2 : k ≤ n - i := by omega
  have hg3 : (k : Int) ≤ (n : Int) - (i : Int) := by omega
  have hg4 : i + k ≤ nc := by omega
  have fin : ∀ (A : Option Addr) (c : Nat), Bs w w.heap.size A k ((F.now.drop i).take k) → Calls Try.prog 20 #[.slice A k c] w fun e w' => ∃ v, e = .returned v ∧ w'.ownsRow w.heap.size 5 1 v k (((F.now.drop i).take k).map bv) ∧ Below w.heap.size w w' :=
    fun A c hb => bytesClone_any A k c w.heap.size _ w hb (by omega) (Nat.le_refl _)
  have FIN := hide fin
  clear fin
  have shut : ∀ (v : Value) (w1 : World), w1.ownsRow w.heap.size 5 1 v k (((F.now.drop i).take k).map bv) → Below w.heap.size w w1 → ReadPost w ((F.now.drop i).take k, 0) (.returned (.tuple #[v, .int .i64 0])) w1 := by
    intro v w1 ho hb1
    have ho' : Own5 w1 w.heap.size v ((F.now.drop i).take k) := by show w1.ownsRow _ 5 1 v ((F.now.drop i).take k).length _; rw [HRL.out]; exact ho
    obtain ⟨A', c', rfl, _, _⟩ := own5_len ho'
    exact ⟨A', c', rfl, ho', hb1⟩
  have SH := hide shut
  clear shut
  rcases nA with _ | a
  · have hn0 : n = 0 := by
      rcases Nat.eq_zero_or_pos n with h0 | h0
      · exact h0
      · obtain ⟨_, h1, _⟩ := HB.out.addr (by rw [List.length_map, HB.out.len]; exact h0)
        cases h1
    have hk0 : k = 0 := by omega
    have hi0 : i = 0 := by omega
    subst hn0 hk0 hi0
    go_enter Try.func21, Try.ntmps21
    go_wp2_with fail
    refine (FIN.out _ _ (by simpa using bs_empty w w.heap.size none)).mono ?_
    rintro e w1 ⟨v, rfl, ho, hb1⟩
    go_wp2_with fail
    go_ret2
    exact SH.out _ _ ho hb1
  · by_cases hic : nc = i
    · subst hic
      have hk0 : k = 0 := by omega
      subst hk0
      go_enter Try.func21, Try.ntmps21
      go_wp2_with fail
      refine (FIN.out _ _ (by simpa using bs_empty w w.heap.size _)).mono ?_
      rintro e w1 ⟨v, rfl, ho, hb1⟩
      go_wp2_with fail
      go_ret2
      exact SH.out _ _ ho hb1
    · go_enter Try.func21, Try.ntmps21
      go_wp2_with fail
      refine (FIN.out _ _ (bs_sub HB.out hik)).mono ?_
      rintro e w1 ⟨v, rfl, ho, hb1⟩
      go_wp2_with fail
      go_ret2
      exact SH.out _ _ ho hb1
set_option maxHeartbeats 400000 in
theorem read_neg {base p : Nat} {d : Option Nat} {F : Fl} {w : World} (_h : FlAt w base p d F) (i k : Int) (hik : i < 0 ∨ k < 0) :
    Calls Try.prog 21 #[.pointer (some ⟨p, 0, none⟩), .int .i64 i, .int .i64 k] w (ReadPost w ([], 1)) := by
  by_cases hi : i < 0
  · go_enter Try.func21, Try.ntmps21
    go_wp2_with fail
    go_ret2
    exact ⟨none, 0, rfl, ⟨rfl, .inl ⟨rfl, rfl⟩⟩, Below.refl _ _⟩
  · have hk : k < 0 := by omega
    have hi' : 0 ≤ i := by omega
    clear hik hi
    go_enter Try.func21, Try.ntmps21
    go_wp2_with fail
    go_ret2
    exact ⟨none, 0, rfl, ⟨rfl, .inl ⟨rfl, rfl⟩⟩, Below.refl _ _⟩
set_option maxHeartbeats 400000 in
theorem read_short {base p : Nat} {d : Option Nat} {F : Fl} {w : World} (h : FlAt w base p d F) (i k : Int) (hi : 0 ≤ i) (hk : 0 ≤ k) (hk2 : k ≤ 9223372036854775807) (hik : (F.now.length : Int) < i + k) (hsm : F.now.length ≤ 1000000) :
    Calls Try.prog 21 #[.pointer (some ⟨p, 0, none⟩), .int .i64 i, .int .i64 k] w (ReadPost w ([], 4)) := by
  obtain ⟨sA, sc, nA, nc, D, dv, h1, h2, h3, h4, h5, h6⟩ := h.ex
  obtain ⟨c1, f1, s1⟩ := h1.facts
  obtain ⟨n, hn⟩ : ∃ n, n = F.now.length := ⟨_, rfl⟩
  rw [← hn] at hik hsm c1
  clear h h1 h2 h3 h4 h5 h6 hn
  by_cases hin : (n : Int) < i
  · clear hik
    go_enter Try.func21, Try.ntmps21
    go_wp2_with fail
    go_ret2
    exact ⟨none, 0, rfl, ⟨rfl, .inl ⟨rfl, rfl⟩⟩, Below.refl _ _⟩
  · have hin' : i ≤ (n : Int) := by omega
    have hkn : (n : Int) - i < k := by omega
    clear hik hin
    go_enter Try.func21, Try.ntmps21
    go_wp2_with fail
    go_ret2
    exact ⟨none, 0, rfl, ⟨rfl, .inl ⟨rfl, rfl⟩⟩, Below.refl _ _⟩

/-- bytes in new memory -/
def AllPost (w : World) (l : List UInt8) (e : Ending) (w' : World) : Prop := ∃ A c, e = .returned (.slice A l.length c) ∧ Own5 w' w.heap.size (.slice A l.length c) l ∧ Below w.heap.size w w'
set_option maxHeartbeats 400000 in
theorem all_any {base p : Nat} {d : Option Nat} {F : Fl} {w : World} (h : FlAt w base p d F) (hsm : F.now.length ≤ 1000000) : Calls Try.prog 8 #[.pointer (some ⟨p, 0, none⟩)] w (AllPost w F.now) := by
  have c1 := size_any h
  have c2 := read_ok h 0 F.now.length (by omega) hsm
  rw [List.drop_zero, List.take_length] at c2
  have C1 := hide c1
  have C2 := hide c2
  clear h hsm c1 c2
  go_enter Try.func8, Try.ntmps8
  go_wp2_with fail
  refine C1.out.mono ?_
  rintro e w1 ⟨rfl, rfl⟩
  go_wp2_with fail
  refine C2.out.mono ?_
  rintro e w2 ⟨A, c, rfl, ho, hb⟩
  go_wp2_with fail
  go_ret
  exact ⟨A, c, rfl, ho, hb⟩
end Go.Proofs.Ythkflglmgadlmaa
