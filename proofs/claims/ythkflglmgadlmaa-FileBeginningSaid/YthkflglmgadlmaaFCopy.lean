/-
  THE WALK of Copy. Conditions: as the theorem's premises say.
-/
import Derived.Test.YthkflglmgadlmaaFCrash
import Derived.Deep.RegionHeld3
namespace Go.Proofs.Ythkflglmgadlmaa
open Go.RowKit

theorem own_bel {w w' : World} {base : Nat} {e : TypeId} {size n : Nat} {v : Value} {xs : List Value} (h : w.ownsRow base e size v n xs) (hb : Below w.heap.size w w') : w'.ownsRow base e size v n xs := h.kept (only_of_below hb none) (Classical.em _)
theorem DdVs.one {w : World} {base : Nat} : ∀ {vs : List Value} {ds : List Dd}, DdVs w base vs ds → ∀ u ∈ vs, u.oneCell' = true
  | _ :: _, _ :: _, h, u, hu => by
    rcases List.mem_cons.1 hu with rfl | hu
    · exact h.1.one
    · exact DdVs.one h.2 u hu
  | [], [], _, u, hu => by cases hu
  | [], _ :: _, h, _, _ => h.elim
  | _ :: _, [], h, _, _ => h.elim

theorem own_sl {w : World} {base : Nat} {e : TypeId} {size n : Nat} {v : Value} {xs : List Value} (h : w.ownsRow base e size v n xs) : ∃ A c, v = .slice A n c := by
  rcases h.2 with ⟨rfl, rfl⟩ | ⟨g, cap, cur, rfl, _⟩
  · exact ⟨_, _, rfl⟩
  · exact ⟨_, _, rfl⟩
set_option maxHeartbeats 2000000 in
theorem copy_any {base p : Nat} {d : Option Nat} {F : Fl} {w : World} (h : FlAt w base p d F) (hsm : F.safe.length + F.loose ≤ 1000000) :
    Calls Try.prog 11 #[.pointer (some ⟨p, 0, none⟩)] w fun e w' => ∃ p' d', e = .returned (.pointer (some ⟨p', 0, none⟩)) ∧ FlAt w' base p' d' F ∧ Below w.heap.size w w' ∧ w.heap.size ≤ p' ∧ ∀ g, d' = some g → w.heap.size ≤ g := by
  obtain ⟨sA, sc, nA, nc, D, dv, h1, h2, h3, h4, h5, h6⟩ := h.ex
  have hdl := h6.len
  have hcount := F.count h.ok
  have hnl := F.len h.ok
  have hsl : ∃ A c, D = .slice A dv.length c := by
    rcases h4.2 with ⟨rfl, h0⟩ | ⟨g, cap, cur, rfl, _⟩
    · exact ⟨_, _, by rw [h0]⟩
    · exact ⟨_, _, rfl⟩
  obtain ⟨DA, dc, rfl⟩ := hsl
  obtain ⟨c1, f1, s1⟩ := h1.facts
  have hb1 : F.safe.length ≤ 140737488355328 := by omega
  have hb2 : F.now.length ≤ 140737488355328 := by omega
  have hb3 : dv.length ≤ 1000000 := by omega
  have cS : ∀ W, Below w.heap.size w W → Calls Try.prog 20 #[.slice sA F.safe.length sc] W fun e w' => ∃ A' c', e = .returned (.slice A' F.safe.length c') ∧ Own5 w' w.heap.size (.slice A' F.safe.length c') F.safe ∧ Below w.heap.size w w' ∧ Below W.heap.size W w' := fun W hW =>
    (clone5 (own_bel h2 hW) hb1).mono fun e w' ⟨A', c', he, ho, hb⟩ => ⟨A', c', he, own_mono ho hW.size, belFrom hW hb, hb⟩
  have cN : ∀ W, Below w.heap.size w W → Calls Try.prog 20 #[.slice nA F.now.length nc] W fun e w' => ∃ A' c', e = .returned (.slice A' F.now.length c') ∧ Own5 w' w.heap.size (.slice A' F.now.length c') F.now ∧ Below w.heap.size w w' ∧ Below W.heap.size W w' := fun W hW =>
    (clone5 (own_bel h3 hW) hb2).mono fun e w' ⟨A', c', he, ho, hb⟩ => ⟨A', c', he, own_mono ho hW.size, belFrom hW hb, hb⟩
  have cD : ∀ W, Below w.heap.size w W → Calls Try.prog 24 #[.slice DA dv.length dc] W fun e w' => ∃ A' c', e = .returned (.slice A' dv.length c') ∧ w'.ownsRow w.heap.size 55 1 (.slice A' dv.length c') dv.length dv ∧ Below w.heap.size w w' ∧ Below W.heap.size W w' := fun W hW =>
    (cloneDeeds_any DA dv.length dc base dv W (own_bel h4 hW) h6.one hb3).mono fun e w' ⟨v, he, ho, hb⟩ => by
      obtain ⟨A', c', rfl⟩ := own_sl ho
      exact ⟨A', c', he, own_mono ho hW.size, belFrom hW hb, hb⟩
  have CS := hide cS
  have CN := hide cN
  have CD := hide cD
  have HH := hide h
  have H1 := hide h1
  have H6 := hide h6
  have B0 : Below w.heap.size w w.drew := ⟨rfl, rfl, rfl, Nat.le_refl _, fun _ _ => rfl⟩
  clear h h1 h2 h3 h4 h5 h6 hdl hcount hnl cS cN cD hsm hb1 hb2 hb3
  go_enter Try.func11, Try.ntmps11
  go_wp2_with fail
  have K : ∀ W, Below w.heap.size w W → W.cell? ⟨p, 0, none⟩ = some (.slice sA F.safe.length sc) ∧ W.cell? ⟨p, 1, none⟩ = some (.slice nA F.now.length nc) ∧ W.cell? ⟨p, 2, none⟩ = some (.slice DA dv.length dc) ∧ Below w.heap.size w W := fun W hW =>
    ⟨(H1.out.below hW s1).cell 0, (H1.out.below hW s1).cell 1, (H1.out.below hW s1).cell 2, hW⟩
  have HK := hide K
  clear K c1 f1
  go_region_held3 (fun W => W.cell? ⟨p, 0, none⟩ = some (.slice sA F.safe.length sc) ∧ W.cell? ⟨p, 1, none⟩ = some (.slice nA F.now.length nc) ∧ W.cell? ⟨p, 2, none⟩ = some (.slice DA dv.length dc) ∧ Below w.heap.size w W) (first | exact HK.out _ B0 | exact HK.out _ hbS | exact HK.out _ hbN | exact HK.out _ hbD | exact HK.out _ (balloc hbD _)) (first | (go_at_call 20; refine (CS.out _ (by assumption)).mono ?_; rintro e w1 ⟨AS, aS, rfl, hoS, hbS, hcS⟩) | (go_at_call 20; refine (CN.out _ (by assumption)).mono ?_; rintro e w1 ⟨AN, aN, rfl, hoN, hbN, hcN⟩) | (go_at_call 24; refine (CD.out _ (by assumption)).mono ?_; rintro e w1 ⟨AD, aD, rfl, hoD, hbD, hcD⟩))
  go_wp2_with fail
  go_ret
  have oS := own_bel (own_bel hoS hcN) hcD
  have oN := own_bel hoN hcD
  have hbase : base ≤ w.heap.size := by have := HH.out.hp; omega
  refine ⟨_, (Value.slice AD dv.length aD).ownBlock, rfl, ⟨⟨AS, aS, AN, aN, .slice AD dv.length aD, dv, Blk.new _ 51 _, (own_mono oS hbase).alloc _, (own_mono oN hbase).alloc _, (own_mono hoD hbase).alloc _, rfl, H6.out.below (balloc hbD _)⟩, by have := hbD.size; omega, HH.out.ok⟩, balloc hbD _, hbD.size, fun g e => (own_mk hoD e).1⟩
end Go.Proofs.Ythkflglmgadlmaa
