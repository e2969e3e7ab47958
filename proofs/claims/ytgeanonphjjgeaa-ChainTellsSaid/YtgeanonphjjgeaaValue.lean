/-
  THE WALK of chain.Value over a row as its reader; all three calls of no reader.
-/
import Derived.Test.YtgeanonphjjgeaaWalkF
namespace Go.Proofs.Ytgeanonphjjgeaa
open Go.RowKit Go.Shelf

theorem linkRes_mem {xs : List Lk} {s o : Int} {kb : List UInt8} {below : Int} (h : (linkRes xs s o kb below).2 = true) : (linkRes xs s o kb below).1 ∈ xs := by
  unfold linkRes at h ⊢
  split at h
  · rename_i hm
    rw [if_pos hm]
    split at h
    · rename_i x hf
      exact List.mem_of_find?_eq_some hf
    · simp at h
  · simp at h
theorem chainF_mem (xs : List Lk) (kb : List UInt8) : ∀ (f : Nat) (s o below : Int), ∀ y ∈ chainF xs kb f s o below, y.2 = true → y.1 ∈ xs := by
  intro f
  induction f with
  | zero => intro s o below y hy; simp [chainF] at hy
  | succ f ih =>
    intro s o below y hy h2
    simp only [chainF] at hy
    split at hy
    · simp at hy
    · rcases List.mem_cons.1 hy with rfl | hy
      · exact linkRes_mem h2
      · split at hy
        · exact ih _ _ _ y hy h2
        · simp at hy
theorem findN_mem {sN : Int} {xs : List Lk} : ∀ (l : List (Lk × Bool)), (∀ y ∈ l, y.2 = true → y.1 ∈ xs) → (findN sN l).2 = 0 → (findN sN l).1 ∈ xs ∧ (findN sN l).1.seq ≤ sN := by
  intro l
  induction l with
  | nil => intro _ h; simp [findN] at h
  | cons y l ih =>
    intro hl h
    obtain ⟨x, hold⟩ := y
    simp only [findN] at h ⊢
    split
    · rename_i hh
      rw [if_pos hh] at h
      split
      · rename_i hs
        exact ⟨hl (x, hold) (List.mem_cons_self ..) hh, hs⟩
      · rename_i hs
        rw [if_neg hs] at h
        exact ih (fun y hy => hl y (List.mem_cons_of_mem _ hy)) h
    · rename_i hh
      rw [if_neg hh] at h
      simp at h
theorem newestRes_mem {xs : List Lk} {s o : Int} {kb : List UInt8} {sN : Int} (h : (newestRes xs s o kb sN).2 = 0) : (newestRes xs s o kb sN).1 ∈ xs := by
  unfold newestRes at h ⊢
  split at h
  · rename_i hk
    rw [if_pos hk]
    exact (findN_mem _ (fun y hy => chainF_mem xs kb _ _ _ _ y hy) h).1
  · simp at h

def valueRes (xs : List Lk) (s o : Int) (kb : List UInt8) (sN : Int) : List UInt8 × Int :=
  if (newestRes xs s o kb sN).2 = 0 then (if (newestRes xs s o kb sN).1.kind = 2 then ([], 6) else ((newestRes xs s o kb sN).1.vb, 0)) else ([], (newestRes xs s o kb sN).2)

def valuePost (w : World) (y : List UInt8 × Int) (e : Ending) (w' : World) : Prop := ∃ v, e = .returned (.tuple #[v, .int .i64 y.2]) ∧ w'.ownsRow w.heap.size 5 1 v y.1.length (y.1.map bv) ∧ Below w.heap.size w w'

set_option maxHeartbeats 400000 in
theorem value_row (s o sN : Int) (A kA : Option Addr) (xs : List Lk) (B c kn kc : Nat) (kb : List UInt8) (hx : xs.length ≤ 1000000) (w : World) (hB : B ≤ w.heap.size) (hr : RowAt w B A xs) (hkb : Bs w B kA kn kb) (hn : kn ≤ 9223372036854775807)
    (hv : ∀ x ∈ xs, x.vn ≤ 140737488355328) :
    Calls Try.prog 12 #[.iface 23 (.slice A xs.length c), .agg #[.int .u32 s, .int .u32 o], .slice kA kn kc, .int .u64 sN] w (valuePost w (valueRes xs s o kb sN)) := by
  have hfin : Hid (valueRes xs s o kb sN = if (newestRes xs s o kb sN).2 = 0 then (if (newestRes xs s o kb sN).1.kind = 2 then ([], 6) else ((newestRes xs s o kb sN).1.vb, 0)) else ([], (newestRes xs s o kb sN).2)) := rfl
  have hmem := newestRes_mem (xs := xs) (s := s) (o := o) (kb := kb) (sN := sN)
  have hcon := newest_row s o sN A kA xs B c kn kc kb hx (w.alloc (.cells #[.int .u32 s, .int .u32 o] 27)) (by simp; omega) (hr.below ((bel1 w _).mono hB)) (hkb.below ((bel1 w _).mono hB)) hn
  generalize newestRes xs s o kb sN = y at *
  obtain ⟨x, er⟩ := y
  have Hcon := hide hcon
  have Hmem := hide hmem
  clear hcon hmem
  by_cases he : er = 0
  · subst he
    have hx' := (unhide Hmem) rfl
    have hvn := hv _ hx'
    by_cases hk : x.kind = 2
    · have HK := hide hk
      have hkb2 : (x.kind == 2) = true := by simpa using hk
      clear hk
      go_enter Try.func12, Try.ntmps12
      go_wp2_with fail
      refine (unhide Hcon).mono ?_
      rintro e w1 ⟨rfl, hb⟩
      simp only [linkV, Lk.cs]
      go_wp2_with fail
      go_ret2
      refine ⟨.slice none 0 0, ?_, ?_, balloc (belFrom (bel1 w _) hb) _⟩
      · rw [hfin.out]; simp [unhide HK]
      · rw [hfin.out]; simp [unhide HK]; exact ⟨rfl, .inl ⟨rfl, rfl⟩⟩
    · have HK := hide hk
      have hkb2 : (x.kind == 2) = false := by simpa using hk
      clear hk
      go_enter Try.func12, Try.ntmps12
      go_wp2_with fail
      refine (unhide Hcon).mono ?_
      rintro e w1 ⟨rfl, hb⟩
      simp only [linkV, Lk.cs]
      have hbw := belFrom (bel1 w _) hb
      have hval := ((hr.vals x hx').below (hbw.mono hB))
      go_wp2_with fail
      refine (bytesClone_any x.vA x.vn x.vc B x.vb _ (hval.alloc (by have := hbw.size; omega) _) hvn (by have := hbw.size; simp; omega)).mono ?_
      rintro e w2 ⟨v, rfl, hown, hb2⟩
      go_wp2_with fail
      go_ret2
      have hl := (hr.vals x hx').len
      refine ⟨v, ?_, ?_, belFrom (balloc hbw _) hb2⟩
      · rw [hfin.out]; simp [unhide HK]
      · rw [hfin.out]; simp [unhide HK]; rw [hl]
        refine own_mono hown (by have := hbw.size; simp; omega)
  · have HE := hide he
    have he2 : (er != 0) = true := by simpa using he
    clear he
    go_enter Try.func12, Try.ntmps12
    go_wp2_with fail
    refine (unhide Hcon).mono ?_
    rintro e w1 ⟨rfl, hb⟩
    simp only [linkV, Lk.cs]
    go_wp2_with fail
    go_ret2
    refine ⟨.slice none 0 0, ?_, ?_, balloc (belFrom (bel1 w _) hb) _⟩
    · rw [hfin.out]; simp [unhide HE]
    · rw [hfin.out]; simp [unhide HE]; exact ⟨rfl, .inl ⟨rfl, rfl⟩⟩
end Go.Proofs.Ytgeanonphjjgeaa
