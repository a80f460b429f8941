/- The contracts of opening, flushing and comparing buffers, the reference's. -/
import Derived.Test.YtdljkobgghnkpaaReoSort
import Derived.Test.YtdljkobgghnkpaaEvSame
namespace Go.Proofs.Ytdljkobgghnkpaa
open Go.RowKit Go.BigFrame

theorem ropen_any (k : Int) (w : World) : Calls Try.prog 12 #[.int .i64 k] w fun e w' => e = .returned (.tuple #[BufV (openS k).1 none 0, .int .i64 (openS k).2]) ∧ Below w.heap.size w w' := by
  unfold openS
  by_cases h : k < 0 ∨ 1048576 < k
  · rw [if_pos h]
    unfold BufV
    rcases (by omega : k < 0 ∨ (0 ≤ k ∧ 1048576 < k)) with h1 | ⟨h1, h2⟩
    all_goals
      clear h
      go_enter Try.func12, Try.ntmps12
      go_wp2
      refine bodyPost_ret (v := .tuple #[.agg #[.int .i64 0, .int .i64 0, .int .i64 0, .slice none 0 0], .int .i64 1]) (by simp [results, Try.results12, go_sem]) rfl ⟨rfl, (Below.refl _ _).alloc (Nat.le_refl _) _⟩
  · rw [if_neg h]
    unfold BufV
    have h1 : 0 ≤ k := by omega
    have h2 : k ≤ 1048576 := by omega
    clear h
    go_enter Try.func12, Try.ntmps12
    go_wp2
    refine bodyPost_ret (v := .tuple #[.agg #[.int .i64 k, .int .i64 (-1), .int .i64 (-1), .slice none 0 0], .int .i64 0]) (by simp [results, Try.results12, go_sem]) rfl ⟨rfl, (Below.refl _ _).alloc (Nat.le_refl _) _⟩
/-- a buffer, events and an error are handed back; the events are new, or are those of the buffer that came in -/
def RFlPost (w : World) (a : Option Addr) (r : Buf × List Ev × Int) (e : Ending) (w' : World) : Prop := ∃ a1 c1 a2 c2, e = .returned (.tuple #[BufV r.1 a1 c1, .slice a2 r.2.1.length c2, .int .i64 r.2.2]) ∧ RowAt encEv w' (.slice a1 r.1.wait.length c1) r.1.wait ∧ RowAt encEv w' (.slice a2 r.2.1.length c2) r.2.1 ∧ Below w.heap.size w w' ∧ (∀ p, a1 = some p → w.heap.size ≤ p.block) ∧ ∀ p, a2 = some p → w.heap.size ≤ p.block ∨ a = some p
set_option maxRecDepth 100000 in
set_option maxHeartbeats 3200000 in
/-- two buffers that are equal -/
theorem rsame_eq (b : Buf) (a1 a2 : Option Addr) (c1 c2 : Nat) (w : World) (h1 : RowAt encEv w (.slice a1 b.wait.length c1) b.wait) (h2 : RowAt encEv w (.slice a2 b.wait.length c2) b.wait) :
    Calls Try.prog 13 #[BufV b a1 c1, BufV b a2 c2] w fun e w' => e = .returned (.bool true) ∧ Below w.heap.size w w' := by
  have hb0 : Below w.heap.size w ((w.alloc (.cells #[.int .i64 b.bound, .int .i64 b.latest, .int .i64 b.mark, .slice a1 b.wait.length c1] 24)).alloc (.cells #[.int .i64 b.bound, .int .i64 b.latest, .int .i64 b.mark, .slice a2 b.wait.length c2] 24)) := ((Below.refl _ _).alloc (Nat.le_refl _) _).alloc (by simp) _
  have h1' := h1.below hb0
  have h2' := h2.below hb0
  unfold BufV
  go_enter Try.func13, Try.ntmps13
  go_wp2_with fail
  refine (evsame_eq b.wait a1 a2 c1 c2 _ h1' h2').mono ?_
  rintro e w2 ⟨rfl, hb2⟩
  go_wp2_with fail
  go_ret
  exact ⟨rfl, hb0.trans (hb2.mono hb0.size)⟩
set_option maxRecDepth 100000 in
set_option maxHeartbeats 3200000 in
theorem rflush_any (b : Buf) (a : Option Addr) (cap : Nat) (w : World) (hr : RowAt encEv w (.slice a b.wait.length cap) b.wait) (hn : b.wait.length ≤ 100000) :
    Calls Try.prog 22 #[BufV b a cap] w (RFlPost w a (flushS b)) := by
  have hv := fun w h => rvalid_any b a cap w h
  have hrl := fun a1 c1 w h => rrelease_any b b.latest a1 c1 w h (by omega)
  have hb0 : Below w.heap.size w ((w.alloc (.cells #[.int .i64 b.bound, .int .i64 b.latest, .int .i64 b.mark, .slice a b.wait.length cap] 24)).alloc (.cells #[.int .i64 0, .int .i64 0, .int .i64 0, .slice none 0 0] 24)) := ((Below.refl _ _).alloc (Nat.le_refl _) _).alloc (by simp) _
  have hG0 : ((w.alloc (.cells #[.int .i64 b.bound, .int .i64 b.latest, .int .i64 b.mark, .slice a b.wait.length cap] 24)).alloc (.cells #[.int .i64 0, .int .i64 0, .int .i64 0, .slice none 0 0] 24)).heap[w.heap.size]? = some (.cells #[.int .i64 b.bound, .int .i64 b.latest, .int .i64 b.mark, .slice a b.wait.length cap] 24 (0, 0)) := (Below.heap_alloc _ _ _ (by simp)).trans (heap_alloc_new _ _)
  have hO0 : ((w.alloc (.cells #[.int .i64 b.bound, .int .i64 b.latest, .int .i64 b.mark, .slice a b.wait.length cap] 24)).alloc (.cells #[.int .i64 0, .int .i64 0, .int .i64 0, .slice none 0 0] 24)).heap[w.heap.size + 1]? = some (.cells #[.int .i64 0, .int .i64 0, .int .i64 0, .slice none 0 0] 24 (0, 0)) := by
    have h := heap_alloc_new (w.alloc (.cells #[.int .i64 b.bound, .int .i64 b.latest, .int .i64 b.mark, .slice a b.wait.length cap] 24)) (.cells #[.int .i64 0, .int .i64 0, .int .i64 0, .slice none 0 0] 24)
    simpa using h
  unfold RFlPost flushS
  obtain ⟨B, hB⟩ : ∃ B, bufB b = B := ⟨_, rfl⟩
  rw [hB] at hv ⊢
  clear hB
  obtain ⟨bound, latest, mark, xs⟩ := b
  unfold BufV at *
  dsimp only at *
  cases B with
  | false =>
    rw [if_pos rfl]
    dsimp only
    go_enter Try.func22, Try.ntmps22
    go_wp2_with fail
    refine (hv _ (hr.below hb0)).mono ?_
    rintro e w2 ⟨rfl, hb2⟩
    have hO2 := lit_next hb2 hO0
    have hbw := hb0.trans (hb2.mono hb0.size)
    obtain ⟨o0, o1, o2, o3⟩ := cells4 hO2
    have f2 : ∀ j, w2.frozen? ⟨w.heap.size + 1, j, none⟩ = false := fun j => free_blk hO2
    have hz := blk_lt hO2
    have hfin := set_four (x' := .int .i64 0) (y' := .int .i64 0) (z' := .int .i64 0) (u' := .slice none 0 0) hO2
    obtain ⟨t1, t2, t3, t4⟩ := cells4 hfin
    go_wp2_with fail
    refine bodyPost_ret (v := .tuple #[.agg #[.int .i64 0, .int .i64 0, .int .i64 0, .slice none 0 0], .slice none 0 0, .int .i64 4]) (by simp [results, Try.results22, go_sem, t1, t2, t3, t4]) rfl ⟨none, 0, none, 0, rfl, RowAt.nil _, RowAt.nil _, ?_, (fun p hp => by cases hp), (fun p hp => by cases hp)⟩
    exact (((hbw.setCell (p := ⟨_, 0, none⟩) (Nat.le_succ _) _).setCell (p := ⟨_, 1, none⟩) (Nat.le_succ _) _).setCell (p := ⟨_, 2, none⟩) (Nat.le_succ _) _).setCell (p := ⟨_, 3, none⟩) (Nat.le_succ _) _
  | true =>
    rw [if_neg (by simp)]
    go_enter Try.func22, Try.ntmps22
    go_wp2_with fail
    refine (hv _ (hr.below hb0)).mono ?_
    rintro e w2 ⟨rfl, hb2⟩
    have hO2 := lit_next hb2 hO0
    have hG2 := lit_next hb2 hG0
    have hbw := hb0.trans (hb2.mono hb0.size)
    have hr2 := hr.below hbw
    clear hb0 hb2 hG0 hO0 hv
    obtain ⟨g0, g1, g2, g3⟩ := cells4 hG2
    go_wp2_with fail
    refine (hrl a cap _ hr2).mono ?_
    rintro e w4 ⟨a2, c2, a4, c4, rfl, hr4, hr5, hb4, hn4, hn5⟩
    unfold relS at hr4 hr5 ⊢
    unfold BufV
    dsimp only at hr4 hr5 ⊢
    have hO4 := lit_next hb4 hO2
    have hbw4 := hbw.trans (hb4.mono hbw.size)
    have hz2 := blk_lt hO2
    have hsz4 := hb4.size
    obtain ⟨D1, hD1⟩ : ∃ D, (restS latest xs).length = D := ⟨_, rfl⟩
    obtain ⟨D2, hD2⟩ : ∃ D, (outS latest xs).length = D := ⟨_, rfl⟩
    rw [hD1] at hr4 ⊢
    rw [hD2] at hr5 ⊢
    obtain ⟨o0', o1', o2', o3'⟩ := cells4 hO4
    have f4 : ∀ j, w4.frozen? ⟨w.heap.size + 1, j, none⟩ = false := fun j => free_blk hO4
    have hz4 := blk_lt hO4
    have hfin0 := set_four (x' := .int .i64 bound) (y' := .int .i64 latest) (z' := .int .i64 (max mark latest)) (u' := .slice a2 D1 c2) hO4
    have hfin := (Below.heap_alloc _ (.cells #[.int .i64 bound, .int .i64 latest, .int .i64 (max mark latest), .slice a2 D1 c2] 24) _ (blk_lt hfin0)).trans hfin0
    obtain ⟨t1, t2, t3, t4⟩ := cells4 hfin
    have o21 : 0 < (restS latest xs).length → Off (w.heap.size + 1) (.slice a2 D1 c2) := fun _ n c p e => by obtain ⟨h1, _, _⟩ := Value.slice.inj e; have := hn4 p h1; omega
    have o22 : 0 < (outS latest xs).length → Off (w.heap.size + 1) (.slice a4 D2 c4) := fun h0 n c p e => by
      obtain ⟨h1, _, _⟩ := Value.slice.inj e
      rcases hn5 p h1 with h | h
      · omega
      · subst h
        have h2 := out_rest latest xs
        have := hr.lt (by omega)
        omega
    have hr4' := ((((hr4.set_off (j := 0) (u := .int .i64 bound) o21).set_off (j := 1) (u := .int .i64 latest) o21).set_off (j := 2) (u := .int .i64 (max mark latest)) o21).set_off (j := 3) (u := .slice a2 D1 c2) o21).below ((Below.refl _ _).alloc (Nat.le_refl _) (.cells #[.int .i64 bound, .int .i64 latest, .int .i64 (max mark latest), .slice a2 D1 c2] 24))
    have hr5' := ((((hr5.set_off (j := 0) (u := .int .i64 bound) o22).set_off (j := 1) (u := .int .i64 latest) o22).set_off (j := 2) (u := .int .i64 (max mark latest)) o22).set_off (j := 3) (u := .slice a2 D1 c2) o22).below ((Below.refl _ _).alloc (Nat.le_refl _) (.cells #[.int .i64 bound, .int .i64 latest, .int .i64 (max mark latest), .slice a2 D1 c2] 24))
    have hB4 := (((hbw4.setCell (p := ⟨w.heap.size + 1, 0, none⟩) (Nat.le_succ _) (.int .i64 bound)).setCell (p := ⟨w.heap.size + 1, 1, none⟩) (Nat.le_succ _) (.int .i64 latest)).setCell (p := ⟨w.heap.size + 1, 2, none⟩) (Nat.le_succ _) (.int .i64 (max mark latest))).setCell (p := ⟨w.heap.size + 1, 3, none⟩) (Nat.le_succ _) (.slice a2 D1 c2)
    have hB5 := hB4.alloc hB4.size (.cells #[.int .i64 bound, .int .i64 latest, .int .i64 (max mark latest), .slice a2 D1 c2] 24)
    have HD1 := Lib.hid hD1
    have HD2 := Lib.hid hD2
    have HR4 := Lib.hid hr4'
    have HR5 := Lib.hid hr5'
    clear hD1 hD2 hr4 hr5 hr4' hr5' hG2 hO2 hO4 hfin0 hfin hB4 g0 g1 g2 g3
    go_wp2_with fail
    refine bodyPost_ret (v := .tuple #[.agg #[.int .i64 bound, .int .i64 latest, .int .i64 (max mark latest), .slice a2 D1 c2], .slice a4 D2 c4, .int .i64 0]) (by simp [results, Try.results22, go_sem, t1, t2, t3, t4]) rfl ⟨a2, c2, a4, c4, ?_, ?_, ?_, ?_, fun p hp => by have := hn4 p hp; omega, fun p hp => (hn5 p hp).elim (fun h => .inl (by omega)) .inr⟩
    · unfold relS
      dsimp only
      rw [HD1.out, HD2.out]
    · unfold relS
      dsimp only
      rw [HD1.out]
      with_reducible exact HR4.out
    · unfold relS
      dsimp only
      rw [HD2.out]
      with_reducible exact HR5.out
    · with_reducible exact hB5
end Go.Proofs.Ytdljkobgghnkpaa
