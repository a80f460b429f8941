/- The sanity check of layer 5. -/
import Derived.Test.YtkadeibinhkbjaaLkAll
namespace Go.Proofs.Ytkadeibinhkbjaa
open Go.RowKit Go.BigFrame

theorem aw_app : appX 3 [] ⟨1, 2, 2, 1, 4, 0, 1⟩ = ((3, [⟨1, 2, 4, 0, 1, 2⟩]), [⟨1, 2, 1, 2, 4, 0, 1⟩], 0) := by decide +kernel
theorem aw_all : allX 3 [⟨1, 2, 4, 0, 1, 2⟩] [⟨3, 3, 0, 0, 0, 0, 0⟩, ⟨3, 3, 1, 0, 0, 0, 0⟩] = ((3, []), 1, 0) := by decide +kernel
set_option maxRecDepth 100000 in
set_option maxHeartbeats 1600000 in
theorem awake05_any (w : World) : Calls Try.prog 8 #[] w fun e w' => e = .returned (.bool true) ∧ Below w.heap.size w w' := by
  have h1 := lapply_any 3 ⟨1, 2, 2, 1, 4, 0, 1⟩ [] none 0 w (RowAt.nil w)
  rw [aw_app] at h1
  unfold AppPost Ev.cells at h1
  dsimp only at h1
  go_enter Try.func8, Try.ntmps8
  go_wp2_with fail
  refine (show Calls Try.prog 15 #[.agg #[.int .i64 3, .slice none 0 0], .agg #[.int .i64 1, .int .i64 2, .int .i64 2, .int .i64 1, .int .i64 4, .int .i64 0, .int .i64 1]] _ _ from h1).mono ?_
  rintro _ w1 ⟨a1, c1, a2, c2, rfl, hr1, hr2, -, -, hb1⟩
  have hS := heap_alloc_new w1 (.cells #[.int .i64 3, .slice a1 1 c1] 24)
  have hbn := (Below.refl w1.heap.size w1).alloc (Nat.le_refl _) (.cells #[.int .i64 3, .slice a1 1 c1] 24)
  have hr1' : RowAt encLk w1 (.slice a1 1 c1) [⟨1, 2, 4, 0, 1, 2⟩] := hr1
  have hr2' : RowAt encEv w1 (.slice a2 1 c2) [⟨1, 2, 1, 2, 4, 0, 1⟩] := hr2
  have s0 := cell_blk (j := 0) hS
  have s1 := cell_blk (j := 1) hS
  have hL := (Below.refl _ (w1.alloc (.cells #[.int .i64 3, .slice a1 1 c1] 24))).alloc (Nat.le_refl _) (.cells #[.int .i64 3, .int .i64 3, .int .i64 0, .int .i64 0, .int .i64 0, .int .i64 0, .int .i64 0, .int .i64 3, .int .i64 3, .int .i64 1, .int .i64 0, .int .i64 0, .int .i64 0, .int .i64 0] 26)
  go_wp2_with fail
  have hz2 : (w1.alloc (.cells #[.int .i64 3, .slice a1 1 c1] 24)).heap.size = w1.heap.size + 1 := by simp
  have hbL := hbn.trans (hL.mono hbn.size)
  have hlv : RowAt encEv ((w1.alloc (.cells #[.int .i64 3, .slice a1 1 c1] 24)).alloc (.cells #[.int .i64 3, .int .i64 3, .int .i64 0, .int .i64 0, .int .i64 0, .int .i64 0, .int .i64 0, .int .i64 3, .int .i64 3, .int .i64 1, .int .i64 0, .int .i64 0, .int .i64 0, .int .i64 0] 26)) (.slice (some ⟨w1.heap.size + 1, 0, none⟩) 2 2) [⟨3, 3, 0, 0, 0, 0, 0⟩, ⟨3, 3, 1, 0, 0, 0, 0⟩] := by
    have hb := heap_alloc_new (w1.alloc (.cells #[.int .i64 3, .slice a1 1 c1] 24)) (.cells #[.int .i64 3, .int .i64 3, .int .i64 0, .int .i64 0, .int .i64 0, .int .i64 0, .int .i64 0, .int .i64 3, .int .i64 3, .int .i64 1, .int .i64 0, .int .i64 0, .int .i64 0, .int .i64 0] 26)
    rw [hz2] at hb
    refine ⟨_, 2, rfl, Nat.le_refl _, (fun e => by cases e), by decide, fun j u hu => ⟨w1.heap.size + 1, 0, rfl, ?_⟩⟩
    rw [Nat.zero_add, cell_blk hb, ← Array.getElem?_toList]
    exact hu
  have h2 := lall_any 3 [⟨3, 3, 0, 0, 0, 0, 0⟩, ⟨3, 3, 1, 0, 0, 0, 0⟩] [⟨1, 2, 4, 0, 1, 2⟩] a1 (some ⟨w1.heap.size + 1, 0, none⟩) c1 2 _ (hr1'.below hbL) hlv
  rw [aw_all] at h2
  unfold AllPost at h2
  dsimp only at h2
  refine (show Calls Try.prog 19 #[.agg #[.int .i64 3, .slice a1 1 c1], .slice (some ⟨w1.heap.size + 1, 0, none⟩) 2 2] _ _ from h2).mono ?_
  rintro _ w3 ⟨a3, c3, rfl, hr3, -, hb3⟩
  have hS3 := lk_next hb3 (lk_next hL hS)
  have hb13 := hbL.trans (hb3.mono hbL.size)
  have hr23 := hr2'.below hb13
  have hbf := (Below.refl w3.heap.size w3).alloc (Nat.le_refl _) (.cells #[.int .i64 3, .slice a3 0 c3] 24)
  have hS4 := lk_next hbf hS3
  have hT4 := heap_alloc_new w3 (.cells #[.int .i64 3, .slice a3 0 c3] 24)
  have hr24 := hr23.below hbf
  obtain ⟨b, off, x, ha, hx, hc, -, -, k2, -⟩ := ev_at (xs := [⟨1, 2, 1, 2, 4, 0, 1⟩]) hr24 0 (by decide)
  subst ha
  simp only [List.getElem?_cons_zero, Option.some.injEq] at hx
  subst hx
  dsimp only at k2
  simp only [Nat.zero_mul, Nat.add_zero] at k2
  have hc1 : 1 ≤ c2 := hc
  have q0 := cell_blk (j := 0) hS4
  have q1 := cell_blk (j := 1) hS4
  have t0 := cell_blk (j := 0) hT4
  have t1 := cell_blk (j := 1) hT4
  have hbz := hb1.trans ((hb13.trans (hbf.mono hb13.size)).mono hb1.size)
  clear h1 hr1 hr2 hr1' hr2' s0 s1 hS hlv h2 hS3 hr23 hS4 hT4 hr24 hbL hL hbn hr3
  go_wp2_with fail
  go_ret
  exact ⟨rfl, hbz⟩
end Go.Proofs.Ytkadeibinhkbjaa
