/- The contract of the truss laws' own example. -/
import Derived.Test.YtbkacbbhiecnkaaDoorTrChk
namespace Go.Proofs.YtbkacbbhiecnkaaDoor
open Go.RowKit Go.BigFrame

def k5 : List E2 := [(0, 1), (0, 2), (0, 3), (1, 2), (1, 3), (2, 3), (3, 4)]
theorem k5_check : checkS 5 k5 = 0 := by decide
theorem k5_num : numT k5 5 = [2, 2, 2, 2, 2, 2, 0] := by decide +kernel
theorem k5_own : chkX 5 k5 (numT k5 5) (ordT k5 5) = 0 := by decide +kernel
theorem k5_not : chkX 5 k5 (ordT k5 5) (numT k5 5) = 4 := by decide +kernel
def CliPost (w : World) (e : Ending) (w' : World) : Prop := ∃ g : Nat, e = .returned (.agg #[.int .i64 5, .slice (some ⟨g, 0, none⟩) 7 7]) ∧ EdgesAt w' (.slice (some ⟨g, 0, none⟩) k5.length 7) k5 ∧ Below w.heap.size w w'
theorem edges_of_blk {w : World} {g T : Nat} {es : List E2} {f : Nat × Nat} (h : w.heap[g]? = some (.cells (flatE es).toArray T f)) (hl : es.length ≤ 1000000) (cap : Nat) (hc : es.length ≤ cap) : EdgesAt w (.slice (some ⟨g, 0, none⟩) es.length cap) es := by
  refine ⟨_, cap, rfl, hc, (fun e => by cases e), by omega, fun i e hi => ⟨g, 0, rfl, ?_, ?_⟩⟩
  · rw [Nat.zero_add, cell_blk h]; simpa using (flatE_get es i e hi).1
  · rw [Nat.zero_add, cell_blk h]; simpa using (flatE_get es i e hi).2
theorem ints_of_blk {w : World} {g T : Nat} {xs : List Int} {f : Nat × Nat} (h : w.heap[g]? = some (.cells (intsV xs).toArray T f)) (hl : xs.length ≤ 1000000) (cap : Nat) (hc : xs.length ≤ cap) : IntsAt w (.slice (some ⟨g, 0, none⟩) xs.length cap) xs := by
  refine ⟨_, cap, rfl, hc, (fun e => by cases e), by omega, fun i e hi => ⟨g, 0, rfl, ?_⟩⟩
  rw [Nat.zero_add, cell_blk h]; simp [intsV, hi]
set_option maxRecDepth 100000 in
theorem clique_any (w : World) : Calls Tryd.prog 104 #[] w (CliPost w) := by
  go_enter Tryd.func104, Tryd.ntmps104
  go_wp2
  have hb1 : Below w.heap.size w ((w.alloc (.cells #[.int .i64 5, .slice (some ⟨w.heap.size + 1, 0, none⟩) 7 7] 27)).alloc (.cells (flatE k5).toArray 42)) := ((Below.refl _ _).alloc (Nat.le_refl _) _).alloc (by simp) _
  have hE := heap_alloc_new (w.alloc (.cells #[.int .i64 5, .slice (some ⟨w.heap.size + 1, 0, none⟩) 7 7] 27)) (.cells (flatE k5).toArray 42)
  have hz : (w.alloc (.cells #[.int .i64 5, .slice (some ⟨w.heap.size + 1, 0, none⟩) 7 7] 27)).heap.size = w.heap.size + 1 := by simp
  rw [hz] at hE
  have hG := (Below.heap_alloc (w.alloc (.cells #[.int .i64 5, .slice (some ⟨w.heap.size + 1, 0, none⟩) 7 7] 27)) (.cells (flatE k5).toArray 42) w.heap.size (by simp)).trans (heap_alloc_new w _)
  have t0 := cell_blk (j := 0) hG
  have t1 := cell_blk (j := 1) hG
  refine bodyPost_ret (v := .agg #[.int .i64 5, .slice (some ⟨w.heap.size + 1, 0, none⟩) 7 7]) ?_ rfl ⟨w.heap.size + 1, rfl, edges_of_blk hE (by decide) 7 (by decide), hb1⟩
  have t0' : ((w.alloc (.cells #[.int .i64 5, .slice (some ⟨w.heap.size + 1, 0, none⟩) 7 7] 27)).alloc (.cells #[.int .i64 0, .int .i64 1, .int .i64 0, .int .i64 2, .int .i64 0, .int .i64 3, .int .i64 1, .int .i64 2, .int .i64 1, .int .i64 3, .int .i64 2, .int .i64 3, .int .i64 3, .int .i64 4] 42)).cell? ⟨w.heap.size, 0, none⟩ = some (.int .i64 5) := t0
  have t1' : ((w.alloc (.cells #[.int .i64 5, .slice (some ⟨w.heap.size + 1, 0, none⟩) 7 7] 27)).alloc (.cells #[.int .i64 0, .int .i64 1, .int .i64 0, .int .i64 2, .int .i64 0, .int .i64 3, .int .i64 1, .int .i64 2, .int .i64 1, .int .i64 3, .int .i64 2, .int .i64 3, .int .i64 3, .int .i64 4] 42)).cell? ⟨w.heap.size, 1, none⟩ = some (.slice (some ⟨w.heap.size + 1, 0, none⟩) 7 7) := t1
  simp [results, Tryd.results104, go_sem, t0', t1']
set_option maxRecDepth 100000 in
theorem rsame_same (a a2 : Option Addr) (cap cap2 : Nat) (xs : List Int) (w : World) (h1 : IntsAt w (.slice a xs.length cap) xs) (h2 : IntsAt w (.slice a2 xs.length cap2) xs) :
    Calls Tryd.prog 56 #[.slice a xs.length cap, .slice a2 xs.length cap2] w fun e w' => e = .returned (.bool true) ∧ Below w.heap.size w w' := by
  have hl : xs.length ≤ 70368744177664 := by obtain ⟨_, _, hv, _, _, hl, _⟩ := h1; exact hl
  have hc := cmp_same a a2 cap cap2 xs w h1 h2
  go_enter Tryd.func56, Tryd.ntmps56
  go_wp2_with (go_at_call 24; refine hc.mono ?_; rintro e w2 ⟨rfl, hb2⟩)
  go_ret
  exact ⟨rfl, hb2⟩
set_option maxRecDepth 100000 in
set_option maxHeartbeats 3200000 in
theorem awake12_any (w : World) (hT : TzAt w) : Calls Tryd.prog 48 #[] w fun e w' => e = .returned (.bool true) ∧ Below w.heap.size w w' := by
  have hnx : numX 5 k5 = (numT k5 5, 0) := by unfold numX; rw [if_neg (by rw [k5_check]; decide)]; rfl
  have hox : ordX 5 k5 = (ordT k5 5, 0) := by unfold ordX; rw [if_neg (by rw [k5_check]; decide)]; rfl
  go_enter Tryd.func48, Tryd.ntmps48
  go_wp2_with fail
  refine (clique_any _).mono ?_
  rintro e w1 ⟨g1, rfl, he1, hb1⟩
  go_wp2_with fail
  refine (tnumbers_any 5 _ 7 k5 _ he1 (hT.below hb1)).mono ?_
  rw [hnx]
  rintro e w2 ⟨aN, cN, rfl, hN2, -, hb2⟩
  have hb02 := hb1.trans (hb2.mono hb1.size)
  clear hb1 hb2 he1
  go_wp2_with fail
  refine (clique_any _).mono ?_
  rintro e w3 ⟨g3, rfl, he3, hb3⟩
  have hN3 := hN2.below hb3
  have hb03 := hb02.trans (hb3.mono hb02.size)
  clear hb02 hb3 hN2
  go_wp2_with fail
  refine (torder_any 5 _ 7 k5 _ he3 (hT.below hb03)).mono ?_
  rw [hox]
  rintro e w4 ⟨aO, cO, rfl, hO4, -, hb4⟩
  have hN4 := hN3.below hb4
  have hb04 := hb03.trans (hb4.mono hb03.size)
  clear hb03 hb4 hN3 he3
  rw [show (numT k5 5).length = 7 from numT_length _ _, show (ordT k5 5).length = 7 from ordT_length _ _]
  have hN4' : IntsAt w4 (.slice aN 7 cN) (numT k5 5) := hN4
  have hO4' : IntsAt w4 (.slice aO 7 cO) (ordT k5 5) := hO4
  go_wp2_with fail
  have hb5 := (Below.refl w4.heap.size w4).alloc (Nat.le_refl _) (.cells (intsV [2, 2, 2, 2, 2, 2, 0]).toArray 3)
  have hL5 := ints_of_blk (xs := [2, 2, 2, 2, 2, 2, 0]) (heap_alloc_new w4 (.cells (intsV [2, 2, 2, 2, 2, 2, 0]).toArray 3)) (by decide) 7 (by decide)
  have hN5 := hN4'.below hb5
  have hO5 := hO4'.below hb5
  have hb05 := hb04.trans (hb5.mono hb04.size)
  rw [k5_num] at hN5
  have hsm := rsame_same aN (some ⟨w4.heap.size, 0, none⟩) cN 7 [2, 2, 2, 2, 2, 2, 0] _ hN5 hL5
  refine (show Calls Tryd.prog 56 #[.slice aN 7 cN, .slice (some ⟨w4.heap.size, 0, none⟩) 7 7] _ _ from hsm).mono ?_
  rintro e w6 ⟨rfl, hb6⟩
  have hN6 := hN5.below hb6
  have hO6 := hO5.below hb6
  have hb06 := hb05.trans (hb6.mono hb05.size)
  clear hN4 hN4' hO4 hO4' hb04 hb5 hL5 hb05 hsm hN5 hO5 hb6
  go_wp2_with fail
  refine (clique_any _).mono ?_
  rintro e w7 ⟨g7, rfl, he7, hb7⟩
  have hN7 := hN6.below hb7
  have hO7 := hO6.below hb7
  have hb07 := hb06.trans (hb7.mono hb06.size)
  have hc1 := tcheck_any 5 _ aN aO 7 cN cO k5 [2, 2, 2, 2, 2, 2, 0] (ordT k5 5) _ he7 hN7 (by rw [show (ordT k5 5).length = 7 from ordT_length _ _]; exact hO7) (hT.below hb07)
  rw [← k5_num, k5_own] at hc1
  rw [show (ordT k5 5).length = 7 from ordT_length _ _, show (numT k5 5).length = 7 from numT_length _ _] at hc1
  clear hN6 hO6 hb06 hb7
  go_wp2_with fail
  refine hc1.mono ?_
  rintro e w8 ⟨rfl, hb8⟩
  have hN8 := hN7.below hb8
  have hO8 := hO7.below hb8
  have hb08 := hb07.trans (hb8.mono hb07.size)
  clear hc1 hN7 hO7 hb07 he7 hb8
  go_wp2_with fail
  refine (clique_any _).mono ?_
  rintro e w9 ⟨g9, rfl, he9, hb9⟩
  have hN9 := hN8.below hb9
  have hO9 := hO8.below hb9
  have hb09 := hb08.trans (hb9.mono hb08.size)
  have hc2 := tcheck_any 5 _ aO aN 7 cO cN k5 (ordT k5 5) [2, 2, 2, 2, 2, 2, 0] _ he9 (by rw [show (ordT k5 5).length = 7 from ordT_length _ _]; exact hO9) hN9 (hT.below hb09)
  rw [← k5_num, k5_not] at hc2
  rw [show (ordT k5 5).length = 7 from ordT_length _ _, show (numT k5 5).length = 7 from numT_length _ _] at hc2
  clear hN8 hO8 hb08 hb9
  go_wp2_with fail
  refine hc2.mono ?_
  rintro e w10 ⟨rfl, hb10⟩
  go_wp2_with fail
  go_ret
  exact ⟨rfl, hb09.trans (hb10.mono hb09.size)⟩
end Go.Proofs.YtbkacbbhiecnkaaDoor
