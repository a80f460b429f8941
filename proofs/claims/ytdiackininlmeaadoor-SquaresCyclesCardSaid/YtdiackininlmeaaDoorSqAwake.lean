/- The contract of the squares' laws' own example. -/
import Derived.Test.YtdiackininlmeaaDoorSqPlain2
namespace Go.Proofs.YtdiackininlmeaaDoor
open Go.RowKit Go.BigFrame

set_option maxRecDepth 100000 in
set_option maxHeartbeats 1600000 in
theorem awake30_any (w : World) (hT : TzAt w) : Calls Tryd.prog 28 #[] w fun e w' => e = .returned (.bool true) ∧ Below w.heap.size w w' := by
  go_enter Tryd.func28, Tryd.ntmps28
  go_wp2_with fail
  have h1 := heap_alloc_new w (.cells (flatE k4).toArray 41)
  have he1 : EdgesAt (w.alloc (.cells (flatE k4).toArray 41)) (.slice (some ⟨w.heap.size, 0, none⟩) k4.length 6) k4 := edges_blk h1 (by decide) 6 (by decide)
  have hb1 : Below w.heap.size w (w.alloc (.cells (flatE k4).toArray 41)) := (Below.refl _ _).alloc (Nat.le_refl _) _
  have hb2 := hb1.alloc hb1.size (.cells #[.int .i64 4, .slice (some ⟨w.heap.size, 0, none⟩) 6 6] 27)
  have he2 := he1.below ((Below.refl _ _).alloc (Nat.le_refl _) (.cells #[.int .i64 4, .slice (some ⟨w.heap.size, 0, none⟩) 6 6] 27))
  have hg2 := heap_alloc_new (w.alloc (.cells (flatE k4).toArray 41)) (.cells #[.int .i64 4, .slice (some ⟨w.heap.size, 0, none⟩) 6 6] 27)
  refine (swedges_any 4 _ 6 k4 _ he2 k4_valid).mono ?_
  rintro e w3 ⟨rfl, hb3⟩
  rw [k4_wed]
  have hb03 := hb2.trans (hb3.mono hb2.size)
  have he3 := he2.below hb3
  have hg3 := (hb3.block _ (blk_lt hg2)).trans hg2
  have hz : (w.alloc (.cells (flatE k4).toArray 41)).heap.size = w.heap.size + 1 := by simp
  rw [hz] at hg3
  have q0 : w3.cell? ⟨w.heap.size + 1, 0, none⟩ = some (.int .i64 4) := cell_blk hg3
  have q1 : w3.cell? ⟨w.heap.size + 1, 1, none⟩ = some (.slice (some ⟨w.heap.size, 0, none⟩) 6 6) := cell_blk hg3
  clear hg3 hg2 hb3 hz
  go_wp2_with fail
  refine (scount_any 4 _ 6 k4 _ he3 k4_valid (hT.below hb03)).mono ?_
  rintro e w4 ⟨rfl, hb4⟩
  have h4 : sqT k4 4 4 / 4 = 3 := by rw [sqT_eq (n := 4) k4_valid, k4_sq]; rfl
  rw [h4]
  have hbf := hb03.trans (hb4.mono hb03.size)
  go_wp2
  go_ret
  exact ⟨rfl, hbf⟩
end Go.Proofs.YtdiackininlmeaaDoor
