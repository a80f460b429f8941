/- The contract of the program's number of squares. -/
import Derived.Test.YtdiackininlmeaaDoorSqCount
namespace Go.Proofs.YtdiackininlmeaaDoor
open Go.RowKit Go.BigFrame

set_option maxRecDepth 100000 in
set_option maxHeartbeats 800000 in
theorem scount_any (n : Nat) (a : Option Addr) (cap : Nat) (es : List E2) (w : World) (he : EdgesAt w (.slice a es.length cap) es) (hv : Valid n es) (hT : TzAt w) :
    Calls Tryd.prog 26 #[.agg #[.int .i64 n, .slice a es.length cap]] w fun e w' => e = .returned (.tuple #[.int .i64 (sqT es n n / 4), .int .i64 0]) ∧ Below w.heap.size w w' := by
  go_enter Tryd.func26, Tryd.ntmps26
  go_wp2_with fail
  refine (gcheck_any n a cap es _ (he.below ((Below.refl _ _).alloc (Nat.le_refl _) _))).mono ?_
  rintro e w1 ⟨rfl, hb1⟩
  rw [(valid_iff n es).2 hv]
  have b0 : w1.cell? ⟨w.heap.size, 0, none⟩ = some (.int .i64 n) := (hb1.cell (p := ⟨w.heap.size, 0, none⟩) (by simp)).trans (cell_blk (heap_alloc_new _ _))
  have b1 : w1.cell? ⟨w.heap.size, 1, none⟩ = some (.slice a es.length cap) := (hb1.cell (p := ⟨w.heap.size, 1, none⟩) (by simp)).trans (cell_blk (heap_alloc_new _ _))
  have hbw : Below w.heap.size w w1 := ((Below.refl _ _).alloc (Nat.le_refl _) _).trans (hb1.mono (by simp))
  clear hb1
  go_wp2_with fail
  refine (counts_any n a cap es _ (he.below hbw) hv (hT.below hbw)).mono ?_
  rintro e w2 ⟨g, rfl, hg, hN, hb2⟩
  go_wp2
  go_ret2
  exact ⟨rfl, hbw.trans (hb2.mono hbw.size)⟩
end Go.Proofs.YtdiackininlmeaaDoor
