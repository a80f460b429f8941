/- The contract of the program's Node: the numbers of the sets with a node. -/
import Derived.Test.YtdiackininlmeaaDoorPatNode
namespace Go.Proofs.YtdiackininlmeaaDoor
open Go.RowKit Go.BigFrame

def nodS (es : List E2) (n : Nat) (v : Int) : List Int := cntV (kA es (phiN v) n)
theorem nodS_length (es : List E2) (n : Nat) (v : Int) : (nodS es n v).length = 11 := cntV_length _

set_option maxRecDepth 100000 in
set_option maxHeartbeats 800000 in
theorem node_any (n : Nat) (v : Int) (a : Option Addr) (cap : Nat) (es : List E2) (w : World) (he : EdgesAt w (.slice a es.length cap) es) (hv : Valid n es) (ht : TabsAt w) (h0 : 0 ≤ v) (h1 : v < n) :
    Calls Tryd.prog 25 #[.agg #[.int .i64 n, .slice a es.length cap], .int .i64 v] w fun e w' => ∃ g, e = .returned (.tuple #[.slice (some ⟨g, 0, none⟩) 11 11, .int .i64 0]) ∧ w.heap.size ≤ g ∧ NumAt w' g (nodS es n v) ∧ Below w.heap.size w w' := by
  have d0 : decide (v < 0) = false := by simp; omega
  have d1 : decide ((n : Int) ≤ v) = false := by simp; omega
  have hbd0 : Below w.heap.size w ((w.alloc (.cells #[.int .i64 n, .slice a es.length cap] 27)).alloc (.cells #[.int .i64 v] 3)) := ((Below.refl _ _).alloc (Nat.le_refl _) _).alloc (by simp) _
  go_enter Tryd.func25, Tryd.ntmps25
  go_wp2_with fail
  refine (gcheck_any n a cap es _ (he.below hbd0)).mono ?_
  rintro e w1 ⟨rfl, hb1⟩
  rw [(valid_iff n es).2 hv]
  have b0 : w1.cell? ⟨w.heap.size, 0, none⟩ = some (.int .i64 n) := (hb1.cell (p := ⟨w.heap.size, 0, none⟩) (by simp; omega)).trans (cell_alloc (cell_blk (heap_alloc_new _ _)))
  have b1 : w1.cell? ⟨w.heap.size, 1, none⟩ = some (.slice a es.length cap) := (hb1.cell (p := ⟨w.heap.size, 1, none⟩) (by simp; omega)).trans (cell_alloc (cell_blk (heap_alloc_new _ _)))
  have b2 : w1.cell? ⟨w.heap.size + 1, 0, none⟩ = some (.int .i64 v) := (hb1.cell (p := ⟨w.heap.size + 1, 0, none⟩) (by simp)).trans (by rw [show w.heap.size + 1 = (w.alloc (.cells #[.int .i64 n, .slice a es.length cap] 27)).heap.size by simp]; exact cell_blk (heap_alloc_new _ _))
  have hbw : Below w.heap.size w w1 := hbd0.trans (hb1.mono (by simp; omega))
  clear hb1 hbd0
  go_wp2_with fail
  refine (sums_node v (w.heap.size + 1) n a cap es _ (he.below hbw) hv (ht.below hbw) b2).mono ?_
  rintro e w2 ⟨g, rfl, hg, hi2, hb2⟩
  go_wp2
  go_ret2
  exact ⟨_, rfl, Nat.le_trans hbw.size hg, hi2, hbw.trans (hb2.mono hbw.size)⟩
end Go.Proofs.YtdiackininlmeaaDoor
