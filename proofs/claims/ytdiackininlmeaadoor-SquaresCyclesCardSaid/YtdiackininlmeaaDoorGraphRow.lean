/- The contracts of a node's row and of its neighbours, for valid graphs. -/
import Derived.Test.YtdiackininlmeaaDoorMasksRows
namespace Go.Proofs.YtdiackininlmeaaDoor
open Go.RowKit Go.BigFrame

theorem owns_base {w : World} {b b' T size n : Nat} {v : Value} {xs : List Value} (h : w.ownsRow b T size v n xs) (hb : b' ≤ b) : w.ownsRow b' T size v n xs := by
  obtain ⟨h1, h2 | ⟨g, cap, cur, hv, hg, h3⟩⟩ := h
  · exact ⟨h1, .inl h2⟩
  · exact ⟨h1, .inr ⟨g, cap, cur, hv, Nat.le_trans hb hg, h3⟩⟩
theorem rowN_lt64 {n : Nat} {es : List E2} (hv : Valid n es) (v : Nat) : rowN es v < 18446744073709551616 := by
  have h : rowN es v < 2 ^ 64 := rowN_lt n hv.2.1 v es 0 (by omega) hv.2.2.1
  simpa using h
set_option maxRecDepth 100000 in
set_option maxHeartbeats 800000 in
theorem row_any (n v : Nat) (a : Option Addr) (cap : Nat) (es : List E2) (w : World) (he : EdgesAt w (.slice a es.length cap) es) (hv : Valid n es) (hvn : v < n) :
    Calls Tryd.prog 88 #[.agg #[.int .i64 n, .slice a es.length cap], .int .i64 v] w fun e w' => e = .returned (.int .u64 (rowN es v)) ∧ Below w.heap.size w w' := by
  have hn := hv.2.1
  have hbd0 : Below w.heap.size w (w.alloc (.cells #[.int .i64 n, .slice a es.length cap] 27)) := (Below.refl _ _).alloc (Nat.le_refl _) _
  have d1 : decide ((n : Int) ≤ v) = false := by simp; omega
  have d2 : decide (n ≤ v) = false := by simp; omega
  go_enter Tryd.func88, Tryd.ntmps88
  go_wp2_with fail
  refine (rows_any n a cap es _ (he.below hbd0) hv).mono ?_
  rintro e w1 ⟨g, rfl, hg, hR, hb1⟩
  have b0 : w1.cell? ⟨w.heap.size, 0, none⟩ = some (.int .i64 n) := (hb1.cell (p := ⟨w.heap.size, 0, none⟩) (by simp)).trans (cell_blk (heap_alloc_new _ _))
  have b1 : w1.cell? ⟨w.heap.size, 1, none⟩ = some (.slice a es.length cap) := (hb1.cell (p := ⟨w.heap.size, 1, none⟩) (by simp)).trans (cell_blk (heap_alloc_new _ _))
  have hbw := hbd0.trans (hb1.mono hbd0.size)
  clear hb1 hbd0
  go_wp2_with fail
  refine (gcheck_any n a cap es _ (he.below hbw)).mono ?_
  rintro e w2 ⟨rfl, hb2⟩
  rw [(valid_iff n es).2 hv]
  have hR2 := (hb2.block g (blk_lt hR)).trans hR
  have c0 : w2.cell? ⟨g, v, none⟩ = some (.int .u64 (rowN es v)) := by rw [cell_blk hR2]; simpa using rowsV_get n es v hvn
  go_wp2_with fail
  go_ret
  exact ⟨rfl, hbw.trans (hb2.mono hbw.size)⟩
/-- the neighbours of a node by the program -/
def nbS (es : List E2) (v : Nat) : List Int := bitsL (rowN es v)
set_option maxHeartbeats 800000 in
theorem gneigh_any (n v : Nat) (a : Option Addr) (cap : Nat) (es : List E2) (w : World) (he : EdgesAt w (.slice a es.length cap) es) (hv : Valid n es) (hvn : v < n) (hT : TzAt w) :
    Calls Tryd.prog 86 #[.agg #[.int .i64 n, .slice a es.length cap], .int .i64 v] w fun e w' => ∃ x, e = .returned x ∧ w'.ownsRow w.heap.size 3 1 x (nbS es v).length (intsV (nbS es v)) ∧ Below w.heap.size w w' := by
  have hbd0 : Below w.heap.size w (w.alloc (.cells #[.int .i64 n, .slice a es.length cap] 27)) := (Below.refl _ _).alloc (Nat.le_refl _) _
  go_enter Tryd.func86, Tryd.ntmps86
  go_wp2_with fail
  refine (row_any n v a cap es _ (he.below hbd0) hv hvn).mono ?_
  rintro e w1 ⟨rfl, hb1⟩
  have hbw := hbd0.trans (hb1.mono hbd0.size)
  go_wp2_with fail
  refine (list_any (rowN es v) (rowN_lt64 hv v) _ (hT.below hbw)).mono ?_
  rintro e w2 ⟨x, rfl, hx, hb2⟩
  go_wp2_with fail
  go_ret
  exact ⟨_, rfl, owns_base hx hbw.size, hbw.trans (hb2.mono hbw.size)⟩
end Go.Proofs.YtdiackininlmeaaDoor
