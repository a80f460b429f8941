/- The contracts of the numbers of squares of nodes and of edges. -/
import Derived.Test.YtbkacbbhiecnkaaDoorSqEdges
namespace Go.Proofs.YtbkacbbhiecnkaaDoor
open Go.RowKit Go.BigFrame

set_option maxRecDepth 100000 in
set_option maxHeartbeats 1600000 in
theorem snodes_any (n : Nat) (a : Option Addr) (cap : Nat) (es : List E2) (w : World) (he : EdgesAt w (.slice a es.length cap) es) (hv : Valid n es) (hT : TzAt w) :
    Calls Tryd.prog 65 #[.agg #[.int .i64 n, .slice a es.length cap]] w fun e w' => ∃ g, e = .returned (.tuple #[.slice (some ⟨g, 0, none⟩) n n, .int .i64 0]) ∧ w.heap.size ≤ g ∧ NumAt w' g (sqV es n n 0) ∧ Below w.heap.size w w' := by
  have hb0 : Below w.heap.size w (w.alloc (.cells #[.int .i64 n, .slice a es.length cap] 27)) := (Below.refl _ _).alloc (Nat.le_refl _) _
  have hG0 := heap_alloc_new w (.cells #[.int .i64 n, .slice a es.length cap] 27)
  have hck := fun W h => gcheck_any n a cap es W h
  rw [(valid_iff n es).2 hv] at hck
  go_enter Tryd.func65, Tryd.ntmps65
  go_wp2_with fail
  refine (hck _ (he.below hb0)).mono ?_
  rintro e w1 ⟨rfl, hb1⟩
  have hb01 := hb0.trans (hb1.mono hb0.size)
  have hG1 := lit_next' hb1 hG0
  have g0 : w1.cell? ⟨w.heap.size, 0, none⟩ = some (.int .i64 n) := by rw [cell_blk hG1]; rfl
  have g1 : w1.cell? ⟨w.heap.size, 1, none⟩ = some (.slice a es.length cap) := by rw [cell_blk hG1]; rfl
  clear hb1 hb0 hG0 hck
  go_wp2_with fail
  refine (counts_any n a cap es _ (he.below hb01) hv (hT.below hb01)).mono ?_
  rintro e w2 ⟨g, rfl, hg, hN, hb2⟩
  go_wp2_with fail
  go_ret2
  exact ⟨g, rfl, Nat.le_trans hb01.size hg, hN, hb01.trans (hb2.mono hb01.size)⟩
theorem ovS_len (es : List E2) (k : Nat) (hk : k ≤ es.length) : (ovS es k).length = k := by unfold ovS; rw [List.length_map, List.length_take, Nat.min_eq_left hk]
theorem ovS_step (es : List E2) (k : Nat) (e : E2) (h : es[k]? = some e) : (ovS es k ++ List.replicate (es.length - k) 0).set k ((ovN es e.1.toNat e.2.toNat).length : Int) = ovS es (k + 1) ++ List.replicate (es.length - (k + 1)) 0 := by
  have hlt := (List.getElem?_eq_some_iff.1 h).1
  have hl := ovS_len es k (by omega)
  have e1 : ovS es (k + 1) = ovS es k ++ [((ovN es e.1.toNat e.2.toNat).length : Int)] := by
    unfold ovS
    rw [take_at _ _ _ h, List.map_append]; rfl
  have e2 : List.replicate (es.length - k) (0 : Int) = 0 :: List.replicate (es.length - (k + 1)) 0 := by
    rw [show es.length - k = (es.length - (k + 1)) + 1 by omega]; rfl
  rw [List.set_append_right k _ (by omega), hl, Nat.sub_self, e2, List.set_cons_zero, e1, List.append_assoc]; rfl
set_option maxRecDepth 100000 in
set_option maxHeartbeats 3200000 in
theorem sedges_any (n : Nat) (a : Option Addr) (cap : Nat) (es : List E2) (w : World) (he : EdgesAt w (.slice a es.length cap) es) (hv : Valid n es) (hT : TzAt w) :
    Calls Tryd.prog 66 #[.agg #[.int .i64 n, .slice a es.length cap]] w fun e w' => ∃ g, e = .returned (.tuple #[.slice (some ⟨g, 0, none⟩) es.length es.length, .int .i64 0]) ∧ w.heap.size ≤ g ∧ NumAt w' g (ovS es es.length) ∧ Below w.heap.size w w' := by
  have hel := hv.length_le
  have hb0 : Below w.heap.size w (w.alloc (.cells #[.int .i64 n, .slice a es.length cap] 27)) := (Below.refl _ _).alloc (Nat.le_refl _) _
  have hG0 := heap_alloc_new w (.cells #[.int .i64 n, .slice a es.length cap] 27)
  have hck := fun W h => gcheck_any n a cap es W h
  rw [(valid_iff n es).2 hv] at hck
  have hmk := make_ints es.length (by omega)
  go_enter Tryd.func66, Tryd.ntmps66
  go_wp2_with fail
  refine (hck _ (he.below hb0)).mono ?_
  rintro e w1 ⟨rfl, hb1⟩
  have hb01 := hb0.trans (hb1.mono hb0.size)
  have hG1 := lit_next' hb1 hG0
  have g1 : w1.cell? ⟨w.heap.size, 1, none⟩ = some (.slice a es.length cap) := by rw [cell_blk hG1]; rfl
  have hG2 := (Below.heap_alloc w1 (.cells (intsV (List.replicate es.length 0)).toArray 3) _ (blk_lt hG1)).trans hG1
  have g2 : (w1.alloc (.cells (intsV (List.replicate es.length 0)).toArray 3)).cell? ⟨w.heap.size, 1, none⟩ = some (.slice a es.length cap) := by rw [cell_blk hG2]; rfl
  have hN0 : NumAt (w1.alloc (.cells (intsV (List.replicate es.length 0)).toArray 3)) w1.heap.size (ovS es 0 ++ List.replicate (es.length - 0) 0) := heap_alloc_new _ _
  have hb02 := hb01.alloc hb01.size (.cells (intsV (List.replicate es.length 0)).toArray 3)
  have hz1 := blk_lt hG1
  have hw1 := hb01.size
  clear hb1 hb0 hG0 hck
  go_wp2_with fail
  clear hmk g1 g2
  generalize w1.alloc (.cells (intsV (List.replicate es.length 0)).toArray 3) = w2 at *
  go_loopw [20] (fun i wr => ∃ k : Nat, k ≤ es.length ∧ i = .int .i64 k ∧ NumAt wr w1.heap.size (ovS es k ++ List.replicate (es.length - k) 0) ∧ Below w.heap.size w wr ∧ wr.heap[w.heap.size]? = some (.cells #[.int .i64 n, .slice a es.length cap] 27 (0, 0))) (fun i _ => es.length - (intOf i).toNat)
  case atStart => exact ⟨0, Nat.zero_le _, rfl, hN0, hb02, hG2⟩
  case round =>
    clear hN0 hb02 hG2
    obtain ⟨k, hk, rfl, hN, hb, hG⟩ := hrel
    have hNz := blk_lt hN
    by_cases hlt : k < es.length
    · have hxi := hv.2.2.1 es[k] (List.getElem_mem hlt)
      have hstep := ovS_step es k es[k] (List.getElem?_eq_getElem hlt)
      obtain ⟨a', cap', hvv, _, _, _, hcell⟩ := he.below hb
      obtain ⟨bb, off, ha, c0, c1⟩ := hcell k _ (List.getElem?_eq_getElem hlt)
      cases hvv
      subst ha
      obtain ⟨x, hx⟩ : ∃ x, es[k].1 = x := ⟨_, rfl⟩
      obtain ⟨y, hy⟩ : ∃ y, es[k].2 = y := ⟨_, rfl⟩
      have hi1 : 0 ≤ x := by rw [← hx]; exact hxi.1
      have hi2 : x < y := by rw [← hx, ← hy]; exact hxi.2.1
      have hi3 : y < n := by rw [← hy]; exact hxi.2.2
      rw [hx, hy] at hstep
      rw [hx] at c0
      rw [hy] at c1
      clear hx hy hxi hcell
      obtain ⟨x, rfl⟩ := Int.eq_ofNat_of_zero_le hi1
      obtain ⟨y, rfl⟩ := Int.eq_ofNat_of_zero_le (show 0 ≤ y by omega)
      rw [Int.toNat_natCast, Int.toNat_natCast] at hstep
      have HST := Lib.hid hstep
      clear hstep
      have hE := heap_alloc_new wr (.cells #[.int .i64 x, .int .i64 y] 42)
      have hbn := (Below.refl wr.heap.size wr).alloc (Nat.le_refl _) (.cells #[.int .i64 x, .int .i64 y] 42)
      have hGn := lit_next' hbn hG
      have g0 : (wr.alloc (.cells #[.int .i64 x, .int .i64 y] 42)).cell? ⟨w.heap.size, 0, none⟩ = some (.int .i64 n) := by rw [cell_blk hGn]; rfl
      have g1 : (wr.alloc (.cells #[.int .i64 x, .int .i64 y] 42)).cell? ⟨w.heap.size, 1, none⟩ = some (.slice (some ⟨bb, off, none⟩) es.length cap) := by rw [cell_blk hGn]; rfl
      have hbwn := hb.trans (hbn.mono hb.size)
      go_wp2_with fail
      refine (over_any n x y (some ⟨bb, off, none⟩) cap es _ (he.below hbwn) hv (by omega) (by omega) (hT.below hbwn)).mono ?_
      rintro e w3 ⟨a3, c3, rfl, -, hb3⟩
      have hb13 := hbn.trans (hb3.mono hbn.size)
      have hN3 := hN.below hb13
      have hG3 := lit_next' hb13 hG
      have hb03 := hb.trans (hb13.mono hb.size)
      obtain ⟨z0, hz0⟩ : ∃ z, w3.cell? ⟨w1.heap.size, k, none⟩ = some (.int .i64 z) := by
        have hl := ovS_len es k hk
        refine ⟨0, hN3.cell k 0 ?_⟩
        rw [List.getElem?_append_right (by omega), hl, Nat.sub_self, List.getElem?_replicate, if_pos (by omega)]
      have f0 : w3.frozen? ⟨w1.heap.size, k, none⟩ = false := free_blk hN3
      have hset := hN3.set k ((ovN es x y).length : Int)
      rw [HST.out] at hset
      have HSE := Lib.hid hset
      clear hset hN3 hN g0 g1 c0 c1 hE hGn hb3
      go_wp2_with fail
      go_roundw
      case rel => exact ⟨k + 1, by omega, by go_num, HSE.out, hb03.setCell (p := ⟨w1.heap.size, k, none⟩) hw1 _, (Below.heap_setCell _ _ _ _ (by show w.heap.size ≠ w1.heap.size; omega)).trans hG3⟩
      case measure => simp [intOf]; omega
    · obtain rfl : k = es.length := by omega
      rw [Nat.sub_self, List.replicate_zero, List.append_nil] at hN
      go_wp2_with fail
      go_ret2
      exact ⟨w1.heap.size, rfl, hw1, hN, hb⟩
end Go.Proofs.YtbkacbbhiecnkaaDoor
