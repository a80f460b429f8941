/- What rounds and ref38 say of worlds that are not valid (printed by wip/mkr8err.py). Deliver at channels that are not there, or empty; ref38.Numbers (printed by wip/mkr8rng.py). Start and Settle of any graph and plan, in rounds and in ref38 (printed by wip/mkr8stl.py). Plain: worlds that are valid, in the words of worlds of workers. -/
import Derived.Test.YtdkmdcdoiaelfaaGreatR8Ply
namespace Go.Proofs.YtdkmdcdoiaelfaaGreat
open Go.RowKit Go.BigFrame

/-- the empty world -/
def zeroW : WdL := ⟨0, [], 0, [], [], [], []⟩
theorem ints_void (w : World) : IntsAt w (.slice none 0 0) [] := ⟨none, 0, rfl, Nat.le_refl _, (fun _ => rfl), by simp, fun i e h => by simp at h⟩
theorem edges_void (w : World) : EdgesAt w (.slice none 0 0) [] := ⟨none, 0, rfl, Nat.le_refl _, (fun _ => rfl), by simp, fun i e h => by simp at h⟩
theorem zero_at (w : World) : WldAt w (.agg #[.int .i64 0, .slice none 0 0, .int .i64 0, .slice none 0 0, .slice none 0 0, .slice none 0 0, .slice none 0 0]) zeroW := ⟨none, none, none, none, none, 0, 0, 0, 0, 0, rfl, edges_void w, ints_void w, ints_void w, NestA.nil (fun _ => rfl), NestA.nil (fun _ => rfl)⟩
theorem zero_few : FewW zeroW := ⟨Nat.zero_le _, Nat.zero_le _, (fun _ h => by cases h), Nat.zero_le _, (fun _ h => by cases h), fun _ h => by cases h⟩
set_option linter.unusedSimpArgs false in
set_option maxRecDepth 100000 in
theorem rdnum_bad (W : WdL) (v : Value) (w : World) (h : WldAt w v W) (hbm : ∀ r ∈ W.bx, ∀ m ∈ r, m.length ≤ 1000000) (hvb : valB W = false) :
    Calls Tryz.prog 19 #[v] w fun e w' => e = .returned (.slice none 0 0) ∧ Below w.heap.size w w' := by
  obtain ⟨n, es, P, ow, hv, kn, bx⟩ := W
  obtain ⟨ae, ao, ah, ak, ab, ce, co, ch, ck, cb, rfl, -⟩ := id h
  dsimp only at *
  obtain ⟨hX1, hbA⟩ := boxG_new w #[.int .i64 n, .slice ae es.length ce, .int .i64 P, .slice ao ow.length co, .slice ah hv.length ch, .slice ak kn.length ck, .slice ab bx.length cb] 36
  obtain ⟨wA, hwA⟩ : ∃ V : World, V = w.alloc (.cells #[.int .i64 n, .slice ae es.length ce, .int .i64 P, .slice ao ow.length co, .slice ah hv.length ch, .slice ak kn.length ck, .slice ab bx.length cb] 36) := ⟨_, rfl⟩
  rw [← hwA] at hX1 hbA
  obtain ⟨X, hX⟩ : ∃ X, w.heap.size = X := ⟨_, rfl⟩
  rw [hX] at hX1
  have HX := Lib.hid hX
  have HWA := Lib.hid hwA
  have hval := rdvalid_any ⟨n, es, P, ow, hv, kn, bx⟩ (.agg #[.int .i64 n, .slice ae es.length ce, .int .i64 P, .slice ao ow.length co, .slice ah hv.length ch, .slice ak kn.length ck, .slice ab bx.length cb]) wA (h.below hbA) hbm
  rw [hvb] at hval
  clear hwA hX
  obtain ⟨x0, x1, x2, x3, x4, x5, x6⟩ := cells7 hX1
  go_enter Tryz.func19, Tryz.ntmps19
  go_upto_region 1 with fail
  rw [← HWA.out, HX.out]
  go_wp2_with fail
  refine hval.mono ?_
  rintro e w2 ⟨rfl, hb2⟩
  have hbw2 := hbA.trans (hb2.mono hbA.size)
  go_wp2_with fail
  go_ret
  exact ⟨rfl, hbw2⟩
set_option linter.unusedSimpArgs false in
set_option maxRecDepth 100000 in
theorem rdrdy_bad (W : WdL) (v : Value) (w : World) (h : WldAt w v W) (hbm : ∀ r ∈ W.bx, ∀ m ∈ r, m.length ≤ 1000000) (hvb : valB W = false) :
    Calls Tryz.prog 21 #[v] w fun e w' => e = .returned (.slice none 0 0) ∧ Below w.heap.size w w' := by
  obtain ⟨n, es, P, ow, hv, kn, bx⟩ := W
  obtain ⟨ae, ao, ah, ak, ab, ce, co, ch, ck, cb, rfl, -⟩ := id h
  dsimp only at *
  obtain ⟨hX1, hbA⟩ := boxG_new w #[.int .i64 n, .slice ae es.length ce, .int .i64 P, .slice ao ow.length co, .slice ah hv.length ch, .slice ak kn.length ck, .slice ab bx.length cb] 36
  obtain ⟨wA, hwA⟩ : ∃ V : World, V = w.alloc (.cells #[.int .i64 n, .slice ae es.length ce, .int .i64 P, .slice ao ow.length co, .slice ah hv.length ch, .slice ak kn.length ck, .slice ab bx.length cb] 36) := ⟨_, rfl⟩
  rw [← hwA] at hX1 hbA
  obtain ⟨X, hX⟩ : ∃ X, w.heap.size = X := ⟨_, rfl⟩
  rw [hX] at hX1
  have HX := Lib.hid hX
  have HWA := Lib.hid hwA
  have hval := rdvalid_any ⟨n, es, P, ow, hv, kn, bx⟩ (.agg #[.int .i64 n, .slice ae es.length ce, .int .i64 P, .slice ao ow.length co, .slice ah hv.length ch, .slice ak kn.length ck, .slice ab bx.length cb]) wA (h.below hbA) hbm
  rw [hvb] at hval
  clear hwA hX
  obtain ⟨x0, x1, x2, x3, x4, x5, x6⟩ := cells7 hX1
  go_enter Tryz.func21, Tryz.ntmps21
  go_upto_region 1 with fail
  rw [← HWA.out, HX.out]
  go_wp2_with fail
  refine hval.mono ?_
  rintro e w2 ⟨rfl, hb2⟩
  have hbw2 := hbA.trans (hb2.mono hbA.size)
  go_wp2_with fail
  go_ret
  exact ⟨rfl, hbw2⟩
set_option linter.unusedSimpArgs false in
set_option maxRecDepth 100000 in
theorem rddel_bad (W : WdL) (v : Value) (i j : Int) (w : World) (h : WldAt w v W) (hbm : ∀ r ∈ W.bx, ∀ m ∈ r, m.length ≤ 1000000) (hvb : valB W = false) :
    Calls Tryz.prog 24 #[v, .int .i64 i, .int .i64 j] w fun e w' => e = .returned (.tuple #[.agg #[.int .i64 0, .slice none 0 0, .int .i64 0, .slice none 0 0, .slice none 0 0, .slice none 0 0, .slice none 0 0], .int .i64 31]) ∧ Below w.heap.size w w' := by
  obtain ⟨n, es, P, ow, hv, kn, bx⟩ := W
  obtain ⟨ae, ao, ah, ak, ab, ce, co, ch, ck, cb, rfl, -⟩ := id h
  dsimp only at *
  obtain ⟨hX0, hb0⟩ := boxG_new w #[.int .i64 n, .slice ae es.length ce, .int .i64 P, .slice ao ow.length co, .slice ah hv.length ch, .slice ak kn.length ck, .slice ab bx.length cb] 36
  obtain ⟨w1, hw1⟩ : ∃ V : World, V = w.alloc (.cells #[.int .i64 n, .slice ae es.length ce, .int .i64 P, .slice ao ow.length co, .slice ah hv.length ch, .slice ak kn.length ck, .slice ab bx.length cb] 36) := ⟨_, rfl⟩
  have hz1 : w1.heap.size = w.heap.size + 1 := by rw [hw1]; simp
  rw [← hw1] at hX0 hb0
  obtain ⟨hZ0, hb1⟩ := boxG_new w1 #[.int .i64 0, .slice none 0 0, .int .i64 0, .slice none 0 0, .slice none 0 0, .slice none 0 0, .slice none 0 0] 36
  obtain ⟨wA, hwA⟩ : ∃ V : World, V = w1.alloc (.cells #[.int .i64 0, .slice none 0 0, .int .i64 0, .slice none 0 0, .slice none 0 0, .slice none 0 0, .slice none 0 0] 36) := ⟨_, rfl⟩
  rw [← hwA] at hZ0 hb1
  have hX1 := lit_next' hb1 hX0
  have hbA := hb0.trans (hb1.mono hb0.size)
  obtain ⟨X, hX⟩ : ∃ X, w.heap.size = X := ⟨_, rfl⟩
  rw [hz1] at hZ0
  rw [hX] at hX1 hZ0
  have HX := Lib.hid hX
  have hwA2 : wA = (w.alloc (.cells #[.int .i64 n, .slice ae es.length ce, .int .i64 P, .slice ao ow.length co, .slice ah hv.length ch, .slice ak kn.length ck, .slice ab bx.length cb] 36)).alloc (.cells #[.int .i64 0, .slice none 0 0, .int .i64 0, .slice none 0 0, .slice none 0 0, .slice none 0 0, .slice none 0 0] 36) := by rw [hwA, hw1]
  have HWA := Lib.hid hwA2
  have hval := rdvalid_any ⟨n, es, P, ow, hv, kn, bx⟩ (.agg #[.int .i64 n, .slice ae es.length ce, .int .i64 P, .slice ao ow.length co, .slice ah hv.length ch, .slice ak kn.length ck, .slice ab bx.length cb]) wA (h.below hbA) hbm
  rw [hvb] at hval
  clear hX0 hb0 hb1 hz1 hw1 hwA hwA2 w1 hX
  obtain ⟨x0, x1, x2, x3, x4, x5, x6⟩ := cells7 hX1
  go_enter Tryz.func24, Tryz.ntmps24
  go_upto_region 1 with fail
  rw [← HWA.out, HX.out]
  go_wp2_with fail
  refine hval.mono ?_
  rintro e w2 ⟨rfl, hb2⟩
  have hbw2 := hbA.trans (hb2.mono hbA.size)
  have hZ2 := lit_next' hb2 hZ0
  clear hval x0 x1 x2 x3 x4 x5 x6
  obtain ⟨wF, hwF⟩ : ∃ V : World, V = (((((((w2.setCell ⟨X + 1, 0, none⟩ (.int .i64 0)).setCell ⟨X + 1, 1, none⟩ (.slice none 0 0)).setCell ⟨X + 1, 2, none⟩ (.int .i64 0)).setCell ⟨X + 1, 3, none⟩ (.slice none 0 0)).setCell ⟨X + 1, 4, none⟩ (.slice none 0 0)).setCell ⟨X + 1, 5, none⟩ (.slice none 0 0)).setCell ⟨X + 1, 6, none⟩ (.slice none 0 0)) := ⟨_, rfl⟩
  have hfin := set7all (d0 := .int .i64 0) (d1 := .slice none 0 0) (d2 := .int .i64 0) (d3 := .slice none 0 0) (d4 := .slice none 0 0) (d5 := .slice none 0 0) (d6 := .slice none 0 0) hZ2
  have hgF := set7_grown w2 (X + 1) (.int .i64 0) (.slice none 0 0) (.int .i64 0) (.slice none 0 0) (.slice none 0 0) (.slice none 0 0) (.slice none 0 0)
  rw [← hwF] at hfin hgF
  have HWF := Lib.hid hwF
  have hbF : Below w.heap.size w wF := hbw2.grown hgF hbw2.size (fun k e => by cases e; rw [HX.out]; omega)
  obtain ⟨t0, t1, t2, t3, t4, t5, t6⟩ := cells7 hfin
  obtain ⟨v0, v1, v2, v3, v4, v5, v6⟩ := cells7 hZ2
  have fZ := fun q => free_blk (j := q) hZ2
  have f0 := fZ 0
  have f1 := fZ 1
  have f2 := fZ 2
  have f3 := fZ 3
  have f4 := fZ 4
  have f5 := fZ 5
  have f6 := fZ 6
  clear hwF hgF hfin fZ
  go_wp2_with fail
  rw [← HWF.out]
  exact bodyPost_ret (v := .tuple #[.agg #[.int .i64 0, .slice none 0 0, .int .i64 0, .slice none 0 0, .slice none 0 0, .slice none 0 0, .slice none 0 0], .int .i64 31]) (by simp [results, Tryz.results24, go_sem, t0, t1, t2, t3, t4, t5, t6]) rfl ⟨rfl, hbF⟩
set_option linter.unusedSimpArgs false in
set_option maxRecDepth 100000 in
theorem rdply_bad (W : WdL) (v : Value) (sv : Value) (w : World) (h : WldAt w v W) (hbm : ∀ r ∈ W.bx, ∀ m ∈ r, m.length ≤ 1000000) (hvb : valB W = false) :
    Calls Tryz.prog 26 #[v, sv] w fun e w' => e = .returned (.tuple #[.agg #[.int .i64 0, .slice none 0 0, .int .i64 0, .slice none 0 0, .slice none 0 0, .slice none 0 0, .slice none 0 0], .int .i64 0, .int .i64 31]) ∧ Below w.heap.size w w' := by
  obtain ⟨n, es, P, ow, hv, kn, bx⟩ := W
  obtain ⟨ae, ao, ah, ak, ab, ce, co, ch, ck, cb, rfl, -⟩ := id h
  dsimp only at *
  obtain ⟨hX0, hb0⟩ := boxG_new w #[.int .i64 n, .slice ae es.length ce, .int .i64 P, .slice ao ow.length co, .slice ah hv.length ch, .slice ak kn.length ck, .slice ab bx.length cb] 36
  obtain ⟨w1, hw1⟩ : ∃ V : World, V = w.alloc (.cells #[.int .i64 n, .slice ae es.length ce, .int .i64 P, .slice ao ow.length co, .slice ah hv.length ch, .slice ak kn.length ck, .slice ab bx.length cb] 36) := ⟨_, rfl⟩
  have hz1 : w1.heap.size = w.heap.size + 1 := by rw [hw1]; simp
  rw [← hw1] at hX0 hb0
  obtain ⟨hZ0, hb1⟩ := boxG_new w1 #[.int .i64 0, .slice none 0 0, .int .i64 0, .slice none 0 0, .slice none 0 0, .slice none 0 0, .slice none 0 0] 36
  obtain ⟨wA, hwA⟩ : ∃ V : World, V = w1.alloc (.cells #[.int .i64 0, .slice none 0 0, .int .i64 0, .slice none 0 0, .slice none 0 0, .slice none 0 0, .slice none 0 0] 36) := ⟨_, rfl⟩
  rw [← hwA] at hZ0 hb1
  have hX1 := lit_next' hb1 hX0
  have hbA := hb0.trans (hb1.mono hb0.size)
  obtain ⟨X, hX⟩ : ∃ X, w.heap.size = X := ⟨_, rfl⟩
  rw [hz1] at hZ0
  rw [hX] at hX1 hZ0
  have HX := Lib.hid hX
  have hwA2 : wA = (w.alloc (.cells #[.int .i64 n, .slice ae es.length ce, .int .i64 P, .slice ao ow.length co, .slice ah hv.length ch, .slice ak kn.length ck, .slice ab bx.length cb] 36)).alloc (.cells #[.int .i64 0, .slice none 0 0, .int .i64 0, .slice none 0 0, .slice none 0 0, .slice none 0 0, .slice none 0 0] 36) := by rw [hwA, hw1]
  have HWA := Lib.hid hwA2
  have hval := rdvalid_any ⟨n, es, P, ow, hv, kn, bx⟩ (.agg #[.int .i64 n, .slice ae es.length ce, .int .i64 P, .slice ao ow.length co, .slice ah hv.length ch, .slice ak kn.length ck, .slice ab bx.length cb]) wA (h.below hbA) hbm
  rw [hvb] at hval
  clear hX0 hb0 hb1 hz1 hw1 hwA hwA2 w1 hX
  obtain ⟨x0, x1, x2, x3, x4, x5, x6⟩ := cells7 hX1
  go_enter Tryz.func26, Tryz.ntmps26
  go_upto_region 1 with fail
  rw [← HWA.out, HX.out]
  go_wp2_with fail
  refine hval.mono ?_
  rintro e w2 ⟨rfl, hb2⟩
  have hbw2 := hbA.trans (hb2.mono hbA.size)
  have hZ2 := lit_next' hb2 hZ0
  clear hval x0 x1 x2 x3 x4 x5 x6
  obtain ⟨wF, hwF⟩ : ∃ V : World, V = (((((((w2.setCell ⟨X + 1, 0, none⟩ (.int .i64 0)).setCell ⟨X + 1, 1, none⟩ (.slice none 0 0)).setCell ⟨X + 1, 2, none⟩ (.int .i64 0)).setCell ⟨X + 1, 3, none⟩ (.slice none 0 0)).setCell ⟨X + 1, 4, none⟩ (.slice none 0 0)).setCell ⟨X + 1, 5, none⟩ (.slice none 0 0)).setCell ⟨X + 1, 6, none⟩ (.slice none 0 0)) := ⟨_, rfl⟩
  have hfin := set7all (d0 := .int .i64 0) (d1 := .slice none 0 0) (d2 := .int .i64 0) (d3 := .slice none 0 0) (d4 := .slice none 0 0) (d5 := .slice none 0 0) (d6 := .slice none 0 0) hZ2
  have hgF := set7_grown w2 (X + 1) (.int .i64 0) (.slice none 0 0) (.int .i64 0) (.slice none 0 0) (.slice none 0 0) (.slice none 0 0) (.slice none 0 0)
  rw [← hwF] at hfin hgF
  have HWF := Lib.hid hwF
  have hbF : Below w.heap.size w wF := hbw2.grown hgF hbw2.size (fun k e => by cases e; rw [HX.out]; omega)
  obtain ⟨t0, t1, t2, t3, t4, t5, t6⟩ := cells7 hfin
  obtain ⟨v0, v1, v2, v3, v4, v5, v6⟩ := cells7 hZ2
  have fZ := fun q => free_blk (j := q) hZ2
  have f0 := fZ 0
  have f1 := fZ 1
  have f2 := fZ 2
  have f3 := fZ 3
  have f4 := fZ 4
  have f5 := fZ 5
  have f6 := fZ 6
  clear hwF hgF hfin fZ
  go_wp2_with fail
  rw [← HWF.out]
  exact bodyPost_ret (v := .tuple #[.agg #[.int .i64 0, .slice none 0 0, .int .i64 0, .slice none 0 0, .slice none 0 0, .slice none 0 0, .slice none 0 0], .int .i64 0, .int .i64 31]) (by simp [results, Tryz.results26, go_sem, t0, t1, t2, t3, t4, t5, t6]) rfl ⟨rfl, hbF⟩
set_option linter.unusedSimpArgs false in
set_option maxRecDepth 100000 in
theorem rdfin_bad (W : WdL) (v : Value) (w : World) (h : WldAt w v W) (hbm : ∀ r ∈ W.bx, ∀ m ∈ r, m.length ≤ 1000000) (hvb : valB W = false) :
    Calls Tryz.prog 28 #[v] w fun e w' => e = .returned (.tuple #[.agg #[.int .i64 0, .slice none 0 0, .int .i64 0, .slice none 0 0, .slice none 0 0, .slice none 0 0, .slice none 0 0], .int .i64 31]) ∧ Below w.heap.size w w' := by
  obtain ⟨n, es, P, ow, hv, kn, bx⟩ := W
  obtain ⟨ae, ao, ah, ak, ab, ce, co, ch, ck, cb, rfl, -⟩ := id h
  dsimp only at *
  obtain ⟨hX0, hb0⟩ := boxG_new w #[.int .i64 n, .slice ae es.length ce, .int .i64 P, .slice ao ow.length co, .slice ah hv.length ch, .slice ak kn.length ck, .slice ab bx.length cb] 36
  obtain ⟨w1, hw1⟩ : ∃ V : World, V = w.alloc (.cells #[.int .i64 n, .slice ae es.length ce, .int .i64 P, .slice ao ow.length co, .slice ah hv.length ch, .slice ak kn.length ck, .slice ab bx.length cb] 36) := ⟨_, rfl⟩
  have hz1 : w1.heap.size = w.heap.size + 1 := by rw [hw1]; simp
  rw [← hw1] at hX0 hb0
  obtain ⟨hZ0, hb1⟩ := boxG_new w1 #[.int .i64 0, .slice none 0 0, .int .i64 0, .slice none 0 0, .slice none 0 0, .slice none 0 0, .slice none 0 0] 36
  obtain ⟨wA, hwA⟩ : ∃ V : World, V = w1.alloc (.cells #[.int .i64 0, .slice none 0 0, .int .i64 0, .slice none 0 0, .slice none 0 0, .slice none 0 0, .slice none 0 0] 36) := ⟨_, rfl⟩
  rw [← hwA] at hZ0 hb1
  have hX1 := lit_next' hb1 hX0
  have hbA := hb0.trans (hb1.mono hb0.size)
  obtain ⟨X, hX⟩ : ∃ X, w.heap.size = X := ⟨_, rfl⟩
  rw [hz1] at hZ0
  rw [hX] at hX1 hZ0
  have HX := Lib.hid hX
  have hwA2 : wA = (w.alloc (.cells #[.int .i64 n, .slice ae es.length ce, .int .i64 P, .slice ao ow.length co, .slice ah hv.length ch, .slice ak kn.length ck, .slice ab bx.length cb] 36)).alloc (.cells #[.int .i64 0, .slice none 0 0, .int .i64 0, .slice none 0 0, .slice none 0 0, .slice none 0 0, .slice none 0 0] 36) := by rw [hwA, hw1]
  have HWA := Lib.hid hwA2
  have hval := rdvalid_any ⟨n, es, P, ow, hv, kn, bx⟩ (.agg #[.int .i64 n, .slice ae es.length ce, .int .i64 P, .slice ao ow.length co, .slice ah hv.length ch, .slice ak kn.length ck, .slice ab bx.length cb]) wA (h.below hbA) hbm
  rw [hvb] at hval
  clear hX0 hb0 hb1 hz1 hw1 hwA hwA2 w1 hX
  obtain ⟨x0, x1, x2, x3, x4, x5, x6⟩ := cells7 hX1
  go_enter Tryz.func28, Tryz.ntmps28
  go_upto_region 1 with fail
  rw [← HWA.out, HX.out]
  go_wp2_with fail
  refine hval.mono ?_
  rintro e w2 ⟨rfl, hb2⟩
  have hbw2 := hbA.trans (hb2.mono hbA.size)
  have hZ2 := lit_next' hb2 hZ0
  clear hval x0 x1 x2 x3 x4 x5 x6
  obtain ⟨wF, hwF⟩ : ∃ V : World, V = (((((((w2.setCell ⟨X + 1, 0, none⟩ (.int .i64 0)).setCell ⟨X + 1, 1, none⟩ (.slice none 0 0)).setCell ⟨X + 1, 2, none⟩ (.int .i64 0)).setCell ⟨X + 1, 3, none⟩ (.slice none 0 0)).setCell ⟨X + 1, 4, none⟩ (.slice none 0 0)).setCell ⟨X + 1, 5, none⟩ (.slice none 0 0)).setCell ⟨X + 1, 6, none⟩ (.slice none 0 0)) := ⟨_, rfl⟩
  have hfin := set7all (d0 := .int .i64 0) (d1 := .slice none 0 0) (d2 := .int .i64 0) (d3 := .slice none 0 0) (d4 := .slice none 0 0) (d5 := .slice none 0 0) (d6 := .slice none 0 0) hZ2
  have hgF := set7_grown w2 (X + 1) (.int .i64 0) (.slice none 0 0) (.int .i64 0) (.slice none 0 0) (.slice none 0 0) (.slice none 0 0) (.slice none 0 0)
  rw [← hwF] at hfin hgF
  have HWF := Lib.hid hwF
  have hbF : Below w.heap.size w wF := hbw2.grown hgF hbw2.size (fun k e => by cases e; rw [HX.out]; omega)
  obtain ⟨t0, t1, t2, t3, t4, t5, t6⟩ := cells7 hfin
  obtain ⟨v0, v1, v2, v3, v4, v5, v6⟩ := cells7 hZ2
  have fZ := fun q => free_blk (j := q) hZ2
  have f0 := fZ 0
  have f1 := fZ 1
  have f2 := fZ 2
  have f3 := fZ 3
  have f4 := fZ 4
  have f5 := fZ 5
  have f6 := fZ 6
  clear hwF hgF hfin fZ
  go_wp2_with fail
  rw [← HWF.out]
  exact bodyPost_ret (v := .tuple #[.agg #[.int .i64 0, .slice none 0 0, .int .i64 0, .slice none 0 0, .slice none 0 0, .slice none 0 0, .slice none 0 0], .int .i64 31]) (by simp [results, Tryz.results28, go_sem, t0, t1, t2, t3, t4, t5, t6]) rfl ⟨rfl, hbF⟩
set_option linter.unusedSimpArgs false in
set_option maxRecDepth 100000 in
theorem r8num_bad (W : WdL) (v : Value) (w : World) (h : WldAt w v W) (hbm : ∀ r ∈ W.bx, ∀ m ∈ r, m.length ≤ 1000000) (hvb : valB W = false) :
    Calls Tryz.prog 20 #[v] w fun e w' => e = .returned (.slice none 0 0) ∧ Below w.heap.size w w' := by
  obtain ⟨n, es, P, ow, hv, kn, bx⟩ := W
  obtain ⟨ae, ao, ah, ak, ab, ce, co, ch, ck, cb, rfl, -⟩ := id h
  dsimp only at *
  obtain ⟨hX1, hbA⟩ := boxG_new w #[.int .i64 n, .slice ae es.length ce, .int .i64 P, .slice ao ow.length co, .slice ah hv.length ch, .slice ak kn.length ck, .slice ab bx.length cb] 36
  obtain ⟨wA, hwA⟩ : ∃ V : World, V = w.alloc (.cells #[.int .i64 n, .slice ae es.length ce, .int .i64 P, .slice ao ow.length co, .slice ah hv.length ch, .slice ak kn.length ck, .slice ab bx.length cb] 36) := ⟨_, rfl⟩
  rw [← hwA] at hX1 hbA
  obtain ⟨X, hX⟩ : ∃ X, w.heap.size = X := ⟨_, rfl⟩
  rw [hX] at hX1
  have HX := Lib.hid hX
  have HWA := Lib.hid hwA
  have hval := valid38_any ⟨n, es, P, ow, hv, kn, bx⟩ (.agg #[.int .i64 n, .slice ae es.length ce, .int .i64 P, .slice ao ow.length co, .slice ah hv.length ch, .slice ak kn.length ck, .slice ab bx.length cb]) wA (h.below hbA) hbm
  rw [hvb] at hval
  clear hwA hX
  obtain ⟨x0, x1, x2, x3, x4, x5, x6⟩ := cells7 hX1
  go_enter Tryz.func20, Tryz.ntmps20
  go_upto_region 1 with fail
  rw [← HWA.out, HX.out]
  go_wp2_with fail
  refine hval.mono ?_
  rintro e w2 ⟨rfl, hb2⟩
  have hbw2 := hbA.trans (hb2.mono hbA.size)
  go_wp2_with fail
  go_ret
  exact ⟨rfl, hbw2⟩
set_option linter.unusedSimpArgs false in
set_option maxRecDepth 100000 in
theorem r8rdy_bad (W : WdL) (v : Value) (w : World) (h : WldAt w v W) (hbm : ∀ r ∈ W.bx, ∀ m ∈ r, m.length ≤ 1000000) (hvb : valB W = false) :
    Calls Tryz.prog 22 #[v] w fun e w' => e = .returned (.slice none 0 0) ∧ Below w.heap.size w w' := by
  obtain ⟨n, es, P, ow, hv, kn, bx⟩ := W
  obtain ⟨ae, ao, ah, ak, ab, ce, co, ch, ck, cb, rfl, -⟩ := id h
  dsimp only at *
  obtain ⟨hX1, hbA⟩ := boxG_new w #[.int .i64 n, .slice ae es.length ce, .int .i64 P, .slice ao ow.length co, .slice ah hv.length ch, .slice ak kn.length ck, .slice ab bx.length cb] 36
  obtain ⟨wA, hwA⟩ : ∃ V : World, V = w.alloc (.cells #[.int .i64 n, .slice ae es.length ce, .int .i64 P, .slice ao ow.length co, .slice ah hv.length ch, .slice ak kn.length ck, .slice ab bx.length cb] 36) := ⟨_, rfl⟩
  rw [← hwA] at hX1 hbA
  obtain ⟨X, hX⟩ : ∃ X, w.heap.size = X := ⟨_, rfl⟩
  rw [hX] at hX1
  have HX := Lib.hid hX
  have HWA := Lib.hid hwA
  have hval := valid38_any ⟨n, es, P, ow, hv, kn, bx⟩ (.agg #[.int .i64 n, .slice ae es.length ce, .int .i64 P, .slice ao ow.length co, .slice ah hv.length ch, .slice ak kn.length ck, .slice ab bx.length cb]) wA (h.below hbA) hbm
  rw [hvb] at hval
  clear hwA hX
  obtain ⟨x0, x1, x2, x3, x4, x5, x6⟩ := cells7 hX1
  go_enter Tryz.func22, Tryz.ntmps22
  go_upto_region 1 with fail
  rw [← HWA.out, HX.out]
  go_wp2_with fail
  refine hval.mono ?_
  rintro e w2 ⟨rfl, hb2⟩
  have hbw2 := hbA.trans (hb2.mono hbA.size)
  go_wp2_with fail
  go_ret
  exact ⟨rfl, hbw2⟩
set_option linter.unusedSimpArgs false in
set_option maxRecDepth 100000 in
theorem r8del_bad (W : WdL) (v : Value) (i j : Int) (w : World) (h : WldAt w v W) (hbm : ∀ r ∈ W.bx, ∀ m ∈ r, m.length ≤ 1000000) (hvb : valB W = false) :
    Calls Tryz.prog 25 #[v, .int .i64 i, .int .i64 j] w fun e w' => e = .returned (.tuple #[.agg #[.int .i64 0, .slice none 0 0, .int .i64 0, .slice none 0 0, .slice none 0 0, .slice none 0 0, .slice none 0 0], .int .i64 31]) ∧ Below w.heap.size w w' := by
  obtain ⟨n, es, P, ow, hv, kn, bx⟩ := W
  obtain ⟨ae, ao, ah, ak, ab, ce, co, ch, ck, cb, rfl, -⟩ := id h
  dsimp only at *
  obtain ⟨hX0, hb0⟩ := boxG_new w #[.int .i64 n, .slice ae es.length ce, .int .i64 P, .slice ao ow.length co, .slice ah hv.length ch, .slice ak kn.length ck, .slice ab bx.length cb] 36
  obtain ⟨w1, hw1⟩ : ∃ V : World, V = w.alloc (.cells #[.int .i64 n, .slice ae es.length ce, .int .i64 P, .slice ao ow.length co, .slice ah hv.length ch, .slice ak kn.length ck, .slice ab bx.length cb] 36) := ⟨_, rfl⟩
  have hz1 : w1.heap.size = w.heap.size + 1 := by rw [hw1]; simp
  rw [← hw1] at hX0 hb0
  obtain ⟨hZ0, hb1⟩ := boxG_new w1 #[.int .i64 0, .slice none 0 0, .int .i64 0, .slice none 0 0, .slice none 0 0, .slice none 0 0, .slice none 0 0] 36
  obtain ⟨wA, hwA⟩ : ∃ V : World, V = w1.alloc (.cells #[.int .i64 0, .slice none 0 0, .int .i64 0, .slice none 0 0, .slice none 0 0, .slice none 0 0, .slice none 0 0] 36) := ⟨_, rfl⟩
  rw [← hwA] at hZ0 hb1
  have hX1 := lit_next' hb1 hX0
  have hbA := hb0.trans (hb1.mono hb0.size)
  obtain ⟨X, hX⟩ : ∃ X, w.heap.size = X := ⟨_, rfl⟩
  rw [hz1] at hZ0
  rw [hX] at hX1 hZ0
  have HX := Lib.hid hX
  have hwA2 : wA = (w.alloc (.cells #[.int .i64 n, .slice ae es.length ce, .int .i64 P, .slice ao ow.length co, .slice ah hv.length ch, .slice ak kn.length ck, .slice ab bx.length cb] 36)).alloc (.cells #[.int .i64 0, .slice none 0 0, .int .i64 0, .slice none 0 0, .slice none 0 0, .slice none 0 0, .slice none 0 0] 36) := by rw [hwA, hw1]
  have HWA := Lib.hid hwA2
  have hval := valid38_any ⟨n, es, P, ow, hv, kn, bx⟩ (.agg #[.int .i64 n, .slice ae es.length ce, .int .i64 P, .slice ao ow.length co, .slice ah hv.length ch, .slice ak kn.length ck, .slice ab bx.length cb]) wA (h.below hbA) hbm
  rw [hvb] at hval
  clear hX0 hb0 hb1 hz1 hw1 hwA hwA2 w1 hX
  obtain ⟨x0, x1, x2, x3, x4, x5, x6⟩ := cells7 hX1
  go_enter Tryz.func25, Tryz.ntmps25
  go_upto_region 1 with fail
  rw [← HWA.out, HX.out]
  go_wp2_with fail
  refine hval.mono ?_
  rintro e w2 ⟨rfl, hb2⟩
  have hbw2 := hbA.trans (hb2.mono hbA.size)
  have hZ2 := lit_next' hb2 hZ0
  clear hval x0 x1 x2 x3 x4 x5 x6
  obtain ⟨wF, hwF⟩ : ∃ V : World, V = (((((((w2.setCell ⟨X + 1, 0, none⟩ (.int .i64 0)).setCell ⟨X + 1, 1, none⟩ (.slice none 0 0)).setCell ⟨X + 1, 2, none⟩ (.int .i64 0)).setCell ⟨X + 1, 3, none⟩ (.slice none 0 0)).setCell ⟨X + 1, 4, none⟩ (.slice none 0 0)).setCell ⟨X + 1, 5, none⟩ (.slice none 0 0)).setCell ⟨X + 1, 6, none⟩ (.slice none 0 0)) := ⟨_, rfl⟩
  have hfin := set7all (d0 := .int .i64 0) (d1 := .slice none 0 0) (d2 := .int .i64 0) (d3 := .slice none 0 0) (d4 := .slice none 0 0) (d5 := .slice none 0 0) (d6 := .slice none 0 0) hZ2
  have hgF := set7_grown w2 (X + 1) (.int .i64 0) (.slice none 0 0) (.int .i64 0) (.slice none 0 0) (.slice none 0 0) (.slice none 0 0) (.slice none 0 0)
  rw [← hwF] at hfin hgF
  have HWF := Lib.hid hwF
  have hbF : Below w.heap.size w wF := hbw2.grown hgF hbw2.size (fun k e => by cases e; rw [HX.out]; omega)
  obtain ⟨t0, t1, t2, t3, t4, t5, t6⟩ := cells7 hfin
  obtain ⟨v0, v1, v2, v3, v4, v5, v6⟩ := cells7 hZ2
  have fZ := fun q => free_blk (j := q) hZ2
  have f0 := fZ 0
  have f1 := fZ 1
  have f2 := fZ 2
  have f3 := fZ 3
  have f4 := fZ 4
  have f5 := fZ 5
  have f6 := fZ 6
  clear hwF hgF hfin fZ
  go_wp2_with fail
  rw [← HWF.out]
  exact bodyPost_ret (v := .tuple #[.agg #[.int .i64 0, .slice none 0 0, .int .i64 0, .slice none 0 0, .slice none 0 0, .slice none 0 0, .slice none 0 0], .int .i64 31]) (by simp [results, Tryz.results25, go_sem, t0, t1, t2, t3, t4, t5, t6]) rfl ⟨rfl, hbF⟩
set_option linter.unusedSimpArgs false in
set_option maxRecDepth 100000 in
theorem r8ply_bad (W : WdL) (v : Value) (sv : Value) (w : World) (h : WldAt w v W) (hbm : ∀ r ∈ W.bx, ∀ m ∈ r, m.length ≤ 1000000) (hvb : valB W = false) :
    Calls Tryz.prog 27 #[v, sv] w fun e w' => e = .returned (.tuple #[.agg #[.int .i64 0, .slice none 0 0, .int .i64 0, .slice none 0 0, .slice none 0 0, .slice none 0 0, .slice none 0 0], .int .i64 0, .int .i64 31]) ∧ Below w.heap.size w w' := by
  obtain ⟨n, es, P, ow, hv, kn, bx⟩ := W
  obtain ⟨ae, ao, ah, ak, ab, ce, co, ch, ck, cb, rfl, -⟩ := id h
  dsimp only at *
  obtain ⟨hX0, hb0⟩ := boxG_new w #[.int .i64 n, .slice ae es.length ce, .int .i64 P, .slice ao ow.length co, .slice ah hv.length ch, .slice ak kn.length ck, .slice ab bx.length cb] 36
  obtain ⟨w1, hw1⟩ : ∃ V : World, V = w.alloc (.cells #[.int .i64 n, .slice ae es.length ce, .int .i64 P, .slice ao ow.length co, .slice ah hv.length ch, .slice ak kn.length ck, .slice ab bx.length cb] 36) := ⟨_, rfl⟩
  have hz1 : w1.heap.size = w.heap.size + 1 := by rw [hw1]; simp
  rw [← hw1] at hX0 hb0
  obtain ⟨hZ0, hb1⟩ := boxG_new w1 #[.int .i64 0, .slice none 0 0, .int .i64 0, .slice none 0 0, .slice none 0 0, .slice none 0 0, .slice none 0 0] 36
  obtain ⟨wA, hwA⟩ : ∃ V : World, V = w1.alloc (.cells #[.int .i64 0, .slice none 0 0, .int .i64 0, .slice none 0 0, .slice none 0 0, .slice none 0 0, .slice none 0 0] 36) := ⟨_, rfl⟩
  rw [← hwA] at hZ0 hb1
  have hX1 := lit_next' hb1 hX0
  have hbA := hb0.trans (hb1.mono hb0.size)
  obtain ⟨X, hX⟩ : ∃ X, w.heap.size = X := ⟨_, rfl⟩
  rw [hz1] at hZ0
  rw [hX] at hX1 hZ0
  have HX := Lib.hid hX
  have hwA2 : wA = (w.alloc (.cells #[.int .i64 n, .slice ae es.length ce, .int .i64 P, .slice ao ow.length co, .slice ah hv.length ch, .slice ak kn.length ck, .slice ab bx.length cb] 36)).alloc (.cells #[.int .i64 0, .slice none 0 0, .int .i64 0, .slice none 0 0, .slice none 0 0, .slice none 0 0, .slice none 0 0] 36) := by rw [hwA, hw1]
  have HWA := Lib.hid hwA2
  have hval := valid38_any ⟨n, es, P, ow, hv, kn, bx⟩ (.agg #[.int .i64 n, .slice ae es.length ce, .int .i64 P, .slice ao ow.length co, .slice ah hv.length ch, .slice ak kn.length ck, .slice ab bx.length cb]) wA (h.below hbA) hbm
  rw [hvb] at hval
  clear hX0 hb0 hb1 hz1 hw1 hwA hwA2 w1 hX
  obtain ⟨x0, x1, x2, x3, x4, x5, x6⟩ := cells7 hX1
  go_enter Tryz.func27, Tryz.ntmps27
  go_upto_region 1 with fail
  rw [← HWA.out, HX.out]
  go_wp2_with fail
  refine hval.mono ?_
  rintro e w2 ⟨rfl, hb2⟩
  have hbw2 := hbA.trans (hb2.mono hbA.size)
  have hZ2 := lit_next' hb2 hZ0
  clear hval x0 x1 x2 x3 x4 x5 x6
  obtain ⟨wF, hwF⟩ : ∃ V : World, V = (((((((w2.setCell ⟨X + 1, 0, none⟩ (.int .i64 0)).setCell ⟨X + 1, 1, none⟩ (.slice none 0 0)).setCell ⟨X + 1, 2, none⟩ (.int .i64 0)).setCell ⟨X + 1, 3, none⟩ (.slice none 0 0)).setCell ⟨X + 1, 4, none⟩ (.slice none 0 0)).setCell ⟨X + 1, 5, none⟩ (.slice none 0 0)).setCell ⟨X + 1, 6, none⟩ (.slice none 0 0)) := ⟨_, rfl⟩
  have hfin := set7all (d0 := .int .i64 0) (d1 := .slice none 0 0) (d2 := .int .i64 0) (d3 := .slice none 0 0) (d4 := .slice none 0 0) (d5 := .slice none 0 0) (d6 := .slice none 0 0) hZ2
  have hgF := set7_grown w2 (X + 1) (.int .i64 0) (.slice none 0 0) (.int .i64 0) (.slice none 0 0) (.slice none 0 0) (.slice none 0 0) (.slice none 0 0)
  rw [← hwF] at hfin hgF
  have HWF := Lib.hid hwF
  have hbF : Below w.heap.size w wF := hbw2.grown hgF hbw2.size (fun k e => by cases e; rw [HX.out]; omega)
  obtain ⟨t0, t1, t2, t3, t4, t5, t6⟩ := cells7 hfin
  obtain ⟨v0, v1, v2, v3, v4, v5, v6⟩ := cells7 hZ2
  have fZ := fun q => free_blk (j := q) hZ2
  have f0 := fZ 0
  have f1 := fZ 1
  have f2 := fZ 2
  have f3 := fZ 3
  have f4 := fZ 4
  have f5 := fZ 5
  have f6 := fZ 6
  clear hwF hgF hfin fZ
  go_wp2_with fail
  rw [← HWF.out]
  exact bodyPost_ret (v := .tuple #[.agg #[.int .i64 0, .slice none 0 0, .int .i64 0, .slice none 0 0, .slice none 0 0, .slice none 0 0, .slice none 0 0], .int .i64 0, .int .i64 31]) (by simp [results, Tryz.results27, go_sem, t0, t1, t2, t3, t4, t5, t6]) rfl ⟨rfl, hbF⟩
set_option linter.unusedSimpArgs false in
set_option maxRecDepth 100000 in
theorem r8fin_bad (W : WdL) (v : Value) (w : World) (h : WldAt w v W) (hbm : ∀ r ∈ W.bx, ∀ m ∈ r, m.length ≤ 1000000) (hvb : valB W = false) :
    Calls Tryz.prog 29 #[v] w fun e w' => e = .returned (.tuple #[.agg #[.int .i64 0, .slice none 0 0, .int .i64 0, .slice none 0 0, .slice none 0 0, .slice none 0 0, .slice none 0 0], .int .i64 31]) ∧ Below w.heap.size w w' := by
  obtain ⟨n, es, P, ow, hv, kn, bx⟩ := W
  obtain ⟨ae, ao, ah, ak, ab, ce, co, ch, ck, cb, rfl, -⟩ := id h
  dsimp only at *
  obtain ⟨hX0, hb0⟩ := boxG_new w #[.int .i64 n, .slice ae es.length ce, .int .i64 P, .slice ao ow.length co, .slice ah hv.length ch, .slice ak kn.length ck, .slice ab bx.length cb] 36
  obtain ⟨w1, hw1⟩ : ∃ V : World, V = w.alloc (.cells #[.int .i64 n, .slice ae es.length ce, .int .i64 P, .slice ao ow.length co, .slice ah hv.length ch, .slice ak kn.length ck, .slice ab bx.length cb] 36) := ⟨_, rfl⟩
  have hz1 : w1.heap.size = w.heap.size + 1 := by rw [hw1]; simp
  rw [← hw1] at hX0 hb0
  obtain ⟨hZ0, hb1⟩ := boxG_new w1 #[.int .i64 0, .slice none 0 0, .int .i64 0, .slice none 0 0, .slice none 0 0, .slice none 0 0, .slice none 0 0] 36
  obtain ⟨wA, hwA⟩ : ∃ V : World, V = w1.alloc (.cells #[.int .i64 0, .slice none 0 0, .int .i64 0, .slice none 0 0, .slice none 0 0, .slice none 0 0, .slice none 0 0] 36) := ⟨_, rfl⟩
  rw [← hwA] at hZ0 hb1
  have hX1 := lit_next' hb1 hX0
  have hbA := hb0.trans (hb1.mono hb0.size)
  obtain ⟨X, hX⟩ : ∃ X, w.heap.size = X := ⟨_, rfl⟩
  rw [hz1] at hZ0
  rw [hX] at hX1 hZ0
  have HX := Lib.hid hX
  have hwA2 : wA = (w.alloc (.cells #[.int .i64 n, .slice ae es.length ce, .int .i64 P, .slice ao ow.length co, .slice ah hv.length ch, .slice ak kn.length ck, .slice ab bx.length cb] 36)).alloc (.cells #[.int .i64 0, .slice none 0 0, .int .i64 0, .slice none 0 0, .slice none 0 0, .slice none 0 0, .slice none 0 0] 36) := by rw [hwA, hw1]
  have HWA := Lib.hid hwA2
  have hval := valid38_any ⟨n, es, P, ow, hv, kn, bx⟩ (.agg #[.int .i64 n, .slice ae es.length ce, .int .i64 P, .slice ao ow.length co, .slice ah hv.length ch, .slice ak kn.length ck, .slice ab bx.length cb]) wA (h.below hbA) hbm
  rw [hvb] at hval
  clear hX0 hb0 hb1 hz1 hw1 hwA hwA2 w1 hX
  obtain ⟨x0, x1, x2, x3, x4, x5, x6⟩ := cells7 hX1
  go_enter Tryz.func29, Tryz.ntmps29
  go_upto_region 1 with fail
  rw [← HWA.out, HX.out]
  go_wp2_with fail
  refine hval.mono ?_
  rintro e w2 ⟨rfl, hb2⟩
  have hbw2 := hbA.trans (hb2.mono hbA.size)
  have hZ2 := lit_next' hb2 hZ0
  clear hval x0 x1 x2 x3 x4 x5 x6
  obtain ⟨wF, hwF⟩ : ∃ V : World, V = (((((((w2.setCell ⟨X + 1, 0, none⟩ (.int .i64 0)).setCell ⟨X + 1, 1, none⟩ (.slice none 0 0)).setCell ⟨X + 1, 2, none⟩ (.int .i64 0)).setCell ⟨X + 1, 3, none⟩ (.slice none 0 0)).setCell ⟨X + 1, 4, none⟩ (.slice none 0 0)).setCell ⟨X + 1, 5, none⟩ (.slice none 0 0)).setCell ⟨X + 1, 6, none⟩ (.slice none 0 0)) := ⟨_, rfl⟩
  have hfin := set7all (d0 := .int .i64 0) (d1 := .slice none 0 0) (d2 := .int .i64 0) (d3 := .slice none 0 0) (d4 := .slice none 0 0) (d5 := .slice none 0 0) (d6 := .slice none 0 0) hZ2
  have hgF := set7_grown w2 (X + 1) (.int .i64 0) (.slice none 0 0) (.int .i64 0) (.slice none 0 0) (.slice none 0 0) (.slice none 0 0) (.slice none 0 0)
  rw [← hwF] at hfin hgF
  have HWF := Lib.hid hwF
  have hbF : Below w.heap.size w wF := hbw2.grown hgF hbw2.size (fun k e => by cases e; rw [HX.out]; omega)
  obtain ⟨t0, t1, t2, t3, t4, t5, t6⟩ := cells7 hfin
  obtain ⟨v0, v1, v2, v3, v4, v5, v6⟩ := cells7 hZ2
  have fZ := fun q => free_blk (j := q) hZ2
  have f0 := fZ 0
  have f1 := fZ 1
  have f2 := fZ 2
  have f3 := fZ 3
  have f4 := fZ 4
  have f5 := fZ 5
  have f6 := fZ 6
  clear hwF hgF hfin fZ
  go_wp2_with fail
  rw [← HWF.out]
  exact bodyPost_ret (v := .tuple #[.agg #[.int .i64 0, .slice none 0 0, .int .i64 0, .slice none 0 0, .slice none 0 0, .slice none 0 0, .slice none 0 0], .int .i64 31]) (by simp [results, Tryz.results29, go_sem, t0, t1, t2, t3, t4, t5, t6]) rfl ⟨rfl, hbF⟩
end Go.Proofs.YtdkmdcdoiaelfaaGreat

namespace Go.Proofs.YtdkmdcdoiaelfaaGreat
open Go.RowKit Go.BigFrame

set_option linter.unusedSimpArgs false in
set_option maxRecDepth 100000 in
set_option maxHeartbeats 6400000 in
theorem rddel_rng (n P : Nat) (es : List E2) (ow : Nat → Nat) (hv : List Int) (W : WdP) (v : Value) (i j : Int) (w : World) (hG : GoodW n P es ow hv W) (h : WldAt w v (wdL n P es ow hv W)) (hr : ¬ (0 ≤ i ∧ i < P ∧ 0 ≤ j ∧ j < P)) :
    Calls Tryz.prog 24 #[v, .int .i64 i, .int .i64 j] w fun e w' => e = .returned (.tuple #[.agg #[.int .i64 0, .slice none 0 0, .int .i64 0, .slice none 0 0, .slice none 0 0, .slice none 0 0, .slice none 0 0], .int .i64 1]) ∧ Below w.heap.size w w' := by
  have hP8 := hG.hP
  obtain ⟨ae, ao, ah, ak, ab, ce, co, ch, ck, cb, rfl, hE, hO, hH, hK, hB⟩ := h.shapeH
  obtain ⟨hX0, hb0⟩ := boxG_new w #[.int .i64 (n : Int), .slice ae es.length ce, .int .i64 (P : Int), .slice ao n co, .slice ah hv.length ch, .slice ak P ck, .slice ab P cb] 36
  obtain ⟨w1, hw1⟩ : ∃ V : World, V = w.alloc (.cells #[.int .i64 (n : Int), .slice ae es.length ce, .int .i64 (P : Int), .slice ao n co, .slice ah hv.length ch, .slice ak P ck, .slice ab P cb] 36) := ⟨_, rfl⟩
  have hz1 : w1.heap.size = w.heap.size + 1 := by rw [hw1]; simp
  rw [← hw1] at hX0 hb0
  obtain ⟨hZ0, hb1⟩ := boxG_new w1 #[.int .i64 0, .slice none 0 0, .int .i64 0, .slice none 0 0, .slice none 0 0, .slice none 0 0, .slice none 0 0] 36
  obtain ⟨wA, hwA⟩ : ∃ V : World, V = w1.alloc (.cells #[.int .i64 0, .slice none 0 0, .int .i64 0, .slice none 0 0, .slice none 0 0, .slice none 0 0, .slice none 0 0] 36) := ⟨_, rfl⟩
  rw [← hwA] at hZ0 hb1
  have hX1 := lit_next' hb1 hX0
  have hbA := hb0.trans (hb1.mono hb0.size)
  obtain ⟨X, hX⟩ : ∃ X, w.heap.size = X := ⟨_, rfl⟩
  rw [hz1] at hZ0
  rw [hX] at hX1 hZ0
  have HX := Lib.hid hX
  have hwA2 : wA = (w.alloc (.cells #[.int .i64 (n : Int), .slice ae es.length ce, .int .i64 (P : Int), .slice ao n co, .slice ah hv.length ch, .slice ak P ck, .slice ab P cb] 36)).alloc (.cells #[.int .i64 0, .slice none 0 0, .int .i64 0, .slice none 0 0, .slice none 0 0, .slice none 0 0, .slice none 0 0] 36) := by rw [hwA, hw1]
  have HWA := Lib.hid hwA2
  have hval := rdvalid_any (wdL n P es ow hv W) (.agg #[.int .i64 (n : Int), .slice ae es.length ce, .int .i64 (P : Int), .slice ao n co, .slice ah hv.length ch, .slice ak P ck, .slice ab P cb]) wA (h.below hbA) (fun r hr m hm => by
    obtain ⟨a, ha, rfl⟩ := List.mem_map.1 hr
    obtain ⟨t, ht, rfl⟩ := List.mem_map.1 hm
    exact hG.bl a t (List.mem_range.1 ha) (List.mem_range.1 ht))
  rw [hG.val] at hval
  clear hX0 hb0 hb1 hz1 hw1 hwA hwA2 w1 hX
  obtain ⟨x0, x1, x2, x3, x4, x5, x6⟩ := cells7 hX1
  go_enter Tryz.func24, Tryz.ntmps24
  go_upto_region 1 with fail
  rw [← HWA.out, HX.out]
  go_wp2_with fail
  refine hval.mono ?_
  rintro e w2 ⟨rfl, hb2⟩
  have hbw2 := hbA.trans (hb2.mono hbA.size)
  have hX2 := lit_next' hb2 hX1
  have hZ2 := lit_next' hb2 hZ0
  clear hval x0 x1 x2 x3 x4 x5 x6 hX1 hZ0
  obtain ⟨x0, x1, x2, x3, x4, x5, x6⟩ := cells7 hX2
  obtain ⟨wF, hwF⟩ : ∃ V : World, V = (((((((w2.setCell ⟨X + 1, 0, none⟩ (.int .i64 0)).setCell ⟨X + 1, 1, none⟩ (.slice none 0 0)).setCell ⟨X + 1, 2, none⟩ (.int .i64 0)).setCell ⟨X + 1, 3, none⟩ (.slice none 0 0)).setCell ⟨X + 1, 4, none⟩ (.slice none 0 0)).setCell ⟨X + 1, 5, none⟩ (.slice none 0 0)).setCell ⟨X + 1, 6, none⟩ (.slice none 0 0)) := ⟨_, rfl⟩
  have hfin := set7all (d0 := .int .i64 0) (d1 := .slice none 0 0) (d2 := .int .i64 0) (d3 := .slice none 0 0) (d4 := .slice none 0 0) (d5 := .slice none 0 0) (d6 := .slice none 0 0) hZ2
  have hgF := set7_grown w2 (X + 1) (.int .i64 0) (.slice none 0 0) (.int .i64 0) (.slice none 0 0) (.slice none 0 0) (.slice none 0 0) (.slice none 0 0)
  rw [← hwF] at hfin hgF
  have HWF := Lib.hid hwF
  have hbF : Below w.heap.size w wF := hbw2.grown hgF hbw2.size (fun k e => by cases e; rw [HX.out]; omega)
  obtain ⟨t0, t1, t2, t3, t4, t5, t6⟩ := cells7 hfin
  obtain ⟨v0, v1, v2, v3, v4, v5, v6⟩ := cells7 hZ2
  have fZ := fun q => free_blk (j := q) hZ2
  have f0 := fZ 0
  have f1 := fZ 1
  have f2 := fZ 2
  have f3 := fZ 3
  have f4 := fZ 4
  have f5 := fZ 5
  have f6 := fZ 6
  clear hwF hgF hfin fZ
  by_cases h1 : min i j < 0
  · have d1 : decide (min i j < 0) = true := decide_eq_true h1
    go_wp2_with fail
    rw [← HWF.out]
    exact bodyPost_ret (v := .tuple #[.agg #[.int .i64 0, .slice none 0 0, .int .i64 0, .slice none 0 0, .slice none 0 0, .slice none 0 0, .slice none 0 0], .int .i64 1]) (by simp [results, Tryz.results24, go_sem, t0, t1, t2, t3, t4, t5, t6]) rfl ⟨rfl, hbF⟩
  · have d1 : decide (min i j < 0) = false := decide_eq_false h1
    have h2 : (P : Int) ≤ max i j := by omega
    have d2 : decide ((P : Int) ≤ max i j) = true := decide_eq_true h2
    go_wp2_with fail
    rw [← HWF.out]
    exact bodyPost_ret (v := .tuple #[.agg #[.int .i64 0, .slice none 0 0, .int .i64 0, .slice none 0 0, .slice none 0 0, .slice none 0 0, .slice none 0 0], .int .i64 1]) (by simp [results, Tryz.results24, go_sem, t0, t1, t2, t3, t4, t5, t6]) rfl ⟨rfl, hbF⟩
set_option linter.unusedSimpArgs false in
set_option maxRecDepth 100000 in
set_option maxHeartbeats 6400000 in
theorem rddel_void (n P i j : Nat) (es : List E2) (ow : Nat → Nat) (hv : List Int) (W : WdP) (v : Value) (w : World) (hG : GoodW n P es ow hv W) (h : WldAt w v (wdL n P es ow hv W)) (hi : i < P) (hj : j < P) (hbe : W.bx i j = []) :
    Calls Tryz.prog 24 #[v, .int .i64 (i : Int), .int .i64 (j : Int)] w fun e w' => e = .returned (.tuple #[.agg #[.int .i64 0, .slice none 0 0, .int .i64 0, .slice none 0 0, .slice none 0 0, .slice none 0 0, .slice none 0 0], .int .i64 32]) ∧ Below w.heap.size w w' := by
  have hP8 := hG.hP
  obtain ⟨ae, ao, ah, ak, ab, ce, co, ch, ck, cb, rfl, hE, hO, hH, hK, hB⟩ := h.shapeH
  obtain ⟨hX0, hb0⟩ := boxG_new w #[.int .i64 (n : Int), .slice ae es.length ce, .int .i64 (P : Int), .slice ao n co, .slice ah hv.length ch, .slice ak P ck, .slice ab P cb] 36
  obtain ⟨w1, hw1⟩ : ∃ V : World, V = w.alloc (.cells #[.int .i64 (n : Int), .slice ae es.length ce, .int .i64 (P : Int), .slice ao n co, .slice ah hv.length ch, .slice ak P ck, .slice ab P cb] 36) := ⟨_, rfl⟩
  have hz1 : w1.heap.size = w.heap.size + 1 := by rw [hw1]; simp
  rw [← hw1] at hX0 hb0
  obtain ⟨hZ0, hb1⟩ := boxG_new w1 #[.int .i64 0, .slice none 0 0, .int .i64 0, .slice none 0 0, .slice none 0 0, .slice none 0 0, .slice none 0 0] 36
  obtain ⟨wA, hwA⟩ : ∃ V : World, V = w1.alloc (.cells #[.int .i64 0, .slice none 0 0, .int .i64 0, .slice none 0 0, .slice none 0 0, .slice none 0 0, .slice none 0 0] 36) := ⟨_, rfl⟩
  rw [← hwA] at hZ0 hb1
  have hX1 := lit_next' hb1 hX0
  have hbA := hb0.trans (hb1.mono hb0.size)
  obtain ⟨X, hX⟩ : ∃ X, w.heap.size = X := ⟨_, rfl⟩
  rw [hz1] at hZ0
  rw [hX] at hX1 hZ0
  have HX := Lib.hid hX
  have hwA2 : wA = (w.alloc (.cells #[.int .i64 (n : Int), .slice ae es.length ce, .int .i64 (P : Int), .slice ao n co, .slice ah hv.length ch, .slice ak P ck, .slice ab P cb] 36)).alloc (.cells #[.int .i64 0, .slice none 0 0, .int .i64 0, .slice none 0 0, .slice none 0 0, .slice none 0 0, .slice none 0 0] 36) := by rw [hwA, hw1]
  have HWA := Lib.hid hwA2
  have hval := rdvalid_any (wdL n P es ow hv W) (.agg #[.int .i64 (n : Int), .slice ae es.length ce, .int .i64 (P : Int), .slice ao n co, .slice ah hv.length ch, .slice ak P ck, .slice ab P cb]) wA (h.below hbA) (fun r hr m hm => by
    obtain ⟨a, ha, rfl⟩ := List.mem_map.1 hr
    obtain ⟨t, ht, rfl⟩ := List.mem_map.1 hm
    exact hG.bl a t (List.mem_range.1 ha) (List.mem_range.1 ht))
  rw [hG.val] at hval
  clear hX0 hb0 hb1 hz1 hw1 hwA hwA2 w1 hX
  obtain ⟨x0, x1, x2, x3, x4, x5, x6⟩ := cells7 hX1
  go_enter Tryz.func24, Tryz.ntmps24
  go_upto_region 1 with fail
  rw [← HWA.out, HX.out]
  go_wp2_with fail
  refine hval.mono ?_
  rintro e w2 ⟨rfl, hb2⟩
  have hbw2 := hbA.trans (hb2.mono hbA.size)
  have hX2 := lit_next' hb2 hX1
  have hZ2 := lit_next' hb2 hZ0
  clear hval x0 x1 x2 x3 x4 x5 x6 hX1 hZ0
  obtain ⟨x0, x1, x2, x3, x4, x5, x6⟩ := cells7 hX2
  obtain ⟨wF, hwF⟩ : ∃ V : World, V = (((((((w2.setCell ⟨X + 1, 0, none⟩ (.int .i64 0)).setCell ⟨X + 1, 1, none⟩ (.slice none 0 0)).setCell ⟨X + 1, 2, none⟩ (.int .i64 0)).setCell ⟨X + 1, 3, none⟩ (.slice none 0 0)).setCell ⟨X + 1, 4, none⟩ (.slice none 0 0)).setCell ⟨X + 1, 5, none⟩ (.slice none 0 0)).setCell ⟨X + 1, 6, none⟩ (.slice none 0 0)) := ⟨_, rfl⟩
  have hfin := set7all (d0 := .int .i64 0) (d1 := .slice none 0 0) (d2 := .int .i64 0) (d3 := .slice none 0 0) (d4 := .slice none 0 0) (d5 := .slice none 0 0) (d6 := .slice none 0 0) hZ2
  have hgF := set7_grown w2 (X + 1) (.int .i64 0) (.slice none 0 0) (.int .i64 0) (.slice none 0 0) (.slice none 0 0) (.slice none 0 0) (.slice none 0 0)
  rw [← hwF] at hfin hgF
  have HWF := Lib.hid hwF
  have hbF : Below w.heap.size w wF := hbw2.grown hgF hbw2.size (fun k e => by cases e; rw [HX.out]; omega)
  obtain ⟨t0, t1, t2, t3, t4, t5, t6⟩ := cells7 hfin
  obtain ⟨v0, v1, v2, v3, v4, v5, v6⟩ := cells7 hZ2
  have fZ := fun q => free_blk (j := q) hZ2
  have f0 := fZ 0
  have f1 := fZ 1
  have f2 := fZ 2
  have f3 := fZ 3
  have f4 := fZ 4
  have f5 := fZ 5
  have f6 := fZ 6
  clear hwF hgF hfin fZ
  have hi3 : (i : Int) < P := by omega
  have hj3 : (j : Int) < P := by omega
  have d1 : decide (min (i : Int) (j : Int) < 0) = false := decide_eq_false (by omega)
  have d2 : decide ((P : Int) ≤ max (i : Int) (j : Int)) = false := decide_eq_false (by omega)
  obtain ⟨-, hcb, bb, ob, ⟨sa, sl, sc⟩, rfl, hcB, hR⟩ := (show BoxA w2 (.slice ab (bxL P W).length cb) (bxL P W) by rw [bxL_len]; exact hB.below hbw2).at i _ (bxL_row P W i hi)
  obtain ⟨hsl, hsc, -⟩ := NestA.len hR
  rw [List.length_map, List.length_range] at hsl
  obtain rfl := hsl.symm
  obtain ⟨-, -, bm, om, ⟨ma, ml, mc⟩, rfl, hcM, hM⟩ := hR.at j (W.bx i j) (by rw [List.getElem?_map, List.getElem?_range hj]; rfl)
  obtain rfl : ml = (W.bx i j).length := RowAt.lenE hM
  rw [hbe] at hcM
  change w2.cell? ⟨bb, ob + i, none⟩ = some (.slice (some ⟨bm, om, none⟩) P sc) at hcB
  change w2.cell? ⟨bm, om + j, none⟩ = some (.slice ma 0 mc) at hcM
  go_wp2_with fail
  rw [← HWF.out]
  exact bodyPost_ret (v := .tuple #[.agg #[.int .i64 0, .slice none 0 0, .int .i64 0, .slice none 0 0, .slice none 0 0, .slice none 0 0, .slice none 0 0], .int .i64 32]) (by simp [results, Tryz.results24, go_sem, t0, t1, t2, t3, t4, t5, t6]) rfl ⟨rfl, hbF⟩
set_option linter.unusedSimpArgs false in
set_option maxRecDepth 100000 in
set_option maxHeartbeats 6400000 in
theorem r8del_rng (n P : Nat) (es : List E2) (ow : Nat → Nat) (hv : List Int) (W : WdP) (v : Value) (i j : Int) (w : World) (hG : GoodW n P es ow hv W) (h : WldAt w v (wdL n P es ow hv W)) (hr : ¬ (0 ≤ i ∧ i < P ∧ 0 ≤ j ∧ j < P)) :
    Calls Tryz.prog 25 #[v, .int .i64 i, .int .i64 j] w fun e w' => e = .returned (.tuple #[.agg #[.int .i64 0, .slice none 0 0, .int .i64 0, .slice none 0 0, .slice none 0 0, .slice none 0 0, .slice none 0 0], .int .i64 1]) ∧ Below w.heap.size w w' := by
  have hP8 := hG.hP
  obtain ⟨ae, ao, ah, ak, ab, ce, co, ch, ck, cb, rfl, hE, hO, hH, hK, hB⟩ := h.shapeH
  obtain ⟨hX0, hb0⟩ := boxG_new w #[.int .i64 (n : Int), .slice ae es.length ce, .int .i64 (P : Int), .slice ao n co, .slice ah hv.length ch, .slice ak P ck, .slice ab P cb] 36
  obtain ⟨w1, hw1⟩ : ∃ V : World, V = w.alloc (.cells #[.int .i64 (n : Int), .slice ae es.length ce, .int .i64 (P : Int), .slice ao n co, .slice ah hv.length ch, .slice ak P ck, .slice ab P cb] 36) := ⟨_, rfl⟩
  have hz1 : w1.heap.size = w.heap.size + 1 := by rw [hw1]; simp
  rw [← hw1] at hX0 hb0
  obtain ⟨hZ0, hb1⟩ := boxG_new w1 #[.int .i64 0, .slice none 0 0, .int .i64 0, .slice none 0 0, .slice none 0 0, .slice none 0 0, .slice none 0 0] 36
  obtain ⟨wA, hwA⟩ : ∃ V : World, V = w1.alloc (.cells #[.int .i64 0, .slice none 0 0, .int .i64 0, .slice none 0 0, .slice none 0 0, .slice none 0 0, .slice none 0 0] 36) := ⟨_, rfl⟩
  rw [← hwA] at hZ0 hb1
  have hX1 := lit_next' hb1 hX0
  have hbA := hb0.trans (hb1.mono hb0.size)
  obtain ⟨X, hX⟩ : ∃ X, w.heap.size = X := ⟨_, rfl⟩
  rw [hz1] at hZ0
  rw [hX] at hX1 hZ0
  have HX := Lib.hid hX
  have hwA2 : wA = (w.alloc (.cells #[.int .i64 (n : Int), .slice ae es.length ce, .int .i64 (P : Int), .slice ao n co, .slice ah hv.length ch, .slice ak P ck, .slice ab P cb] 36)).alloc (.cells #[.int .i64 0, .slice none 0 0, .int .i64 0, .slice none 0 0, .slice none 0 0, .slice none 0 0, .slice none 0 0] 36) := by rw [hwA, hw1]
  have HWA := Lib.hid hwA2
  have hval := valid38_any (wdL n P es ow hv W) (.agg #[.int .i64 (n : Int), .slice ae es.length ce, .int .i64 (P : Int), .slice ao n co, .slice ah hv.length ch, .slice ak P ck, .slice ab P cb]) wA (h.below hbA) (fun r hr m hm => by
    obtain ⟨a, ha, rfl⟩ := List.mem_map.1 hr
    obtain ⟨t, ht, rfl⟩ := List.mem_map.1 hm
    exact hG.bl a t (List.mem_range.1 ha) (List.mem_range.1 ht))
  rw [hG.val] at hval
  clear hX0 hb0 hb1 hz1 hw1 hwA hwA2 w1 hX
  obtain ⟨x0, x1, x2, x3, x4, x5, x6⟩ := cells7 hX1
  go_enter Tryz.func25, Tryz.ntmps25
  go_upto_region 1 with fail
  rw [← HWA.out, HX.out]
  go_wp2_with fail
  refine hval.mono ?_
  rintro e w2 ⟨rfl, hb2⟩
  have hbw2 := hbA.trans (hb2.mono hbA.size)
  have hX2 := lit_next' hb2 hX1
  have hZ2 := lit_next' hb2 hZ0
  clear hval x0 x1 x2 x3 x4 x5 x6 hX1 hZ0
  obtain ⟨x0, x1, x2, x3, x4, x5, x6⟩ := cells7 hX2
  obtain ⟨wF, hwF⟩ : ∃ V : World, V = (((((((w2.setCell ⟨X + 1, 0, none⟩ (.int .i64 0)).setCell ⟨X + 1, 1, none⟩ (.slice none 0 0)).setCell ⟨X + 1, 2, none⟩ (.int .i64 0)).setCell ⟨X + 1, 3, none⟩ (.slice none 0 0)).setCell ⟨X + 1, 4, none⟩ (.slice none 0 0)).setCell ⟨X + 1, 5, none⟩ (.slice none 0 0)).setCell ⟨X + 1, 6, none⟩ (.slice none 0 0)) := ⟨_, rfl⟩
  have hfin := set7all (d0 := .int .i64 0) (d1 := .slice none 0 0) (d2 := .int .i64 0) (d3 := .slice none 0 0) (d4 := .slice none 0 0) (d5 := .slice none 0 0) (d6 := .slice none 0 0) hZ2
  have hgF := set7_grown w2 (X + 1) (.int .i64 0) (.slice none 0 0) (.int .i64 0) (.slice none 0 0) (.slice none 0 0) (.slice none 0 0) (.slice none 0 0)
  rw [← hwF] at hfin hgF
  have HWF := Lib.hid hwF
  have hbF : Below w.heap.size w wF := hbw2.grown hgF hbw2.size (fun k e => by cases e; rw [HX.out]; omega)
  obtain ⟨t0, t1, t2, t3, t4, t5, t6⟩ := cells7 hfin
  obtain ⟨v0, v1, v2, v3, v4, v5, v6⟩ := cells7 hZ2
  have fZ := fun q => free_blk (j := q) hZ2
  have f0 := fZ 0
  have f1 := fZ 1
  have f2 := fZ 2
  have f3 := fZ 3
  have f4 := fZ 4
  have f5 := fZ 5
  have f6 := fZ 6
  clear hwF hgF hfin fZ
  by_cases h1 : i < 0
  · have d1 : decide (i < 0) = true := decide_eq_true h1
    go_wp2_with fail
    rw [← HWF.out]
    exact bodyPost_ret (v := .tuple #[.agg #[.int .i64 0, .slice none 0 0, .int .i64 0, .slice none 0 0, .slice none 0 0, .slice none 0 0, .slice none 0 0], .int .i64 1]) (by simp [results, Tryz.results25, go_sem, t0, t1, t2, t3, t4, t5, t6]) rfl ⟨rfl, hbF⟩
  · have d1 : decide (i < 0) = false := decide_eq_false h1
    by_cases h2 : (P : Int) ≤ i
    · have d2 : decide ((P : Int) ≤ i) = true := decide_eq_true h2
      go_wp2_with fail
      rw [← HWF.out]
      exact bodyPost_ret (v := .tuple #[.agg #[.int .i64 0, .slice none 0 0, .int .i64 0, .slice none 0 0, .slice none 0 0, .slice none 0 0, .slice none 0 0], .int .i64 1]) (by simp [results, Tryz.results25, go_sem, t0, t1, t2, t3, t4, t5, t6]) rfl ⟨rfl, hbF⟩
    · have d2 : decide ((P : Int) ≤ i) = false := decide_eq_false h2
      by_cases h3 : j < 0
      · have d3 : decide (j < 0) = true := decide_eq_true h3
        go_wp2_with fail
        rw [← HWF.out]
        exact bodyPost_ret (v := .tuple #[.agg #[.int .i64 0, .slice none 0 0, .int .i64 0, .slice none 0 0, .slice none 0 0, .slice none 0 0, .slice none 0 0], .int .i64 1]) (by simp [results, Tryz.results25, go_sem, t0, t1, t2, t3, t4, t5, t6]) rfl ⟨rfl, hbF⟩
      · have d3 : decide (j < 0) = false := decide_eq_false h3
        have d4 : decide ((P : Int) ≤ j) = true := decide_eq_true (by omega)
        go_wp2_with fail
        rw [← HWF.out]
        exact bodyPost_ret (v := .tuple #[.agg #[.int .i64 0, .slice none 0 0, .int .i64 0, .slice none 0 0, .slice none 0 0, .slice none 0 0, .slice none 0 0], .int .i64 1]) (by simp [results, Tryz.results25, go_sem, t0, t1, t2, t3, t4, t5, t6]) rfl ⟨rfl, hbF⟩
set_option linter.unusedSimpArgs false in
set_option maxRecDepth 100000 in
set_option maxHeartbeats 6400000 in
theorem r8del_void (n P i j : Nat) (es : List E2) (ow : Nat → Nat) (hv : List Int) (W : WdP) (v : Value) (w : World) (hG : GoodW n P es ow hv W) (h : WldAt w v (wdL n P es ow hv W)) (hi : i < P) (hj : j < P) (hbe : W.bx i j = []) :
    Calls Tryz.prog 25 #[v, .int .i64 (i : Int), .int .i64 (j : Int)] w fun e w' => e = .returned (.tuple #[.agg #[.int .i64 0, .slice none 0 0, .int .i64 0, .slice none 0 0, .slice none 0 0, .slice none 0 0, .slice none 0 0], .int .i64 32]) ∧ Below w.heap.size w w' := by
  have hP8 := hG.hP
  obtain ⟨ae, ao, ah, ak, ab, ce, co, ch, ck, cb, rfl, hE, hO, hH, hK, hB⟩ := h.shapeH
  obtain ⟨hX0, hb0⟩ := boxG_new w #[.int .i64 (n : Int), .slice ae es.length ce, .int .i64 (P : Int), .slice ao n co, .slice ah hv.length ch, .slice ak P ck, .slice ab P cb] 36
  obtain ⟨w1, hw1⟩ : ∃ V : World, V = w.alloc (.cells #[.int .i64 (n : Int), .slice ae es.length ce, .int .i64 (P : Int), .slice ao n co, .slice ah hv.length ch, .slice ak P ck, .slice ab P cb] 36) := ⟨_, rfl⟩
  have hz1 : w1.heap.size = w.heap.size + 1 := by rw [hw1]; simp
  rw [← hw1] at hX0 hb0
  obtain ⟨hZ0, hb1⟩ := boxG_new w1 #[.int .i64 0, .slice none 0 0, .int .i64 0, .slice none 0 0, .slice none 0 0, .slice none 0 0, .slice none 0 0] 36
  obtain ⟨wA, hwA⟩ : ∃ V : World, V = w1.alloc (.cells #[.int .i64 0, .slice none 0 0, .int .i64 0, .slice none 0 0, .slice none 0 0, .slice none 0 0, .slice none 0 0] 36) := ⟨_, rfl⟩
  rw [← hwA] at hZ0 hb1
  have hX1 := lit_next' hb1 hX0
  have hbA := hb0.trans (hb1.mono hb0.size)
  obtain ⟨X, hX⟩ : ∃ X, w.heap.size = X := ⟨_, rfl⟩
  rw [hz1] at hZ0
  rw [hX] at hX1 hZ0
  have HX := Lib.hid hX
  have hwA2 : wA = (w.alloc (.cells #[.int .i64 (n : Int), .slice ae es.length ce, .int .i64 (P : Int), .slice ao n co, .slice ah hv.length ch, .slice ak P ck, .slice ab P cb] 36)).alloc (.cells #[.int .i64 0, .slice none 0 0, .int .i64 0, .slice none 0 0, .slice none 0 0, .slice none 0 0, .slice none 0 0] 36) := by rw [hwA, hw1]
  have HWA := Lib.hid hwA2
  have hval := valid38_any (wdL n P es ow hv W) (.agg #[.int .i64 (n : Int), .slice ae es.length ce, .int .i64 (P : Int), .slice ao n co, .slice ah hv.length ch, .slice ak P ck, .slice ab P cb]) wA (h.below hbA) (fun r hr m hm => by
    obtain ⟨a, ha, rfl⟩ := List.mem_map.1 hr
    obtain ⟨t, ht, rfl⟩ := List.mem_map.1 hm
    exact hG.bl a t (List.mem_range.1 ha) (List.mem_range.1 ht))
  rw [hG.val] at hval
  clear hX0 hb0 hb1 hz1 hw1 hwA hwA2 w1 hX
  obtain ⟨x0, x1, x2, x3, x4, x5, x6⟩ := cells7 hX1
  go_enter Tryz.func25, Tryz.ntmps25
  go_upto_region 1 with fail
  rw [← HWA.out, HX.out]
  go_wp2_with fail
  refine hval.mono ?_
  rintro e w2 ⟨rfl, hb2⟩
  have hbw2 := hbA.trans (hb2.mono hbA.size)
  have hX2 := lit_next' hb2 hX1
  have hZ2 := lit_next' hb2 hZ0
  clear hval x0 x1 x2 x3 x4 x5 x6 hX1 hZ0
  obtain ⟨x0, x1, x2, x3, x4, x5, x6⟩ := cells7 hX2
  obtain ⟨wF, hwF⟩ : ∃ V : World, V = (((((((w2.setCell ⟨X + 1, 0, none⟩ (.int .i64 0)).setCell ⟨X + 1, 1, none⟩ (.slice none 0 0)).setCell ⟨X + 1, 2, none⟩ (.int .i64 0)).setCell ⟨X + 1, 3, none⟩ (.slice none 0 0)).setCell ⟨X + 1, 4, none⟩ (.slice none 0 0)).setCell ⟨X + 1, 5, none⟩ (.slice none 0 0)).setCell ⟨X + 1, 6, none⟩ (.slice none 0 0)) := ⟨_, rfl⟩
  have hfin := set7all (d0 := .int .i64 0) (d1 := .slice none 0 0) (d2 := .int .i64 0) (d3 := .slice none 0 0) (d4 := .slice none 0 0) (d5 := .slice none 0 0) (d6 := .slice none 0 0) hZ2
  have hgF := set7_grown w2 (X + 1) (.int .i64 0) (.slice none 0 0) (.int .i64 0) (.slice none 0 0) (.slice none 0 0) (.slice none 0 0) (.slice none 0 0)
  rw [← hwF] at hfin hgF
  have HWF := Lib.hid hwF
  have hbF : Below w.heap.size w wF := hbw2.grown hgF hbw2.size (fun k e => by cases e; rw [HX.out]; omega)
  obtain ⟨t0, t1, t2, t3, t4, t5, t6⟩ := cells7 hfin
  obtain ⟨v0, v1, v2, v3, v4, v5, v6⟩ := cells7 hZ2
  have fZ := fun q => free_blk (j := q) hZ2
  have f0 := fZ 0
  have f1 := fZ 1
  have f2 := fZ 2
  have f3 := fZ 3
  have f4 := fZ 4
  have f5 := fZ 5
  have f6 := fZ 6
  clear hwF hgF hfin fZ
  have hi3 : (i : Int) < P := by omega
  have hj3 : (j : Int) < P := by omega
  have d1 : decide ((i : Int) < 0) = false := decide_eq_false (by omega)
  have d2 : decide ((j : Int) < 0) = false := decide_eq_false (by omega)
  have d3 : decide ((P : Int) ≤ i) = false := decide_eq_false (by omega)
  have d4 : decide ((P : Int) ≤ j) = false := decide_eq_false (by omega)
  obtain ⟨-, hcb, bb, ob, ⟨sa, sl, sc⟩, rfl, hcB, hR⟩ := (show BoxA w2 (.slice ab (bxL P W).length cb) (bxL P W) by rw [bxL_len]; exact hB.below hbw2).at i _ (bxL_row P W i hi)
  obtain ⟨hsl, hsc, -⟩ := NestA.len hR
  rw [List.length_map, List.length_range] at hsl
  obtain rfl := hsl.symm
  obtain ⟨-, -, bm, om, ⟨ma, ml, mc⟩, rfl, hcM, hM⟩ := hR.at j (W.bx i j) (by rw [List.getElem?_map, List.getElem?_range hj]; rfl)
  obtain rfl : ml = (W.bx i j).length := RowAt.lenE hM
  rw [hbe] at hcM
  change w2.cell? ⟨bb, ob + i, none⟩ = some (.slice (some ⟨bm, om, none⟩) P sc) at hcB
  change w2.cell? ⟨bm, om + j, none⟩ = some (.slice ma 0 mc) at hcM
  go_wp2_with fail
  rw [← HWF.out]
  exact bodyPost_ret (v := .tuple #[.agg #[.int .i64 0, .slice none 0 0, .int .i64 0, .slice none 0 0, .slice none 0 0, .slice none 0 0, .slice none 0 0], .int .i64 32]) (by simp [results, Tryz.results25, go_sem, t0, t1, t2, t3, t4, t5, t6]) rfl ⟨rfl, hbF⟩
set_option linter.unusedSimpArgs false in
set_option maxRecDepth 100000 in
set_option maxHeartbeats 6400000 in
theorem num38w_any (n P : Nat) (es : List E2) (ow : Nat → Nat) (hv : List Int) (W : WdP) (v : Value) (w : World) (hG : GoodW n P es ow hv W) (h : WldAt w v (wdL n P es ow hv W)) :
    Calls Tryz.prog 20 #[v] w fun e w' => ∃ a c, e = .returned (.slice a (numW n ow W).length c) ∧ IntsAt w' (.slice a (numW n ow W).length c) (numW n ow W) ∧ Below w.heap.size w w' := by
  have hP8 := hG.hP
  have hn64 : n ≤ 64 := by have := hG.hg.2.1; omega
  obtain ⟨ae, ao, ah, ak, ab, ce, co, ch, ck, cb, rfl, hE, hO, hH, hK, hB⟩ := h.shapeH
  obtain ⟨hX1, hbA⟩ := boxG_new w #[.int .i64 (n : Int), .slice ae es.length ce, .int .i64 (P : Int), .slice ao n co, .slice ah hv.length ch, .slice ak P ck, .slice ab P cb] 36
  obtain ⟨wA, hwA⟩ : ∃ V : World, V = w.alloc (.cells #[.int .i64 (n : Int), .slice ae es.length ce, .int .i64 (P : Int), .slice ao n co, .slice ah hv.length ch, .slice ak P ck, .slice ab P cb] 36) := ⟨_, rfl⟩
  rw [← hwA] at hX1 hbA
  obtain ⟨X, hX⟩ : ∃ X, w.heap.size = X := ⟨_, rfl⟩
  rw [hX] at hX1
  have HX := Lib.hid hX
  have HWA := Lib.hid hwA
  have hval := valid38_any (wdL n P es ow hv W) (.agg #[.int .i64 (n : Int), .slice ae es.length ce, .int .i64 (P : Int), .slice ao n co, .slice ah hv.length ch, .slice ak P ck, .slice ab P cb]) wA (h.below hbA) (fun r hr m hm => by
    obtain ⟨a, ha, rfl⟩ := List.mem_map.1 hr
    obtain ⟨t, ht, rfl⟩ := List.mem_map.1 hm
    exact hG.bl a t (List.mem_range.1 ha) (List.mem_range.1 ht))
  rw [hG.val] at hval
  have hnl : (numW n ow W).length = n := fnL_length _ _
  clear hwA hX
  obtain ⟨x0, x1, x2, x3, x4, x5, x6⟩ := cells7 hX1
  go_enter Tryz.func20, Tryz.ntmps20
  go_upto_region 1 with fail
  rw [← HWA.out, HX.out]
  go_wp2_with fail
  refine hval.mono ?_
  rintro e w2 ⟨rfl, hb2⟩
  have hbw2 := hbA.trans (hb2.mono hbA.size)
  have hX2 := lit_next' hb2 hX1
  clear hval x0 x1 x2 x3 x4 x5 x6 hX1
  have HNL := Lib.hid hnl
  clear hnl
  go_wp2_with fail
  go_loopw [3, 4] (fun vl vi wr => ∃ (k : Nat) (L : List Int), k ≤ n ∧ vi = .int .i64 (k : Int) ∧ Hid (L = (numW n ow W).take k) ∧ L.length ≤ k ∧ wr.ownsRow w2.heap.size 3 1 vl L.length (intsV L) ∧ Below w2.heap.size w2 wr) (fun _ vi _ => n - (intOf vi).toNat)
  case atStart => exact ⟨0, [], Nat.zero_le _, rfl, (show _ = _ by simp), Nat.le_refl _, World.ownsRow_nil _ _ _ _, Below.refl _ _⟩
  case round =>
    obtain ⟨k, L, hk, rfl, HL, hLk, hown, hb⟩ := hrel
    obtain ⟨av, cv, hvs⟩ := owns_shape hown
    subst hvs
    have hXr := lit_next' hb hX2
    have hbr := hbw2.trans (hb.mono hbw2.size)
    obtain ⟨x0, x1, x2, x3, x4, x5, x6⟩ := cells7 hXr
    by_cases hlt : k < n
    · have hlt3 : (k : Int) < n := by omega
      obtain ⟨bO, oO, rfl, cO⟩ := (hO.below hbw2).atn (owI_length n ow) k hlt
      rw [getD_of (owI_get n ow k hlt)] at cO
      have how := hG.how k hlt
      have how3 : (ow k : Int) < P := by omega
      obtain ⟨bK, oK, sa, sc, rfl, cK, hI⟩ := KnA.row (hK.below hbw2) (ow k) how
      have hkl := hG.vld.len (ow k) how
      rw [hkl] at cK
      obtain ⟨bI, oI, rfl, cI⟩ := (show IntsAt w2 (.slice sa n sc) (W.kn (ow k)) by rw [← hkl]; exact hI).atn hkl k hlt
      have htk : (numW n ow W).take (k + 1) = L ++ [(W.kn (ow k)).getD k 0] := by rw [HL.out]; unfold numW; rw [take_at _ _ _ (fnL_get n _ k hlt)]
      obtain ⟨y, hy⟩ : ∃ q, (W.kn (ow k)).getD k 0 = q := ⟨_, rfl⟩
      rw [hy] at cI htk
      have HTK := Lib.hid htk.symm
      obtain ⟨o, ho⟩ : ∃ q, ow k = q := ⟨_, rfl⟩
      rw [ho] at cO how how3 cK
      clear htk hy ho hI hkl HL
      have lO := cell_lt cO
      have lK := cell_lt cK
      have lI := cell_lt cI
      have lX : X < w2.heap.size := blk_lt hX2
      replace cO := (hb.cell (p := ⟨bO, oO + k, none⟩) lO).trans cO
      replace cK := (hb.cell (p := ⟨bK, oK + o, none⟩) lK).trans cK
      replace cI := (hb.cell (p := ⟨bI, oI + k, none⟩) lI).trans cI
      go_upto_region 7 with fail
      refine wp_region_heldK (k := 16) (S := fun _ W => W.cell? ⟨X, 3, none⟩ = some (.slice (some ⟨bO, oO, none⟩) n co) ∧ W.cell? ⟨X, 5, none⟩ = some (.slice (some ⟨bK, oK, none⟩) P ck) ∧ W.cell? ⟨bO, oO + k, none⟩ = some (.int .i64 (o : Int)) ∧ W.cell? ⟨bK, oK + o, none⟩ = some (.slice (some ⟨bI, oI, none⟩) n sc) ∧ W.cell? ⟨bI, oI + k, none⟩ = some (.int .i64 y)) (by kernel_rfl) ?_
      have hS0 : wr.drew.cell? ⟨X, 3, none⟩ = some (.slice (some ⟨bO, oO, none⟩) n co) ∧ wr.drew.cell? ⟨X, 5, none⟩ = some (.slice (some ⟨bK, oK, none⟩) P ck) ∧ wr.drew.cell? ⟨bO, oO + k, none⟩ = some (.int .i64 (o : Int)) ∧ wr.drew.cell? ⟨bK, oK + o, none⟩ = some (.slice (some ⟨bI, oI, none⟩) n sc) ∧ wr.drew.cell? ⟨bI, oI + k, none⟩ = some (.int .i64 y) := ⟨x3, x5, cO, cK, cI⟩
      refine tkA 0 (.slice av L.length cv) true rfl (fun _ h => h) false hS0 ?_
      refine tkA 1 (.pointer (some ⟨X, 5, none⟩)) true rfl (fun _ h => h) false hS0 ?_
      refine tkA 2 (.slice (some ⟨bK, oK, none⟩) P ck) true rfl (fun _ h => h) false hS0 ?_
      refine tkA 3 (.pointer (some ⟨X, 2, none⟩)) true rfl (fun _ h => h) false hS0 ?_
      refine tkA 4 (.pointer (some ⟨X, 3, none⟩)) true rfl (fun _ h => h) false hS0 ?_
      refine tkA 5 (.slice (some ⟨bO, oO, none⟩) n co) true rfl (fun _ h => h) false hS0 ?_
      refine tkA 6 (.int .i64 (k : Int)) true rfl (fun _ h => h) false hS0 ?_
      refine tkA 7 (.pointer (some ⟨bO, oO + k, none⟩)) true rfl (fun _ h => h) false hS0 ?_
      refine tkA 8 (.int .i64 (o : Int)) true rfl (fun _ h => h) false hS0 ?_
      refine tkA 9 (.pointer (some ⟨bK, oK + o, none⟩)) true rfl (fun _ h => h) false hS0 ?_
      refine tkA 10 (.slice (some ⟨bI, oI, none⟩) n sc) true rfl (fun _ h => h) false hS0 ?_
      refine tkA 11 (.int .i64 (k : Int)) true rfl (fun _ h => h) false hS0 ?_
      refine tkA 12 (.pointer (some ⟨bI, oI + k, none⟩)) true rfl (fun _ h => h) false hS0 ?_
      refine tkA 13 (.int .i64 y) true rfl (fun _ h => h) false hS0 ?_
      try simp only [Act.put, List.setIfInBounds_toArray, List.set_cons_zero, List.set_cons_succ]
      refine wpAnyK_one (i := 14) (by kernel_rfl) rfl (by rfl) (b := false) (by kernel_rfl) (fun K hK => ?_)
      go_simp
      refine hK.out _ _ ⟨cell_alloc x3, cell_alloc x5, cell_alloc cO, cell_alloc cK, cell_alloc cI⟩ ?_
      try simp only [Act.put, List.setIfInBounds_toArray, List.set_cons_zero, List.set_cons_succ]
      have hlx := (ints_lit1 wr y 3).below (Below.refl _ _).drew
      have hownA := (hown.alloc (.cells #[.int .i64 y] 3)).kept (grown_of_below (Below.refl _ _).drew) (Classical.em _)
      have hbA7 : Below w2.heap.size w2 (wr.alloc (.cells #[.int .i64 y] 3)).drew := (hb.alloc hb.size (.cells #[.int .i64 y] 3)).drew
      refine wpAnyK_one (i := 15) (by kernel_rfl) rfl (by rfl) (b := false) (by kernel_rfl) (fun K hK => ?_)
      refine wp_app_ints intsT (.tmp 15) (.tmp 29) (by kernel_rfl) w2.heap.size (.slice av L.length cv) (.slice (some ⟨wr.heap.size, 0, none⟩) 1 1) L [y] (by kernel_rfl) (by exact hownA) (by kernel_rfl) (by exact hlx) (by rw [List.length_singleton]; omega) (by exact hbA7.size) ?_
      intro v7 w7 hown7 hg7
      have hb7 := hbA7.grown hg7 hbA7.size (fun g e => (hown.lt g e).1)
      have gc : ∀ b o' q, b < w2.heap.size → wr.cell? ⟨b, o', none⟩ = some q → w7.cell? ⟨b, o', none⟩ = some q := fun b o' q h1 h2 => hg7.cell (cell_alloc h2) (fun e => by have h3 := (hown.lt _ e.symm).1; exact Nat.lt_irrefl _ (Nat.lt_of_lt_of_le h1 h3))
      have hS7 : w7.cell? ⟨X, 3, none⟩ = some (.slice (some ⟨bO, oO, none⟩) n co) ∧ w7.cell? ⟨X, 5, none⟩ = some (.slice (some ⟨bK, oK, none⟩) P ck) ∧ w7.cell? ⟨bO, oO + k, none⟩ = some (.int .i64 (o : Int)) ∧ w7.cell? ⟨bK, oK + o, none⟩ = some (.slice (some ⟨bI, oI, none⟩) n sc) ∧ w7.cell? ⟨bI, oI + k, none⟩ = some (.int .i64 y) := ⟨gc _ _ _ lX x3, gc _ _ _ lX x5, gc _ _ _ lO cO, gc _ _ _ lK cK, gc _ _ _ lI cI⟩
      obtain ⟨a7, c7, hv7⟩ := owns_shape hown7
      rw [List.length_append, List.length_singleton] at hv7
      subst hv7
      refine hK.out _ _ hS7 ?_
      try simp only [Act.put, List.setIfInBounds_toArray, List.set_cons_zero, List.set_cons_succ]
      refine wpAnyK_one (i := 16) (by kernel_rfl) rfl (by rfl) (b := true) (by kernel_rfl) (fun K hK => ?_)
      go_simp
      refine hK.out _ _ hS7 (wpAnyK_done (by kernel_rfl) ?_ _)
      clear gc hS7 hS0 hownA hlx hbA7 hg7 hown lO lK lI lX cO cK cI x0 x1 x2 x3 x4 x5 x6
      go_wp2_with fail
      go_roundw
      case rel => exact ⟨k + 1, L ++ [y], by omega, by go_num, HTK, by simp; omega, hown7, hb7⟩
      case measure => simp [intOf]; omega
    · obtain rfl : n = k := by omega
      have hLe : L = numW n ow W := by rw [HL.out]; exact List.take_of_length_le (by rw [HNL.out]; exact Nat.le_refl _)
      subst hLe
      obtain ⟨a', c', e', h', -⟩ := IntsAt.of_owns hown (by rw [HNL.out]; omega)
      cases e'
      go_wp2_with fail
      go_ret
      exact ⟨av, cv, rfl, h', hbr⟩
end Go.Proofs.YtdkmdcdoiaelfaaGreat

namespace Go.Proofs.YtdkmdcdoiaelfaaGreat
open Go.RowKit Go.BigFrame

set_option linter.unusedSimpArgs false in
set_option maxRecDepth 100000 in
set_option maxHeartbeats 6400000 in
theorem rdsta_bad (n P : Int) (es : List E2) (ow hv : List Int) (ae ao ah : Option Addr) (ce co ch : Nat) (w : World) (he : EdgesAt w (.slice ae es.length ce) es) (ho : IntsAt w (.slice ao ow.length co) ow) (hh : IntsAt w (.slice ah hv.length ch) hv) (hf : fltS n es P ow hv ≠ 0) :
    Calls Tryz.prog 9 #[.agg #[.int .i64 n, .slice ae es.length ce], .agg #[.int .i64 P, .slice ao ow.length co, .slice ah hv.length ch]] w fun e w' => e = .returned (.tuple #[.agg #[.int .i64 0, .slice none 0 0, .int .i64 0, .slice none 0 0, .slice none 0 0, .slice none 0 0, .slice none 0 0], .int .i64 (fltS n es P ow hv)]) ∧ Below w.heap.size w w' := by
  obtain ⟨hX0, hb0⟩ := boxG_new w #[.int .i64 n, .slice ae es.length ce] 25
  obtain ⟨w1, hw1⟩ : ∃ V : World, V = w.alloc (.cells #[.int .i64 n, .slice ae es.length ce] 25) := ⟨_, rfl⟩
  have hz1 : w1.heap.size = w.heap.size + 1 := by rw [hw1]; simp
  rw [← hw1] at hX0 hb0
  obtain ⟨hQ0, hb1⟩ := boxG_new w1 #[.int .i64 P, .slice ao ow.length co, .slice ah hv.length ch] 27
  obtain ⟨w1', hw1'⟩ : ∃ V : World, V = w1.alloc (.cells #[.int .i64 P, .slice ao ow.length co, .slice ah hv.length ch] 27) := ⟨_, rfl⟩
  have hz1' : w1'.heap.size = w.heap.size + 2 := by rw [hw1']; simp [hz1]
  rw [← hw1'] at hQ0 hb1
  obtain ⟨hZ0, hb2⟩ := boxG_new w1' #[.int .i64 0, .slice none 0 0, .int .i64 0, .slice none 0 0, .slice none 0 0, .slice none 0 0, .slice none 0 0] 36
  obtain ⟨wA, hwA⟩ : ∃ V : World, V = w1'.alloc (.cells #[.int .i64 0, .slice none 0 0, .int .i64 0, .slice none 0 0, .slice none 0 0, .slice none 0 0, .slice none 0 0] 36) := ⟨_, rfl⟩
  rw [← hwA] at hZ0 hb2
  have hX1 := lit_next' hb2 (lit_next' hb1 hX0)
  have hQ1 := lit_next' hb2 hQ0
  have hbA := (hb0.trans (hb1.mono hb0.size)).trans (hb2.mono (hb0.trans (hb1.mono hb0.size)).size)
  obtain ⟨X, hX⟩ : ∃ X, w.heap.size = X := ⟨_, rfl⟩
  rw [hz1] at hQ1
  rw [hz1'] at hZ0
  rw [hX] at hX1 hQ1 hZ0
  have HX := Lib.hid hX
  have hwA2 : wA = ((w.alloc (.cells #[.int .i64 n, .slice ae es.length ce] 25)).alloc (.cells #[.int .i64 P, .slice ao ow.length co, .slice ah hv.length ch] 27)).alloc (.cells #[.int .i64 0, .slice none 0 0, .int .i64 0, .slice none 0 0, .slice none 0 0, .slice none 0 0, .slice none 0 0] 36) := by rw [hwA, hw1', hw1]
  have HWA := Lib.hid hwA2
  have hfa := rdcheck_any n P es ow hv ae ao ah ce co ch wA (he.below hbA) (ho.below hbA) (hh.below hbA)
  obtain ⟨f, hfe⟩ : ∃ f, fltS n es P ow hv = f := ⟨_, rfl⟩
  rw [hfe] at hfa hf ⊢
  have d1 : decide (f = 0) = false := decide_eq_false hf
  have d2 : (f != 0) = true := by simpa using hf
  have d3 : (f == 0) = false := by simpa using hf
  clear hX0 hb0 hb1 hb2 hz1 hz1' hQ0 hw1 hw1' hwA hwA2 w1 w1' hX hfe
  obtain ⟨x0, x1⟩ := cells2R hX1
  obtain ⟨p0, p1, p2⟩ := cells3 hQ1
  go_enter Tryz.func9, Tryz.ntmps9
  go_upto_region 1 with fail
  rw [← HWA.out, HX.out]
  go_wp2_with fail
  refine hfa.mono ?_
  rintro e w2 ⟨rfl, hb2⟩
  have hbw2 := hbA.trans (hb2.mono hbA.size)
  have hZ2 := lit_next' hb2 hZ0
  obtain ⟨wF, hwF⟩ : ∃ V : World, V = (((((((w2.setCell ⟨X + 2, 0, none⟩ (.int .i64 0)).setCell ⟨X + 2, 1, none⟩ (.slice none 0 0)).setCell ⟨X + 2, 2, none⟩ (.int .i64 0)).setCell ⟨X + 2, 3, none⟩ (.slice none 0 0)).setCell ⟨X + 2, 4, none⟩ (.slice none 0 0)).setCell ⟨X + 2, 5, none⟩ (.slice none 0 0)).setCell ⟨X + 2, 6, none⟩ (.slice none 0 0)) := ⟨_, rfl⟩
  have hfin := set7all (d0 := .int .i64 0) (d1 := .slice none 0 0) (d2 := .int .i64 0) (d3 := .slice none 0 0) (d4 := .slice none 0 0) (d5 := .slice none 0 0) (d6 := .slice none 0 0) hZ2
  have hgF := set7_grown w2 (X + 2) (.int .i64 0) (.slice none 0 0) (.int .i64 0) (.slice none 0 0) (.slice none 0 0) (.slice none 0 0) (.slice none 0 0)
  rw [← hwF] at hfin hgF
  have HWF := Lib.hid hwF
  have hbF : Below w.heap.size w wF := hbw2.grown hgF hbw2.size (fun k e => by cases e; rw [HX.out]; omega)
  obtain ⟨t0, t1, t2, t3, t4, t5, t6⟩ := cells7 hfin
  obtain ⟨v0, v1, v2, v3, v4, v5, v6⟩ := cells7 hZ2
  have fZ := fun q => free_blk (j := q) hZ2
  have f0 := fZ 0
  have f1 := fZ 1
  have f2 := fZ 2
  have f3 := fZ 3
  have f4 := fZ 4
  have f5 := fZ 5
  have f6 := fZ 6
  clear hwF hgF hfin fZ x0 x1 p0 p1 p2
  go_wp2_with fail
  rw [← HWF.out]
  exact bodyPost_ret (v := .tuple #[.agg #[.int .i64 0, .slice none 0 0, .int .i64 0, .slice none 0 0, .slice none 0 0, .slice none 0 0, .slice none 0 0], .int .i64 f]) (by simp [results, Tryz.results9, go_sem, t0, t1, t2, t3, t4, t5, t6]) rfl ⟨rfl, hbF⟩
set_option linter.unusedSimpArgs false in
set_option maxRecDepth 100000 in
set_option maxHeartbeats 6400000 in
theorem r8sta_bad (n P : Int) (es : List E2) (ow hv : List Int) (ae ao ah : Option Addr) (ce co ch : Nat) (w : World) (he : EdgesAt w (.slice ae es.length ce) es) (ho : IntsAt w (.slice ao ow.length co) ow) (hh : IntsAt w (.slice ah hv.length ch) hv) (hf : fltS n es P ow hv ≠ 0) :
    Calls Tryz.prog 10 #[.agg #[.int .i64 n, .slice ae es.length ce], .agg #[.int .i64 P, .slice ao ow.length co, .slice ah hv.length ch]] w fun e w' => e = .returned (.tuple #[.agg #[.int .i64 0, .slice none 0 0, .int .i64 0, .slice none 0 0, .slice none 0 0, .slice none 0 0, .slice none 0 0], .int .i64 (fltS n es P ow hv)]) ∧ Below w.heap.size w w' := by
  obtain ⟨hX0, hb0⟩ := boxG_new w #[.int .i64 n, .slice ae es.length ce] 25
  obtain ⟨w1, hw1⟩ : ∃ V : World, V = w.alloc (.cells #[.int .i64 n, .slice ae es.length ce] 25) := ⟨_, rfl⟩
  have hz1 : w1.heap.size = w.heap.size + 1 := by rw [hw1]; simp
  rw [← hw1] at hX0 hb0
  obtain ⟨hQ0, hb1⟩ := boxG_new w1 #[.int .i64 P, .slice ao ow.length co, .slice ah hv.length ch] 27
  obtain ⟨w1', hw1'⟩ : ∃ V : World, V = w1.alloc (.cells #[.int .i64 P, .slice ao ow.length co, .slice ah hv.length ch] 27) := ⟨_, rfl⟩
  have hz1' : w1'.heap.size = w.heap.size + 2 := by rw [hw1']; simp [hz1]
  rw [← hw1'] at hQ0 hb1
  obtain ⟨hZ0, hb2⟩ := boxG_new w1' #[.int .i64 0, .slice none 0 0, .int .i64 0, .slice none 0 0, .slice none 0 0, .slice none 0 0, .slice none 0 0] 36
  obtain ⟨wA, hwA⟩ : ∃ V : World, V = w1'.alloc (.cells #[.int .i64 0, .slice none 0 0, .int .i64 0, .slice none 0 0, .slice none 0 0, .slice none 0 0, .slice none 0 0] 36) := ⟨_, rfl⟩
  rw [← hwA] at hZ0 hb2
  have hX1 := lit_next' hb2 (lit_next' hb1 hX0)
  have hQ1 := lit_next' hb2 hQ0
  have hbA := (hb0.trans (hb1.mono hb0.size)).trans (hb2.mono (hb0.trans (hb1.mono hb0.size)).size)
  obtain ⟨X, hX⟩ : ∃ X, w.heap.size = X := ⟨_, rfl⟩
  rw [hz1] at hQ1
  rw [hz1'] at hZ0
  rw [hX] at hX1 hQ1 hZ0
  have HX := Lib.hid hX
  have hwA2 : wA = ((w.alloc (.cells #[.int .i64 n, .slice ae es.length ce] 25)).alloc (.cells #[.int .i64 P, .slice ao ow.length co, .slice ah hv.length ch] 27)).alloc (.cells #[.int .i64 0, .slice none 0 0, .int .i64 0, .slice none 0 0, .slice none 0 0, .slice none 0 0, .slice none 0 0] 36) := by rw [hwA, hw1', hw1]
  have HWA := Lib.hid hwA2
  have hfa := fault38_any n P es ow hv ae ao ah ce co ch wA (he.below hbA) (ho.below hbA) (hh.below hbA)
  obtain ⟨f, hfe⟩ : ∃ f, fltS n es P ow hv = f := ⟨_, rfl⟩
  rw [hfe] at hfa hf ⊢
  have d1 : decide (f = 0) = false := decide_eq_false hf
  have d2 : (f != 0) = true := by simpa using hf
  have d3 : (f == 0) = false := by simpa using hf
  clear hX0 hb0 hb1 hb2 hz1 hz1' hQ0 hw1 hw1' hwA hwA2 w1 w1' hX hfe
  obtain ⟨x0, x1⟩ := cells2R hX1
  obtain ⟨p0, p1, p2⟩ := cells3 hQ1
  go_enter Tryz.func10, Tryz.ntmps10
  go_upto_region 1 with fail
  rw [← HWA.out, HX.out]
  go_wp2_with fail
  refine hfa.mono ?_
  rintro e w2 ⟨rfl, hb2⟩
  have hbw2 := hbA.trans (hb2.mono hbA.size)
  have hZ2 := lit_next' hb2 hZ0
  obtain ⟨wF, hwF⟩ : ∃ V : World, V = (((((((w2.setCell ⟨X + 2, 0, none⟩ (.int .i64 0)).setCell ⟨X + 2, 1, none⟩ (.slice none 0 0)).setCell ⟨X + 2, 2, none⟩ (.int .i64 0)).setCell ⟨X + 2, 3, none⟩ (.slice none 0 0)).setCell ⟨X + 2, 4, none⟩ (.slice none 0 0)).setCell ⟨X + 2, 5, none⟩ (.slice none 0 0)).setCell ⟨X + 2, 6, none⟩ (.slice none 0 0)) := ⟨_, rfl⟩
  have hfin := set7all (d0 := .int .i64 0) (d1 := .slice none 0 0) (d2 := .int .i64 0) (d3 := .slice none 0 0) (d4 := .slice none 0 0) (d5 := .slice none 0 0) (d6 := .slice none 0 0) hZ2
  have hgF := set7_grown w2 (X + 2) (.int .i64 0) (.slice none 0 0) (.int .i64 0) (.slice none 0 0) (.slice none 0 0) (.slice none 0 0) (.slice none 0 0)
  rw [← hwF] at hfin hgF
  have HWF := Lib.hid hwF
  have hbF : Below w.heap.size w wF := hbw2.grown hgF hbw2.size (fun k e => by cases e; rw [HX.out]; omega)
  obtain ⟨t0, t1, t2, t3, t4, t5, t6⟩ := cells7 hfin
  obtain ⟨v0, v1, v2, v3, v4, v5, v6⟩ := cells7 hZ2
  have fZ := fun q => free_blk (j := q) hZ2
  have f0 := fZ 0
  have f1 := fZ 1
  have f2 := fZ 2
  have f3 := fZ 3
  have f4 := fZ 4
  have f5 := fZ 5
  have f6 := fZ 6
  clear hwF hgF hfin fZ x0 x1 p0 p1 p2
  go_wp2_with fail
  rw [← HWF.out]
  exact bodyPost_ret (v := .tuple #[.agg #[.int .i64 0, .slice none 0 0, .int .i64 0, .slice none 0 0, .slice none 0 0, .slice none 0 0, .slice none 0 0], .int .i64 f]) (by simp [results, Tryz.results10, go_sem, t0, t1, t2, t3, t4, t5, t6]) rfl ⟨rfl, hbF⟩
set_option linter.unusedSimpArgs false in
set_option maxRecDepth 100000 in
set_option maxHeartbeats 6400000 in
theorem rdstl_bad (n P : Int) (es : List E2) (ow hv : List Int) (ae ao ah : Option Addr) (ce co ch : Nat) (ax : Option Addr) (cx : Nat) (x : List Int) (k : Int) (w : World) (he : EdgesAt w (.slice ae es.length ce) es) (ho : IntsAt w (.slice ao ow.length co) ow) (hh : IntsAt w (.slice ah hv.length ch) hv) (hx : IntsAt w (.slice ax x.length cx) x) (hxl : x.length ≤ 1000000) (hf : ¬ (fltS n es P ow hv = 0 ∧ 0 ≤ k ∧ k < P ∧ (x.length : Int) = n)) :
    Calls Tryz.prog 14 #[.agg #[.int .i64 n, .slice ae es.length ce], .agg #[.int .i64 P, .slice ao ow.length co, .slice ah hv.length ch], .int .i64 k, .slice ax x.length cx] w fun e w' => ∃ a c, e = .returned (.slice a x.length c) ∧ IntsAt w' (.slice a x.length c) x ∧ Below w.heap.size w w' := by
  obtain ⟨hX0, hb0⟩ := boxG_new w #[.int .i64 n, .slice ae es.length ce] 25
  obtain ⟨w1, hw1⟩ : ∃ V : World, V = w.alloc (.cells #[.int .i64 n, .slice ae es.length ce] 25) := ⟨_, rfl⟩
  have hz1 : w1.heap.size = w.heap.size + 1 := by rw [hw1]; simp
  rw [← hw1] at hX0 hb0
  obtain ⟨hQ0, hb1⟩ := boxG_new w1 #[.int .i64 P, .slice ao ow.length co, .slice ah hv.length ch] 27
  obtain ⟨wA, hwA⟩ : ∃ V : World, V = w1.alloc (.cells #[.int .i64 P, .slice ao ow.length co, .slice ah hv.length ch] 27) := ⟨_, rfl⟩
  rw [← hwA] at hQ0 hb1
  have hX1 := lit_next' hb1 hX0
  have hbA := hb0.trans (hb1.mono hb0.size)
  obtain ⟨X, hX⟩ : ∃ X, w.heap.size = X := ⟨_, rfl⟩
  rw [hz1] at hQ0
  rw [hX] at hX1 hQ0
  have HX := Lib.hid hX
  have hwA2 : wA = (w.alloc (.cells #[.int .i64 n, .slice ae es.length ce] 25)).alloc (.cells #[.int .i64 P, .slice ao ow.length co, .slice ah hv.length ch] 27) := by rw [hwA, hw1]
  have HWA := Lib.hid hwA2
  have hxA := hx.below hbA
  clear hX0 hb0 hb1 hz1 hw1 hwA hwA2 w1 hX
  obtain ⟨x0, x1⟩ := cells2R hX1
  obtain ⟨p0, p1, p2⟩ := cells3 hQ0
  have hcl := iclone_any ax cx x wA hxA hxl
  go_enter Tryz.func14, Tryz.ntmps14
  go_upto_region 1 with fail
  rw [← HWA.out, HX.out]
  go_wp2_with fail
  refine hcl.mono ?_
  rintro e w2 ⟨v2, rfl, hown2, hb2⟩
  obtain ⟨a2, c2, hv2⟩ := owns_shape hown2
  subst hv2
  have hbw2 := hbA.trans (hb2.mono hbA.size)
  have hX2 := lit_next' hb2 hX1
  have hQ2 := lit_next' hb2 hQ0
  have hfa := rdcheck_any n P es ow hv ae ao ah ce co ch w2 (he.below hbw2) (ho.below hbw2) (hh.below hbw2)
  obtain ⟨f, hfe⟩ : ∃ f, fltS n es P ow hv = f := ⟨_, rfl⟩
  rw [hfe] at hfa hf
  clear x0 x1 p0 p1 p2 hfe
  obtain ⟨x0, x1⟩ := cells2R hX2
  obtain ⟨p0, p1, p2⟩ := cells3 hQ2
  go_wp2_with fail
  refine hfa.mono ?_
  rintro e w3 ⟨rfl, hb3⟩
  have hbw3 := hbw2.trans (hb3.mono hbw2.size)
  have hX3 := lit_next' hb3 hX2
  have hQ3 := lit_next' hb3 hQ2
  have hown3 := hown2.kept (grown_of_below hb3) (Classical.em _)
  obtain ⟨a', c', e', hi3, -⟩ := IntsAt.of_owns hown3 (by omega)
  cases e'
  clear x0 x1 p0 p1 p2 hfa
  obtain ⟨x0, x1⟩ := cells2R hX3
  obtain ⟨p0, p1, p2⟩ := cells3 hQ3
  have hres : ∃ a c, (.slice a2 x.length c2 : Value) = .slice a x.length c ∧ IntsAt w3 (.slice a x.length c) x := ⟨a2, c2, rfl, hi3⟩
  by_cases nhf0 : ¬ (f = 0)
  · have d00 : decide (f = 0) = false := by simp; omega
    have d01 : (f == 0) = false := by simp; omega
    go_wp2_with fail
    go_ret
    exact ⟨a2, c2, rfl, hi3, hbw3⟩
  have hf0 := Classical.not_not.mp nhf0
  have d00 : decide (f = 0) = true := by simp; omega
  have d01 : (f == 0) = true := by simp; omega
  by_cases nhk0 : ¬ (0 ≤ k)
  · have d10 : decide ((0 : Int) ≤ k) = false := by simp; omega
    go_wp2_with fail
    go_ret
    exact ⟨a2, c2, rfl, hi3, hbw3⟩
  have hk0 := Classical.not_not.mp nhk0
  have d10 : decide ((0 : Int) ≤ k) = true := by simp; omega
  by_cases nhkP : ¬ (k < P)
  · have d20 : decide (k < P) = false := by simp; omega
    go_wp2_with fail
    go_ret
    exact ⟨a2, c2, rfl, hi3, hbw3⟩
  have hkP := Classical.not_not.mp nhkP
  have d20 : decide (k < P) = true := by simp; omega
  have hxn : ¬ (x.length : Int) = n := fun e => hf ⟨hf0, hk0, hkP, e⟩
  have d30 : decide ((x.length : Int) = n) = false := by simp; omega
  have d31 : ((x.length : Int) == n) = false := by simp; omega
  go_wp2_with fail
  go_ret
  exact ⟨a2, c2, rfl, hi3, hbw3⟩
set_option linter.unusedSimpArgs false in
set_option maxRecDepth 100000 in
set_option maxHeartbeats 6400000 in
theorem r8stl_bad (n P : Int) (es : List E2) (ow hv : List Int) (ae ao ah : Option Addr) (ce co ch : Nat) (ax : Option Addr) (cx : Nat) (x : List Int) (k : Int) (w : World) (he : EdgesAt w (.slice ae es.length ce) es) (ho : IntsAt w (.slice ao ow.length co) ow) (hh : IntsAt w (.slice ah hv.length ch) hv) (hx : IntsAt w (.slice ax x.length cx) x) (hxl : x.length ≤ 1000000) (hf : ¬ (fltS n es P ow hv = 0 ∧ 0 ≤ k ∧ k < P ∧ (x.length : Int) = n)) :
    Calls Tryz.prog 15 #[.agg #[.int .i64 n, .slice ae es.length ce], .agg #[.int .i64 P, .slice ao ow.length co, .slice ah hv.length ch], .int .i64 k, .slice ax x.length cx] w fun e w' => ∃ a c, e = .returned (.slice a x.length c) ∧ IntsAt w' (.slice a x.length c) x ∧ Below w.heap.size w w' := by
  obtain ⟨hX0, hb0⟩ := boxG_new w #[.int .i64 n, .slice ae es.length ce] 25
  obtain ⟨w1, hw1⟩ : ∃ V : World, V = w.alloc (.cells #[.int .i64 n, .slice ae es.length ce] 25) := ⟨_, rfl⟩
  have hz1 : w1.heap.size = w.heap.size + 1 := by rw [hw1]; simp
  rw [← hw1] at hX0 hb0
  obtain ⟨hQ0, hb1⟩ := boxG_new w1 #[.int .i64 P, .slice ao ow.length co, .slice ah hv.length ch] 27
  obtain ⟨wA, hwA⟩ : ∃ V : World, V = w1.alloc (.cells #[.int .i64 P, .slice ao ow.length co, .slice ah hv.length ch] 27) := ⟨_, rfl⟩
  rw [← hwA] at hQ0 hb1
  have hX1 := lit_next' hb1 hX0
  have hbA := hb0.trans (hb1.mono hb0.size)
  obtain ⟨X, hX⟩ : ∃ X, w.heap.size = X := ⟨_, rfl⟩
  rw [hz1] at hQ0
  rw [hX] at hX1 hQ0
  have HX := Lib.hid hX
  have hwA2 : wA = (w.alloc (.cells #[.int .i64 n, .slice ae es.length ce] 25)).alloc (.cells #[.int .i64 P, .slice ao ow.length co, .slice ah hv.length ch] 27) := by rw [hwA, hw1]
  have HWA := Lib.hid hwA2
  have hxA := hx.below hbA
  clear hX0 hb0 hb1 hz1 hw1 hwA hwA2 w1 hX
  obtain ⟨x0, x1⟩ := cells2R hX1
  obtain ⟨p0, p1, p2⟩ := cells3 hQ0
  go_enter Tryz.func15, Tryz.ntmps15
  go_upto_region 1 with fail
  rw [← HWA.out, HX.out]
  go_upto_region 2 with (at_builtin; refine wpList_app_ints intsT rfl (.const (.slice none 0 0)) (.tmp 16) (by kernel_rfl) wA.heap.size (.slice none 0 0) (.slice ax x.length cx) [] x (by kernel_rfl) (World.ownsRow_nil _ _ _ _) (by kernel_rfl) hxA (by simp; omega) (Nat.le_refl _) ?_; intro v2 w2 hown2 hg2; rw [List.nil_append] at hown2)
  have hb2 : Below wA.heap.size wA w2 := below_of_grown hg2
  obtain ⟨a2, c2, hv2⟩ := owns_shape hown2
  subst hv2
  have hbw2 := hbA.trans (hb2.mono hbA.size)
  have hX2 := lit_next' hb2 hX1
  have hQ2 := lit_next' hb2 hQ0
  have hfa := fault38_any n P es ow hv ae ao ah ce co ch w2 (he.below hbw2) (ho.below hbw2) (hh.below hbw2)
  obtain ⟨f, hfe⟩ : ∃ f, fltS n es P ow hv = f := ⟨_, rfl⟩
  rw [hfe] at hfa hf
  clear x0 x1 p0 p1 p2 hfe
  obtain ⟨x0, x1⟩ := cells2R hX2
  obtain ⟨p0, p1, p2⟩ := cells3 hQ2
  go_wp2_with fail
  refine hfa.mono ?_
  rintro e w3 ⟨rfl, hb3⟩
  have hbw3 := hbw2.trans (hb3.mono hbw2.size)
  have hX3 := lit_next' hb3 hX2
  have hQ3 := lit_next' hb3 hQ2
  have hown3 := hown2.kept (grown_of_below hb3) (Classical.em _)
  obtain ⟨a', c', e', hi3, -⟩ := IntsAt.of_owns hown3 (by omega)
  cases e'
  clear x0 x1 p0 p1 p2 hfa
  obtain ⟨x0, x1⟩ := cells2R hX3
  obtain ⟨p0, p1, p2⟩ := cells3 hQ3
  have hres : ∃ a c, (.slice a2 x.length c2 : Value) = .slice a x.length c ∧ IntsAt w3 (.slice a x.length c) x := ⟨a2, c2, rfl, hi3⟩
  by_cases nhf0 : ¬ (f = 0)
  · have d00 : decide (f = 0) = false := by simp; omega
    have d01 : (f == 0) = false := by simp; omega
    have d02 : (f != 0) = true := by simp; omega
    go_wp2_with fail
    go_ret
    exact ⟨a2, c2, rfl, hi3, hbw3⟩
  have hf0 := Classical.not_not.mp nhf0
  have d00 : decide (f = 0) = true := by simp; omega
  have d01 : (f == 0) = true := by simp; omega
  have d02 : (f != 0) = false := by simp; omega
  by_cases nhk0 : ¬ (0 ≤ k)
  · have d10 : decide (k < 0) = true := by simp; omega
    go_wp2_with fail
    go_ret
    exact ⟨a2, c2, rfl, hi3, hbw3⟩
  have hk0 := Classical.not_not.mp nhk0
  have d10 : decide (k < 0) = false := by simp; omega
  by_cases nhkP : ¬ (k < P)
  · have d20 : decide (P ≤ k) = true := by simp; omega
    go_wp2_with fail
    go_ret
    exact ⟨a2, c2, rfl, hi3, hbw3⟩
  have hkP := Classical.not_not.mp nhkP
  have d20 : decide (P ≤ k) = false := by simp; omega
  have hxn : ¬ (x.length : Int) = n := fun e => hf ⟨hf0, hk0, hkP, e⟩
  have d30 : decide ((x.length : Int) = n) = false := by simp; omega
  have d31 : ((x.length : Int) == n) = false := by simp; omega
  have d32 : ((x.length : Int) != n) = true := by simp; omega
  go_wp2_with fail
  go_ret
  exact ⟨a2, c2, rfl, hi3, hbw3⟩
set_option linter.unusedSimpArgs false in
set_option maxRecDepth 100000 in
set_option maxHeartbeats 6400000 in
theorem rdstl_any (n k P : Nat) (es : List E2) (ow : Nat → Nat) (hv x : List Int) (ae ao ah ax : Option Addr) (ce co ch cx : Nat) (w : World) (hg : Valid n es) (hk : k < P) (hf : fltS n es P (owI n ow) hv = 0) (hxl : x.length = n)
    (he : EdgesAt w (.slice ae es.length ce) es) (hO : IntsAt w (.slice ao n co) (owI n ow)) (hol : LowV w.heap.size (.slice ao n co)) (hH : IntsAt w (.slice ah hv.length ch) hv) (hx : IntsAt w (.slice ax n cx) x) :
    Calls Tryz.prog 14 #[.agg #[.int .i64 (n : Int), .slice ae es.length ce], .agg #[.int .i64 (P : Int), .slice ao n co, .slice ah hv.length ch], .int .i64 (k : Int), .slice ax n cx] w fun e w' => ∃ a c, e = .returned (.slice a n c) ∧ IntsAt w' (.slice a n c) (setX es n ow k x) ∧ Below w.heap.size w w' := by
  have hn64 : n ≤ 64 := by have := hg.2.1; omega
  have hk3 : (k : Int) < P := by omega
  have hk0 : (0 : Int) ≤ k := by omega
  obtain ⟨hX0, hb0⟩ := boxG_new w #[.int .i64 (n : Int), .slice ae es.length ce] 25
  obtain ⟨w1, hw1⟩ : ∃ V : World, V = w.alloc (.cells #[.int .i64 (n : Int), .slice ae es.length ce] 25) := ⟨_, rfl⟩
  have hz1 : w1.heap.size = w.heap.size + 1 := by rw [hw1]; simp
  rw [← hw1] at hX0 hb0
  obtain ⟨hQ0, hb1⟩ := boxG_new w1 #[.int .i64 (P : Int), .slice ao n co, .slice ah hv.length ch] 27
  obtain ⟨wA, hwA⟩ : ∃ V : World, V = w1.alloc (.cells #[.int .i64 (P : Int), .slice ao n co, .slice ah hv.length ch] 27) := ⟨_, rfl⟩
  rw [← hwA] at hQ0 hb1
  have hX1 := lit_next' hb1 hX0
  have hbA := hb0.trans (hb1.mono hb0.size)
  obtain ⟨X, hX⟩ : ∃ X, w.heap.size = X := ⟨_, rfl⟩
  rw [hz1] at hQ0
  rw [hX] at hX1 hQ0
  have HX := Lib.hid hX
  have hwA2 : wA = (w.alloc (.cells #[.int .i64 (n : Int), .slice ae es.length ce] 25)).alloc (.cells #[.int .i64 (P : Int), .slice ao n co, .slice ah hv.length ch] 27) := by rw [hwA, hw1]
  have HWA := Lib.hid hwA2
  have hcl := iclone_any ax cx x wA (by rw [hxl]; exact hx.below hbA) (by omega)
  rw [hxl] at hcl
  clear hX0 hb0 hb1 hz1 hw1 hwA hwA2 w1 hX
  obtain ⟨x0, x1⟩ := cells2R hX1
  obtain ⟨p0, p1, p2⟩ := cells3 hQ0
  go_enter Tryz.func14, Tryz.ntmps14
  go_upto_region 1 with fail
  rw [← HWA.out, HX.out]
  go_wp2_with fail
  refine hcl.mono ?_
  rintro e w2 ⟨v2, rfl, hown2, hb2⟩
  obtain ⟨a2, c2, hv2⟩ := owns_shape hown2
  subst hv2
  have hbw2 := hbA.trans (hb2.mono hbA.size)
  have hX2 := lit_next' hb2 hX1
  have hQ2 := lit_next' hb2 hQ0
  have hfa := rdcheck_any n P es (owI n ow) hv ae ao ah ce co ch w2 (he.below hbw2) (by rw [owI_length]; exact hO.below hbw2) (hH.below hbw2)
  rw [hf, owI_length] at hfa
  clear x0 x1 p0 p1 p2 hcl
  obtain ⟨x0, x1⟩ := cells2R hX2
  obtain ⟨p0, p1, p2⟩ := cells3 hQ2
  go_wp2_with fail
  refine hfa.mono ?_
  rintro e w3 ⟨rfl, hb3⟩
  have hbw3 := hbw2.trans (hb3.mono hbw2.size)
  have hX3 := lit_next' hb3 hX2
  have hQ3 := lit_next' hb3 hQ2
  have hown3 := hown2.kept (grown_of_below hb3) (Classical.em _)
  have hlo3 : ∀ b, (Value.slice a2 n c2).ownBlock = some b → wA.heap.size ≤ b ∧ b < w3.heap.size := fun b e => ⟨(hown3.lt b e).1, (hown3.lt b e).2⟩
  clear x0 x1 p0 p1 p2 hfa hown2
  obtain ⟨x0, x1⟩ := cells2R hX3
  obtain ⟨p0, p1, p2⟩ := cells3 hQ3
  have hX3l := blk_lt hX3
  have hQ3l := blk_lt hQ3
  have dk0 : decide ((0 : Int) ≤ (k : Int)) = true := decide_eq_true hk0
  go_upto_region 3 with fail
  refine wp_region_heldK (k := 7) (S := fun _ W => W.cell? ⟨X, 0, none⟩ = some (.int .i64 (n : Int)) ∧ W.cell? ⟨X, 1, none⟩ = some (.slice ae es.length ce) ∧ W.cell? ⟨X + 1, 0, none⟩ = some (.int .i64 (P : Int)) ∧ W.cell? ⟨X + 1, 1, none⟩ = some (.slice ao n co) ∧ W.cell? ⟨X + 1, 2, none⟩ = some (.slice ah hv.length ch)) (by kernel_rfl) ?_
  have hS0 : w3.drew.cell? ⟨X, 0, none⟩ = some (.int .i64 (n : Int)) ∧ w3.drew.cell? ⟨X, 1, none⟩ = some (.slice ae es.length ce) ∧ w3.drew.cell? ⟨X + 1, 0, none⟩ = some (.int .i64 (P : Int)) ∧ w3.drew.cell? ⟨X + 1, 1, none⟩ = some (.slice ao n co) ∧ w3.drew.cell? ⟨X + 1, 2, none⟩ = some (.slice ah hv.length ch) := ⟨x0, x1, p0, p1, p2⟩
  refine tkA 0 (.agg #[.int .i64 (P : Int), .slice ao n co, .slice ah hv.length ch]) true rfl (fun _ h => h) false hS0 ?_
  refine tkA 1 (.agg #[.int .i64 (n : Int), .slice ae es.length ce]) true rfl (fun _ h => h) false hS0 ?_
  refine tkA 4 (.int .i64 (k : Int)) true rfl (fun _ h => h) false hS0 ?_
  refine tkA 5 (.slice a2 n c2) true rfl (fun _ h => h) false hS0 ?_
  try simp only [Act.put, List.setIfInBounds_toArray, List.set_cons_zero, List.set_cons_succ]
  refine wpAnyK_one (i := 2) (by kernel_rfl) rfl (by rfl) (b := false) (by kernel_rfl) (fun K hK => ?_)
  go_simp
  go_at_call 33
  refine (rdneigh_any n ae ce es w3.drew ((he.below hbw3).below (Below.refl _ _).drew) hg).mono ?_
  rintro e w5 ⟨N, rfl, hN, vs, hGn, hb5'⟩
  have hb5 : Below w3.heap.size w3 w5 := (Below.refl w3.heap.size w3).drew.trans hb5'
  have hbw5 := hbw3.trans (hb5.mono hbw3.size)
  have hown5 := hown3.kept (grown_of_below hb5) (Classical.em _)
  have hN3 : w3.heap.size ≤ N := hN
  have hR : RowsX (fun b => (Value.slice a2 n c2).ownBlock ≠ some b) w5 (.slice (some ⟨N, 0, none⟩) n n) (nearL es n) := GridO.rowsX (Ls := fun i => castL (nbL es n i)) hGn (by omega) (Nat.le_refl _) (fun i hi => by have := nb_lt hg i hi; rw [castL, List.length_map]; omega) _ (fun e => by have := hlo3 N e; omega) (fun i hi b e e2 => by have h1 := ((hGn.own i hi).lt b e).1; have h2 := hlo3 b e2; have h3 : w3.heap.size ≤ b := h1; omega)
  have hSW : SetW w5 wA.heap.size n es ow ao (some ⟨N, 0, none⟩) a2 co n c2 x := ⟨hown5, hO.below hbw5, fun b e n' c p ep => by
    have h1 := hol n' c p ep
    have h2 := (hlo3 b e).1
    have h3 := hbA.size
    omega, hR⟩
  have hset := rdsettle_any n k P (.slice ah hv.length ch) es ow ao (some ⟨N, 0, none⟩) a2 co n c2 wA.heap.size x w5 hn64 hSW
  have cX := fun o' q (h : w3.cell? ⟨X, o', none⟩ = some q) => (hb5.cell (p := ⟨X, o', none⟩) hX3l).trans h
  have cQ := fun o' q (h : w3.cell? ⟨X + 1, o', none⟩ = some q) => (hb5.cell (p := ⟨X + 1, o', none⟩) hQ3l).trans h
  have hS5 : w5.cell? ⟨X, 0, none⟩ = some (.int .i64 (n : Int)) ∧ w5.cell? ⟨X, 1, none⟩ = some (.slice ae es.length ce) ∧ w5.cell? ⟨X + 1, 0, none⟩ = some (.int .i64 (P : Int)) ∧ w5.cell? ⟨X + 1, 1, none⟩ = some (.slice ao n co) ∧ w5.cell? ⟨X + 1, 2, none⟩ = some (.slice ah hv.length ch) := ⟨cX _ _ x0, cX _ _ x1, cQ _ _ p0, cQ _ _ p1, cQ _ _ p2⟩
  dsimp only
  refine hK.out _ _ hS5 ?_
  try simp only [Act.put, List.setIfInBounds_toArray, List.set_cons_zero, List.set_cons_succ]
  refine tkA 3 (.agg #[.int .i64 (P : Int), .slice ao n co, .slice ah hv.length ch, .slice (some ⟨N, 0, none⟩) n n]) true rfl (fun _ h => h) false hS5 ?_
  refine tkA 6 (.agg #[.int .i64 (P : Int), .slice ao n co, .slice ah hv.length ch, .slice (some ⟨N, 0, none⟩) n n, .int .i64 (k : Int), .slice a2 n c2]) true rfl (fun _ h => h) false hS5 ?_
  try simp only [Act.put, List.setIfInBounds_toArray, List.set_cons_zero, List.set_cons_succ]
  refine wpAnyK_one (i := 7) (by kernel_rfl) rfl (by rfl) (b := true) (by kernel_rfl) (fun K hK => ?_)
  go_simp
  go_at_call 36
  refine hset.mono ?_
  rintro e w6 ⟨rfl, hown6, hg6⟩
  have hgk : ∀ b o' q, b < wA.heap.size → w5.cell? ⟨b, o', none⟩ = some q → w6.cell? ⟨b, o', none⟩ = some q := fun b o' q h1 h2 => hg6.cell h2 (fun e => by have h3 := (hlo3 _ e.symm).1; exact Nat.lt_irrefl _ (Nat.lt_of_lt_of_le h1 h3))
  have hXA : X < wA.heap.size := blk_lt hX1
  have hQA : X + 1 < wA.heap.size := blk_lt hQ0
  have hb6 : Below w.heap.size w w6 := hbw5.grown hg6 hbw5.size (fun b e => by have h1 := (hlo3 b e).1; have h2 := hbA.size; omega)
  have hsl : (setX es n ow k x).length = n := by rw [(setX_dn _).1]; exact hxl
  dsimp only
  refine hK.out _ _ ⟨hgk _ _ _ hXA hS5.1, hgk _ _ _ hXA hS5.2.1, hgk _ _ _ hQA hS5.2.2.1, hgk _ _ _ hQA hS5.2.2.2.1, hgk _ _ _ hQA hS5.2.2.2.2⟩ (wpAnyK_done (by kernel_rfl) ?_ _)
  go_wp2_with fail
  go_ret
  obtain ⟨a', c', e', hi6, -⟩ := IntsAt.of_owns (show w6.ownsRow wA.heap.size 3 1 (.slice a2 n c2) (setX es n ow k x).length (intsV (setX es n ow k x)) by rw [hsl]; exact hown6) (by omega)
  rw [hsl] at e' hi6
  cases e'
  exact ⟨a2, c2, rfl, hi6, hb6⟩
end Go.Proofs.YtdkmdcdoiaelfaaGreat

namespace Go.Proofs.YtdkmdcdoiaelfaaGreat
open Go.RowKit Go.BigFrame

theorem flt_form {n P : Int} {es : List E2} {ow hv : List Int} (h : fltS n es P ow hv = 0) : ∃ (N Q : Nat) (o : Nat → Nat), n = (N : Int) ∧ P = (Q : Int) ∧ ow = owI N o ∧ Valid N es ∧ (1 ≤ Q ∧ Q ≤ 8) ∧ (∀ v, v < N → o v < Q) ∧ validZ none hv n = true := by
  unfold fltS plnS at h
  by_cases hc : checkS n es ≠ 0
  · rw [if_pos hc] at h; exact absurd h hc
  rw [if_neg hc] at h
  have hv0 : Valid n es := (valid_iff _ _).1 (Classical.not_not.mp hc)
  have hn := hv0.1
  by_cases h1 : P < 1 ∨ 8 < P
  · rw [if_pos h1] at h; exact absurd h (by decide)
  rw [if_neg h1] at h
  by_cases h2 : (ow.length : Int) ≠ n ∨ validZ none hv n = false
  · rw [if_pos h2] at h; exact absurd h (by decide)
  rw [if_neg h2] at h
  by_cases h3 : ow.any (fun w => decide (w < 0) || decide (P ≤ w)) = true
  · rw [if_pos h3] at h; exact absurd h (by decide)
  have hol : (ow.length : Int) = n := Classical.not_not.mp fun e => h2 (.inl e)
  have hz : validZ none hv n = true := by
    cases hb : validZ none hv n with
    | true => rfl
    | false => exact absurd (.inr hb) h2
  have hall : ∀ x ∈ ow, 0 ≤ x ∧ x < P := fun x hx => by
    refine Classical.byContradiction fun e => h3 ?_
    rw [List.any_eq_true]
    refine ⟨x, hx, ?_⟩
    simp only [Bool.or_eq_true, decide_eq_true_eq]
    omega
  obtain ⟨N, rfl⟩ : ∃ N : Nat, n = N := ⟨n.toNat, by omega⟩
  obtain ⟨Q, rfl⟩ : ∃ Q : Nat, P = Q := ⟨P.toNat, by omega⟩
  have hl : ow.length = N := by omega
  have hget : ∀ i, i < N → ∃ x, ow[i]? = some x ∧ 0 ≤ x ∧ x < Q := fun i hi => ⟨ow[i], List.getElem?_eq_getElem (by omega), hall _ (List.getElem_mem (by omega))⟩
  refine ⟨N, Q, fun v => (ow.getD v 0).toNat, rfl, rfl, ?_, hv0, ⟨by omega, by omega⟩, fun v hv => ?_, hz⟩
  · apply List.ext_getElem?
    intro i
    by_cases hi : i < N
    · obtain ⟨x, hx, h0, -⟩ := hget i hi
      rw [owI_get N _ i hi, hx, getD_of hx]
      congr 1
      omega
    · rw [List.getElem?_eq_none (by omega), List.getElem?_eq_none (by rw [owI_length]; omega)]
  · obtain ⟨x, hx, h0, h1⟩ := hget v hv
    show (ow.getD v 0).toNat < Q
    rw [getD_of hx]
    omega
end Go.Proofs.YtdkmdcdoiaelfaaGreat
