/- The sanity check of layer 8. -/
import Derived.Test.YtpblaoeaeljmhaaDoorHisLife
namespace Go.Proofs.YtpblaoeaeljmhaaDoor
open Go.RowKit Go.BigFrame

/-- the event that sets the link 0-1 -/
def oneE (t : Int) : Ev := ⟨1, t, 0, 1, 1, 0, 1⟩
theorem haw_life : lifeX 2 [oneE 2, ⟨2, 5, 0, 1, 0, 0, 0⟩, oneE 5] 1 0 = ([(2, -1)], 0) := by decide +kernel
theorem haw_check : hisS 2 [oneE 5, oneE 4] = 9 := by decide +kernel
theorem rows_lits2 {α : Type} {E : Enc α} (w : World) (xs : List α) (T : TypeId) (cs : Array Value) (n : Nat) (hn : xs.length = n) (hl : n ≤ 1099511627776) (hcs : cs.toList = flatR E xs) : RowAt E (w.alloc (.cells cs T)) (.slice (some ⟨w.heap.size, 0, none⟩) n n) xs := by
  subst hn
  refine ⟨_, _, rfl, Nat.le_refl _, (fun h => by cases h), hl, fun j u hj => ⟨w.heap.size, 0, rfl, ?_⟩⟩
  rw [cell_blk (heap_alloc_new _ _), Nat.zero_add]
  rw [← hcs] at hj
  simpa using hj
theorem eq_i2 (x y x' y' : Int) (W : World) : (Op.equalIn 10000 29 (.agg #[.int .i64 x, .int .i64 y]) (.agg #[.int .i64 x', .int .i64 y'])).run Tryd.prog W = .ok (x == x' && y == y') W := by
  obtain ⟨i, hi⟩ : ∃ i, Tryd.prog.info? 3 = some i := Option.isSome_iff_exists.1 (by kernel_rfl)
  have hc : Tryd.prog.cellsOf 3 = 1 := by kernel_rfl
  have hr : List.range 2 = [0, 1] := rfl
  have h1 : ∀ d, (Op.equalIn (d + 1 + 1) 29 (.agg #[.int .i64 x, .int .i64 y]) (.agg #[.int .i64 x', .int .i64 y'])).run Tryd.prog W = .ok (x == x' && y == y') W := fun d => by
    rw [run_equalIn_array (w := W) (d + 1) #[.int .i64 x, .int .i64 y] #[.int .i64 x', .int .i64 y'] Tryd.underlying29 hi, hc, hr]
    simp [Op.eqItems, Sem.run_bind, part, isAgg, go_sem, Op.equalIn, run_underlying Tryd.underlying3, Result.andThen]
    by_cases e1 : x = x' <;> by_cases e2 : y = y' <;> simp [e1, e2]
  exact h1 9998
set_option maxRecDepth 100000 in
theorem one_any (t : Int) (w : World) : Calls Tryd.prog 16 #[.int .i64 t] w fun e w' => e = .returned (.agg #[.int .i64 1, .int .i64 t, .int .i64 0, .int .i64 1, .int .i64 1, .int .i64 0, .int .i64 1]) ∧ Below w.heap.size w w' := by
  have hb := (Below.refl w.heap.size w).alloc (Nat.le_refl _) (.cells #[.int .i64 1, .int .i64 t, .int .i64 0, .int .i64 1, .int .i64 1, .int .i64 0, .int .i64 1] 41)
  have hX := heap_alloc_new w (.cells #[.int .i64 1, .int .i64 t, .int .i64 0, .int .i64 1, .int .i64 1, .int .i64 0, .int .i64 1] 41)
  obtain ⟨t0, t1, t2, t3, t4, t5, t6⟩ := lk_cells7 hX
  go_enter Tryd.func16, Tryd.ntmps16
  go_wp2_with fail
  exact bodyPost_ret (v := .agg #[.int .i64 1, .int .i64 t, .int .i64 0, .int .i64 1, .int .i64 1, .int .i64 0, .int .i64 1]) (by simp [results, Tryd.results16, go_sem, t0, t1, t2, t3, t4, t5, t6]) rfl ⟨rfl, hb⟩
set_option maxRecDepth 100000 in
set_option maxHeartbeats 3200000 in
theorem hawake_any (w : World) : Calls Tryd.prog 4 #[] w fun e w' => e = .returned (.bool true) ∧ Below w.heap.size w w' := by
  go_enter Tryd.func4, Tryd.ntmps4
  go_wp2_with fail
  refine (one_any _ _).mono ?_
  rintro _ w1 ⟨rfl, hb1⟩
  go_wp2_with fail
  refine (one_any _ _).mono ?_
  rintro _ w2 ⟨rfl, hb2⟩
  have bl := (Below.refl _ w2).alloc (Nat.le_refl _) (.cells #[.int .i64 1, .int .i64 2, .int .i64 0, .int .i64 1, .int .i64 1, .int .i64 0, .int .i64 1, .int .i64 2, .int .i64 5, .int .i64 0, .int .i64 1, .int .i64 0, .int .i64 0, .int .i64 0, .int .i64 1, .int .i64 5, .int .i64 0, .int .i64 1, .int .i64 1, .int .i64 0, .int .i64 1] 41)
  have hl := rows_lits2 (E := encEv) w2 [oneE 2, ⟨2, 5, 0, 1, 0, 0, 0⟩, oneE 5] 41 #[.int .i64 1, .int .i64 2, .int .i64 0, .int .i64 1, .int .i64 1, .int .i64 0, .int .i64 1, .int .i64 2, .int .i64 5, .int .i64 0, .int .i64 1, .int .i64 0, .int .i64 0, .int .i64 0, .int .i64 1, .int .i64 5, .int .i64 0, .int .i64 1, .int .i64 1, .int .i64 0, .int .i64 1] 3 rfl (by decide) rfl
  have h1 := life_any 2 [oneE 2, ⟨2, 5, 0, 1, 0, 0, 0⟩, oneE 5] 1 0 _ 3 _ hl
  rw [haw_life] at h1
  unfold LifePost at h1
  dsimp only at h1
  have hb12 := hb1.trans (hb2.mono hb1.size)
  have hb12l := hb12.trans (bl.mono hb12.size)
  clear hl
  go_wp2_with fail
  refine (show Calls Tryd.prog 9 #[.int .i64 2, .slice (some ⟨w2.heap.size, 0, none⟩) 3 3, .int .i64 1, .int .i64 0] _ _ from h1).mono ?_
  rintro _ w3 ⟨a1, c1, rfl, hr, hb3⟩
  have hb123 := hb12l.trans (hb3.mono hb12l.size)
  have hr1 : RowAt encI2 w3 (.slice a1 ([((2 : Int), (-1 : Int))] : List (Int × Int)).length c1) [(2, -1)] := hr
  obtain ⟨b, off, x, rfl, hx, hc, hat⟩ := hr1.elem 0 (by decide)
  simp only [List.getElem?_cons_zero, Option.some.injEq] at hx
  subst hx
  have q0 := hat 0 _ rfl
  have q1 := hat 1 _ rfl
  simp only [Nat.zero_mul, Nat.add_zero] at q0 q1
  have hc1 : 1 ≤ c1 := hc
  have heq := fun W => eq_i2 2 (-1) 2 (-1) W
  clear h1 hr hr1 hat bl hb1 hb2 hb12 hb12l hb3
  go_wp2_with fail
  refine (one_any _ _).mono ?_
  rintro _ w4 ⟨rfl, hb4⟩
  have hb4w := hb123.trans (hb4.mono hb123.size)
  clear q0 q1 hb123 hb4 hc
  go_wp2_with fail
  refine (one_any _ _).mono ?_
  rintro _ w5 ⟨rfl, hb5⟩
  have hb5w := hb4w.trans (hb5.mono hb4w.size)
  have bl := (Below.refl _ w5).alloc (Nat.le_refl _) (.cells #[.int .i64 1, .int .i64 5, .int .i64 0, .int .i64 1, .int .i64 1, .int .i64 0, .int .i64 1, .int .i64 1, .int .i64 4, .int .i64 0, .int .i64 1, .int .i64 1, .int .i64 0, .int .i64 1] 41)
  have hl := rows_lits2 (E := encEv) w5 [oneE 5, oneE 4] 41 #[.int .i64 1, .int .i64 5, .int .i64 0, .int .i64 1, .int .i64 1, .int .i64 0, .int .i64 1, .int .i64 1, .int .i64 4, .int .i64 0, .int .i64 1, .int .i64 1, .int .i64 0, .int .i64 1] 2 rfl (by decide) rfl
  have h1 := hcheck_any 2 [oneE 5, oneE 4] _ 2 _ hl
  rw [haw_check] at h1
  have hbl := hb5w.trans (bl.mono hb5w.size)
  clear hl
  go_wp2_with fail
  refine (show Calls Tryd.prog 17 #[.int .i64 2, .slice (some ⟨w5.heap.size, 0, none⟩) 2 2] _ _ from h1).mono ?_
  rintro _ w6 ⟨rfl, hb6⟩
  have hbf := hbl.trans (hb6.mono hbl.size)
  clear h1 bl hbl hb5 hb4w hb5w hb6
  go_wp2_with fail
  go_ret
  exact ⟨rfl, hbf⟩
end Go.Proofs.YtpblaoeaeljmhaaDoor
