/- The contracts of the check of an event, the program's and the reference's. What an event must fit, and its contract. -/
import Derived.Test.YtkknknehchnccaaDoorScEv
namespace Go.Proofs.YtkknknehchnccaaDoor
open Go.RowKit Go.BigFrame

theorem node_any (v : Int) (w : World) : Calls Tryd.prog 152 #[.int .i64 v] w fun e w' => e = .returned (.bool (nodeB v)) ∧ w = w' := by
  by_cases h1 : 0 ≤ v
  · have d1 : decide (0 ≤ v) = true := by simpa using h1
    go_enter Tryd.func152, Tryd.ntmps152
    go_wp2
    go_ret
    exact ⟨ret_bool (by simp [nodeB, d1]), rfl⟩
  · have d1 : decide (0 ≤ v) = false := by simpa using h1
    go_enter Tryd.func152, Tryd.ntmps152
    go_wp2
    go_ret
    exact ⟨ret_bool (by simp [nodeB, d1]), rfl⟩
set_option maxRecDepth 100000 in
theorem right_any (a b c : Int) (w : World) : Calls Tryd.prog 147 #[.int .i64 a, .int .i64 b, .int .i64 c] w fun e w' => e = .returned (.bool (attS a b c)) ∧ w = w' := by
  by_cases h1 : 1 ≤ a <;> by_cases h2 : a ≤ 1000 <;> by_cases h3 : 0 ≤ b <;> by_cases h4 : b ≤ 15 <;> by_cases h5 : c = 1
  all_goals
    go_enter Tryd.func147, Tryd.ntmps147
    go_wp2
    go_ret
    exact ⟨ret_bool (by rw [Bool.eq_iff_iff]; simp [attS, h1, h2, h3, h4, h5] <;> omega), rfl⟩
set_option maxRecDepth 100000 in
theorem ends_any (e : Ev) (w : World) : Calls Tryd.prog 146 #[.agg e.cells] w fun x w' => x = .returned (.bool (evEnds e)) ∧ Below w.heap.size w w' := by
  obtain ⟨k, t, u, v, a, b, c⟩ := e
  unfold Ev.cells
  dsimp only
  have hb0 : Below w.heap.size w (w.alloc (.cells #[.int .i64 k, .int .i64 t, .int .i64 u, .int .i64 v, .int .i64 a, .int .i64 b, .int .i64 c] 78)) := (Below.refl _ _).alloc (Nat.le_refl _) _
  rcases Decidable.em (k = 3) with rfl | h3 <;> cases hu : nodeB u <;> cases hv : nodeB v
  all_goals
    go_enter Tryd.func146, Tryd.ntmps146
    go_wp2_with (go_at_call 152; refine (node_any _ _).mono ?_; rintro e w' ⟨rfl, rfl⟩)
    go_ret
    exact ⟨ret_bool (by rw [Bool.eq_iff_iff]; simp [evEnds, *] <;> omega), hb0⟩
set_option maxRecDepth 100000 in
set_option maxHeartbeats 1600000 in
theorem evcheck_any (e : Ev) (w : World) : Calls Tryd.prog 133 #[.agg e.cells] w fun x w' => x = .returned (.int .i64 (evS e)) ∧ Below w.heap.size w w' := by
  have hen := fun w => ends_any e w
  have hS : evS e = (if e.kind < 1 ∨ 3 < e.kind then 8 else if e.time < 0 ∨ 1048576 < e.time then 9 else if evEnds e = false then 6 else if e.kind = 1 then (if attS e.weight e.label e.sign = true then 0 else 1) else if e.weight ≠ 0 ∨ e.label ≠ 0 ∨ e.sign ≠ 0 then 1 else 0) := rfl
  generalize evS e = R at *
  generalize evEnds e = N at *
  obtain ⟨k, t, u, v, a, b, c⟩ := e
  unfold Ev.cells at *
  dsimp only at *
  have HS := Lib.hid hS
  clear hS
  generalize hA : attS a b c = A at *
  have hrt := right_any a b c
  rw [hA] at hrt
  clear hA
  have hb0 : Below w.heap.size w (w.alloc (.cells #[.int .i64 k, .int .i64 t, .int .i64 u, .int .i64 v, .int .i64 a, .int .i64 b, .int .i64 c] 78)) := (Below.refl _ _).alloc (Nat.le_refl _) _
  have hG0 : (w.alloc (.cells #[.int .i64 k, .int .i64 t, .int .i64 u, .int .i64 v, .int .i64 a, .int .i64 b, .int .i64 c] 78)).heap[w.heap.size]? = some (.cells #[.int .i64 k, .int .i64 t, .int .i64 u, .int .i64 v, .int .i64 a, .int .i64 b, .int .i64 c] 78 (0, 0)) := heap_alloc_new _ _
  cases N <;> cases A <;> rcases Decidable.em (k = 1) with rfl | k1
  all_goals
    go_enter Tryd.func133, Tryd.ntmps133
    go_wp2_with (first
      | (go_at_call 146; refine (hen _).mono ?_; rintro e w1 ⟨rfl, hb1⟩; have hw1 := hb0.trans (hb1.mono hb0.size); have hG1 := (hb1.block _ (blk_lt hG0)).trans hG0; have c0 := cell_blk (j := 0) hG1; have c4 := cell_blk (j := 4) hG1; have c5 := cell_blk (j := 5) hG1; have c6 := cell_blk (j := 6) hG1)
      | (go_at_call 147; refine (hrt _).mono ?_; rintro e w' ⟨rfl, rfl⟩))
    all_goals
      go_ret
      exact ⟨ret_int (by rw [HS.out]; simp [*] <;> repeat' (first | omega | split | (simp_all; done))), by assumption⟩
theorem from_any (n a b : Int) (w : World) : Calls Tryd.prog 135 #[.int .i64 n, .int .i64 a, .int .i64 b] w fun e w' => e = .returned (.bool (decide (a ≤ n) && decide (n ≤ b))) ∧ w = w' := by
  by_cases h1 : a ≤ n
  · have d1 : decide (a ≤ n) = true := by simpa using h1
    go_enter Tryd.func135, Tryd.ntmps135
    go_wp2
    go_ret
    exact ⟨ret_bool (by simp [d1]), rfl⟩
  · have d1 : decide (a ≤ n) = false := by simpa using h1
    go_enter Tryd.func135, Tryd.ntmps135
    go_wp2
    go_ret
    exact ⟨ret_bool (by simp; try omega), rfl⟩
def frB (n a b : Int) : Bool := decide (a ≤ n) && decide (n ≤ b)
theorem fr_any (n a b : Int) (r : Bool) (hr : frB n a b = r) (w : World) : Calls Tryd.prog 135 #[.int .i64 n, .int .i64 a, .int .i64 b] w fun e w' => e = .returned (.bool r) ∧ w = w' := by
  subst hr; exact from_any n a b w
set_option maxRecDepth 100000 in
theorem attr_any (a b c : Int) (w : World) : Calls Tryd.prog 136 #[.int .i64 a, .int .i64 b, .int .i64 c] w fun e w' => e = .returned (.int .i64 (if attS a b c = true then 0 else 1)) ∧ w = w' := by
  obtain ⟨R, hR⟩ : ∃ R, (if attS a b c = true then (0 : Int) else 1) = R := ⟨_, rfl⟩
  rw [hR]
  have HR := Lib.hid hR
  clear hR
  cases h1 : frB a 1 1000 <;> cases h2 : frB b 0 15
  all_goals
    have H1 := Lib.hid h1
    have H2 := Lib.hid h2
    have f1 := fr_any _ _ _ _ h1
    have f2 := fr_any _ _ _ _ h2
    clear h1 h2
    go_enter Tryd.func136, Tryd.ntmps136
    go_wp2_with (go_at_call 135; (first | (with_reducible refine (f1 _).mono ?_) | (with_reducible refine (f2 _).mono ?_)); rintro e w' ⟨rfl, rfl⟩)
    all_goals
      go_ret
      have q1 : (1 ≤ a ∧ a ≤ 1000) ↔ frB a 1 1000 = true := by simp [frB]
      have q2 : (0 ≤ b ∧ b ≤ 15) ↔ frB b 0 15 = true := by simp [frB]
      rw [H1.out] at q1
      rw [H2.out] at q2
      have q3 : attS a b c = true ↔ ((1 ≤ a ∧ a ≤ 1000) ∧ (0 ≤ b ∧ b ≤ 15) ∧ (c = 1 ∨ c = -1)) := by simp [attS]; omega
      refine ⟨ret_int ?_, rfl⟩
      rw [← HR.out]
      split <;> rename_i hA
      all_goals first
        | rfl
        | (exfalso; have h3 := q3.1 hA; simp at q1 q2; omega)
        | (exfalso; apply hA; rw [q3]; simp at q1 q2; omega)
        | (exfalso; have h3 := q3.1 hA; simp_all; done)
        | (exfalso; apply hA; rw [q3]; simp_all; done)
set_option maxRecDepth 100000 in
set_option maxHeartbeats 3200000 in
theorem rcheck_any (e : Ev) (w : World) : Calls Tryd.prog 96 #[.agg e.cells] w fun x w' => x = .returned (.int .i64 (evS e)) ∧ Below w.heap.size w w' := by
  have hS : evS e = (if e.kind < 1 ∨ 3 < e.kind then 8 else if e.time < 0 ∨ 1048576 < e.time then 9 else if evEnds e = false then 6 else if e.kind = 1 then (if attS e.weight e.label e.sign = true then 0 else 1) else if e.weight ≠ 0 ∨ e.label ≠ 0 ∨ e.sign ≠ 0 then 1 else 0) := rfl
  generalize evS e = R at *
  obtain ⟨k, t, u, v, a, b, c⟩ := e
  have hN : evEnds ⟨k, t, u, v, a, b, c⟩ = (if k = 3 then nodeB u && decide (v = 0) else nodeB u && (nodeB v && decide (u ≠ v))) := rfl
  rw [hN] at hS
  clear hN
  unfold Ev.cells
  dsimp only at *
  generalize hA : attS a b c = A at *
  have hrt := attr_any a b c
  rw [hA] at hrt
  clear hA
  have hb0 : Below w.heap.size w (w.alloc (.cells #[.int .i64 k, .int .i64 t, .int .i64 u, .int .i64 v, .int .i64 a, .int .i64 b, .int .i64 c] 78)) := (Below.refl _ _).alloc (Nat.le_refl _) _
  by_cases e1 : k < 1 ∨ 3 < k
  · have f1 := fr_any k 1 3 false (by simp [frB]; omega)
    obtain rfl : R = 8 := by rw [hS, if_pos e1]
    clear hS
    go_enter Tryd.func96, Tryd.ntmps96
    go_wp2_with (go_at_call 135; (with_reducible refine (f1 _).mono ?_); rintro e w' ⟨rfl, rfl⟩)
    go_ret
    exact ⟨rfl, hb0⟩
  rw [if_neg e1] at hS
  have f1 := fr_any k 1 3 true (by simp [frB]; omega)
  by_cases e2 : t < 0 ∨ 1048576 < t
  · have f2 := fr_any t 0 1048576 false (by simp [frB]; omega)
    obtain rfl : R = 9 := by rw [hS, if_pos e2]
    clear hS
    go_enter Tryd.func96, Tryd.ntmps96
    go_wp2_with (go_at_call 135; (first | (with_reducible refine (f1 _).mono ?_) | (with_reducible refine (f2 _).mono ?_)); rintro e w' ⟨rfl, rfl⟩)
    go_ret
    exact ⟨rfl, hb0⟩
  rw [if_neg e2] at hS
  have f2 := fr_any t 0 1048576 true (by simp [frB]; omega)
  have e3 : ∀ x, nodeB x = frB x 0 63 := fun x => by rw [Bool.eq_iff_iff]; simp [nodeB, frB]; omega
  rw [e3, e3] at hS
  clear e1 e2
  cases h3 : frB u 0 63 <;> cases h4 : frB v 0 63
  all_goals
    have f3 := fr_any _ _ _ _ h3
    have f4 := fr_any _ _ _ _ h4
    rw [h3, h4] at hS
    clear h3 h4
    rcases Decidable.em (k = 3) with rfl | k3
  all_goals
    (first | (rcases Decidable.em (k = 1) with rfl | k1) | skip)
  all_goals
    have HS := Lib.hid hS
    clear hS
    cases A
  all_goals
    go_enter Tryd.func96, Tryd.ntmps96
    go_wp2_with (first
      | (go_at_call 135; (first | (with_reducible refine (f1 _).mono ?_) | (with_reducible refine (f2 _).mono ?_) | (with_reducible refine (f3 _).mono ?_) | (with_reducible refine (f4 _).mono ?_)); rintro e w' ⟨rfl, rfl⟩)
      | (go_at_call 136; refine (hrt _).mono ?_; rintro e w' ⟨rfl, rfl⟩))
    all_goals
      go_ret
      exact ⟨ret_int (by rw [HS.out]; simp [*] <;> repeat' (first | omega | split | (simp_all; done))), (Below.refl _ _).alloc (Nat.le_refl _) _⟩
end Go.Proofs.YtkknknehchnccaaDoor

namespace Go.Proofs.YtkknknehchnccaaDoor
open Go.RowKit Go.BigFrame

def fitS (n : Int) (e : Ev) : Int := if evS e ≠ 0 then evS e else if n ≤ e.u ∨ n ≤ e.v then 6 else 0
set_option maxRecDepth 100000 in
theorem lfits_any (n : Int) (e : Ev) (w : World) : Calls Tryd.prog 94 #[.int .i64 n, .agg e.cells] w fun x w' => x = .returned (.int .i64 (fitS n e)) ∧ Below w.heap.size w w' := by
  have hck := fun W => evcheck_any e W
  unfold fitS
  obtain ⟨R, hR⟩ : ∃ R, evS e = R := ⟨_, rfl⟩
  rw [hR] at hck ⊢
  clear hR
  obtain ⟨k, t, u, v, a, b, c⟩ := e
  unfold Ev.cells at *
  dsimp only at *
  have hb0 : Below w.heap.size w (w.alloc (.cells #[.int .i64 k, .int .i64 t, .int .i64 u, .int .i64 v, .int .i64 a, .int .i64 b, .int .i64 c] 78)) := (Below.refl _ _).alloc (Nat.le_refl _) _
  have hG0 : (w.alloc (.cells #[.int .i64 k, .int .i64 t, .int .i64 u, .int .i64 v, .int .i64 a, .int .i64 b, .int .i64 c] 78)).heap[w.heap.size]? = some (.cells #[.int .i64 k, .int .i64 t, .int .i64 u, .int .i64 v, .int .i64 a, .int .i64 b, .int .i64 c] 78 (0, 0)) := heap_alloc_new _ _
  by_cases hz : R = 0
  case neg =>
    have d1 : (R != 0) = true := by simpa using hz
    rw [if_pos hz]
    clear hz
    go_enter Tryd.func94, Tryd.ntmps94
    go_wp2_with fail
    refine (hck _).mono ?_
    rintro x w1 ⟨rfl, hb1⟩
    go_wp2_with fail
    go_ret
    exact ⟨rfl, hb0.trans (hb1.mono hb0.size)⟩
  subst hz
  rw [if_neg (by simp)]
  by_cases hu : n ≤ u
  · have d1 : decide (n ≤ u) = true := decide_eq_true hu
    rw [if_pos (.inl hu)]
    clear hu
    go_enter Tryd.func94, Tryd.ntmps94
    go_wp2_with fail
    refine (hck _).mono ?_
    rintro x w1 ⟨rfl, hb1⟩
    have hG1 := (hb1.block _ (blk_lt hG0)).trans hG0
    have c2 := cell_blk (j := 2) hG1
    go_wp2_with fail
    go_ret
    exact ⟨rfl, hb0.trans (hb1.mono hb0.size)⟩
  · have d1 : decide (n ≤ u) = false := decide_eq_false hu
    by_cases hv : n ≤ v
    · have d2 : decide (n ≤ v) = true := decide_eq_true hv
      rw [if_pos (.inr hv)]
      clear hu hv
      go_enter Tryd.func94, Tryd.ntmps94
      go_wp2_with fail
      refine (hck _).mono ?_
      rintro x w1 ⟨rfl, hb1⟩
      have hG1 := (hb1.block _ (blk_lt hG0)).trans hG0
      have c2 := cell_blk (j := 2) hG1
      have c3 := cell_blk (j := 3) hG1
      go_wp2_with fail
      go_ret
      exact ⟨rfl, hb0.trans (hb1.mono hb0.size)⟩
    · have d2 : decide (n ≤ v) = false := decide_eq_false hv
      rw [if_neg (by omega)]
      clear hu hv
      go_enter Tryd.func94, Tryd.ntmps94
      go_wp2_with fail
      refine (hck _).mono ?_
      rintro x w1 ⟨rfl, hb1⟩
      have hG1 := (hb1.block _ (blk_lt hG0)).trans hG0
      have c2 := cell_blk (j := 2) hG1
      have c3 := cell_blk (j := 3) hG1
      go_wp2_with fail
      go_ret
      exact ⟨rfl, hb0.trans (hb1.mono hb0.size)⟩
theorem fit_zero {n : Int} {e : Ev} (h : fitS n e = 0) : evS e = 0 ∧ e.u < n ∧ e.v < n := by
  unfold fitS at h
  split at h
  · rename_i h1; exact absurd h h1
  · rename_i h1
    split at h
    · simp at h
    · exact ⟨by simpa using h1, by omega, by omega⟩
end Go.Proofs.YtkknknehchnccaaDoor
