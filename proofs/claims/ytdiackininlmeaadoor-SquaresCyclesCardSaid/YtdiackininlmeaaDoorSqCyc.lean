/- Plain: the cycles, and the cycles with a chord over three edges. -/
import Derived.Test.YtdiackininlmeaaDoorSqRows
import Derived.Test.YtdiackininlmeaaDoorEdgeIns
namespace Go.Proofs.YtdiackininlmeaaDoor
open Go.RowKit Go.BigFrame

/-- edge u of the cycle of k nodes -/
def cyA (k u : Nat) : E2 := (min (u : Int) (((u + 1) % k : Nat) : Int), max (u : Int) (((u + 1) % k : Nat) : Int))
def cyR (k : Nat) : Nat → List E2
  | 0 => []
  | u + 1 => insE (cyR k u) (cyA k u)
theorem cyR_length (k : Nat) : ∀ u, (cyR k u).length ≤ u := by
  intro u
  induction u with
  | zero => simp [cyR]
  | succ u ih => have := insE_length (cyR k u) (cyA k u); simp only [cyR]; omega
theorem cyR_mem (k : Nat) (x : E2) : ∀ u, x ∈ cyR k u → ∃ i, i < u ∧ x = cyA k i := by
  intro u
  induction u with
  | zero => intro h; simp [cyR] at h
  | succ u ih =>
    intro h
    rcases (insE_mem _ _ _).1 h with h | h
    · obtain ⟨i, h1, h2⟩ := ih h
      exact ⟨i, by omega, h2⟩
    · exact ⟨u, by omega, h⟩
theorem mod_next (k u : Nat) (hu : u < k) : (u + 1) % k = if u + 1 = k then 0 else u + 1 := by
  split
  · rename_i h; rw [h]; exact Nat.mod_self k
  · exact Nat.mod_eq_of_lt (by omega)
theorem cyA_eq (k u : Nat) (hu : u < k) (hk : 4 ≤ k) : cyA k u = if u + 1 = k then ((0 : Int), (u : Int)) else ((u : Int), (u : Int) + 1) := by
  unfold cyA
  rw [mod_next k u hu]
  split
  · apply Prod.ext <;> dsimp <;> omega
  · apply Prod.ext <;> dsimp <;> omega
theorem cyA_ins (k u : Nat) (hu : u < k) (hk : 4 ≤ k) : Ins (k : Int) (cyA k u) := by
  rw [cyA_eq k u hu hk]
  unfold Ins
  split <;> dsimp <;> omega
theorem cyR_valid (k : Nat) (hk : 4 ≤ k) (hk2 : k ≤ 64) : ∀ u, u ≤ k → Valid (k : Int) (cyR k u) := by
  intro u
  induction u with
  | zero => intro _; exact valid_nil (by omega) (by omega)
  | succ u ih => intro h; exact (ih (by omega)).ins _ (cyA_ins k u (by omega) hk)
theorem cyR_new (k u : Nat) (hk : 4 ≤ k) (hu : u < k) : cyA k u ∉ cyR k u := by
  intro h
  obtain ⟨i, hi, he⟩ := cyR_mem k _ u h
  rw [cyA_eq k u hu hk, cyA_eq k i (by omega) hk] at he
  split at he <;> split at he <;> simp only [Prod.mk.injEq] at he <;> omega
theorem chord_new (k : Nat) (hk : 5 ≤ k) : ((0 : Int), (3 : Int)) ∉ cyR k k := by
  intro h
  obtain ⟨i, hi, he⟩ := cyR_mem k _ k h
  rw [cyA_eq k i (by omega) (by omega)] at he
  split at he <;> simp only [Prod.mk.injEq] at he <;> omega
def rC (k u : Nat) : Nat := 2 ^ ((u + 1) % k) + 2 ^ ((u + k - 1) % k)
def rH (k u : Nat) : Nat := rC k u + bif Nat.beq u 0 then 8 else bif Nat.beq u 3 then 1 else 0
def cycB (k : Nat) : Bool := allN (fun u => rowN (cyR k k) u == rC k u) k && (wedR (rC k) k == (k : Int) && sqR (rC k) k / 4 == bif Nat.beq k 4 then 1 else 0)
def choB (k : Nat) : Bool := allN (fun u => rowN (insE (cyR k k) (0, 3)) u == rH k u) k && sqR (rH k) k / 4 == bif Nat.beq k 6 then 2 else 1
set_option maxRecDepth 100000 in
theorem cyc_all : allN (fun j => cycB (j + 4)) 30 = true := by decide +kernel
set_option maxRecDepth 100000 in
theorem cho_all : allN (fun j => choB (j + 5)) 29 = true := by decide +kernel
theorem cyc_at (k : Nat) (hk : 4 ≤ k) (hk2 : k < 34) : wedS (cyR k k) k = k ∧ sqT (cyR k k) k k / 4 = if k = 4 then 1 else 0 := by
  have h := allN_at _ _ cyc_all (k - 4) (by omega)
  rw [show k - 4 + 4 = k by omega] at h
  simp only [cycB, Bool.and_eq_true, beq_iff_eq] at h
  obtain ⟨h2, h3, h4⟩ := h
  have hv := cyR_valid k hk (by omega) k (Nat.le_refl _)
  have hr : ∀ x, x < k → rowN (cyR k k) x = rC k x := fun x hx => by simpa using allN_at _ _ h2 x hx
  refine ⟨by rw [wedS_rows _ hr]; exact h3, ?_⟩
  rw [sqT_eq hv, sqF_rows hv _ hr, h4]
  by_cases e : k = 4
  · subst e; rfl
  · rw [if_neg e, show Nat.beq k 4 = false from by rw [← Bool.not_eq_true, Nat.beq_eq]; exact e]; rfl
theorem cho_valid (k : Nat) (hk : 5 ≤ k) (hk2 : k ≤ 64) : Valid (k : Int) (insE (cyR k k) (0, 3)) := (cyR_valid k (by omega) hk2 k (Nat.le_refl _)).ins _ (by unfold Ins; dsimp; omega)
theorem cho_at (k : Nat) (hk : 5 ≤ k) (hk2 : k < 34) : sqT (insE (cyR k k) (0, 3)) k k / 4 = if k = 6 then 2 else 1 := by
  have h := allN_at _ _ cho_all (k - 5) (by omega)
  rw [show k - 5 + 5 = k by omega] at h
  simp only [choB, Bool.and_eq_true, beq_iff_eq] at h
  obtain ⟨h2, h4⟩ := h
  have hv := cho_valid k hk (by omega)
  have hr : ∀ x, x < k → rowN (insE (cyR k k) (0, 3)) x = rH k x := fun x hx => by simpa using allN_at _ _ h2 x hx
  rw [sqT_eq hv, sqF_rows hv _ hr, h4]
  by_cases e : k = 6
  · subst e; rfl
  · rw [if_neg e, show Nat.beq k 6 = false from by rw [← Bool.not_eq_true, Nat.beq_eq]; exact e]; rfl
end Go.Proofs.YtdiackininlmeaaDoor
