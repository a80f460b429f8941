/- The reference's way through the pairs: what Find finds. -/
import Derived.Test.YtpblaoeaeljmhaaHisBetP
namespace Go.Proofs.Ytpblaoeaeljmhaa
open Go.RowKit

theorem lkIdx_fnd {u v : Int} (huv : u < v) : ∀ (ls : List Lk) (k : Nat), (lkIdx (edgeL u v) k ls = -1 ∧ fnd ls u v = none) ∨ ∃ i x, lkIdx (edgeL u v) k ls = ((k + i : Nat) : Int) ∧ ls[i]? = some x ∧ fnd ls u v = some x ∧ x.u = u ∧ x.v = v := by
  intro ls
  induction ls with
  | nil => intro k; exact .inl ⟨rfl, rfl⟩
  | cons l ls ih =>
    intro k
    have e1 : min u v = u := Int.min_eq_left (by omega)
    have e2 : max u v = v := Int.max_eq_right (by omega)
    by_cases h : l.u = u ∧ l.v = v
    · right
      refine ⟨0, l, ?_, rfl, ?_, h.1, h.2⟩
      · rw [lkIdx, if_pos (by rw [sameE_iff]; unfold edgeL; rw [e1, e2]; exact h)]; rfl
      · unfold fnd; rw [List.find?_cons_of_pos (by simp [h.1, h.2])]
    · have hs : ¬ sameE l (edgeL u v) = true := by rw [sameE_iff]; unfold edgeL; rw [e1, e2]; exact h
      rw [fnd_skip h, lkIdx, if_neg hs]
      rcases ih (k + 1) with ⟨h1, h2⟩ | ⟨i, x, h1, h2, h3, h4⟩
      · exact .inl ⟨h1, h2⟩
      · exact .inr ⟨i + 1, x, by rw [h1]; congr 1; omega, by rw [List.getElem?_cons_succ]; exact h2, h3, h4⟩
theorem lfS_fnd {n u v : Int} {ls : List Lk} (hS : VSt n ls) (huv : u < v) : (lfS n ls u v = -1 ∧ fnd ls u v = none) ∨ ∃ (i : Nat) (x : Lk), lfS n ls u v = (i : Int) ∧ ls[i]? = some x ∧ fnd ls u v = some x ∧ x.u = u ∧ x.v = v := by
  unfold lfS
  rw [if_neg (by rw [(stS_iff n ls).2 hS]; simp)]
  rcases lkIdx_fnd huv ls 0 with h | ⟨i, x, h1, h2, h3⟩
  · exact .inl h
  · exact .inr ⟨i, x, by rw [h1]; congr 1; omega, h2, h3⟩
theorem betV_len (t : Int) (A B : List Lk) (u : Int) : ∀ (k : Nat) (v : Int), (betV t A B u v k).length ≤ k := by
  intro k
  induction k with
  | zero => intro v; exact Nat.le_refl _
  | succ k ih =>
    intro v
    have h := ih (v + 1)
    have h2 : (bet1 t A B u v).length ≤ 1 := by
      unfold bet1
      split <;> first | simp | (split <;> simp)
    unfold betV
    rw [List.length_append]
    omega
end Go.Proofs.Ytpblaoeaeljmhaa
