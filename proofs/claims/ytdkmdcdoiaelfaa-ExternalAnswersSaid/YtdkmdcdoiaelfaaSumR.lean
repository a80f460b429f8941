/- Plain: sums over ranges and lists of natural numbers. -/
import Derived.Test.YtdkmdcdoiaelfaaExtP
namespace Go.Proofs.Ytdkmdcdoiaelfaa
theorem countP_sum {α : Type} (p : α → Bool) (l : List α) : l.countP p = (l.map fun x => if p x = true then 1 else 0).sum := by
  induction l with
  | nil => rfl
  | cons x l ih => rw [List.countP_cons, ih, List.map_cons, List.sum_cons, Nat.add_comm]
theorem sum_filter {α : Type} (p : α → Bool) (f : α → Nat) (l : List α) : ((l.filter p).map f).sum = (l.map fun x => if p x = true then f x else 0).sum := by
  induction l with
  | nil => rfl
  | cons x l ih =>
    rw [List.filter_cons]
    by_cases h : p x = true
    · rw [if_pos h, List.map_cons, List.sum_cons, ih, List.map_cons, List.sum_cons, if_pos h]
    · rw [if_neg h, ih, List.map_cons, List.sum_cons, if_neg h, Nat.zero_add]
theorem sumR_congr {f g : Nat → Nat} : ∀ n, (∀ v, v < n → f v = g v) → sumR n f = sumR n g
  | 0, _ => rfl
  | n + 1, h => by unfold sumR; rw [sumR_congr n (fun v hv => h v (by omega)), h n (by omega)]
theorem sumR_add (f g : Nat → Nat) : ∀ n, sumR n (fun v => f v + g v) = sumR n f + sumR n g
  | 0 => rfl
  | n + 1 => by simp only [sumR, sumR_add f g n]; omega
theorem sumR_zero (n : Nat) : sumR n (fun _ => 0) = 0 := by rw [sumR_const, Nat.mul_zero]
theorem sumR_comm (f : Nat → Nat → Nat) (m : Nat) : ∀ n, sumR n (fun i => sumR m (f i)) = sumR m (fun j => sumR n (fun i => f i j))
  | 0 => (sumR_zero m).symm
  | n + 1 => by
    show sumR n (fun i => sumR m (f i)) + sumR m (f n) = sumR m (fun j => sumR n (fun i => f i j) + f n j)
    rw [sumR_comm f m n, ← sumR_add]
theorem sum_range (f : Nat → Nat) : ∀ n, ((List.range n).map f).sum = sumR n f
  | 0 => rfl
  | n + 1 => by rw [List.range_succ, List.map_append, List.sum_append, sum_range f n]; simp [sumR]
theorem sum_flat {α β : Type} (l : List α) (h : α → List β) (F : β → Nat) : ((l.flatMap h).map F).sum = (l.map fun a => ((h a).map F).sum).sum := by
  induction l with
  | nil => rfl
  | cons x l ih => rw [List.flatMap_cons, List.map_append, List.sum_append, ih]; rfl
theorem sumR_ind (f : Nat → Nat) (d : Nat) : ∀ n, sumR n (fun v => if v = d then f v else 0) = if d < n then f d else 0
  | 0 => rfl
  | n + 1 => by
    show sumR n _ + (if n = d then f n else 0) = _
    rw [sumR_ind f d n]
    by_cases h : n = d
    · subst h; rw [if_neg (Nat.lt_irrefl _), if_pos rfl, if_pos (by omega)]; omega
    · by_cases h2 : d < n
      · rw [if_pos h2, if_neg h, if_pos (by omega)]; rfl
      · rw [if_neg h2, if_neg h, if_neg (by omega)]
theorem len_filter_sum (p : Nat → Bool) (n : Nat) : ((List.range n).filter p).length = sumR n fun v => if p v = true then 1 else 0 := by
  rw [← sum_range, ← countP_sum, List.countP_eq_length_filter]
end Go.Proofs.Ytdkmdcdoiaelfaa
