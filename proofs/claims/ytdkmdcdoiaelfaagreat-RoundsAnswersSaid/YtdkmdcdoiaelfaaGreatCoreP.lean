/- Plain: core numbers as the levels of a peeling, and the cores as lists. -/
import Derived.Test.YtdkmdcdoiaelfaaGreatNumFn
namespace Go.Proofs.YtdkmdcdoiaelfaaGreat
open Go.RowKit Go.BigFrame

/-- how many neighbours of v are in a set -/
def dgS (es : List E2) (n : Nat) (S : Nat → Bool) (v : Nat) : Nat := ((List.range n).filter fun x => adjB es v x && S x).length
theorem dg_grows {n : Nat} {es : List E2} (hv : Valid n es) : Grows (dgS es n) := fun S T v h => by
  unfold dgS
  refine filter_le_of _ _ _ fun x _ hx => ?_
  rw [Bool.and_eq_true] at hx ⊢
  refine ⟨hx.1, h x (fun e => ?_) hx.2⟩
  rw [e, adj_irrefl hv] at hx; exact absurd hx.1 (by simp)
theorem dg_lt {n : Nat} {es : List E2} (hv : Valid n es) (S : Nat → Bool) (v : Nat) (hx : v < n) : dgS es n S v + 1 ≤ n := by
  unfold dgS
  have := nodup_le n (v :: (List.range n).filter fun x => adjB es v x && S x) (List.nodup_cons.2 ⟨fun h => by
    have := (List.mem_filter.1 h).2
    rw [adj_irrefl hv] at this; simp at this, List.nodup_range.filter _⟩) (fun y hy => by
    rcases List.mem_cons.1 hy with rfl | hy
    · exact hx
    · exact List.mem_range.1 (List.mem_filter.1 hy).1)
  simpa using this
/-- the core number of a node -/
def corF (es : List E2) (n v : Nat) : Int := numP (dgS es n) n n v
theorem cor_core {n : Nat} {es : List E2} (hv : Valid n es) (x k : Nat) (hx : x < n) : InCore (dgS es n) n k x ↔ (k : Int) ≤ corF es n x := by
  obtain ⟨i, hi, he⟩ := peel_mem (dgS es n) n x hx
  rw [peel_core (sup := dgS es n) (dg_grows hv) n i x k hi he]
  unfold corF
  rw [numP_at _ _ _ (Nat.le_refl _) i x hi he]
  omega
theorem cor_nat (es : List E2) (n x : Nat) (hx : x < n) : ∃ c : Nat, corF es n x = c := by
  obtain ⟨i, hi, he⟩ := peel_mem (dgS es n) n x hx
  exact ⟨_, numP_at _ _ _ (Nat.le_refl _) i x hi he⟩
end Go.Proofs.YtdkmdcdoiaelfaaGreat
