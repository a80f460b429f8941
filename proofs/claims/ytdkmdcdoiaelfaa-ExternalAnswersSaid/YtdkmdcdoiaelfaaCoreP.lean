/- Plain: core numbers as the levels of a peeling, and the cores as lists. -/
import Derived.Test.YtdkmdcdoiaelfaaNumFn
namespace Go.Proofs.Ytdkmdcdoiaelfaa
open Go.RowKit Go.BigFrame

/-- how many neighbours of v are in a set -/
def dgS (es : List E2) (n : Nat) (S : Nat → Bool) (v : Nat) : Nat := ((List.range n).filter fun x => adjB es v x && S x).length
theorem dg_grows {n : Nat} {es : List E2} (hv : Valid n es) : Grows (dgS es n) := fun S T v h => by
  unfold dgS
  refine filter_le_of _ _ _ fun x _ hx => ?_
  rw [Bool.and_eq_true] at hx ⊢
  refine ⟨hx.1, h x (fun e => ?_) hx.2⟩
  rw [e, adj_irrefl hv] at hx; exact absurd hx.1 (by simp)
theorem dg_lt {n : Nat} {es : List E2} (hv : Valid n es) (S : Nat → Bool) (v : Nat) (hx : v < n) : dgS es n S v + 1 ≤ n := by
  unfold dgS
  have := nodup_le n (v :: (List.range n).filter fun x => adjB es v x && S x) (List.nodup_cons.2 ⟨fun h => by
    have := (List.mem_filter.1 h).2
    rw [adj_irrefl hv] at this; simp at this, List.nodup_range.filter _⟩) (fun y hy => by
    rcases List.mem_cons.1 hy with rfl | hy
    · exact hx
    · exact List.mem_range.1 (List.mem_filter.1 hy).1)
  simpa using this
theorem dg_meet {n : Nat} {es : List E2} (hv : Valid n es) (l : List Nat) (S : Nat → Bool) (h : ∀ x, S x = true ↔ x ∈ l) (v : Nat) : (meetS (neighS es v) (castL l)).length = dgS es n S v := by
  unfold meetS dgS
  have ha : Asc (neighS es v) := by rw [neigh_eq hv]; exact asc_range _ n
  rw [ofS_id ha, neigh_eq hv, List.filter_map, List.length_map]
  unfold nbL
  rw [List.filter_filter]
  congr 1
  refine List.filter_congr fun x _ => ?_
  have e : decide ((x : Int) ∈ castL l) = S x := by
    rw [Bool.eq_iff_iff, decide_eq_true_eq, mem_castL, h x]
  simp only [Function.comp_apply]
  rw [e, Bool.and_comm]
/-- the core number of a node -/
def corF (es : List E2) (n v : Nat) : Int := numP (dgS es n) n n v
def corT (es : List E2) (n : Nat) : List Int := fnL n (corF es n)
theorem corT_length (es : List E2) (n : Nat) : (corT es n).length = n := fnL_length _ _
theorem cor_core {n : Nat} {es : List E2} (hv : Valid n es) (x k : Nat) (hx : x < n) : InCore (dgS es n) n k x ↔ (k : Int) ≤ corF es n x := by
  obtain ⟨i, hi, he⟩ := peel_mem (dgS es n) n x hx
  rw [peel_core (sup := dgS es n) (dg_grows hv) n i x k hi he]
  unfold corF
  rw [numP_at _ _ _ (Nat.le_refl _) i x hi he]
  omega
theorem cor_nat (es : List E2) (n x : Nat) (hx : x < n) : ∃ c : Nat, corF es n x = c := by
  obtain ⟨i, hi, he⟩ := peel_mem (dgS es n) n x hx
  exact ⟨_, numP_at _ _ _ (Nat.le_refl _) i x hi he⟩
theorem cor_lt {n : Nat} {es : List E2} (hv : Valid n es) (x : Nat) (hx : x < n) : corF es n x + 1 ≤ n := by
  obtain ⟨c, hc⟩ := cor_nat es n x hx
  have h := (cor_core hv x c hx).2 (by omega)
  obtain ⟨S, h1, h2, h3⟩ := h
  have h4 := h1 x h3
  have h6 := dg_lt hv S x hx
  omega
/-- the nodes of a level -/
def corB (es : List E2) (n : Nat) (k : Int) : Nat → Bool := fun x => decide (x < n) && decide (k ≤ corF es n x)
theorem corB_lt (es : List E2) (n : Nat) (k : Int) : ∀ x, corB es n k x = true → x < n := fun x h => by
  simp only [corB, Bool.and_eq_true, decide_eq_true_eq] at h; exact h.1
def corI (es : List E2) (n : Nat) (k : Int) : List Nat := selL n (corB es n k)
theorem corB_core {n : Nat} {es : List E2} (hv : Valid n es) (k : Int) (x : Nat) : corB es n k x = true ↔ InCore (dgS es n) n k.toNat x := by
  simp only [corB, Bool.and_eq_true, decide_eq_true_eq]
  constructor
  · rintro ⟨h1, h2⟩
    obtain ⟨c, hc⟩ := cor_nat es n x h1
    exact (cor_core hv x _ h1).2 (by omega)
  · intro h
    have h1 := h.lt
    have h2 := (cor_core hv x _ h1).1 h
    exact ⟨h1, by omega⟩
/-- a set that holds the core and is good is the core -/
theorem cor_is {n : Nat} {es : List E2} (hv : Valid n es) (k : Int) (S : Nat → Bool) (hS : ∀ x, S x = true → x < n) (hc : ∀ x, InCore (dgS es n) n k.toNat x → S x = true) (hg : ∀ x, S x = true → k ≤ (dgS es n S x : Int)) : S = corB es n k := by
  funext x
  rw [Bool.eq_iff_iff, corB_core hv]
  constructor
  · intro h
    exact ⟨S, fun y hy => by have := hg y hy; omega, hS, h⟩
  · exact hc x
/-- what is not of the core may go -/
theorem cor_off {n : Nat} {es : List E2} (hv : Valid n es) (k : Int) (S : Nat → Bool) (hc : ∀ x, InCore (dgS es n) n k.toNat x → S x = true) (i : Nat) (hi : (dgS es n S i : Int) < k) : ∀ x, InCore (dgS es n) n k.toNat x → offB S i x = true := by
  intro x hx
  rw [offB_iff]
  refine ⟨hc x hx, fun e => ?_⟩
  subst e
  obtain ⟨S1, h1, h2, h3⟩ := hx
  have h4 := h1 x h3
  have h5 := (dg_grows hv) S1 S x (fun y _ hy => hc y ⟨S1, h1, h2, hy⟩)
  omega
theorem corI_mem (es : List E2) (n : Nat) (k : Int) (x : Nat) : x ∈ corI es n k ↔ x < n ∧ k ≤ corF es n x := by
  unfold corI
  rw [selL_mem (corB_lt es n k)]
  simp [corB]
end Go.Proofs.Ytdkmdcdoiaelfaa
