/- Plain laws: the graph of what is missing, and the kinds of its sets of four nodes. -/
import Derived.Test.YtekbpoppajbljaaDoorPatCopies
import Derived.Test.YtekbpoppajbljaaDoorRef03
namespace Go.Proofs.YtekbpoppajbljaaDoor
open Go.RowKit

theorem adjB_iff (es : List E2) (p q : Nat) : adjB es p q = true ↔ ((p : Int), (q : Int)) ∈ es ∨ ((q : Int), (p : Int)) ∈ es := by
  unfold adjB
  rw [List.any_eq_true]
  constructor
  · rintro ⟨⟨x, y⟩, he, h⟩
    simp at h
    rcases h with ⟨rfl, rfl⟩ | ⟨rfl, rfl⟩
    · exact .inl he
    · exact .inr he
  · rintro (h | h)
    · exact ⟨_, h, by simp⟩
    · exact ⟨_, h, by simp⟩
theorem Valid.mem {n : Int} {es : List E2} (h : Valid n es) {p q : Int} (hm : (p, q) ∈ es) : 0 ≤ p ∧ p < q ∧ q < n := h.2.2.1 _ hm
theorem adj_lt {n : Int} {es : List E2} (h : Valid n es) {p q : Nat} (hpq : p < q) : adjB es p q = true ↔ ((p : Int), (q : Int)) ∈ es := by
  rw [adjB_iff]
  constructor
  · rintro (h1 | h1)
    · exact h1
    · have := h.mem h1; omega
  · exact .inl
theorem adj_comm (es : List E2) (p q : Nat) : adjB es p q = adjB es q p := by
  rw [Bool.eq_iff_iff, adjB_iff, adjB_iff]; exact Or.comm
theorem adj_irrefl {n : Int} {es : List E2} (h : Valid n es) (p : Nat) : adjB es p p = false := by
  rw [← Bool.not_eq_true, adjB_iff]
  rintro (h1 | h1) <;> (have := h.mem h1; omega)
theorem find_from (es : List E2) (p : E2) : ∀ k : Nat, (p ∈ es → (k : Int) ≤ findFrom k es p) ∧ (p ∉ es → findFrom k es p = -1) := by
  induction es with
  | nil => intro k; simp [findFrom]
  | cons e es ih =>
    intro k
    have h := ih (k + 1)
    unfold findFrom
    by_cases he : e = p
    · rw [if_pos he]; exact ⟨fun _ => by omega, fun h => absurd (by rw [he]; exact List.mem_cons_self ..) h⟩
    · rw [if_neg he]
      refine ⟨fun hm => ?_, fun hm => h.2 (fun h' => hm (List.mem_cons_of_mem _ h'))⟩
      rcases List.mem_cons.1 hm with h' | h'
      · exact absurd h'.symm he
      · have := h.1 h'; omega
theorem find_neg {n : Int} {es : List E2} (h : Valid n es) {p q : Nat} (hpq : p < q) : findS es p q < 0 ↔ adjB es p q = false := by
  unfold findS
  rw [show min (p : Int) (q : Int) = p by omega, show max (p : Int) (q : Int) = q by omega]
  have hf := find_from es ((p : Int), (q : Int)) 0
  rw [← Bool.not_eq_true, adj_lt h hpq]
  constructor
  · intro hl hm; have := hf.1 hm; omega
  · intro hm; rw [hf.2 hm]; omega

/-- the pairs below n that are not joined, up to u, v -/
def Rest (n : Nat) (es es' : List E2) (u v : Nat) : Prop :=
  ∀ p q : Nat, ((p : Int), (q : Int)) ∈ es' ↔ p < q ∧ q < n ∧ adjB es p q = false ∧ (p < u ∨ (p = u ∧ q < v))
theorem Rest.nil {n : Nat} {es : List E2} : Rest n es [] 0 0 := fun p q => by
  constructor
  · intro h; cases h
  · rintro ⟨_, _, _, h⟩; omega
theorem Rest.start {n : Nat} {es es' : List E2} {u : Nat} (h : Rest n es es' u 0) : Rest n es es' u (u + 1) := fun p q => by
  rw [h p q]
  constructor
  · rintro ⟨a, b, c, d⟩; exact ⟨a, b, c, by omega⟩
  · rintro ⟨a, b, c, d⟩; exact ⟨a, b, c, by omega⟩
theorem Rest.next {n : Nat} {es es' : List E2} {u : Nat} (h : Rest n es es' u n) : Rest n es es' (u + 1) 0 := fun p q => by
  rw [h p q]
  constructor
  · rintro ⟨a, b, c, d⟩; exact ⟨a, b, c, by omega⟩
  · rintro ⟨a, b, c, d⟩; exact ⟨a, b, c, by omega⟩
theorem Rest.skip {n : Nat} {es es' : List E2} {u v : Nat} (h : Rest n es es' u v) (ha : adjB es u v = true) : Rest n es es' u (v + 1) := fun p q => by
  rw [h p q]
  constructor
  · rintro ⟨a, b, c, d⟩; exact ⟨a, b, c, by omega⟩
  · rintro ⟨a, b, c, d⟩
    refine ⟨a, b, c, ?_⟩
    rcases d with d | ⟨rfl, d⟩
    · exact .inl d
    · by_cases hq : q = v
      · subst hq; rw [ha] at c; cases c
      · exact .inr ⟨rfl, by omega⟩
theorem Rest.snoc {n : Nat} {es es' : List E2} {u v : Nat} (h : Rest n es es' u v) (ha : adjB es u v = false) (huv : u < v) (hv : v < n) : Rest n es (es' ++ [((u : Int), (v : Int))]) u (v + 1) := fun p q => by
  rw [List.mem_append, h p q, List.mem_singleton]
  constructor
  · rintro (⟨a, b, c, d⟩ | e)
    · exact ⟨a, b, c, by omega⟩
    · simp at e
      obtain ⟨rfl, rfl⟩ : p = u ∧ q = v := by omega
      exact ⟨huv, hv, ha, by omega⟩
  · rintro ⟨a, b, c, d⟩
    by_cases hq : p = u ∧ q = v
    · right; rw [hq.1, hq.2]
    · left; exact ⟨a, b, c, by omega⟩
theorem Rest.adj {n : Nat} {es es' : List E2} (h : Rest n es es' n 0) {p q : Nat} (hp : p < n) (hq : q < n) (hne : p ≠ q) : adjB es' p q = !adjB es p q := by
  have key : ∀ p q, p < q → q < n → (adjB es' p q = !adjB es p q) := by
    intro p q hpq hqn
    rw [Bool.eq_iff_iff, adjB_iff, h p q, h q p, Bool.not_eq_true']
    constructor
    · rintro (⟨_, _, c, _⟩ | ⟨a, _⟩)
      · exact c
      · omega
    · intro c; exact .inl ⟨hpq, hqn, c, by omega⟩
  rcases Nat.lt_or_gt_of_ne hne with h1 | h1
  · exact key p q h1 hq
  · rw [adj_comm es' p q, adj_comm es p q]; exact key q p h1 hp

/-- the kind of what is missing -/
def turnK (k : Int) : Int := [10, 9, 7, 8, 5, 4, 6, 2, 3, 1, 0].getD k.toNat 0
theorem kind_turn : ∀ m : Nat, m < 64 → kindS (63 - m) = turnK (kindS m) := by decide +kernel
theorem maskF_not (f g : Nat → Bool) : ∀ k, (∀ i, i < k → g i = !f i) → maskF g k = 2 ^ k - 1 - maskF f k := by
  intro k
  induction k with
  | zero => intro _; simp [maskF]
  | succ k ih =>
    intro h
    have h1 := ih (fun i hi => h i (by omega))
    have h2 := h k (by omega)
    have h3 := maskF_lt f k
    have h4 : 0 < 2 ^ k := Nat.pow_pos (by omega)
    unfold maskF
    rw [h1, h2, Nat.pow_succ]
    cases f k <;> simp <;> omega
theorem ofKS_turn {n : Nat} {es es' : List E2} (h : Rest n es es' n 0) {a b c d : Nat} (hab : a < b) (hbc : b < c) (hcd : c < d) (hd : d < n) : ofKS es' a b c d = turnK (ofKS es a b c d) := by
  unfold ofKS
  rw [maskF_not (pairF es a b c d) (pairF es' a b c d) 6 ?_]
  · exact kind_turn _ (maskF_lt _ 6)
  · intro i hi
    rcases (by omega : i = 0 ∨ i = 1 ∨ i = 2 ∨ i = 3 ∨ i = 4 ∨ i = 5) with rfl | rfl | rfl | rfl | rfl | rfl
    · exact h.adj (by omega) (by omega) (by omega)
    · exact h.adj (by omega) (by omega) (by omega)
    · exact h.adj (by omega) (by omega) (by omega)
    · exact h.adj (by omega) (by omega) (by omega)
    · exact h.adj (by omega) (by omega) (by omega)
    · exact h.adj (by omega) (by omega) (by omega)
theorem flatMap_congr' {α : Type} (f g : Nat → List α) : ∀ n, (∀ x, x < n → f x = g x) → (List.range n).flatMap f = (List.range n).flatMap g := by
  intro n
  induction n with
  | zero => intro _; rfl
  | succ n ih =>
    intro h
    rw [List.range_succ, List.flatMap_append, List.flatMap_append, ih (fun x hx => h x (by omega))]
    simp [h n (by omega)]
theorem map_flat {α β : Type} (σ : α → β) (f : Nat → List α) (n : Nat) : ((List.range n).flatMap f).map σ = (List.range n).flatMap fun x => (f x).map σ := by
  rw [List.map_flatMap]
theorem kA_turn {n : Nat} {es es' : List E2} (h : Rest n es es' n 0) : kA es' (fun _ _ _ _ => true) n = (kA es (fun _ _ _ _ => true) n).map turnK := by
  unfold kA kB kC kD
  simp only [List.map_flatMap, if_true, List.map_cons, List.map_nil]
  refine flatMap_congr' _ _ _ fun a ha => flatMap_congr' _ _ _ fun b hb => flatMap_congr' _ _ _ fun c hc => flatMap_congr' _ _ _ fun d hd => ?_
  rw [ofKS_turn h (by omega) (by omega) (by omega) ha]
theorem turnK_inj : ∀ j : Nat, j < 11 → ∀ k : Nat, k < 11 → ((turnK (k : Int) == turnK (j : Int)) = ((k : Int) == (j : Int))) := by decide
theorem kA_mem (es : List E2) (φ : Nat → Nat → Nat → Nat → Bool) (n : Nat) (x : Int) (hx : x ∈ kA es φ n) : 0 ≤ x ∧ x < 11 := by
  unfold kA kB kC kD at hx
  simp only [List.mem_flatMap] at hx
  obtain ⟨a, _, b, _, c, _, d, _, h⟩ := hx
  split at h
  · obtain rfl := List.mem_singleton.1 h
    exact ofKS_bd _ _ _ _ _
  · cases h
/-- the count of each kind is the count of the opposite kind of what is missing -/
theorem indS_turn {n : Nat} {es es' : List E2} (h : Rest n es es' n 0) (i : Nat) (hi : i < 11) : (indS es n)[i]? = (indS es' n)[(turnK i).toNat]? := by
  have ht : ∀ i : Nat, i < 11 → (turnK (i : Int)).toNat < 11 ∧ (((turnK (i : Int)).toNat : Nat) : Int) = turnK (i : Int) := by decide
  unfold indS
  rw [cntV_get _ i hi, cntV_get _ _ (ht i hi).1, kA_turn h, List.filter_map, List.length_map, (ht i hi).2]
  congr 3
  apply List.filter_congr
  intro x hx
  obtain ⟨h0, h1⟩ := kA_mem _ _ _ _ hx
  obtain ⟨k, rfl⟩ := Int.eq_ofNat_of_zero_le h0
  exact (turnK_inj i hi k (by omega)).symm
end Go.Proofs.YtekbpoppajbljaaDoor
