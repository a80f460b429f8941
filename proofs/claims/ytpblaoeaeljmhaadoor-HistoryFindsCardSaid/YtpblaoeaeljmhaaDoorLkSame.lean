/- The contract of the test for equal states. -/
import Derived.Test.YtpblaoeaeljmhaaDoorLkSet
namespace Go.Proofs.YtpblaoeaeljmhaaDoor
open Go.RowKit Go.BigFrame

theorem lk_diff {x y : Lk} (h : x ≠ y) : (x.u == y.u) = false ∨ ((x.u == y.u) = true ∧ (x.v == y.v) = false) ∨ ((x.u == y.u) = true ∧ (x.v == y.v) = true ∧ (x.weight == y.weight) = false) ∨ ((x.u == y.u) = true ∧ (x.v == y.v) = true ∧ (x.weight == y.weight) = true ∧ (x.label == y.label) = false) ∨
    ((x.u == y.u) = true ∧ (x.v == y.v) = true ∧ (x.weight == y.weight) = true ∧ (x.label == y.label) = true ∧ (x.sign == y.sign) = false) ∨ ((x.u == y.u) = true ∧ (x.v == y.v) = true ∧ (x.weight == y.weight) = true ∧ (x.label == y.label) = true ∧ (x.sign == y.sign) = true ∧ (x.time == y.time) = false) := by
  obtain ⟨a, b, c, d, e, f⟩ := x
  obtain ⟨a', b', c', d', e', f'⟩ := y
  dsimp only
  by_cases h1 : a = a'
  · by_cases h2 : b = b'
    · by_cases h3 : c = c'
      · by_cases h4 : d = d'
        · by_cases h5 : e = e'
          · by_cases h6 : f = f'
            · subst h1 h2 h3 h4 h5 h6; exact absurd rfl h
            · right; right; right; right; right; simp [h1, h2, h3, h4, h5, h6]
          · right; right; right; right; left; simp [h1, h2, h3, h4, h5]
        · right; right; right; left; simp [h1, h2, h3, h4]
      · right; right; left; simp [h1, h2, h3]
    · right; left; simp [h1, h2]
  · left; simp [h1]
end Go.Proofs.YtpblaoeaeljmhaaDoor
