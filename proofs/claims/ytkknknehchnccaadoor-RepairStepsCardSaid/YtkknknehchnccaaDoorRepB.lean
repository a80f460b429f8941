/- Plain: the least node of the lowest bucket is the first of least support. -/
import Derived.Test.YtkknknehchnccaaDoorPeel
namespace Go.Proofs.YtkknknehchnccaaDoor

theorem bestL_first (f : Nat → Nat) (l : List Nat) : ∀ r b, l.Pairwise (· < ·) → (∀ c, r = some c → ∀ y ∈ l, c < y) → l.foldl (stepL f) r = some b → (∀ y ∈ l, y < b → f b < f y) ∧ (∀ c, r = some c → c < b → f b < f c) := by
  induction l with
  | nil =>
    intro r b _ _ h
    refine ⟨fun y hy => (by cases hy), fun c hc hlt => ?_⟩
    rw [List.foldl_nil, hc] at h
    injection h with h
    omega
  | cons a l ih =>
    intro r b hp hr h
    rw [List.foldl_cons] at h
    have hp2 := List.pairwise_cons.1 hp
    have base := bestL_min f l (stepL f r a) b h
    cases r with
    | none =>
      have g := ih (some a) b hp2.2 (fun c hc y hy => by injection hc with hc; rw [← hc]; exact hp2.1 y hy) h
      refine ⟨fun y hy hlt => ?_, fun c hc => by cases hc⟩
      rcases List.mem_cons.1 hy with e | e
      · rw [e] at hlt ⊢; exact g.2 a rfl hlt
      · exact g.1 y e hlt
    | some c =>
      by_cases hf : f a < f c
      · have hs : stepL f (some c) a = some a := by simp [stepL, hf]
        rw [hs] at h base
        have g := ih (some a) b hp2.2 (fun c hc y hy => by injection hc with hc; rw [← hc]; exact hp2.1 y hy) h
        refine ⟨fun y hy hlt => ?_, fun d hd hlt => ?_⟩
        · rcases List.mem_cons.1 hy with e | e
          · rw [e] at hlt ⊢; exact g.2 a rfl hlt
          · exact g.1 y e hlt
        · injection hd with hd
          have := base.2.2 a rfl
          rw [← hd]; omega
      · have hs : stepL f (some c) a = some c := by simp [stepL, hf]
        rw [hs] at h base
        have g := ih (some c) b hp2.2 (fun d hd y hy => by injection hd with hd; rw [← hd]; exact hr c rfl y (List.mem_cons_of_mem _ hy)) h
        refine ⟨fun y hy hlt => ?_, fun d hd hlt => ?_⟩
        · rcases List.mem_cons.1 hy with e | e
          · have h1 := hr c rfl a (List.mem_cons_self ..)
            rw [e] at hlt ⊢
            have := g.2 c rfl (by omega)
            omega
          · exact g.1 y e hlt
        · injection hd with hd
          rw [← hd] at hlt ⊢; exact g.2 c rfl hlt
/-- The lowest bucket, and the least node in it. -/
theorem bucket_best (f : Nat → Nat) (m : Nat) (o : List Nat) (v : Nat) (hv : restB m o v = true) (hd : ∀ y, restB m o y = true → f v ≤ f y) (hl : ∀ y, restB m o y = true → f y = f v → v ≤ y) : bestL f (leftL m o) = some v := by
  have hm : v ∈ leftL m o := (leftL_mem m o v).2 hv
  obtain ⟨b, h1, h2, h3⟩ := bestL_some (f := f) (l := leftL m o) (fun e => by rw [e] at hm; cases hm)
  have hb := (leftL_mem m o b).1 h2
  have e1 : f b = f v := Nat.le_antisymm (h3 v hm) (hd b hb)
  have e2 : v ≤ b := hl b hb e1
  have hs : (leftL m o).Pairwise (· < ·) := List.Pairwise.filter _ List.pairwise_lt_range
  have g := (bestL_first f (leftL m o) none b hs (fun c hc => by cases hc) h1).1 v hm
  by_cases hlt : v < b
  · have := g hlt; omega
  · rw [h1, show b = v by omega]
end Go.Proofs.YtkknknehchnccaaDoor
