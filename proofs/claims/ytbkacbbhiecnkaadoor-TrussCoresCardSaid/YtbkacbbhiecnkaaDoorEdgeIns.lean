/- Plain: an edge put into a list of edges in order. -/
import Derived.Test.YtbkacbbhiecnkaaDoorPlain
namespace Go.Proofs.YtbkacbbhiecnkaaDoor

def insE : List E2 → E2 → List E2
  | [], e => [e]
  | x :: l, e => if beforeB x e = true then x :: insE l e else if x = e then x :: l else e :: x :: l
theorem insE_mem (l : List E2) (e x : E2) : x ∈ insE l e ↔ x ∈ l ∨ x = e := by
  induction l with
  | nil => simp [insE]
  | cons y l ih =>
    unfold insE
    split
    · simp only [List.mem_cons, ih]
      constructor
      · rintro (h | h | h)
        · exact .inl (.inl h)
        · exact .inl (.inr h)
        · exact .inr h
      · rintro ((h | h) | h)
        · exact .inl h
        · exact .inr (.inl h)
        · exact .inr (.inr h)
    · split
      · rename_i h; subst h
        simp only [List.mem_cons]
        constructor
        · exact .inl
        · rintro (h | h)
          · exact h
          · exact .inl h
      · simp only [List.mem_cons]
        constructor
        · rintro (h | h)
          · exact .inr h
          · exact .inl h
        · rintro (h | h)
          · exact .inr h
          · exact .inl h
theorem insE_length (l : List E2) (e : E2) : (insE l e).length ≤ l.length + 1 := by
  induction l with
  | nil => simp [insE]
  | cons y l ih => unfold insE; split <;> (try split) <;> simp <;> omega
theorem before_total (x y : E2) (h : ¬ beforeB x y = true) (hne : x ≠ y) : beforeB y x = true := by
  rw [before_iff] at *
  have : ¬ (x.1 = y.1 ∧ x.2 = y.2) := fun h => hne (Prod.ext h.1 h.2)
  omega
theorem insE_sorted (l : List E2) (e : E2) (h : l.Pairwise (fun a b => beforeB a b = true)) : (insE l e).Pairwise (fun a b => beforeB a b = true) := by
  induction l with
  | nil => exact List.pairwise_singleton _ _
  | cons y l ih =>
    obtain ⟨h1, h2⟩ := List.pairwise_cons.1 h
    unfold insE
    split
    · rename_i hb
      refine List.pairwise_cons.2 ⟨fun x hx => ?_, ih h2⟩
      rcases (insE_mem _ _ _).1 hx with hx | hx
      · exact h1 x hx
      · rw [hx]; exact hb
    · rename_i hb
      split
      · exact h
      · rename_i hne
        have hey := before_total y e hb hne
        refine List.pairwise_cons.2 ⟨fun x hx => ?_, h⟩
        rcases List.mem_cons.1 hx with rfl | hx
        · exact hey
        · exact before_trans hey (h1 x hx)
theorem Valid.ins {n : Int} {es : List E2} (h : Valid n es) (e : E2) (he : Ins n e) : Valid n (insE es e) := by
  obtain ⟨a, b, c, d⟩ := h
  refine ⟨a, b, fun x hx => ?_, insE_sorted es e d⟩
  rcases (insE_mem _ _ _).1 hx with hx | hx
  · exact c x hx
  · rw [hx]; exact he
theorem insE_drop (es : List E2) (e : E2) : ∀ k, k ≤ es.length → (∀ j y, j < k → es[j]? = some y → beforeB y e = true) → insE es e = es.take k ++ insE (es.drop k) e := by
  induction es with
  | nil => intro k hk _; simp at hk; subst hk; rfl
  | cons y l ih =>
    intro k hk h
    cases k with
    | zero => rfl
    | succ k =>
      have hy : beforeB y e = true := h 0 y (by omega) rfl
      simp only [List.take_succ_cons, List.drop_succ_cons, List.cons_append]
      rw [insE, if_pos hy, ih k (by simpa using hk) (fun j z hj hz => h (j + 1) z (by omega) (by simpa using hz))]
end Go.Proofs.YtbkacbbhiecnkaaDoor
