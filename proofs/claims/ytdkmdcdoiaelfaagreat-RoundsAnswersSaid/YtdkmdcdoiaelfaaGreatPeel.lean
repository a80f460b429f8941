/- Plain: taking away what has the least support finds the cores of a support that grows with its set; and what a certificate shows. -/
namespace Go.Proofs.YtdkmdcdoiaelfaaGreat

/-- each member has at least k in the set -/
def GoodK (sup : (Nat → Bool) → Nat → Nat) (k : Nat) (S : Nat → Bool) : Prop := ∀ x, S x = true → k ≤ sup S x
def InCore (sup : (Nat → Bool) → Nat → Nat) (m k x : Nat) : Prop := ∃ S, GoodK sup k S ∧ (∀ y, S y = true → y < m) ∧ S x = true
/-- the support grows with the set, and does not ask whether its own member is there -/
def Grows (sup : (Nat → Bool) → Nat → Nat) : Prop := ∀ S T x, (∀ y, y ≠ x → S y = true → T y = true) → sup S x ≤ sup T x
/-- what is left behind the first i of an order -/
def restB (m : Nat) (o : List Nat) : Nat → Bool := fun x => decide (x < m) && !(o.contains x)
theorem restB_iff (m : Nat) (o : List Nat) (x : Nat) : restB m o x = true ↔ x < m ∧ x ∉ o := by simp [restB]
/-- the first one of those that have the least -/
def stepL (f : Nat → Nat) (b : Option Nat) (i : Nat) : Option Nat := match b with
  | none => some i
  | some c => if f i < f c then some i else some c
def bestL (f : Nat → Nat) (l : List Nat) : Option Nat := l.foldl (stepL f) none
theorem bestL_spec (f : Nat → Nat) (l : List Nat) : ∀ r, l.foldl (stepL f) r = none → r = none ∧ l = [] := by
  induction l with
  | nil => intro r h; exact ⟨h, rfl⟩
  | cons x l ih =>
    intro r h
    obtain ⟨h1, _⟩ := ih _ h
    cases r with
    | none => simp [stepL] at h1
    | some c => simp only [stepL] at h1; split at h1 <;> cases h1
theorem bestL_min (f : Nat → Nat) (l : List Nat) : ∀ r b, l.foldl (stepL f) r = some b → (b ∈ l ∨ r = some b) ∧ (∀ y ∈ l, f b ≤ f y) ∧ (∀ c, r = some c → f b ≤ f c) := by
  induction l with
  | nil => intro r b h; exact ⟨.inr h, fun y hy => (by cases hy), fun c hc => by have h : r = some b := h; rw [h] at hc; cases hc; exact Nat.le_refl _⟩
  | cons x l ih =>
    intro r b h
    obtain ⟨h1, h2, h3⟩ := ih _ b h
    cases r with
    | none =>
      have h4 := h3 x rfl
      refine ⟨.inl ?_, fun y hy => ?_, fun c hc => by cases hc⟩
      · rcases h1 with h1 | h1
        · exact List.mem_cons_of_mem _ h1
        · simp only [stepL, Option.some.injEq] at h1; rw [h1]; exact List.mem_cons_self
      · rcases List.mem_cons.1 hy with rfl | hy
        · exact h4
        · exact h2 y hy
    | some c =>
      by_cases hlt : f x < f c
      · have e : stepL f (some c) x = some x := by simp [stepL, hlt]
        rw [e] at h1 h3
        have h4 := h3 x rfl
        refine ⟨.inl ?_, fun y hy => ?_, fun c' hc => by cases hc; omega⟩
        · rcases h1 with h1 | h1
          · exact List.mem_cons_of_mem _ h1
          · cases h1; exact List.mem_cons_self
        · rcases List.mem_cons.1 hy with rfl | hy
          · exact h4
          · exact h2 y hy
      · have e : stepL f (some c) x = some c := by simp [stepL, hlt]
        rw [e] at h1 h3
        have h4 := h3 c rfl
        refine ⟨?_, fun y hy => ?_, fun c' hc => by cases hc; exact h4⟩
        · rcases h1 with h1 | h1
          · exact .inl (List.mem_cons_of_mem _ h1)
          · exact .inr h1
        · rcases List.mem_cons.1 hy with rfl | hy
          · omega
          · exact h2 y hy
theorem bestL_some {f : Nat → Nat} {l : List Nat} (h : l ≠ []) : ∃ b, bestL f l = some b ∧ b ∈ l ∧ ∀ y ∈ l, f b ≤ f y := by
  cases hb : bestL f l with
  | none => exact absurd (bestL_spec f l none hb).2 h
  | some b =>
    obtain ⟨h1, h2, _⟩ := bestL_min f l none b hb
    rcases h1 with h1 | h1
    · exact ⟨b, rfl, h1, h2⟩
    · cases h1
/-- those that are left, ascending -/
def leftL (m : Nat) (o : List Nat) : List Nat := (List.range m).filter (restB m o)
theorem leftL_mem (m : Nat) (o : List Nat) (x : Nat) : x ∈ leftL m o ↔ restB m o x = true := by
  unfold leftL
  rw [List.mem_filter, List.mem_range, restB_iff]
  exact ⟨fun h => h.2, fun h => ⟨h.1, h⟩⟩
/-- the order in which they are taken -/
def peelO (sup : (Nat → Bool) → Nat → Nat) (m : Nat) : Nat → List Nat
  | 0 => []
  | j + 1 => match bestL (sup (restB m (peelO sup m j))) (leftL m (peelO sup m j)) with
    | some b => peelO sup m j ++ [b]
    | none => peelO sup m j
theorem cover_le : ∀ (m : Nat) (l : List Nat), (∀ x, x < m → x ∈ l) → m ≤ l.length := by
  intro m
  induction m with
  | zero => intro l _; omega
  | succ m ih =>
    intro l h
    have h1 := ih (l.erase m) (fun x hx => (List.mem_erase_of_ne (by omega)).2 (h x (by omega)))
    have h2 := h m (by omega)
    rw [List.length_erase_of_mem h2] at h1
    have := List.length_pos_of_mem h2
    omega
theorem erase_le (l : List Nat) (m : Nat) : l.length ≤ (l.erase m).length + 1 := by
  rw [List.length_erase]; split <;> omega
theorem nodup_le (m : Nat) : ∀ (l : List Nat), l.Nodup → (∀ x ∈ l, x < m) → l.length ≤ m := by
  induction m with
  | zero =>
    intro l _ h
    cases l with
    | nil => exact Nat.le_refl _
    | cons x l => exact absurd (h x List.mem_cons_self) (by omega)
  | succ m ih =>
    intro l hn h
    have h1 := ih (l.erase m) (hn.erase m) (fun x hx => by
      have h2 := (hn.mem_erase_iff).1 hx
      have := h x h2.2; have := h2.1; omega)
    have h2 := erase_le l m
    omega
theorem left_ne (m : Nat) (o : List Nat) (hl : o.length < m) : leftL m o ≠ [] := by
  intro h
  have h1 : ∀ x, x < m → x ∈ o := fun x hx => by
    by_cases h2 : x ∈ o
    · exact h2
    · have : x ∈ leftL m o := (leftL_mem m o x).2 ((restB_iff m o x).2 ⟨hx, h2⟩)
      rw [h] at this; cases this
  have := cover_le m o h1
  omega
theorem peelO_spec (sup : (Nat → Bool) → Nat → Nat) (m : Nat) : ∀ j, j ≤ m → (peelO sup m j).length = j ∧ (peelO sup m j).Nodup ∧ ∀ x ∈ peelO sup m j, x < m := by
  intro j
  induction j with
  | zero => intro _; exact ⟨rfl, List.nodup_nil, fun x hx => by cases hx⟩
  | succ j ih =>
    intro hj
    obtain ⟨h1, h2, h3⟩ := ih (by omega)
    obtain ⟨b, hb, hbm, _⟩ := bestL_some (f := sup (restB m (peelO sup m j))) (left_ne m (peelO sup m j) (by omega))
    have hr := (restB_iff m _ b).1 ((leftL_mem m _ b).1 hbm)
    rw [peelO, hb]
    refine ⟨by simp [h1], ?_, fun x hx => ?_⟩
    · rw [List.nodup_append]
      exact ⟨h2, by simp, fun x hx y hy e => by rw [List.mem_singleton.1 hy] at e; exact hr.2 (e ▸ hx)⟩
    · rcases List.mem_append.1 hx with hx | hx
      · exact h3 x hx
      · rw [List.mem_singleton.1 hx]; exact hr.1
theorem peelO_step (sup : (Nat → Bool) → Nat → Nat) (m j : Nat) (hj : j < m) : ∃ b, bestL (sup (restB m (peelO sup m j))) (leftL m (peelO sup m j)) = some b ∧ peelO sup m (j + 1) = peelO sup m j ++ [b] ∧ restB m (peelO sup m j) b = true ∧ ∀ y, restB m (peelO sup m j) y = true → sup (restB m (peelO sup m j)) b ≤ sup (restB m (peelO sup m j)) y := by
  obtain ⟨h1, h2, h3⟩ := peelO_spec sup m j (by omega)
  obtain ⟨b, hb, hbm, hmin⟩ := bestL_some (f := sup (restB m (peelO sup m j))) (left_ne m (peelO sup m j) (by omega))
  refine ⟨b, hb, ?_, (leftL_mem m _ b).1 hbm, fun y hy => hmin y ((leftL_mem m _ y).2 hy)⟩
  rw [peelO, hb]
theorem peelO_take (sup : (Nat → Bool) → Nat → Nat) (m j : Nat) : ∀ k, j ≤ k → k ≤ m → (peelO sup m k).take j = peelO sup m j := by
  intro k
  induction k with
  | zero => intro h _; rw [show j = 0 by omega]; rfl
  | succ k ih =>
    intro h hk
    by_cases e : j = k + 1
    · subst e
      rw [List.take_of_length_le (by rw [(peelO_spec sup m (k + 1) hk).1]; exact Nat.le_refl _)]
    · obtain ⟨b, _, hb, _⟩ := peelO_step sup m k (by omega)
      rw [hb, List.take_append_of_le_length (by rw [(peelO_spec sup m k (by omega)).1]; omega)]
      exact ih (by omega) (by omega)
/-- the greatest of the first i + 1 -/
def runMax (f : Nat → Nat) : Nat → Nat
  | 0 => f 0
  | i + 1 => max (runMax f i) (f (i + 1))
theorem runMax_ge (f : Nat → Nat) : ∀ i j, j ≤ i → f j ≤ runMax f i := by
  intro i
  induction i with
  | zero => intro j hj; rw [show j = 0 by omega]; exact Nat.le_refl _
  | succ i ih =>
    intro j hj
    by_cases h : j = i + 1
    · subst h; exact Nat.le_max_right _ _
    · exact Nat.le_trans (ih j (by omega)) (Nat.le_max_left _ _)
theorem runMax_is (f : Nat → Nat) : ∀ i, ∃ j, j ≤ i ∧ runMax f i = f j := by
  intro i
  induction i with
  | zero => exact ⟨0, Nat.le_refl _, rfl⟩
  | succ i ih =>
    obtain ⟨j, hj, he⟩ := ih
    by_cases h : runMax f i ≤ f (i + 1)
    · exact ⟨i + 1, Nat.le_refl _, Nat.max_eq_right h⟩
    · exact ⟨j, by omega, by rw [← he]; exact Nat.max_eq_left (by omega)⟩
/-- the support of the one that is taken in round j -/
def takS (sup : (Nat → Bool) → Nat → Nat) (m j : Nat) : Nat := sup (restB m (peelO sup m j)) ((peelO sup m m).getD j 0)
theorem peel_get (sup : (Nat → Bool) → Nat → Nat) (m j : Nat) (hj : j < m) : (peelO sup m m)[j]? = bestL (sup (restB m (peelO sup m j))) (leftL m (peelO sup m j)) := by
  obtain ⟨b, hb, hs, _⟩ := peelO_step sup m j hj
  have h1 := peelO_take sup m (j + 1) m (by omega) (Nat.le_refl _)
  have h2 : (peelO sup m (j + 1))[j]? = some b := by rw [hs, List.getElem?_append_right (by rw [(peelO_spec sup m j (by omega)).1]; exact Nat.le_refl _), (peelO_spec sup m j (by omega)).1]; simp
  rw [← h1, List.getElem?_take, if_pos (by omega)] at h2
  rw [h2, hb]
/-- the first one of an order that lies in a set: all of the set is left there -/
theorem first_in (o : List Nat) (S : Nat → Bool) : ∀ i x, o[i]? = some x → S x = true → ∃ j y, j ≤ i ∧ o[j]? = some y ∧ S y = true ∧ ∀ z, S z = true → z ∉ o.take j := by
  intro i
  induction i using Nat.strongRecOn with
  | _ i ih =>
    intro x hx hS
    by_cases h : ∃ j y, j < i ∧ o[j]? = some y ∧ S y = true
    · obtain ⟨j, y, hj, hy, hSy⟩ := h
      obtain ⟨j', y', h1, h2⟩ := ih j hj y hy hSy
      exact ⟨j', y', by omega, h2⟩
    · refine ⟨i, x, Nat.le_refl _, hx, hS, fun z hz hm => h ?_⟩
      obtain ⟨j, hj, he⟩ := List.getElem_of_mem hm
      rw [List.length_take] at hj
      refine ⟨j, z, by omega, ?_, hz⟩
      rw [List.getElem_take] at he
      rw [List.getElem?_eq_getElem (by omega), he]
theorem peel_core {sup : (Nat → Bool) → Nat → Nat} (hg : Grows sup) (m i x k : Nat) (hi : i < m) (hx : (peelO sup m m)[i]? = some x) : InCore sup m k x ↔ k ≤ runMax (takS sup m) i := by
  constructor
  · rintro ⟨S, h1, h2, h3⟩
    obtain ⟨j, y, hj, hy, hSy, hnot⟩ := first_in _ S i x hx h3
    have h4 := h1 y hSy
    have h5 : sup S y ≤ takS sup m j := by
      unfold takS
      rw [List.getD_eq_getElem?_getD, hy]
      refine hg _ _ _ fun z _ hz => (restB_iff m _ z).2 ⟨h2 z hz, ?_⟩
      have := hnot z hz
      rwa [peelO_take sup m j m (by omega) (Nat.le_refl _)] at this
    have h6 := runMax_ge (takS sup m) i j hj
    omega
  · intro h
    obtain ⟨j, hj, he⟩ := runMax_is (takS sup m) i
    obtain ⟨b, hb, _, _, hmin⟩ := peelO_step sup m j (by omega)
    have hbj := peel_get sup m j (by omega)
    rw [hb] at hbj
    refine ⟨restB m (peelO sup m j), fun z hz => ?_, fun z hz => ((restB_iff m _ z).1 hz).1, (restB_iff m _ x).2 ⟨?_, ?_⟩⟩
    · have h1 := hmin z hz
      have h2 : takS sup m j = sup (restB m (peelO sup m j)) b := by unfold takS; rw [List.getD_eq_getElem?_getD, hbj]; rfl
      omega
    · exact (peelO_spec sup m m (Nat.le_refl _)).2.2 x (List.mem_of_getElem? hx)
    · intro hm
      rw [← peelO_take sup m j m (by omega) (Nat.le_refl _)] at hm
      obtain ⟨t, ht, hte⟩ := List.getElem_of_mem hm
      rw [List.length_take] at ht
      rw [List.getElem_take] at hte
      have hnd := (peelO_spec sup m m (Nat.le_refl _)).2.1
      obtain ⟨hi2, hxe⟩ := List.getElem?_eq_some_iff.1 hx
      have := (List.getElem_inj (h₀ := by omega) (h₁ := hi2) hnd).1 (hte.trans hxe.symm)
      omega
/-- the greatest support so far, ahead of round j -/
def topP (sup : (Nat → Bool) → Nat → Nat) (m : Nat) : Nat → Nat
  | 0 => 0
  | j + 1 => runMax (takS sup m) j
/-- the numbers ahead of round j -/
def numP (sup : (Nat → Bool) → Nat → Nat) (m : Nat) : Nat → Nat → Int
  | 0 => fun _ => 0
  | j + 1 => fun x => if x = (peelO sup m m).getD j 0 then (topP sup m (j + 1) : Int) else numP sup m j x
theorem numP_at (sup : (Nat → Bool) → Nat → Nat) (m : Nat) : ∀ j, j ≤ m → ∀ i x, i < j → (peelO sup m m)[i]? = some x → numP sup m j x = (runMax (takS sup m) i : Int) := by
  intro j
  induction j with
  | zero => intro _ i x hi; omega
  | succ j ih =>
    intro hj i x hi hx
    have hnd := (peelO_spec sup m m (Nat.le_refl _)).2.1
    have hl := (peelO_spec sup m m (Nat.le_refl _)).1
    unfold numP
    by_cases h : i = j
    · subst h
      rw [if_pos (by rw [List.getD_eq_getElem?_getD, hx]; rfl)]; rfl
    · have hne : x ≠ (peelO sup m m).getD j 0 := fun e => by
        rw [List.getD_eq_getElem?_getD, List.getElem?_eq_getElem (by omega)] at e
        obtain ⟨hi2, he⟩ := List.getElem?_eq_some_iff.1 hx
        have := (List.getElem_inj (h₀ := hi2) (h₁ := by omega) hnd).1 (he.trans e)
        exact h this
      rw [if_neg hne]
      exact ih (by omega) i x (by omega) hx
/-- every member has its place in the order -/
theorem peel_mem (sup : (Nat → Bool) → Nat → Nat) (m x : Nat) (hx : x < m) : ∃ i, i < m ∧ (peelO sup m m)[i]? = some x := by
  obtain ⟨h1, h2, h3⟩ := peelO_spec sup m m (Nat.le_refl _)
  have hm : x ∈ peelO sup m m := by
    by_cases h : x ∈ peelO sup m m
    · exact h
    · have hle := nodup_le m (peelO sup m m ++ [x]) (by
        rw [List.nodup_append]
        exact ⟨h2, by simp, fun y hy z hz e => by rw [List.mem_singleton.1 hz] at e; exact h (e ▸ hy)⟩) (fun y hy => by
        rcases List.mem_append.1 hy with hy | hy
        · exact h3 y hy
        · rw [List.mem_singleton.1 hy]; exact hx)
      rw [List.length_append, h1] at hle
      exact absurd hle (by simp)
  obtain ⟨i, hi, he⟩ := List.getElem_of_mem hm
  exact ⟨i, by omega, by rw [List.getElem?_eq_getElem hi, he]⟩
end Go.Proofs.YtdkmdcdoiaelfaaGreat
