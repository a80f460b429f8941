/- Plain: an edge put into a list of edges in order. The plain law of an edge that comes: what it adds to the squares of each node. Plain: an edge put into and taken out of a list of edges in order; the graph with it and without it. -/
import Derived.Test.YtdkmdcdoiaelfaaPlain
namespace Go.Proofs.Ytdkmdcdoiaelfaa

def insE : List E2 → E2 → List E2
  | [], e => [e]
  | x :: l, e => if beforeB x e = true then x :: insE l e else if x = e then x :: l else e :: x :: l
theorem insE_mem (l : List E2) (e x : E2) : x ∈ insE l e ↔ x ∈ l ∨ x = e := by
  induction l with
  | nil => simp [insE]
  | cons y l ih =>
    unfold insE
    split
    · simp only [List.mem_cons, ih]
      constructor
      · rintro (h | h | h)
        · exact .inl (.inl h)
        · exact .inl (.inr h)
        · exact .inr h
      · rintro ((h | h) | h)
        · exact .inl h
        · exact .inr (.inl h)
        · exact .inr (.inr h)
    · split
      · rename_i h; subst h
        simp only [List.mem_cons]
        constructor
        · exact .inl
        · rintro (h | h)
          · exact h
          · exact .inl h
      · simp only [List.mem_cons]
        constructor
        · rintro (h | h)
          · exact .inr h
          · exact .inl h
        · rintro (h | h)
          · exact .inr h
          · exact .inl h
theorem insE_length (l : List E2) (e : E2) : (insE l e).length ≤ l.length + 1 := by
  induction l with
  | nil => simp [insE]
  | cons y l ih => unfold insE; split <;> (try split) <;> simp <;> omega
theorem before_total (x y : E2) (h : ¬ beforeB x y = true) (hne : x ≠ y) : beforeB y x = true := by
  rw [before_iff] at *
  have : ¬ (x.1 = y.1 ∧ x.2 = y.2) := fun h => hne (Prod.ext h.1 h.2)
  omega
theorem insE_sorted (l : List E2) (e : E2) (h : l.Pairwise (fun a b => beforeB a b = true)) : (insE l e).Pairwise (fun a b => beforeB a b = true) := by
  induction l with
  | nil => exact List.pairwise_singleton _ _
  | cons y l ih =>
    obtain ⟨h1, h2⟩ := List.pairwise_cons.1 h
    unfold insE
    split
    · rename_i hb
      refine List.pairwise_cons.2 ⟨fun x hx => ?_, ih h2⟩
      rcases (insE_mem _ _ _).1 hx with hx | hx
      · exact h1 x hx
      · rw [hx]; exact hb
    · rename_i hb
      split
      · exact h
      · rename_i hne
        have hey := before_total y e hb hne
        refine List.pairwise_cons.2 ⟨fun x hx => ?_, h⟩
        rcases List.mem_cons.1 hx with rfl | hx
        · exact hey
        · exact before_trans hey (h1 x hx)
theorem Valid.ins {n : Int} {es : List E2} (h : Valid n es) (e : E2) (he : Ins n e) : Valid n (insE es e) := by
  obtain ⟨a, b, c, d⟩ := h
  refine ⟨a, b, fun x hx => ?_, insE_sorted es e d⟩
  rcases (insE_mem _ _ _).1 hx with hx | hx
  · exact c x hx
  · rw [hx]; exact he
theorem insE_drop (es : List E2) (e : E2) : ∀ k, k ≤ es.length → (∀ j y, j < k → es[j]? = some y → beforeB y e = true) → insE es e = es.take k ++ insE (es.drop k) e := by
  induction es with
  | nil => intro k hk _; simp at hk; subst hk; rfl
  | cons y l ih =>
    intro k hk h
    cases k with
    | zero => rfl
    | succ k =>
      have hy : beforeB y e = true := h 0 y (by omega) rfl
      simp only [List.take_succ_cons, List.drop_succ_cons, List.cons_append]
      rw [insE, if_pos hy, ih k (by simpa using hk) (fun j z hj hz => h (j + 1) z (by omega) (by simpa using hz))]
end Go.Proofs.Ytdkmdcdoiaelfaa

namespace Go.Proofs.Ytdkmdcdoiaelfaa

def sumK (f : Nat → Int) : Nat → Int
  | 0 => 0
  | n + 1 => sumK f n + f n
theorem sumK_congr {f g : Nat → Int} : ∀ n, (∀ v, v < n → f v = g v) → sumK f n = sumK g n := by
  intro n
  induction n with
  | zero => intro _; rfl
  | succ n ih => intro h; unfold sumK; rw [ih fun v hv => h v (by omega), h n (by omega)]
theorem sumK_add (f g : Nat → Int) : ∀ n, sumK (fun v => f v + g v) n = sumK f n + sumK g n := by
  intro n
  induction n with
  | zero => rfl
  | succ n ih => unfold sumK; rw [ih]; omega
theorem sumK_zero : ∀ n, sumK (fun _ => 0) n = 0 := by
  intro n
  induction n with
  | zero => rfl
  | succ n ih => unfold sumK; rw [ih]; rfl
theorem sumK_one (q : Nat) (t : Nat → Int) : ∀ n, sumK (fun a => if a = q then t a else 0) n = if q < n then t q else 0 := by
  intro n
  induction n with
  | zero => rfl
  | succ n ih =>
    unfold sumK
    rw [ih]
    by_cases h : n = q
    · subst h; rw [if_neg (by omega), if_pos rfl, if_pos (by omega)]; omega
    · rw [if_neg h]
      by_cases h2 : q < n
      · rw [if_pos h2, if_pos (by omega)]; omega
      · rw [if_neg h2, if_neg (by omega)]; rfl
theorem sumK_if (P : Prop) [Decidable P] (f : Nat → Int) (n : Nat) : sumK (fun v => if P then f v else 0) n = if P then sumK f n else 0 := by
  by_cases h : P
  · simp only [if_pos h]
  · simp only [if_neg h]; exact sumK_zero n
theorem sumK_swap (F : Nat → Nat → Int) (m : Nat) : ∀ n, sumK (fun a => sumK (fun b => F a b) m) n = sumK (fun b => sumK (fun a => F a b) n) m := by
  intro n
  induction n with
  | zero => exact (sumK_zero m).symm
  | succ n ih =>
    rw [show sumK (fun a => sumK (fun b => F a b) m) (n + 1) = sumK (fun a => sumK (fun b => F a b) m) n + sumK (fun b => F n b) m from rfl, ih, ← sumK_add]
    rfl
/-- how many nodes are joined to two different ones -/
def cK (A : Nat → Nat → Bool) (n v w : Nat) : Int := sumK (fun x => if v ≠ w ∧ A x v = true ∧ A x w = true then 1 else 0) n
def pK (x : Int) : Int := x * (x - 1) / 2
/-- the squares of a node -/
def nK (A : Nat → Nat → Bool) (n v : Nat) : Int := sumK (fun w => pK (cK A n v w)) n
/-- the squares over an edge -/
def oK (A : Nat → Nat → Bool) (n p q : Nat) : Int := sumK (fun w => if A q w = true then cK A n p w else 0) n
/-- a graph, and one with an edge more -/
structure AddK (A B : Nat → Nat → Bool) (n p q : Nat) : Prop where
  sym : ∀ i j, A i j = A j i
  irr : ∀ i, A i i = false
  hp : p < n
  hq : q < n
  ne : p ≠ q
  not : A p q = false
  add : ∀ i j, B i j = (A i j || (decide (i = p) && decide (j = q)) || (decide (i = q) && decide (j = p)))
theorem AddK.swap {A B : Nat → Nat → Bool} {n p q : Nat} (h : AddK A B n p q) : AddK A B n q p :=
  ⟨h.sym, h.irr, h.hq, h.hp, fun e => h.ne e.symm, by rw [h.sym]; exact h.not, fun i j => by rw [h.add, Bool.or_right_comm]⟩
def i1K (A : Nat → Nat → Bool) (p q v w : Nat) : Int := if v ≠ w ∧ ((v = p ∧ A q w = true) ∨ (w = p ∧ A q v = true)) then 1 else 0
theorem cK_self (A : Nat → Nat → Bool) (n v : Nat) : cK A n v v = 0 := by unfold cK; rw [sumK_congr (g := fun _ => 0) n fun x _ => by simp]; exact sumK_zero n
theorem cK_comm (A : Nat → Nat → Bool) (n v w : Nat) : cK A n v w = cK A n w v := by
  unfold cK
  refine sumK_congr n fun x _ => ?_
  by_cases h : v ≠ w ∧ A x v = true ∧ A x w = true
  · rw [if_pos h, if_pos ⟨fun e => h.1 e.symm, h.2.2, h.2.1⟩]
  · rw [if_neg h, if_neg fun k => h ⟨fun e => k.1 e.symm, k.2.2, k.2.1⟩]
theorem cK_add {A B : Nat → Nat → Bool} {n p q : Nat} (h : AddK A B n p q) (v w : Nat) : cK B n v w = cK A n v w + i1K A p q v w + i1K A q p v w := by
  have hqp : A q p = false := by rw [h.sym]; exact h.not
  have hpt : ∀ x, (if v ≠ w ∧ B x v = true ∧ B x w = true then (1 : Int) else 0) = (if v ≠ w ∧ A x v = true ∧ A x w = true then 1 else 0) + (if x = q then i1K A p q v w else 0) + (if x = p then i1K A q p v w else 0) := by
    intro x
    by_cases hvw : v = w
    · subst hvw; simp [i1K]
    · by_cases hxq : x = q
      · subst hxq
        have hxp : ¬ x = p := fun e => h.ne e.symm
        rw [if_pos rfl, if_neg hxp, h.add, h.add]
        unfold i1K
        by_cases hv : v = p
        · subst hv
          have hw : ¬ w = v := fun e => hvw e.symm
          simp [hxp, hw, hvw, hqp]
        · by_cases hw : w = p
          · subst hw
            simp [hxp, hv, hqp]
          · simp [hxp, hv, hw, hvw]
      · by_cases hxp : x = p
        · subst hxp
          rw [if_neg hxq, if_pos rfl, h.add, h.add]
          unfold i1K
          by_cases hv : v = q
          · subst hv
            have hw : ¬ w = v := fun e => hvw e.symm
            simp [hxq, hw, hvw, h.not]
          · by_cases hw : w = q
            · subst hw
              simp [hxq, hv, h.not]
            · simp [hxq, hv, hw, hvw]
        · rw [if_neg hxq, if_neg hxp, h.add, h.add]
          simp [hxq, hxp]
  unfold cK
  rw [sumK_congr n fun x _ => hpt x, sumK_add, sumK_add, sumK_one q (fun _ => i1K A p q v w), sumK_one p (fun _ => i1K A q p v w), if_pos h.hq, if_pos h.hp]
theorem pK_zero (c : Int) : pK (c + 0) = pK c := by rw [Int.add_zero]
theorem pK_one (c : Int) : pK (c + 1) = pK c + c := by
  unfold pK
  have e : (c + 1) * (c + 1 - 1) = c * (c - 1) + c * 2 := by
    rw [Int.add_sub_cancel, Int.mul_sub, Int.add_mul]
    omega
  rw [e, Int.add_mul_ediv_right _ _ (by decide)]
theorem i1K_cases {A B : Nat → Nat → Bool} {n p q : Nat} (h : AddK A B n p q) (v w : Nat) : (i1K A p q v w = 0 ∨ i1K A p q v w = 1) ∧ (i1K A q p v w = 0 ∨ i1K A q p v w = 1) ∧ (i1K A p q v w = 1 → i1K A q p v w = 0) := by
  unfold i1K
  refine ⟨by split <;> simp, by split <;> simp, fun h1 => ?_⟩
  split at h1
  · rename_i hc
    rw [if_neg]
    rintro ⟨-, hd⟩
    obtain ⟨hvw, hc⟩ := hc
    have hq := h.irr q
    have hp := h.irr p
    have hne := h.ne
    rcases hc with ⟨e1, a1⟩ | ⟨e1, a1⟩ <;> rcases hd with ⟨e2, a2⟩ | ⟨e2, a2⟩
    · exact hne (e1.symm.trans e2)
    · rw [e2, hq] at a1; cases a1
    · rw [e2, hq] at a1; cases a1
    · exact hne (e1.symm.trans e2)
  · cases h1
theorem pK_add {A B : Nat → Nat → Bool} {n p q : Nat} (h : AddK A B n p q) (v w : Nat) : pK (cK B n v w) = pK (cK A n v w) + (i1K A p q v w * cK A n v w + i1K A q p v w * cK A n v w) := by
  rw [cK_add h]
  obtain ⟨h1, h2, h3⟩ := i1K_cases h v w
  rcases h1 with h1 | h1
  · rcases h2 with h2 | h2
    · rw [h1, h2]; simp
    · rw [h1, h2, Int.add_zero, pK_one]; omega
  · rw [h1, h3 h1, Int.add_zero, pK_one]; omega
theorem i1K_sum {A B : Nat → Nat → Bool} {n p q : Nat} (h : AddK A B n p q) (v : Nat) : sumK (fun w => i1K A p q v w * cK A n v w) n = (if v = p then oK A n p q else 0) + (if A q v = true then cK A n v p else 0) := by
  have hqp : A q p = false := by rw [h.sym]; exact h.not
  have hpt : ∀ w, i1K A p q v w * cK A n v w = (if v = p then (if A q w = true then cK A n p w else 0) else 0) + (if w = p then (if A q v = true then cK A n v w else 0) else 0) := by
    intro w
    unfold i1K
    by_cases hvw : v = w
    · subst hvw
      rw [cK_self]
      by_cases hv : v = p
      · subst hv; simp [hqp]
      · simp [hv]
    · by_cases hv : v = p
      · subst hv
        have hw : ¬ w = v := fun e => hvw e.symm
        by_cases ha : A q w = true
        · simp [hvw, hw, ha]
        · simp [hw, ha]
      · by_cases hw : w = p
        · subst hw
          by_cases ha : A q v = true
          · simp [hv, ha]
          · simp [hv, ha]
        · simp [hv, hw]
  rw [sumK_congr n fun w _ => hpt w, sumK_add, sumK_if, sumK_one p (fun w => if A q v = true then cK A n v w else 0), if_pos h.hp]
  rfl
/-- what an edge more adds to the squares of a node -/
theorem nK_add {A B : Nat → Nat → Bool} {n p q : Nat} (h : AddK A B n p q) (v : Nat) : nK B n v = nK A n v + (if v = p then oK A n p q else 0) + (if A q v = true then cK A n v p else 0) + (if v = q then oK A n q p else 0) + (if A p v = true then cK A n v q else 0) := by
  unfold nK
  rw [sumK_congr n fun w _ => pK_add h v w, sumK_add, sumK_add, i1K_sum h v, i1K_sum h.swap v]
  omega
/-- the squares over an edge are the same from both ends -/
theorem oK_comm {A B : Nat → Nat → Bool} {n p q : Nat} (h : AddK A B n p q) : oK A n p q = oK A n q p := by
  have hqp : A q p = false := by rw [h.sym]; exact h.not
  have hpq := h.not
  have e : ∀ a b : Nat, A b a = false → oK A n a b = sumK (fun w => sumK (fun x => if A b w = true ∧ A x a = true ∧ A x w = true then 1 else 0) n) n := by
    intro a b hab
    unfold oK cK
    refine sumK_congr n fun w _ => ?_
    by_cases hb : A b w = true
    · rw [if_pos hb]
      refine sumK_congr n fun x _ => ?_
      have hne : a ≠ w := fun e => by rw [e] at hab; rw [hab] at hb; cases hb
      simp [hb, hne]
    · rw [if_neg hb, sumK_congr (g := fun _ => 0) n fun x _ => by simp [hb]]
      exact (sumK_zero n).symm
  rw [e p q hqp, e q p hpq, sumK_swap]
  refine sumK_congr n fun w _ => sumK_congr n fun x _ => ?_
  rw [h.sym w p, h.sym x q, h.sym w x]
  by_cases h1 : A q x = true <;> by_cases h2 : A p w = true <;> by_cases h3 : A x w = true <;> simp [h1, h2, h3]
theorem sumK_cK {A B : Nat → Nat → Bool} {n p q : Nat} (_ : AddK A B n p q) : sumK (fun v => if A q v = true then cK A n v p else 0) n = oK A n p q := by
  unfold oK
  refine sumK_congr n fun v _ => ?_
  rw [cK_comm]
/-- what an edge more adds to the squares of all nodes -/
theorem nT_add {A B : Nat → Nat → Bool} {n p q : Nat} (h : AddK A B n p q) : sumK (nK B n) n = sumK (nK A n) n + 4 * oK A n p q := by
  have hs : sumK (nK B n) n = sumK (fun v => nK A n v + (if v = p then oK A n p q else 0) + (if A q v = true then cK A n v p else 0) + (if v = q then oK A n q p else 0) + (if A p v = true then cK A n v q else 0)) n := sumK_congr n fun v _ => nK_add h v
  rw [hs, sumK_add, sumK_add, sumK_add, sumK_add, sumK_one p (fun _ => oK A n p q), sumK_one q (fun _ => oK A n q p), if_pos h.hp, if_pos h.hq, sumK_cK h, sumK_cK h.swap, ← oK_comm h]
  have : sumK (fun v => nK A n v) n = sumK (nK A n) n := rfl
  omega
/-- how many nodes are joined to one -/
def dK (A : Nat → Nat → Bool) (n v : Nat) : Int := sumK (fun x => if A v x = true then 1 else 0) n
def wK (A : Nat → Nat → Bool) (n : Nat) : Int := sumK (fun v => pK (dK A n v)) n
theorem dK_add {A B : Nat → Nat → Bool} {n p q : Nat} (h : AddK A B n p q) (v : Nat) : dK B n v = dK A n v + (if v = p then 1 else 0) + (if v = q then 1 else 0) := by
  have hqp : A q p = false := by rw [h.sym]; exact h.not
  have hpq := h.not
  have hne := h.ne
  have hpt : ∀ x, (if B v x = true then (1 : Int) else 0) = (if A v x = true then 1 else 0) + (if x = q then (if v = p then 1 else 0) else 0) + (if x = p then (if v = q then 1 else 0) else 0) := by
    intro x
    rw [h.add]
    by_cases hv : v = p
    · subst hv
      have h1 : ¬ v = q := hne
      by_cases hx : x = q
      · subst hx
        have h2 : ¬ x = v := fun e => hne e.symm
        simp [hpq, h1, h2]
      · simp [h1, hx]
    · by_cases hv2 : v = q
      · subst hv2
        by_cases hx : x = p
        · subst hx
          have h2 : ¬ x = v := hne
          simp [hqp, h2]
        · simp [hv, hx]
      · simp [hv, hv2]
  unfold dK
  rw [sumK_congr n fun x _ => hpt x, sumK_add, sumK_add, sumK_one q (fun _ => if v = p then 1 else 0), sumK_one p (fun _ => if v = q then 1 else 0), if_pos h.hp, if_pos h.hq]
/-- what an edge more adds to the wedges -/
theorem wK_add {A B : Nat → Nat → Bool} {n p q : Nat} (h : AddK A B n p q) : wK B n = wK A n + dK A n p + dK A n q := by
  have hpt : ∀ v, pK (dK B n v) = pK (dK A n v) + (if v = p then dK A n p else 0) + (if v = q then dK A n q else 0) := by
    intro v
    rw [dK_add h]
    by_cases hv : v = p
    · subst hv
      have h1 : ¬ v = q := h.ne
      simp only [if_neg h1, Int.add_zero]
      exact pK_one _
    · by_cases hv2 : v = q
      · subst hv2
        simp only [if_neg hv, Int.add_zero]
        exact pK_one _
      · simp [hv, hv2]
  unfold wK
  rw [sumK_congr n fun v _ => hpt v, sumK_add, sumK_add, sumK_one p (fun _ => dK A n p), sumK_one q (fun _ => dK A n q), if_pos h.hp, if_pos h.hq]
/-- the pairs over an edge -/
def ovK (A : Nat → Nat → Bool) (n p q : Nat) : List (Nat × Nat) := ((List.range n).filter fun x => A p x).flatMap fun a => if a = q then [] else (((List.range n).filter fun x => A q x).filter fun b => b != p && A a b).map fun b => (a, b)
theorem len_filterK (P : Nat → Bool) : ∀ n, (((List.range n).filter P).length : Int) = sumK (fun b => if P b = true then 1 else 0) n := by
  intro n
  induction n with
  | zero => rfl
  | succ n ih =>
    rw [List.range_succ, List.filter_append, List.length_append]
    unfold sumK
    rw [← ih]
    cases h : P n <;> simp [List.filter, h]
theorem len_flatK {α : Type} (P : Nat → Bool) (F : Nat → List α) : ∀ n, ((((List.range n).filter P).flatMap F).length : Int) = sumK (fun a => if P a = true then ((F a).length : Int) else 0) n := by
  intro n
  induction n with
  | zero => rfl
  | succ n ih =>
    rw [List.range_succ, List.filter_append, List.flatMap_append, List.length_append]
    unfold sumK
    rw [← ih]
    cases h : P n <;> simp [List.filter, h]
theorem ovK_cnt (A : Nat → Nat → Bool) (n p q : Nat) (g : Nat × Nat → Bool) : (((ovK A n p q).filter g).length : Int) = sumK (fun a => sumK (fun b => if A p a = true ∧ a ≠ q ∧ A q b = true ∧ b ≠ p ∧ A a b = true ∧ g (a, b) = true then 1 else 0) n) n := by
  unfold ovK
  rw [List.filter_flatMap, len_flatK]
  refine sumK_congr n fun a _ => ?_
  by_cases h1 : A p a = true
  · rw [if_pos h1]
    by_cases h2 : a = q
    · rw [if_pos h2, sumK_congr (g := fun _ => 0) n fun b _ => by simp [h2]]
      rw [sumK_zero]; rfl
    · rw [if_neg h2, List.filter_map, List.length_map, List.filter_filter, List.filter_filter, len_filterK]
      refine sumK_congr n fun b _ => ?_
      by_cases h3 : A q b = true <;> by_cases h4 : b = p <;> by_cases h5 : A a b = true <;> by_cases h6 : g (a, b) = true <;> simp [h1, h2, h3, h4, h5, h6]
  · rw [if_neg h1, sumK_congr (g := fun _ => 0) n fun b _ => by simp [h1]]
    exact (sumK_zero n).symm
theorem ovK_len {A B : Nat → Nat → Bool} {n p q : Nat} (h : AddK A B n p q) : ((ovK A n p q).length : Int) = oK A n p q := by
  have hqp : A q p = false := by rw [h.sym]; exact h.not
  have hpq := h.not
  have e := ovK_cnt A n p q (fun _ => true)
  rw [List.filter_eq_self.2 fun _ _ => rfl] at e
  rw [e, sumK_swap]
  unfold oK cK
  refine sumK_congr n fun b _ => ?_
  by_cases h1 : A q b = true
  · rw [if_pos h1]
    refine sumK_congr n fun a _ => ?_
    have h2 : p ≠ b := fun e => by rw [← e, hqp] at h1; cases h1
    have h3 : b ≠ p := fun e => h2 e.symm
    by_cases h4 : A p a = true
    · have h5 : a ≠ q := fun e => by rw [e, hpq] at h4; cases h4
      have h6 : A a p = true := by rw [h.sym]; exact h4
      simp [h1, h2, h3, h4, h5, h6]
    · have h6 : ¬ A a p = true := by rw [h.sym]; exact h4
      simp [h4, h6]
  · rw [if_neg h1, sumK_congr (g := fun _ => 0) n fun a _ => by simp [h1]]
    exact sumK_zero n
theorem ovK_fst {A B : Nat → Nat → Bool} {n p q w : Nat} (h : AddK A B n p q) (hw : w < n) : (((ovK A n p q).filter fun x => x.1 == w).length : Int) = if A p w = true then cK A n w q else 0 := by
  have hqp : A q p = false := by rw [h.sym]; exact h.not
  have hpq := h.not
  rw [ovK_cnt]
  have hpt : ∀ a, sumK (fun b => if A p a = true ∧ a ≠ q ∧ A q b = true ∧ b ≠ p ∧ A a b = true ∧ ((a, b).1 == w) = true then (1 : Int) else 0) n = if a = w then (if A p w = true then cK A n w q else 0) else 0 := by
    intro a
    by_cases ha : a = w
    · subst ha
      rw [if_pos rfl]
      by_cases h1 : A p a = true
      · rw [if_pos h1]
        unfold cK
        refine sumK_congr n fun b _ => ?_
        have h2 : a ≠ q := fun e => by rw [e, hpq] at h1; cases h1
        rw [h.sym b a, h.sym b q]
        by_cases h3 : A q b = true
        · have h4 : b ≠ p := fun e => by rw [e, hqp] at h3; cases h3
          by_cases h5 : A a b = true <;> simp [h1, h2, h3, h4, h5]
        · simp [h3]
      · rw [if_neg h1, sumK_congr (g := fun _ => 0) n fun b _ => by simp [h1]]
        exact sumK_zero n
    · rw [if_neg ha, sumK_congr (g := fun _ => 0) n fun b _ => by simp [ha]]
      exact sumK_zero n
  rw [sumK_congr n fun a _ => hpt a, sumK_one w (fun _ => if A p w = true then cK A n w q else 0), if_pos hw]
theorem ovK_snd {A B : Nat → Nat → Bool} {n p q w : Nat} (h : AddK A B n p q) (hw : w < n) : (((ovK A n p q).filter fun x => x.2 == w).length : Int) = if A q w = true then cK A n w p else 0 := by
  rw [← ovK_fst h.swap hw, ovK_cnt, ovK_cnt, sumK_swap]
  refine sumK_congr n fun b _ => sumK_congr n fun a _ => ?_
  rw [h.sym b a]
  by_cases h1 : A p a = true <;> by_cases h2 : a = q <;> by_cases h3 : A q b = true <;> by_cases h4 : b = p <;> by_cases h5 : A a b = true <;> by_cases h6 : b = w <;> simp [h1, h2, h3, h4, h5, h6]
end Go.Proofs.Ytdkmdcdoiaelfaa

namespace Go.Proofs.Ytdkmdcdoiaelfaa

def delE (es : List E2) (t : E2) : List E2 := es.filter fun e => decide (e ≠ t)
theorem before_irr (t : E2) : ¬ beforeB t t = true := by rw [before_iff]; omega
theorem before_asym {x y : E2} (h : beforeB x y = true) : ¬ beforeB y x = true := by rw [before_iff] at *; omega
/-- an edge that is not there comes to its place -/
theorem ins_at : ∀ (es : List E2) (t : E2) (i : Nat), i ≤ es.length → (∀ k e, k < i → es[k]? = some e → beforeB e t = true) → (∀ k e, i ≤ k → es[k]? = some e → beforeB e t = false) → t ∉ es → es.take i ++ t :: es.drop i = insE es t := by
  intro es
  induction es with
  | nil =>
    intro t i hi _ _ _
    have h0 : i = 0 := Nat.le_zero.1 hi
    subst h0
    rfl
  | cons x es ih =>
    intro t i hi h1 h2 ht
    unfold insE
    cases i with
    | zero =>
      have hb := h2 0 x (Nat.le_refl _) rfl
      rw [if_neg (by rw [hb]; simp), if_neg (fun e : x = t => ht (by rw [e]; exact List.mem_cons_self))]
      rfl
    | succ i =>
      have hb := h1 0 x (by omega) rfl
      rw [if_pos hb, ← ih t i (by simpa using hi) (fun k e hk he => h1 (k + 1) e (by omega) (by simpa using he)) (fun k e hk he => h2 (k + 1) e (by omega) (by simpa using he)) (fun h => ht (List.mem_cons_of_mem _ h))]
      rfl
/-- an edge that is there goes from its place -/
theorem del_at : ∀ (es : List E2) (t : E2) (i : Nat), es.Pairwise (fun a b => beforeB a b = true) → i ≤ es.length → (∀ k e, k < i → es[k]? = some e → beforeB e t = true) → (∀ k e, i ≤ k → es[k]? = some e → beforeB e t = false) → t ∈ es → i < es.length ∧ es.take i ++ es.drop (i + 1) = delE es t := by
  intro es
  induction es with
  | nil => intro t i _ _ _ _ ht; cases ht
  | cons x es ih =>
    intro t i hs hi h1 h2 ht
    obtain ⟨s1, s2⟩ := List.pairwise_cons.1 hs
    unfold delE
    rw [List.filter_cons]
    cases i with
    | zero =>
      have hb := h2 0 x (Nat.le_refl _) rfl
      rcases List.mem_cons.1 ht with e | ht
      · subst e
        refine ⟨by simp, ?_⟩
        rw [if_neg (by simp)]
        show es = _
        rw [List.filter_eq_self.2 fun y hy => ?_]
        have := s1 y hy
        simp only [decide_eq_true_eq]
        intro e
        rw [e] at this
        exact before_irr _ this
      · have := s1 t ht
        rw [hb] at this
        cases this
    | succ i =>
      have hb := h1 0 x (by omega) rfl
      have hne : x ≠ t := fun e => by rw [e] at hb; exact before_irr _ hb
      have ht2 : t ∈ es := by
        rcases List.mem_cons.1 ht with e | ht
        · exact absurd e.symm hne
        · exact ht
      obtain ⟨k1, k2⟩ := ih t i s2 (by simpa using hi) (fun k e hk he => h1 (k + 1) e (by omega) (by simpa using he)) (fun k e hk he => h2 (k + 1) e (by omega) (by simpa using he)) ht2
      refine ⟨by simpa using k1, ?_⟩
      rw [if_pos (by simpa using hne)]
      unfold delE at k2
      rw [← k2]
      rfl
/-- what has come goes again -/
theorem del_ins : ∀ (es : List E2) (t : E2), t ∉ es → delE (insE es t) t = es := by
  intro es
  induction es with
  | nil => intro t _; simp [delE, insE]
  | cons x es ih =>
    intro t ht
    have hne : x ≠ t := fun e => ht (by rw [e]; exact List.mem_cons_self)
    have ht2 : t ∉ es := fun h => ht (List.mem_cons_of_mem _ h)
    unfold insE
    split
    · unfold delE
      rw [List.filter_cons, if_pos (by simpa using hne)]
      have := ih t ht2
      unfold delE at this
      rw [this]
    · unfold delE
      first
        | rw [if_neg hne, List.filter_cons, if_neg (by simp), List.filter_eq_self.2 fun y hy => ?_]
        | rw [List.filter_cons, if_neg (by simp), List.filter_eq_self.2 fun y hy => ?_]
      simp only [decide_eq_true_eq]
      exact fun e => ht (by rw [← e]; exact hy)
theorem delE_mem {es : List E2} {t x : E2} : x ∈ delE es t ↔ x ∈ es ∧ x ≠ t := by
  unfold delE
  rw [List.mem_filter, decide_eq_true_eq]
theorem delE_sub (es : List E2) (t : E2) : (delE es t).Sublist es := List.filter_sublist
theorem Valid.del {n : Int} {es : List E2} (h : Valid n es) (t : E2) : Valid n (delE es t) := ⟨h.1, h.2.1, fun e he => h.2.2.1 e (delE_mem.1 he).1, h.2.2.2.sublist (delE_sub es t)⟩
/-- whether two nodes are joined (word for word the other texts' adjB) -/
def adjK (es : List E2) (i j : Nat) : Bool := es.any fun e => decide ((e.1 = i ∧ e.2 = j) ∨ (e.1 = j ∧ e.2 = i))
theorem adjK_iff (es : List E2) (i j : Nat) : adjK es i j = true ↔ ((i : Int), (j : Int)) ∈ es ∨ ((j : Int), (i : Int)) ∈ es := by
  unfold adjK
  rw [List.any_eq_true]
  constructor
  · rintro ⟨⟨x, y⟩, he, h⟩
    simp only [decide_eq_true_eq] at h
    rcases h with ⟨h1, h2⟩ | ⟨h1, h2⟩
    · left; rw [← h1, ← h2]; exact he
    · right; rw [← h1, ← h2]; exact he
  · rintro (h | h)
    · exact ⟨_, h, by simp⟩
    · exact ⟨_, h, by simp⟩
/-- two graphs that differ by one edge -/
theorem addK_of {n : Nat} {es fs : List E2} {p q : Nat} (hf : Valid n fs) (hpq : p < q) (hq : q < n) (hno : ((p : Int), (q : Int)) ∉ es) (hm : ∀ x, x ∈ fs ↔ x ∈ es ∨ x = ((p : Int), (q : Int))) : AddK (adjK es) (adjK fs) n p q := by
  have he : ∀ x ∈ es, Ins n x := fun x hx => hf.2.2.1 x ((hm x).2 (.inl hx))
  have no2 : ((q : Int), (p : Int)) ∉ es := fun h => by have := he _ h; unfold Ins at this; dsimp only at this; omega
  refine ⟨fun i j => ?_, fun i => ?_, by omega, hq, by omega, ?_, fun i j => ?_⟩
  · rw [Bool.eq_iff_iff, adjK_iff, adjK_iff]; exact Or.comm
  · cases h : adjK es i i with
    | false => rfl
    | true =>
      rcases (adjK_iff _ _ _).1 h with h | h <;> (have := he _ h; unfold Ins at this; dsimp only at this; omega)
  · cases h : adjK es p q with
    | false => rfl
    | true =>
      rcases (adjK_iff _ _ _).1 h with h | h
      · exact absurd h hno
      · exact absurd h no2
  · rw [Bool.eq_iff_iff, adjK_iff, hm, hm]
    simp only [Bool.or_eq_true, Bool.and_eq_true, decide_eq_true_eq, adjK_iff, Prod.mk.injEq, Int.ofNat_inj]
    constructor
    · rintro ((h | h) | (h | h))
      · exact .inl (.inl (.inl h))
      · exact .inl (.inr h)
      · exact .inl (.inl (.inr h))
      · exact .inr ⟨h.2, h.1⟩
    · rintro (((h | h) | h) | h)
      · exact .inl (.inl h)
      · exact .inr (.inl h)
      · exact .inl (.inr h)
      · exact .inr (.inr ⟨h.2, h.1⟩)
end Go.Proofs.Ytdkmdcdoiaelfaa
