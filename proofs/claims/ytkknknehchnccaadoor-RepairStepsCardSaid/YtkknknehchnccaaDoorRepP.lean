/- The plain law of core numbers that are kept: what an edge more, or less, does to them. -/
import Derived.Test.YtkknknehchnccaaDoorPeel
namespace Go.Proofs.YtkknknehchnccaaDoor

/-- how many neighbours of v are in a set -/
def dgA (A : Nat → Nat → Bool) (n : Nat) (S : Nat → Bool) (v : Nat) : Nat := ((List.range n).filter fun x => A v x && S x).length
/-- these are the core numbers -/
def CoreOf (A : Nat → Nat → Bool) (n : Nat) (c : Nat → Nat) : Prop := ∀ v, v < n → ∀ k, InCore (dgA A n) n k v ↔ k ≤ c v
theorem filter_le_A (p q : Nat → Bool) (n : Nat) (h : ∀ x, x < n → p x = true → q x = true) : ((List.range n).filter p).length ≤ ((List.range n).filter q).length := by
  induction n with
  | zero => exact Nat.le_refl _
  | succ n ih =>
    rw [List.range_succ, List.filter_append, List.filter_append, List.length_append, List.length_append]
    have h1 := ih fun x hx => h x (by omega)
    cases hp : p n with
    | false => simp [hp]; omega
    | true => have := h n (by omega) hp; simp [hp, this]; omega
theorem filter_one_A (p q : Nat → Bool) (z : Nat) (n : Nat) (h : ∀ x, x < n → p x = true → x ≠ z → q x = true) : ((List.range n).filter p).length ≤ ((List.range n).filter q).length + 1 := by
  induction n with
  | zero => exact Nat.zero_le _
  | succ n ih =>
    rw [List.range_succ, List.filter_append, List.filter_append, List.length_append, List.length_append]
    by_cases hz : n = z
    · have h1 := filter_le_A p q n fun x hx hpx => h x (by omega) hpx (by omega)
      have : (List.filter p [n]).length ≤ 1 := List.length_filter_le _ _
      omega
    · have h1 := ih fun x hx => h x (by omega)
      cases hp : p n with
      | false => simp [hp]; omega
      | true => have := h n (by omega) hp hz; simp [hp, this]; omega
theorem dgA_mono {A B : Nat → Nat → Bool} {n : Nat} {S T : Nat → Bool} {v : Nat} (h : ∀ x, x < n → A v x = true → S x = true → B v x = true ∧ T x = true) : dgA A n S v ≤ dgA B n T v :=
  filter_le_A _ _ n fun x hx hp => by
    simp only [Bool.and_eq_true] at hp ⊢
    exact h x hx hp.1 hp.2
/-- a graph, and one with an edge more -/
structure MoreE (A B : Nat → Nat → Bool) (n p q : Nat) : Prop where
  hp : p < n
  hq : q < n
  ne : p ≠ q
  sub : ∀ i j, A i j = true → B i j = true
  add : ∀ i j, B i j = true → A i j = true ∨ (i = p ∧ j = q) ∨ (i = q ∧ j = p)
  sym : ∀ i j, B i j = true → B j i = true
/-- the nodes of number k, from p and q on -/
structure RegI (B : Nat → Nat → Bool) (n : Nat) (c : Nat → Nat) (k p q : Nat) (R : Nat → Bool) : Prop where
  lev : ∀ x, R x = true → x < n ∧ c x = k
  p0 : c p = k → R p = true
  q0 : c q = k → R q = true
  cl : ∀ x y, R x = true → B x y = true → y < n → c y = k → R y = true
/-- the greatest part of R in which each node has at least k neighbours in it and in U -/
structure Settle (B : Nat → Nat → Bool) (n : Nat) (R U : Nat → Bool) (k : Nat) (S : Nat → Bool) : Prop where
  sub : ∀ x, S x = true → R x = true
  good : ∀ x, S x = true → k ≤ dgA B n (fun y => S y || U y) x
  top : ∀ T : Nat → Bool, (∀ x, T x = true → R x = true) → (∀ x, T x = true → k ≤ dgA B n (fun y => T y || U y) x) → ∀ x, T x = true → S x = true
theorem level_good {A : Nat → Nat → Bool} {n : Nat} {c : Nat → Nat} (hc : CoreOf A n c) (j : Nat) : ∀ x, x < n → j ≤ c x → j ≤ dgA A n (fun y => decide (y < n ∧ j ≤ c y)) x := by
  intro x hx hj
  obtain ⟨S, h1, h2, h3⟩ := (hc x hx j).2 hj
  refine Nat.le_trans (h1 x h3) (dgA_mono fun y hy ha hs => ⟨ha, ?_⟩)
  exact decide_eq_true ⟨hy, (hc y hy j).1 ⟨S, h1, h2, hs⟩⟩
/-- AN EDGE MORE. -/
theorem core_more {A B : Nat → Nat → Bool} {n p q : Nat} {c : Nat → Nat} (h : MoreE A B n p q) (hc : CoreOf A n c) {k : Nat} (hk : k = min (c p) (c q)) {R S : Nat → Bool} (hR : RegI B n c k p q R) (hS : Settle B n R (fun y => decide (y < n ∧ k < c y)) (k + 1) S) :
    CoreOf B n (fun v => if S v = true then k + 1 else c v) := by
  intro v hv j
  constructor
  · rintro ⟨T, t1, t2, t3⟩
    by_cases hj : j ≤ c v
    · by_cases hs : S v = true
      · have := (hR.lev v (hS.sub v hs)).2
        show j ≤ if S v = true then k + 1 else c v
        rw [if_pos hs]; omega
      · show j ≤ if S v = true then k + 1 else c v
        rw [if_neg hs]; exact hj
    -- all of T is of number j - 1 at least
    have hT : ∀ x, T x = true → j ≤ c x + 1 := fun x hx => by
      have : InCore (dgA A n) n (j - 1) x := ⟨T, fun y hy => by
        have g := t1 y hy
        have : dgA B n T y ≤ dgA A n T y + 1 := by
          by_cases hyp : y = p
          · refine filter_one_A _ _ q n fun x hx hb hne => ?_
            simp only [Bool.and_eq_true] at hb ⊢
            refine ⟨?_, hb.2⟩
            rcases h.add y x hb.1 with h1 | ⟨_, h1⟩ | ⟨h1, _⟩
            · exact h1
            · exact absurd h1 hne
            · exact absurd (hyp.symm.trans h1) h.ne
          · refine filter_one_A _ _ p n fun x hx hb hne => ?_
            simp only [Bool.and_eq_true] at hb ⊢
            refine ⟨?_, hb.2⟩
            rcases h.add y x hb.1 with h1 | ⟨h1, _⟩ | ⟨_, h1⟩
            · exact h1
            · exact absurd h1 hyp
            · exact absurd h1 hne
        omega, t2, hx⟩
      have := (hc x (t2 x hx) (j - 1)).1 this
      omega
    -- the edge is needed, so k is j - 1
    have hpT : T p = true ∧ T q = true := by
      refine Classical.byContradiction fun hno => hj ((hc v hv j).1 ⟨T, fun y hy => Nat.le_trans (t1 y hy) (dgA_mono fun x hx hb hs => ⟨?_, hs⟩), t2, t3⟩)
      rcases h.add y x hb with h1 | ⟨h1, h2⟩ | ⟨h1, h2⟩
      · exact h1
      · exact absurd ⟨h1 ▸ hy, h2 ▸ hs⟩ hno
      · exact absurd ⟨h2 ▸ hs, h1 ▸ hy⟩ hno
    have hkj : k + 1 = j := by
      have e1 := hT p hpT.1
      have e2 := hT q hpT.2
      by_cases hlt : k + 1 = j
      · exact hlt
      · exfalso
        refine hj ((hc v hv j).1 ⟨fun x => T x || decide (x < n ∧ j ≤ c x), fun y hy => ?_, fun y hy => ?_, by simp [t3]⟩)
        · by_cases hjy : y < n ∧ j ≤ c y
          · exact Nat.le_trans (level_good hc j y hjy.1 hjy.2) (dgA_mono fun x hx ha hs => ⟨ha, by rw [hs]; simp⟩)
          · have hyT : T y = true := by
              rcases Bool.or_eq_true_iff.1 hy with h1 | h1
              · exact h1
              · exact absurd (of_decide_eq_true h1) hjy
            refine Nat.le_trans (t1 y hyT) (dgA_mono fun x hx hb hs => ⟨?_, by rw [hs]; rfl⟩)
            rcases h.add y x hb with h1 | ⟨h1, _⟩ | ⟨h1, _⟩
            · exact h1
            · exact absurd ⟨t2 y hyT, by rw [h1]; omega⟩ hjy
            · exact absurd ⟨t2 y hyT, by rw [h1]; omega⟩ hjy
        · rcases Bool.or_eq_true_iff.1 hy with h1 | h1
          · exact t2 y h1
          · exact (of_decide_eq_true h1).1
    subst hkj
    have hcv : c v = k := by have := hT v t3; omega
    -- what of T is of number k lies in R
    have hTR : ∀ x, T x = true → c x = k → R x = true := by
      intro x hx hcx
      refine Classical.byContradiction fun hno => ?_
      have : InCore (dgA A n) n (k + 1) x := ⟨fun y => (T y && decide (c y = k) && !R y) || decide (y < n ∧ k + 1 ≤ c y), fun y hy => ?_, fun y hy => ?_, by simp [hx, hcx]; left; simpa using hno⟩
      · have := (hc x (t2 x hx) (k + 1)).1 this
        omega
      · by_cases hjy : y < n ∧ k + 1 ≤ c y
        · exact Nat.le_trans (level_good hc (k + 1) y hjy.1 hjy.2) (dgA_mono fun z hz ha hs => ⟨ha, by rw [hs]; simp⟩)
        · have hm : T y = true ∧ c y = k ∧ ¬ R y = true := by
            rcases Bool.or_eq_true_iff.1 hy with h1 | h1
            · simp only [Bool.and_eq_true, decide_eq_true_eq, Bool.not_eq_true'] at h1
              exact ⟨h1.1.1, h1.1.2, by rw [h1.2]; simp⟩
            · exact absurd (of_decide_eq_true h1) hjy
          refine Nat.le_trans (t1 y hm.1) (dgA_mono fun z hz hb hs => ⟨?_, ?_⟩)
          · rcases h.add y z hb with h1 | ⟨h1, _⟩ | ⟨h1, _⟩
            · exact h1
            · exact absurd (hR.p0 (by rw [← h1]; exact hm.2.1)) (by rw [← h1]; exact hm.2.2)
            · exact absurd (hR.q0 (by rw [← h1]; exact hm.2.1)) (by rw [← h1]; exact hm.2.2)
          · have h1 := hT z hs
            by_cases hz2 : c z = k
            · have : ¬ R z = true := fun hr => hm.2.2 (hR.cl z y hr (h.sym y z hb) (t2 y hm.1) hm.2.1)
              simp [hs, hz2, this]
            · have : k + 1 ≤ c z := by omega
              simp [hz, this]
      · rcases Bool.or_eq_true_iff.1 hy with h1 | h1
        · simp only [Bool.and_eq_true] at h1; exact t2 y h1.1.1
        · exact (of_decide_eq_true h1).1
    have hsv : S v = true := hS.top (fun x => T x && decide (c x = k)) (fun x hx => by simp only [Bool.and_eq_true, decide_eq_true_eq] at hx; exact hTR x hx.1 hx.2) (fun x hx => by
      simp only [Bool.and_eq_true, decide_eq_true_eq] at hx
      refine Nat.le_trans (t1 x hx.1) (dgA_mono fun z hz hb hs => ⟨hb, ?_⟩)
      have h1 := hT z hs
      by_cases hz2 : c z = k
      · simp [hs, hz2]
      · have : k < c z := by omega
        simp [hz, this]) v (by simp [t3, hcv])
    show k + 1 ≤ if S v = true then k + 1 else c v
    rw [if_pos hsv]; exact Nat.le_refl _
  · intro hj
    have hj2 : j ≤ if S v = true then k + 1 else c v := hj
    have up : ∀ j, j ≤ c v → InCore (dgA B n) n j v := fun j hj => by
      obtain ⟨T, t1, t2, t3⟩ := (hc v hv j).2 hj
      exact ⟨T, fun y hy => Nat.le_trans (t1 y hy) (dgA_mono fun x _ ha hs => ⟨h.sub _ _ ha, hs⟩), t2, t3⟩
    by_cases hs : S v = true
    · rw [if_pos hs] at hj2
      have : InCore (dgA B n) n (k + 1) v := ⟨fun x => S x || decide (x < n ∧ k < c x), fun y hy => by
        rcases Bool.or_eq_true_iff.1 hy with h1 | h1
        · exact hS.good y h1
        · have h2 := of_decide_eq_true h1
          exact Nat.le_trans (level_good hc (k + 1) y h2.1 h2.2) (dgA_mono fun x _ ha hs => ⟨h.sub _ _ ha, by have := of_decide_eq_true hs; simp; right; exact ⟨this.1, this.2⟩⟩), fun y hy => by
        rcases Bool.or_eq_true_iff.1 hy with h1 | h1
        · exact (hR.lev y (hS.sub y h1)).1
        · exact (of_decide_eq_true h1).1, by simp [hs]⟩
      exact this.le hj2
    · rw [if_neg hs] at hj2
      exact up j hj2
/-- AN EDGE LESS. A has the edge, B has not. -/
theorem core_less {A B : Nat → Nat → Bool} {n p q : Nat} {c : Nat → Nat} (h : MoreE B A n p q) (hc : CoreOf A n c) {k : Nat} (hk : k = min (c p) (c q)) {R S : Nat → Bool} (hR : RegI A n c k p q R) (hS : Settle B n R (fun y => decide (y < n ∧ k ≤ c y ∧ R y = false)) k S) :
    CoreOf B n (fun v => if R v = true ∧ S v = false then c v - 1 else c v) := by
  intro v hv j
  constructor
  · rintro ⟨T, t1, t2, t3⟩
    have hT : ∀ x, T x = true → j ≤ c x := fun x hx =>
      (hc x (t2 x hx) j).1 ⟨T, fun y hy => Nat.le_trans (t1 y hy) (dgA_mono fun z _ hb hs => ⟨h.sub _ _ hb, hs⟩), t2, hx⟩
    show j ≤ if R v = true ∧ S v = false then c v - 1 else c v
    by_cases hrs : R v = true ∧ S v = false
    · rw [if_pos hrs]
      have h1 := hT v t3
      have h2 := (hR.lev v hrs.1).2
      by_cases hj : j ≤ c v - 1
      · exact hj
      · exfalso
        have hjk : j = k := by omega
        subst hjk
        have := hS.top (fun x => T x && R x) (fun x hx => by simp only [Bool.and_eq_true] at hx; exact hx.2) (fun x hx => by
          simp only [Bool.and_eq_true] at hx
          refine Nat.le_trans (t1 x hx.1) (dgA_mono fun y hy hb hs => ⟨hb, ?_⟩)
          have h3 := hT y hs
          cases hr : R y with
          | true => simp [hs]
          | false => simp [hy, h3]) v (by simp [t3, hrs.1])
        rw [hrs.2] at this
        cases this
    · rw [if_neg hrs]; exact hT v t3
  · intro hj
    have hj2 : j ≤ if R v = true ∧ S v = false then c v - 1 else c v := hj
    have hjc : j ≤ c v := by
      by_cases hrs : R v = true ∧ S v = false
      · rw [if_pos hrs] at hj2; omega
      · rw [if_neg hrs] at hj2; exact hj2
    -- an edge of A that is not the one is in B
    have keep : ∀ y x, A y x = true → ¬ (y = p ∧ x = q) → ¬ (y = q ∧ x = p) → B y x = true := fun y x ha h1 h2 => by
      rcases h.add y x ha with h3 | h3 | h3
      · exact h3
      · exact absurd h3 h1
      · exact absurd h3 h2
    by_cases h0 : j = 0
    · exact ⟨fun x => decide (x = v), fun x _ => by rw [h0]; exact Nat.zero_le _, fun x hx => by rw [of_decide_eq_true hx]; exact hv, by simp⟩
    by_cases hA : k + 1 ≤ j
    · refine ⟨fun x => decide (x < n ∧ j ≤ c x), fun y hy => ?_, fun y hy => (of_decide_eq_true hy).1, by simp [hv, hjc]⟩
      have hy2 := of_decide_eq_true hy
      refine Nat.le_trans (level_good hc j y hy2.1 hy2.2) (dgA_mono fun x hx ha hs => ⟨?_, hs⟩)
      have hs2 := of_decide_eq_true hs
      refine keep y x ha ?_ ?_
      · rintro ⟨e1, e2⟩
        rw [e1] at hy2; rw [e2] at hs2
        omega
      · rintro ⟨e1, e2⟩
        rw [e1] at hy2; rw [e2] at hs2
        omega
    by_cases hB : j = k
    · subst hB
      have hno : ¬ (R v = true ∧ S v = false) := fun hrs => by
        rw [if_pos hrs] at hj2
        have := (hR.lev v hrs.1).2
        omega
      refine ⟨fun x => decide (x < n ∧ j ≤ c x) && (!R x || S x), fun y hy => ?_, fun y hy => ?_, ?_⟩
      · simp only [Bool.and_eq_true, Bool.or_eq_true, Bool.not_eq_true', decide_eq_true_eq] at hy
        obtain ⟨hy1, hy2⟩ := hy
        by_cases hsy : S y = true
        · refine Nat.le_trans (hS.good y hsy) (dgA_mono fun x hx hb hs => ⟨hb, ?_⟩)
          rcases Bool.or_eq_true_iff.1 hs with h1 | h1
          · have := hR.lev x (hS.sub x h1)
            simp [this, h1]
          · have := of_decide_eq_true h1
            simp [this.1, this.2.1, this.2.2]
        · have hry : R y = false := by
            rcases hy2 with h1 | h1
            · exact h1
            · exact absurd h1 hsy
          by_cases hcy : c y = j
          · refine Nat.le_trans (level_good hc j y hy1.1 hy1.2) (dgA_mono fun x hx ha hs => ⟨?_, ?_⟩)
            · refine keep y x ha ?_ ?_
              · rintro ⟨e1, _⟩
                rw [e1] at hcy hry
                rw [hR.p0 hcy] at hry
                cases hry
              · rintro ⟨e1, _⟩
                rw [e1] at hcy hry
                rw [hR.q0 hcy] at hry
                cases hry
            · have hs2 := of_decide_eq_true hs
              have : R x = false := by
                cases hr : R x with
                | false => rfl
                | true =>
                  have := hR.cl x y hr (h.sym y x ha) hy1.1 hcy
                  rw [hry] at this
                  cases this
              simp [hs2.1, hs2.2, this]
          · have hgt : j + 1 ≤ c y := by omega
            refine Nat.le_trans (Nat.le_succ j) (Nat.le_trans (level_good hc (j + 1) y hy1.1 hgt) (dgA_mono fun x hx ha hs => ⟨?_, ?_⟩))
            · have hs2 := of_decide_eq_true hs
              refine keep y x ha ?_ ?_
              · rintro ⟨e1, e2⟩
                rw [e1] at hgt; rw [e2] at hs2
                omega
              · rintro ⟨e1, e2⟩
                rw [e1] at hgt; rw [e2] at hs2
                omega
            · have hs2 := of_decide_eq_true hs
              have : R x = false := by
                cases hr : R x with
                | false => rfl
                | true => have := (hR.lev x hr).2; omega
              have h5 : j ≤ c x := by omega
              simp [hs2.1, h5, this]
      · simp only [Bool.and_eq_true, decide_eq_true_eq] at hy
        exact hy.1.1
      · have : R v = false ∨ S v = true := by
          cases hr : R v with
          | false => exact Or.inl rfl
          | true =>
            cases hs : S v with
            | true => exact Or.inr rfl
            | false => exact absurd ⟨hr, hs⟩ hno
        simp only [Bool.and_eq_true, Bool.or_eq_true, Bool.not_eq_true', decide_eq_true_eq]
        exact ⟨⟨hv, hjc⟩, this⟩
    · have hC : j + 1 ≤ k := by omega
      refine ⟨fun x => decide (x < n ∧ j ≤ c x), fun y hy => ?_, fun y hy => (of_decide_eq_true hy).1, by simp [hv, hjc]⟩
      have hy2 := of_decide_eq_true hy
      by_cases hyp : y = p
      · have h1 := level_good hc (j + 1) y hy2.1 (by rw [hyp]; omega)
        have h2 : dgA A n (fun x => decide (x < n ∧ j + 1 ≤ c x)) y ≤ dgA B n (fun x => decide (x < n ∧ j ≤ c x)) y + 1 := by
          refine filter_one_A _ _ q n fun x hx hb hne => ?_
          simp only [Bool.and_eq_true, decide_eq_true_eq] at hb ⊢
          exact ⟨keep y x hb.1 (fun e => hne e.2) (fun e => h.ne (hyp.symm.trans e.1)), hx, by omega⟩
        show j ≤ dgA B n (fun x => decide (x < n ∧ j ≤ c x)) y
        omega
      · by_cases hyq : y = q
        · have h1 := level_good hc (j + 1) y hy2.1 (by rw [hyq]; omega)
          have h2 : dgA A n (fun x => decide (x < n ∧ j + 1 ≤ c x)) y ≤ dgA B n (fun x => decide (x < n ∧ j ≤ c x)) y + 1 := by
            refine filter_one_A _ _ p n fun x hx hb hne => ?_
            simp only [Bool.and_eq_true, decide_eq_true_eq] at hb ⊢
            exact ⟨keep y x hb.1 (fun e => hyp e.1) (fun e => hne e.2), hx, by omega⟩
          show j ≤ dgA B n (fun x => decide (x < n ∧ j ≤ c x)) y
          omega
        · exact Nat.le_trans (level_good hc j y hy2.1 hy2.2) (dgA_mono fun x hx ha hs => ⟨keep y x ha (fun e => hyp e.1) (fun e => hyq e.1), hs⟩)
/-- The core numbers are one list. -/
theorem core_one {A : Nat → Nat → Bool} {n : Nat} {c d : Nat → Nat} (hc : CoreOf A n c) (hd : CoreOf A n d) : ∀ v, v < n → c v = d v := fun v hv =>
  Nat.le_antisymm ((hd v hv _).1 ((hc v hv _).2 (Nat.le_refl _))) ((hc v hv _).1 ((hd v hv _).2 (Nat.le_refl _)))
/-- What is settled so far: no greater part is lost. -/
structure SettI (B : Nat → Nat → Bool) (n : Nat) (R U : Nat → Bool) (k : Nat) (S : Nat → Bool) : Prop where
  sub : ∀ x, S x = true → R x = true
  top : ∀ T : Nat → Bool, (∀ x, T x = true → R x = true) → (∀ x, T x = true → k ≤ dgA B n (fun y => T y || U y) x) → ∀ x, T x = true → S x = true
theorem settI_start (B : Nat → Nat → Bool) (n : Nat) (R U : Nat → Bool) (k : Nat) : SettI B n R U k R :=
  ⟨fun _ h => h, fun _ h _ => h⟩
/-- a round of it -/
theorem settI_step {B : Nat → Nat → Bool} {n : Nat} {R U : Nat → Bool} {k : Nat} {S S' : Nat → Bool} (h : SettI B n R U k S) (hs : ∀ x, S' x = true ↔ S x = true ∧ k ≤ dgA B n (fun y => S y || U y) x) : SettI B n R U k S' := by
  refine ⟨fun x hx => h.sub x ((hs x).1 hx).1, fun T h1 h2 x hx => (hs x).2 ⟨h.top T h1 h2 x hx, Nat.le_trans (h2 x hx) (dgA_mono fun y _ hb hy => ⟨hb, ?_⟩)⟩⟩
  rcases Bool.or_eq_true_iff.1 hy with h3 | h3
  · rw [h.top T h1 h2 y h3]; rfl
  · rw [h3]; simp
theorem settI_end {B : Nat → Nat → Bool} {n : Nat} {R U : Nat → Bool} {k : Nat} {S : Nat → Bool} (h : SettI B n R U k S) (hs : ∀ x, S x = true → k ≤ dgA B n (fun y => S y || U y) x) : Settle B n R U k S :=
  ⟨h.sub, hs, h.top⟩
/-- The region is the least of them. -/
structure RegM (B : Nat → Nat → Bool) (n : Nat) (c : Nat → Nat) (k p q : Nat) (R : Nat → Bool) : Prop where
  reg : RegI B n c k p q R
  least : ∀ T, RegI B n c k p q T → ∀ x, R x = true → T x = true
theorem regM_one {B : Nat → Nat → Bool} {n : Nat} {c : Nat → Nat} {k p q : Nat} {R T : Nat → Bool} (h : RegM B n c k p q R) (g : RegM B n c k p q T) (x : Nat) : R x = T x := by
  have h1 := h.least T g.reg x
  have h2 := g.least R h.reg x
  cases hr : R x with
  | true => exact (h1 hr).symm
  | false => cases ht : T x with
    | false => rfl
    | true => rw [h2 ht] at hr; cases hr
/-- A search of it: what is found, and what is still to be looked at. -/
structure RegS (B : Nat → Nat → Bool) (n : Nat) (c : Nat → Nat) (k p q : Nat) (F : Nat → Bool) (W : List Nat) : Prop where
  lev : ∀ x, F x = true → x < n ∧ c x = k
  p0 : c p = k → F p = true
  q0 : c q = k → F q = true
  todo : ∀ x, x ∈ W → F x = true
  cl : ∀ x y, F x = true → B x y = true → y < n → c y = k → F y = true ∨ x ∈ W
  least : ∀ T, RegI B n c k p q T → ∀ x, F x = true → T x = true
theorem regS_end {B : Nat → Nat → Bool} {n : Nat} {c : Nat → Nat} {k p q : Nat} {F : Nat → Bool} (h : RegS B n c k p q F []) : RegM B n c k p q F := by
  refine ⟨⟨h.lev, h.p0, h.q0, fun x y hx hb hy hc => ?_⟩, h.least⟩
  rcases h.cl x y hx hb hy hc with h1 | h1
  · exact h1
  · cases h1
/-- one is looked at: what it leads to is found, and what is newly found is still to be looked at -/
theorem regS_step {B : Nat → Nat → Bool} {n : Nat} {c : Nat → Nat} {k p q w : Nat} {F F' : Nat → Bool} {W W' : List Nat} (h : RegS B n c k p q F W) (hw : w ∈ W)
    (hF : ∀ x, F' x = true ↔ F x = true ∨ (x < n ∧ B w x = true ∧ c x = k))
    (hW : ∀ x, x ∈ W → x = w ∨ x ∈ W') (hN : ∀ x, F' x = true → F x = false → x ∈ W') (hT : ∀ x, x ∈ W' → F' x = true) : RegS B n c k p q F' W' := by
  refine ⟨fun x hx => ?_, fun e => (hF p).2 (Or.inl (h.p0 e)), fun e => (hF q).2 (Or.inl (h.q0 e)), hT, fun x y hx hb hy hc => ?_, fun T hR x hx => ?_⟩
  · rcases (hF x).1 hx with h1 | h1
    · exact h.lev x h1
    · exact ⟨h1.1, h1.2.2⟩
  · cases hfx : F x with
    | false => exact Or.inr (hN x hx hfx)
    | true =>
      rcases h.cl x y hfx hb hy hc with h1 | h1
      · exact Or.inl ((hF y).2 (Or.inl h1))
      · rcases hW x h1 with h2 | h2
        · exact Or.inl ((hF y).2 (Or.inr ⟨hy, h2 ▸ hb, hc⟩))
        · exact Or.inr h2
  · rcases (hF x).1 hx with h1 | h1
    · exact h.least T hR x h1
    · exact hR.cl w x (h.least T hR w (h.todo w hw)) h1.2.1 h1.1 h1.2.2
theorem regS_start {B : Nat → Nat → Bool} {n : Nat} {c : Nat → Nat} {k p q : Nat} (hp : p < n) (hq : q < n) {F : Nat → Bool} {W : List Nat} (hF : ∀ x, F x = true ↔ (x = p ∨ x = q) ∧ c x = k) (hW : ∀ x, x ∈ W ↔ F x = true) : RegS B n c k p q F W := by
  refine ⟨fun x hx => ?_, fun e => (hF p).2 ⟨Or.inl rfl, e⟩, fun e => (hF q).2 ⟨Or.inr rfl, e⟩, fun x hx => (hW x).1 hx, fun x y hx _ _ _ => Or.inr ((hW x).2 hx), fun T hR x hx => ?_⟩
  · obtain ⟨h1 | h1, h2⟩ := (hF x).1 hx
    · exact ⟨h1 ▸ hp, h2⟩
    · exact ⟨h1 ▸ hq, h2⟩
  · obtain ⟨h1 | h1, h2⟩ := (hF x).1 hx
    · rw [h1] at h2 ⊢; exact hR.p0 h2
    · rw [h1] at h2 ⊢; exact hR.q0 h2
end Go.Proofs.YtkknknehchnccaaDoor
