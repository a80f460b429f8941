/- Plain laws of the rows and of the shared neighbours. -/
import Derived.Test.YtdiackininlmeaaDoorSqCount2
namespace Go.Proofs.YtdiackininlmeaaDoor
open Go.RowKit Go.BigFrame

theorem pow_bit (p x : Nat) : (2 ^ p).testBit x = decide (x = p) := by
  rw [Nat.testBit_two_pow]
  by_cases h : p = x
  · simp [h]
  · have : ¬ x = p := fun e => h e.symm
    simp [h, this]
theorem row_bit_from (n : Int) (v x : Nat) : ∀ (es : List E2) (m : Nat), (∀ e ∈ es, Ins n e) → (es.foldl (rowE v) m).testBit x = (m.testBit x || adjB es v x) := by
  intro es
  induction es with
  | nil => intro m _; simp [adjB]
  | cons e es ih =>
    intro m h
    have he := h e List.mem_cons_self
    unfold Ins at he
    rw [List.foldl_cons, ih _ (fun y hy => h y (List.mem_cons_of_mem _ hy))]
    have hc : adjB (e :: es) v x = (decide ((e.1 = v ∧ e.2 = x) ∨ (e.1 = x ∧ e.2 = v)) || adjB es v x) := by simp [adjB]
    rw [hc, ← Bool.or_assoc]
    congr 1
    unfold rowE
    split
    · rename_i h1
      rw [Nat.testBit_or, pow_bit]
      congr 1
      by_cases h2 : x = e.2.toNat
      · rw [decide_eq_true h2, decide_eq_true]; left; constructor
        · exact h1
        · omega
      · rw [decide_eq_false h2, decide_eq_false]; intro h3; omega
    · rename_i h1
      split
      · rename_i h2
        rw [Nat.testBit_or, pow_bit]
        congr 1
        by_cases h3 : x = e.1.toNat
        · rw [decide_eq_true h3, decide_eq_true]; right; omega
        · rw [decide_eq_false h3, decide_eq_false]; intro h4; omega
      · rename_i h2
        have : ¬ ((e.1 = v ∧ e.2 = x) ∨ (e.1 = x ∧ e.2 = v)) := by intro h3; omega
        rw [decide_eq_false this, Bool.or_false]
/-- A ROW's BITS ARE THE EDGES. -/
theorem row_bit {n : Int} {es : List E2} (hv : Valid n es) (v x : Nat) : (rowN es v).testBit x = adjB es v x := by
  unfold rowN
  rw [row_bit_from n v x es 0 hv.2.2.1]
  simp
theorem nbN_eq {n : Int} {es : List E2} (hv : Valid n es) (v : Nat) : nbN es v = (List.range 64).filter fun i => adjB es v i := by
  unfold nbN
  congr 1
  funext i
  exact row_bit hv v i
theorem cntP_append (P Q : List (Nat × Nat)) (a b : Nat) : cntP (P ++ Q) a b = cntP P a b + cntP Q a b := by simp [cntP, List.filter_append]
/-- how often a number occurs in a list without doubles -/
theorem count_nodup (l : List Nat) (h : l.Nodup) (x : Nat) : (l.filter fun y => y == x).length = if x ∈ l then 1 else 0 := by
  induction l with
  | nil => simp
  | cons y l ih =>
    rw [List.nodup_cons] at h
    have := ih h.2
    by_cases hy : y = x
    · subst hy
      rw [if_neg h.1] at this
      simp [this]
    · have hx : ¬ x = y := fun e => hy e.symm
      simp [hy, hx, this]
theorem cntP_shB (u p q : Nat) (l : List Nat) (h : l.Nodup) : cntP (shB u l) p q = if u = p ∧ p ≠ q ∧ q ∈ l then 1 else 0 := by
  induction l with
  | nil => simp [cntP, shB]
  | cons y l ih =>
    rw [List.nodup_cons] at h
    have e : shB u (y :: l) = (if u = y then [] else [(u, y)]) ++ shB u l := by
      unfold shB
      by_cases hu : u = y
      · simp [hu]
      · simp [hu]
    rw [e, cntP_append, ih h.2]
    by_cases hq : q = y
    · subst hq
      have hz : (if u = p ∧ p ≠ q ∧ q ∈ l then (1 : Int) else 0) = 0 := if_neg (fun hh => h.1 hh.2.2)
      rw [hz]
      by_cases hu : u = q
      · subst hu
        rw [if_pos rfl]
        have hz2 : (if u = p ∧ p ≠ u ∧ u ∈ u :: l then (1 : Int) else 0) = 0 := if_neg (fun hh => hh.2.1 hh.1.symm)
        rw [hz2]; rfl
      · rw [if_neg hu]
        by_cases hp : u = p
        · subst hp
          rw [if_pos ⟨rfl, hu, List.mem_cons_self⟩]
          simp [cntP]
        · rw [if_neg (fun hh => hp hh.1)]
          simp [cntP, hp]
    · have h0 : cntP (if u = y then [] else [(u, y)]) p q = 0 := by
        split
        · rfl
        · have : ¬ (u = p ∧ y = q) := fun hh => hq hh.2.symm
          simp [cntP]
          intro _ hyq
          exact hq hyq.symm
      rw [h0]
      by_cases hh : u = p ∧ p ≠ q ∧ q ∈ l
      · rw [if_pos hh, if_pos ⟨hh.1, hh.2.1, List.mem_cons_of_mem _ hh.2.2⟩]; rfl
      · rw [if_neg hh, if_neg (fun k => hh ⟨k.1, k.2.1, by rcases List.mem_cons.1 k.2.2 with h | h; exact absurd h hq; exact h⟩)]; rfl
theorem cntP_shA (p q : Nat) (l : List Nat) (h : l.Nodup) : ∀ l' : List Nat, l'.Nodup → cntP (shA l l') p q = if p ≠ q ∧ p ∈ l' ∧ q ∈ l then 1 else 0 := by
  intro l'
  induction l' with
  | nil => intro _; simp [cntP, shA]
  | cons u l' ih =>
    intro h'
    rw [List.nodup_cons] at h'
    have e : shA l (u :: l') = shB u l ++ shA l l' := by simp [shA]
    rw [e, cntP_append, ih h'.2, cntP_shB u p q l h]
    by_cases hu : u = p
    · subst hu
      rw [if_neg (fun hh : u ≠ q ∧ u ∈ l' ∧ q ∈ l => h'.1 hh.2.1)]
      by_cases hh : u ≠ q ∧ q ∈ l
      · rw [if_pos ⟨rfl, hh.1, hh.2⟩, if_pos ⟨hh.1, List.mem_cons_self, hh.2⟩]; rfl
      · rw [if_neg (fun k => hh ⟨k.2.1, k.2.2⟩), if_neg (fun k => hh ⟨k.1, k.2.2⟩)]; rfl
    · rw [if_neg (fun hh => hu hh.1)]
      by_cases hh : p ≠ q ∧ p ∈ l' ∧ q ∈ l
      · rw [if_pos hh, if_pos ⟨hh.1, List.mem_cons_of_mem _ hh.2.1, hh.2.2⟩]; rfl
      · rw [if_neg hh, if_neg (fun k => hh ⟨k.1, by rcases List.mem_cons.1 k.2.1 with h | h; exact absurd h.symm hu; exact h, k.2.2⟩)]; rfl
theorem nbN_nodup (es : List E2) (v : Nat) : (nbN es v).Nodup := by
  unfold nbN
  exact List.nodup_range.sublist List.filter_sublist
theorem nbN_mem {n : Int} {es : List E2} (hv : Valid n es) (v x : Nat) : x ∈ nbN es v ↔ x < 64 ∧ adjB es v x = true := by
  rw [nbN_eq hv, List.mem_filter, List.mem_range]
/-- A PAIR's NUMBER OF SHARED NEIGHBOURS. -/
theorem cnt_shared {n : Int} {es : List E2} (hv : Valid n es) (p q : Nat) (hp : p < 64) (hq : q < 64) : ∀ N : Nat, cntP (shV es N) p q = sumN (fun u => if p ≠ q ∧ adjB es u p = true ∧ adjB es u q = true then 1 else 0) N := by
  intro N
  induction N with
  | zero => simp [shV, cntP, sumN]
  | succ N ih =>
    rw [shV_succ, cntP_append, ih, cntP_shA p q _ (nbN_nodup es N) _ (nbN_nodup es N)]
    simp only [sumN]
    congr 1
    by_cases hh : p ≠ q ∧ adjB es N p = true ∧ adjB es N q = true
    · rw [if_pos hh, if_pos ⟨hh.1, (nbN_mem hv N p).2 ⟨hp, hh.2.1⟩, (nbN_mem hv N q).2 ⟨hq, hh.2.2⟩⟩]
    · rw [if_neg hh, if_neg (fun k => hh ⟨k.1, ((nbN_mem hv N p).1 k.2.1).2, ((nbN_mem hv N q).1 k.2.2).2⟩)]
end Go.Proofs.YtdiackininlmeaaDoor
