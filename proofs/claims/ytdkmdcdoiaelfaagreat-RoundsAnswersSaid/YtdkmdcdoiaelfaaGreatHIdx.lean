/- Plain: the h-index of numbers: the greatest h for which at least h of the numbers are at least h. -/
import Derived.Test.YtdkmdcdoiaelfaaGreatPlain
namespace Go.Proofs.YtdkmdcdoiaelfaaGreat

/-- how many numbers are at least k -/
def cntGe (l : List Int) (k : Nat) : Nat := l.countP fun x => decide ((k : Int) ≤ x)
def hGo (l : List Int) : Nat → Nat
  | 0 => 0
  | k + 1 => if k + 1 ≤ cntGe l (k + 1) then k + 1 else hGo l k
def hX (l : List Int) : Nat := hGo l l.length
theorem cntGe_len (l : List Int) (k : Nat) : cntGe l k ≤ l.length := List.countP_le_length
theorem cntGe_anti (l : List Int) {j k : Nat} (h : j ≤ k) : cntGe l k ≤ cntGe l j := by
  unfold cntGe
  induction l with
  | nil => simp
  | cons x l ih =>
    rw [List.countP_cons, List.countP_cons]
    by_cases h1 : (k : Int) ≤ x
    · have h2 : (j : Int) ≤ x := by omega
      simp only [decide_eq_true h1, decide_eq_true h2, if_true]; omega
    · have h3 : decide ((k : Int) ≤ x) = false := decide_eq_false h1
      simp only [h3]
      simp only [Bool.false_eq_true, if_false, Nat.add_zero]; omega
theorem hGo_le (l : List Int) : ∀ m, hGo l m ≤ m
  | 0 => Nat.le_refl _
  | m + 1 => by
    unfold hGo
    split
    · exact Nat.le_refl _
    · have := hGo_le l m; omega
theorem hGo_ok (l : List Int) : ∀ m, hGo l m ≤ cntGe l (hGo l m)
  | 0 => Nat.zero_le _
  | m + 1 => by
    unfold hGo
    split
    · rename_i h; exact h
    · exact hGo_ok l m
theorem hGo_ge (l : List Int) (k : Nat) (h : k ≤ cntGe l k) : ∀ m, k ≤ m → k ≤ hGo l m
  | 0 => fun hk => by omega
  | m + 1 => fun hk => by
    unfold hGo
    split
    · exact hk
    · rename_i h1
      by_cases e : k = m + 1
      · subst e; exact absurd h h1
      · exact hGo_ge l k h m (by omega)
theorem hX_iff (l : List Int) (k : Nat) : k ≤ hX l ↔ k ≤ cntGe l k := by
  constructor
  · intro h
    exact Nat.le_trans h (Nat.le_trans (hGo_ok l l.length) (cntGe_anti l h))
  · intro h
    exact hGo_ge l k h _ (Nat.le_trans h (cntGe_len l k))
theorem hX_len (l : List Int) : hX l ≤ l.length := hGo_le _ _
theorem cntGe_perm {l m : List Int} (h : l.Perm m) (k : Nat) : cntGe l k = cntGe m k := h.countP_eq _
theorem hX_perm {l m : List Int} (h : l.Perm m) : hX l = hX m := by
  have h1 := (hX_iff m (hX l)).2 (by rw [← cntGe_perm h]; exact (hX_iff l _).1 (Nat.le_refl _))
  have h2 := (hX_iff l (hX m)).2 (by rw [cntGe_perm h]; exact (hX_iff m _).1 (Nat.le_refl _))
  omega
theorem countP_none {l : List Int} {p : Int → Bool} (h : ∀ x ∈ l, p x = false) : l.countP p = 0 := by
  rw [List.countP_eq_zero]; intro x hx; rw [h x hx]; simp
theorem countP_all {l : List Int} {p : Int → Bool} (h : ∀ x ∈ l, p x = true) : l.countP p = l.length := by
  rw [List.countP_eq_length]; exact h
/-- ascending numbers: the h-th one from the end -/
theorem asc_step {s : List Int} (hs : s.Pairwise (· ≤ ·)) {h : Nat} {x : Int} (hh : h < s.length) (hx : s[s.length - 1 - h]? = some x) : (h : Int) < x ↔ h + 1 ≤ cntGe s (h + 1) := by
  have hlt : s.length - 1 - h < s.length := by omega
  obtain ⟨_, he⟩ := List.getElem?_eq_some_iff.1 hx
  have hsp := List.take_append_drop (s.length - 1 - h) s
  have hd : s.drop (s.length - 1 - h) = x :: s.drop (s.length - 1 - h + 1) := by rw [List.drop_eq_getElem_cons hlt, he]
  have hp := hs
  rw [← hsp, List.pairwise_append] at hp
  obtain ⟨_, hp2, hp3⟩ := hp
  have hlen : (s.drop (s.length - 1 - h + 1)).length = h := by rw [List.length_drop]; omega
  have hc : cntGe s (h + 1) = cntGe (s.take (s.length - 1 - h)) (h + 1) + cntGe (x :: s.drop (s.length - 1 - h + 1)) (h + 1) := by
    have e : cntGe s (h + 1) = cntGe (s.take (s.length - 1 - h) ++ s.drop (s.length - 1 - h)) (h + 1) := by rw [hsp]
    rw [e, hd]
    exact List.countP_append
  rw [hc]
  rw [hd] at hp2 hp3
  constructor
  · intro h1
    have : cntGe (x :: s.drop (s.length - 1 - h + 1)) (h + 1) = (x :: s.drop (s.length - 1 - h + 1)).length := by
      unfold cntGe
      refine countP_all fun y hy => decide_eq_true ?_
      rcases List.mem_cons.1 hy with rfl | hy
      · omega
      · have := List.rel_of_pairwise_cons hp2 hy; omega
    rw [this, List.length_cons, hlen]; omega
  · intro h1
    refine Classical.byContradiction fun h2 => ?_
    have e1 : cntGe (s.take (s.length - 1 - h)) (h + 1) = 0 := by
      unfold cntGe
      refine countP_none fun y hy => decide_eq_false ?_
      have := hp3 y hy x List.mem_cons_self
      omega
    have e2 : cntGe (x :: s.drop (s.length - 1 - h + 1)) (h + 1) ≤ h := by
      unfold cntGe
      rw [List.countP_cons_of_neg (by simp; omega)]
      exact Nat.le_trans List.countP_le_length (by rw [hlen]; exact Nat.le_refl _)
    omega
/-- descending numbers: the h-th one -/
theorem desc_step {s : List Int} (hs : s.Pairwise (· ≥ ·)) {h : Nat} {x : Int} (hx : s[h]? = some x) : ((h : Int) + 1 ≤ x) ↔ h + 1 ≤ cntGe s (h + 1) := by
  obtain ⟨hlt, he⟩ := List.getElem?_eq_some_iff.1 hx
  have hsp := List.take_append_drop (h + 1) s
  have ht : s.take (h + 1) = s.take h ++ [x] := by rw [List.take_add_one, hx]; rfl
  have hp := hs
  rw [← hsp, List.pairwise_append] at hp
  obtain ⟨hp1, _, hp3⟩ := hp
  have hc : cntGe s (h + 1) = cntGe (s.take (h + 1)) (h + 1) + cntGe (s.drop (h + 1)) (h + 1) := by
    have e : cntGe s (h + 1) = cntGe (s.take (h + 1) ++ s.drop (h + 1)) (h + 1) := by rw [hsp]
    rw [e]; exact List.countP_append
  rw [hc]
  rw [ht] at hp1
  rw [List.pairwise_append] at hp1
  have hlen : (s.take (h + 1)).length = h + 1 := by rw [List.length_take]; omega
  constructor
  · intro h1
    have : cntGe (s.take (h + 1)) (h + 1) = (s.take (h + 1)).length := by
      unfold cntGe
      refine countP_all fun y hy => decide_eq_true ?_
      rw [ht] at hy
      rcases List.mem_append.1 hy with hy | hy
      · have := hp1.2.2 y hy x (List.mem_singleton.2 rfl); omega
      · rw [List.mem_singleton.1 hy]; omega
    omega
  · intro h1
    refine Classical.byContradiction fun h2 => ?_
    have e1 : cntGe (s.drop (h + 1)) (h + 1) = 0 := by
      unfold cntGe
      refine countP_none fun y hy => decide_eq_false ?_
      have := hp3 x (by rw [ht]; simp) y hy
      omega
    have e2 : cntGe (s.take (h + 1)) (h + 1) ≤ h := by
      rw [ht]
      unfold cntGe
      rw [List.countP_append]
      have e3 : List.countP (fun x => decide (((h + 1 : Nat) : Int) ≤ x)) [x] = 0 := countP_none fun y hy => decide_eq_false (by rw [List.mem_singleton.1 hy]; omega)
      rw [e3]
      exact Nat.le_trans List.countP_le_length (by rw [List.length_take]; omega)
    omega
end Go.Proofs.YtdkmdcdoiaelfaaGreat
