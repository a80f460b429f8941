/- Plain: graphs that differ by an edge, and the core numbers of a graph as a list that is kept. -/
import Derived.Test.YtkknknehchnccaaDoorRepP
import Derived.Test.YtkknknehchnccaaDoorAdj
namespace Go.Proofs.YtkknknehchnccaaDoor
open Go.RowKit Go.BigFrame

theorem adjB_symm (es : List E2) (i j : Nat) : adjB es i j = adjB es j i := by
  rw [Bool.eq_iff_iff, adjB_iff, adjB_iff]; exact Or.comm
/-- a graph with an edge more -/
theorem moreE_of {n : Nat} {es fs : List E2} {p q : Nat} (hp : p < n) (hq : q < n) (hne : p ≠ q) (hm : ∀ x, x ∈ fs ↔ x ∈ es ∨ x = (min (p : Int) (q : Int), max (p : Int) (q : Int))) : MoreE (adjB es) (adjB fs) n p q := by
  refine ⟨hp, hq, hne, fun i j h => ?_, fun i j h => ?_, fun i j h => by rw [adjB_symm]; exact h⟩
  · rw [adjB_iff] at h ⊢
    rcases h with h | h
    · exact .inl ((hm _).2 (.inl h))
    · exact .inr ((hm _).2 (.inl h))
  · rw [adjB_iff] at h
    rw [adjB_iff]
    rcases h with h | h <;> rcases (hm _).1 h with h1 | h1
    · exact .inl (.inl h1)
    · have h2 := congrArg Prod.fst h1
      have h3 := congrArg Prod.snd h1
      dsimp only at h2 h3
      right; omega
    · exact .inl (.inr h1)
    · have h2 := congrArg Prod.fst h1
      have h3 := congrArg Prod.snd h1
      dsimp only at h2 h3
      right; omega
/-- The numbers as a list. -/
def CoreL (es : List E2) (n : Nat) (l : List Int) : Prop := ∃ c : Nat → Nat, CoreOf (adjB es) n c ∧ l = (List.range n).map fun v => (c v : Int)
theorem CoreL.length {es : List E2} {n : Nat} {l : List Int} (h : CoreL es n l) : l.length = n := by
  obtain ⟨c, _, e⟩ := h
  rw [e, List.length_map, List.length_range]
theorem coreL_one {es : List E2} {n : Nat} {l m : List Int} (h : CoreL es n l) (g : CoreL es n m) : l = m := by
  obtain ⟨c, h1, h2⟩ := h
  obtain ⟨d, g1, g2⟩ := g
  rw [h2, g2]
  refine List.map_congr_left fun v hv => ?_
  rw [core_one h1 g1 v (List.mem_range.1 hv)]
/-- one more at the nodes of a set -/
def upL (n : Nat) (l : List Int) (S : Nat → Bool) (d : Int) : List Int := (List.range n).map fun v => if S v = true then l[v]?.getD 0 + d else l[v]?.getD 0
theorem coreL_get {n : Nat} {c : Nat → Nat} {v : Nat} (hv : v < n) : ((List.range n).map fun v => (c v : Int))[v]?.getD 0 = c v := by
  rw [List.getElem?_map, List.getElem?_range hv]; rfl
/-- AN EDGE MORE, as lists: the settled nodes of the region go up by one. -/
theorem coreL_more {es fs : List E2} {n p q : Nat} {l : List Int} (h : MoreE (adjB es) (adjB fs) n p q) (hl : CoreL es n l) :
    ∃ c : Nat → Nat, CoreOf (adjB es) n c ∧ (∀ v, v < n → l[v]?.getD 0 = c v) ∧ ∀ R S : Nat → Bool, RegI (adjB fs) n c (min (c p) (c q)) p q R → Settle (adjB fs) n R (fun y => decide (y < n ∧ min (c p) (c q) < c y)) (min (c p) (c q) + 1) S → CoreL fs n (upL n l S 1) := by
  obtain ⟨c, h1, h2⟩ := hl
  have hg : ∀ v, v < n → l[v]?.getD 0 = c v := fun v hv => by rw [h2]; exact coreL_get hv
  refine ⟨c, h1, hg, fun R S hR hS => ⟨_, core_more h h1 rfl hR hS, ?_⟩⟩
  refine List.map_congr_left fun v hv => ?_
  rw [hg v (List.mem_range.1 hv)]
  by_cases hs : S v = true
  · rw [if_pos hs, if_pos hs, (hR.lev v (hS.sub v hs)).2]; omega
  · rw [if_neg hs, if_neg hs]
/-- AN EDGE LESS, as lists: the nodes of the region that do not stay go down by one. -/
theorem coreL_less {es fs : List E2} {n p q : Nat} {l : List Int} (h : MoreE (adjB fs) (adjB es) n p q) (hj : adjB es p q = true) (hl : CoreL es n l) :
    ∃ c : Nat → Nat, CoreOf (adjB es) n c ∧ (∀ v, v < n → l[v]?.getD 0 = c v) ∧ ∀ R S : Nat → Bool, RegI (adjB es) n c (min (c p) (c q)) p q R → Settle (adjB fs) n R (fun y => decide (y < n ∧ min (c p) (c q) ≤ c y ∧ R y = false)) (min (c p) (c q)) S → CoreL fs n (upL n l (fun v => R v && !S v) (-1)) := by
  obtain ⟨c, h1, h2⟩ := hl
  have hg : ∀ v, v < n → l[v]?.getD 0 = c v := fun v hv => by rw [h2]; exact coreL_get hv
  have pos : 1 ≤ min (c p) (c q) := by
    have e1 : 1 ≤ c p := (h1 p h.hp 1).1 ⟨fun x => decide (x = p ∨ x = q), fun x hx => ?_, fun x hx => ?_, by simp⟩
    have e2 : 1 ≤ c q := (h1 q h.hq 1).1 ⟨fun x => decide (x = p ∨ x = q), fun x hx => ?_, fun x hx => ?_, by simp⟩
    · omega
    all_goals
      have hx2 := of_decide_eq_true hx
      first
      | (rcases hx2 with e | e
         · rw [e]; exact h.hp
         · rw [e]; exact h.hq)
      | (rcases hx2 with e | e
         · exact List.length_pos_of_mem (List.mem_filter.2 ⟨List.mem_range.2 h.hq, by rw [e, hj]; simp⟩)
         · exact List.length_pos_of_mem (List.mem_filter.2 ⟨List.mem_range.2 h.hp, by rw [e, adjB_symm, hj]; simp⟩))
  refine ⟨c, h1, hg, fun R S hR hS => ⟨_, core_less h h1 rfl hR hS, ?_⟩⟩
  refine List.map_congr_left fun v hv => ?_
  rw [hg v (List.mem_range.1 hv)]
  by_cases hs : R v = true ∧ S v = false
  · rw [if_pos hs, if_pos (by simp [hs.1, hs.2])]
    have := (hR.lev v hs.1).2
    omega
  · rw [if_neg hs, if_neg]
    simp only [Bool.and_eq_true, Bool.not_eq_true']
    exact hs
/-- the numbers that differ are those of the set -/
theorem upL_get {n : Nat} (l : List Int) (S : Nat → Bool) (d : Int) {v : Nat} (hv : v < n) : (upL n l S d)[v]?.getD 0 = if S v = true then l[v]?.getD 0 + d else l[v]?.getD 0 := by
  unfold upL
  rw [List.getElem?_map, List.getElem?_range hv]; rfl
theorem upL_length (n : Nat) (l : List Int) (S : Nat → Bool) (d : Int) : (upL n l S d).length = n := by simp [upL]
theorem upL_changed {n : Nat} (l : List Int) (S : Nat → Bool) {d : Int} (hd : d ≠ 0) : (List.range n).filter (fun v => decide (l[v]?.getD 0 ≠ (upL n l S d)[v]?.getD 0)) = (List.range n).filter S := by
  refine List.filter_congr fun v hv => ?_
  rw [upL_get l S d (List.mem_range.1 hv)]
  cases hs : S v with
  | true => rw [if_pos rfl, decide_eq_true_eq]; omega
  | false => simp
end Go.Proofs.YtkknknehchnccaaDoor
