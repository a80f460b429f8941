/- Plain: the records of a graph, in order, and what the checks of runs say. -/
import Derived.Test.YtdkmdcdoiaelfaaAdj
namespace Go.Proofs.Ytdkmdcdoiaelfaa

/-- a record has two different nodes -/
def recOk (e : E2) : Bool := decide (0 ≤ e.1) && decide (e.1 < 64) && (decide (0 ≤ e.2) && decide (e.2 < 64)) && decide (e.1 ≠ e.2)
def chkRec : Option E2 → List E2 → Int
  | _, [] => 0
  | p, e :: es => if recOk e = false then 6 else if p.any (fun p => !beforeB p e) then 5 else chkRec (some e) es
def chkR (size : Int) (rs : List E2) : Int := if size < 1 ∨ 1024 < size then 1 else chkRec none rs
/-- the graph of a run, or the error -/
def graphR (size nodes : Int) (rs : List E2) : Int × List E2 × Int :=
  if chkR size rs ≠ 0 then (0, [], chkR size rs) else if nodes < 0 ∨ 64 < nodes then (0, [], 1) else
    if rs.any (fun e => decide (nodes ≤ max e.1 e.2)) then (0, [], 6) else if rs.any (fun e => !rs.contains (e.2, e.1)) then (0, [], 4) else (nodes, rs.filter (fun e => decide (e.1 < e.2)), 0)
/-- the records of a graph -/
def recN (es : List E2) (n : Nat) : List E2 := (List.range n).flatMap fun i => (nbL es n i).map fun (j : Nat) => ((i : Int), (j : Int))
theorem rbefore_irr (a : E2) : beforeB a a = false := by
  cases h : beforeB a a with
  | false => rfl
  | true => rw [before_iff] at h; omega
/-- lists in order with the same members are equal -/
theorem order_one : ∀ (l m : List E2), l.Pairwise (fun a b => beforeB a b = true) → m.Pairwise (fun a b => beforeB a b = true) → (∀ x, x ∈ l ↔ x ∈ m) → l = m := by
  intro l
  induction l with
  | nil => intro m _ _ h; cases m with
    | nil => rfl
    | cons y m => exact absurd ((h y).2 List.mem_cons_self) (by simp)
  | cons x l ih =>
    intro m hl hm h
    cases m with
    | nil => exact absurd ((h x).1 List.mem_cons_self) (by simp)
    | cons y m =>
      rw [List.pairwise_cons] at hl hm
      have hxy : x = y := by
        rcases List.mem_cons.1 ((h x).1 List.mem_cons_self) with e | h1
        · exact e
        · rcases List.mem_cons.1 ((h y).2 List.mem_cons_self) with e | h2
          · exact e.symm
          · have a1 := hm.1 x h1
            have a2 := hl.1 y h2
            have := before_trans a1 a2
            rw [rbefore_irr] at this; cases this
      subst hxy
      congr 1
      refine ih m hl.2 hm.2 fun z => ?_
      constructor
      · intro hz
        rcases List.mem_cons.1 ((h z).1 (List.mem_cons_of_mem _ hz)) with e | h1
        · subst e
          have := hl.1 z hz
          rw [rbefore_irr] at this; cases this
        · exact h1
      · intro hz
        rcases List.mem_cons.1 ((h z).2 (List.mem_cons_of_mem _ hz)) with e | h1
        · subst e
          have := hm.1 z hz
          rw [rbefore_irr] at this; cases this
        · exact h1
theorem recN_mem {n : Nat} {es : List E2} (hv : Valid n es) (e : E2) : e ∈ recN es n ↔ e ∈ es ∨ (e.2, e.1) ∈ es := by
  unfold recN nbL
  rw [List.mem_flatMap]
  constructor
  · rintro ⟨i, hi, h⟩
    rw [List.mem_map] at h
    obtain ⟨j, hj, rfl⟩ := h
    exact (adjB_iff es i j).1 (List.mem_filter.1 hj).2
  · obtain ⟨x, y⟩ := e
    intro h
    have hb : 0 ≤ x ∧ x < n ∧ 0 ≤ y ∧ y < n := by
      rcases h with h | h
      · have := hv.2.2.1 _ h; unfold Ins at this; dsimp only at this; omega
      · have := hv.2.2.1 _ h; unfold Ins at this; dsimp only at this; omega
    obtain ⟨i, rfl⟩ := Int.eq_ofNat_of_zero_le hb.1
    obtain ⟨j, rfl⟩ := Int.eq_ofNat_of_zero_le hb.2.2.1
    refine ⟨i, List.mem_range.2 (by omega), List.mem_map.2 ⟨j, List.mem_filter.2 ⟨List.mem_range.2 (by omega), (adjB_iff es i j).2 h⟩, rfl⟩⟩
theorem recN_asc (es : List E2) (n : Nat) : (recN es n).Pairwise fun a b => beforeB a b = true := by
  unfold recN
  rw [List.pairwise_flatMap]
  constructor
  · intro i _
    rw [List.pairwise_map]
    refine List.Pairwise.imp (fun h => ?_) ((List.pairwise_lt_range (n := n)).filter _)
    rw [before_iff]; dsimp only; right; omega
  · refine List.Pairwise.imp (fun h => ?_) (List.pairwise_lt_range (n := n))
    intro x hx y hy
    rw [List.mem_map] at hx hy
    obtain ⟨_, _, rfl⟩ := hx
    obtain ⟨_, _, rfl⟩ := hy
    rw [before_iff]; dsimp only; left; omega
theorem recN_row (es : List E2) (n i : Nat) (hi : i < n) : ((recN es n).filter fun e => decide (e.1 = (i : Int))).map Prod.snd = (nbL es n i).map fun (j : Nat) => (j : Int) := by
  unfold recN
  have key : ∀ k, k ≤ n → (((List.range k).flatMap fun a => (nbL es n a).map fun (j : Nat) => ((a : Int), (j : Int))).filter fun e => decide (e.1 = (i : Int))).map Prod.snd = if i < k then (nbL es n i).map fun (j : Nat) => (j : Int) else [] := by
    intro k
    induction k with
    | zero => intro _; simp
    | succ k ih =>
      intro hk
      rw [List.range_succ, List.flatMap_append, List.filter_append, List.map_append, ih (by omega)]
      simp only [List.flatMap_cons, List.flatMap_nil, List.append_nil]
      by_cases e : i = k
      · subst e
        rw [if_neg (by omega), if_pos (by omega), List.nil_append, List.filter_eq_self.2 (fun x hx => by
          obtain ⟨j, _, rfl⟩ := List.mem_map.1 hx
          simp), List.map_map]
        rfl
      · have h0 : (((nbL es n k).map fun (j : Nat) => ((k : Int), (j : Int))).filter fun e => decide (e.1 = (i : Int))) = [] := by
          rw [List.filter_eq_nil_iff]
          intro x hx
          obtain ⟨j, _, rfl⟩ := List.mem_map.1 hx
          simp only [decide_eq_true_eq]; omega
        rw [h0, List.map_nil, List.append_nil]
        by_cases h1 : i < k
        · rw [if_pos h1, if_pos (by omega)]
        · rw [if_neg h1, if_neg (by omega)]
  have := key n (Nat.le_refl _)
  rw [if_pos hi] at this
  exact this
theorem chkRec_zero : ∀ (rs : List E2) (p : Option E2), (∀ e ∈ rs, recOk e = true) → rs.Pairwise (fun a b => beforeB a b = true) → (∀ q, p = some q → ∀ e ∈ rs, beforeB q e = true) → chkRec p rs = 0 := by
  intro rs
  induction rs with
  | nil => intro p _ _ _; rfl
  | cons e rs ih =>
    intro p h1 h2 h3
    rw [List.pairwise_cons] at h2
    unfold chkRec
    rw [h1 e List.mem_cons_self, if_neg (by simp), if_neg]
    · exact ih _ (fun x hx => h1 x (List.mem_cons_of_mem _ hx)) h2.2 (fun q hq x hx => by cases hq; exact h2.1 x hx)
    · cases p with
      | none => simp
      | some q => simp [h3 q rfl e List.mem_cons_self]
theorem chkRec_of : ∀ (rs : List E2) (p : Option E2), chkRec p rs = 0 → (∀ e ∈ rs, recOk e = true) ∧ rs.Pairwise (fun a b => beforeB a b = true) ∧ (∀ q, p = some q → ∀ e ∈ rs, beforeB q e = true) := by
  intro rs
  induction rs with
  | nil => intro p _; exact ⟨by simp, List.Pairwise.nil, by simp⟩
  | cons e rs ih =>
    intro p h
    unfold chkRec at h
    split at h
    · cases h
    · rename_i h1
      split at h
      · cases h
      · rename_i h2
        obtain ⟨g1, g2, g3⟩ := ih _ h
        have h1' : recOk e = true := by simpa using h1
        refine ⟨fun x hx => ?_, List.pairwise_cons.2 ⟨fun x hx => g3 e rfl x hx, g2⟩, fun q hq x hx => ?_⟩
        · rcases List.mem_cons.1 hx with rfl | hx
          · exact h1'
          · exact g1 x hx
        · subst hq
          have hqe : beforeB q e = true := by simpa using h2
          rcases List.mem_cons.1 hx with rfl | hx
          · exact hqe
          · exact before_trans hqe (g3 e rfl x hx)
theorem recOk_iff (e : E2) : recOk e = true ↔ 0 ≤ e.1 ∧ e.1 < 64 ∧ 0 ≤ e.2 ∧ e.2 < 64 ∧ e.1 ≠ e.2 := by
  unfold recOk
  simp only [Bool.and_eq_true, decide_eq_true_eq]
  constructor
  · rintro ⟨⟨⟨a, b⟩, c, d⟩, e⟩; exact ⟨a, b, c, d, e⟩
  · rintro ⟨a, b, c, d, e⟩; exact ⟨⟨⟨a, b⟩, c, d⟩, e⟩
theorem recN_ok {n : Nat} {es : List E2} (hv : Valid n es) : ∀ e ∈ recN es n, recOk e = true ∧ max e.1 e.2 < n := fun e he => by
  have hn := hv.2.1
  rw [recOk_iff]
  rcases (recN_mem hv e).1 he with h | h
  · have := hv.2.2.1 _ h; unfold Ins at this; omega
  · have := hv.2.2.1 _ h; unfold Ins at this; dsimp only at this; omega
theorem recN_chk {n : Nat} {es : List E2} (hv : Valid n es) : chkRec none (recN es n) = 0 :=
  chkRec_zero _ _ (fun e he => (recN_ok hv e he).1) (recN_asc es n) (fun q hq => by cases hq)
theorem recN_up {n : Nat} {es : List E2} (hv : Valid n es) : (recN es n).filter (fun e => decide (e.1 < e.2)) = es := by
  refine order_one _ _ ((recN_asc es n).filter _) hv.2.2.2 fun x => ?_
  rw [List.mem_filter, recN_mem hv, decide_eq_true_eq]
  constructor
  · rintro ⟨h | h, h2⟩
    · exact h
    · have := hv.2.2.1 _ h; unfold Ins at this; dsimp only at this; omega
  · intro h
    have := hv.2.2.1 _ h
    unfold Ins at this
    exact ⟨.inl h, by omega⟩
theorem graphR_rec {n : Nat} {es : List E2} (hv : Valid n es) {size m : Int} (h1 : 1 ≤ size) (h2 : size ≤ 1024) (h3 : (n : Int) ≤ m) (h4 : m ≤ 64) : graphR size m (recN es n) = (m, es, 0) := by
  have hc : chkR size (recN es n) = 0 := by
    unfold chkR
    rw [if_neg (by omega), recN_chk hv]
  have a1 : (recN es n).any (fun e => decide (m ≤ max e.1 e.2)) = false := by
    rw [List.any_eq_false]
    intro e he
    have := (recN_ok hv e he).2
    simp only [decide_eq_true_eq]; omega
  have a2 : (recN es n).any (fun e => !(recN es n).contains (e.2, e.1)) = false := by
    rw [List.any_eq_false]
    intro e he
    have h5 : (e.2, e.1) ∈ recN es n := by
      rw [recN_mem hv]
      rcases (recN_mem hv e).1 he with h | h
      · exact .inr h
      · exact .inl h
    simp [h5]
  unfold graphR
  rw [hc, if_neg (by simp), if_neg (by omega), a1, if_neg (by simp), a2, if_neg (by simp), recN_up hv]
/-- whatever run has a graph is the run of that graph -/
theorem graphR_of {size m : Int} {rs es : List E2} {k : Int} (h : graphR size m rs = (k, es, 0)) : ∃ n : Nat, m = n ∧ k = n ∧ Valid n es ∧ rs = recN es n ∧ 1 ≤ size ∧ size ≤ 1024 := by
  unfold graphR at h
  split at h
  · rename_i h1
    have := congrArg (fun x => x.2.2) h
    exact absurd this h1
  · rename_i h1
    have hc : chkR size rs = 0 := Classical.not_not.1 h1
    split at h
    · have := congrArg (fun x => x.2.2) h; cases this
    · rename_i h2
      split at h
      · have := congrArg (fun x => x.2.2) h; cases this
      · rename_i h3
        split at h
        · have := congrArg (fun x => x.2.2) h; cases this
        · rename_i h4
          obtain ⟨rfl, h5⟩ := Prod.mk.inj h
          obtain ⟨rfl, -⟩ := Prod.mk.inj h5
          obtain ⟨n, rfl⟩ := Int.eq_ofNat_of_zero_le (show 0 ≤ m by omega)
          unfold chkR at hc
          have hsz : ¬ (size < 1 ∨ 1024 < size) := fun e => by rw [if_pos e] at hc; cases hc
          rw [if_neg hsz] at hc
          obtain ⟨g1, g2, -⟩ := chkRec_of rs none hc
          have g3 : ∀ e ∈ rs, max e.1 e.2 < (n : Int) := fun e he => by
            have h7 : rs.any (fun e => decide ((n : Int) ≤ max e.1 e.2)) = false := by
              cases hb : rs.any (fun e => decide ((n : Int) ≤ max e.1 e.2)) with
              | false => rfl
              | true => exact absurd hb h3
            have := List.any_eq_false.1 h7 e he
            simp only [decide_eq_true_eq] at this; omega
          have g4 : ∀ e ∈ rs, (e.2, e.1) ∈ rs := fun e he => by
            have h7 : rs.any (fun e => !rs.contains (e.2, e.1)) = false := by
              cases hb : rs.any (fun e => !rs.contains (e.2, e.1)) with
              | false => rfl
              | true => exact absurd hb h4
            have := List.any_eq_false.1 h7 e he
            simpa using this
          have hv : Valid n (rs.filter fun e => decide (e.1 < e.2)) := by
            refine ⟨by omega, by omega, fun e he => ?_, g2.filter _⟩
            obtain ⟨h6, h7⟩ := List.mem_filter.1 he
            have := (recOk_iff e).1 (g1 e h6)
            have := g3 e h6
            have := of_decide_eq_true h7
            unfold Ins; omega
          refine ⟨n, rfl, rfl, hv, order_one _ _ g2 (recN_asc _ n) fun x => ?_, by omega, by omega⟩
          rw [recN_mem hv, List.mem_filter, List.mem_filter, decide_eq_true_eq, decide_eq_true_eq]
          constructor
          · intro hx
            have := (recOk_iff x).1 (g1 x hx)
            by_cases hlt : x.1 < x.2
            · exact .inl ⟨hx, hlt⟩
            · exact .inr ⟨g4 x hx, by dsimp only; omega⟩
          · rintro (h6 | h6)
            · exact h6.1
            · have := g4 _ h6.1
              exact this
end Go.Proofs.Ytdkmdcdoiaelfaa
