/- Plain: in how many blocks of a run a node's records lie. -/
import Derived.Test.YtdkmdcdoiaelfaaRunP
namespace Go.Proofs.Ytdkmdcdoiaelfaa

/-- a block of records -/
def chkC (rs : List E2) (S c : Nat) : List E2 := (rs.drop (c * S)).take S
def hasU (u : Int) (l : List E2) : Bool := l.any fun e => decide (e.1 = u)
/-- how many blocks hold a record of u -/
def rdsN (S : Nat) (rs : List E2) (u : Int) : Nat := (List.range rs.length).countP fun c => hasU u (chkC rs S c)
/-- record i is one of u's -/
def uRec (rs : List E2) (u : Int) (i : Nat) : Bool := match rs[i]? with
  | some e => decide (e.1 = u)
  | none => false
/-- block c holds one of u's among the first k records -/
def bkK (S : Nat) (rs : List E2) (u : Int) (k c : Nat) : Bool := (List.range k).any fun i => decide (i / S = c) && uRec rs u i
def rdK (S : Nat) (rs : List E2) (u : Int) (k : Nat) : Nat := (List.range rs.length).countP (bkK S rs u k)
section
variable {S : Nat} {rs : List E2} {u : Int}
theorem bkK_iff (k c : Nat) : bkK S rs u k c = true ↔ ∃ i, i < k ∧ i / S = c ∧ uRec rs u i = true := by
  unfold bkK
  rw [List.any_eq_true]
  constructor
  · rintro ⟨i, hi, h⟩
    simp only [Bool.and_eq_true, decide_eq_true_eq] at h
    exact ⟨i, List.mem_range.1 hi, h.1, h.2⟩
  · rintro ⟨i, hi, h1, h2⟩
    exact ⟨i, List.mem_range.2 hi, by simp [h1, h2]⟩
theorem bkK_no (k c : Nat) (h : uRec rs u k = false) : bkK S rs u (k + 1) c = bkK S rs u k c := by
  rw [Bool.eq_iff_iff, bkK_iff, bkK_iff]
  constructor
  · rintro ⟨i, h1, h2, h3⟩
    by_cases e : i = k
    · subst e; rw [h] at h3; cases h3
    · exact ⟨i, by omega, h2, h3⟩
  · rintro ⟨i, h1, h2, h3⟩
    exact ⟨i, by omega, h2, h3⟩
theorem bkK_yes (k c : Nat) (h : uRec rs u k = true) : bkK S rs u (k + 1) c = (bkK S rs u k c || decide (c = k / S)) := by
  rw [Bool.eq_iff_iff, Bool.or_eq_true, decide_eq_true_eq, bkK_iff, bkK_iff]
  constructor
  · rintro ⟨i, h1, h2, h3⟩
    by_cases e : i = k
    · subst e; exact .inr h2.symm
    · exact .inl ⟨i, by omega, h2, h3⟩
  · rintro (⟨i, h1, h2, h3⟩ | h2)
    · exact ⟨i, by omega, h2, h3⟩
    · exact ⟨k, by omega, h2.symm, h⟩
theorem countP_one (p q : Nat → Bool) (c0 : Nat) (hq : ∀ c, q c = (p c || decide (c = c0))) (hp : p c0 = false) : ∀ n, (List.range n).countP q = (List.range n).countP p + if c0 < n then 1 else 0
  | 0 => by simp
  | n + 1 => by
    rw [List.range_succ, List.countP_append, List.countP_append, countP_one p q c0 hq hp n]
    simp only [List.countP_cons, List.countP_nil, hq n]
    by_cases e : n = c0
    · subst e; rw [hp, if_neg (Nat.lt_irrefl _), if_pos (Nat.lt_succ_self _)]; simp
    · have e1 : (p n || decide (n = c0)) = p n := by simp [e]
      have e2 : (if c0 < n then 1 else 0 : Nat) = if c0 < n + 1 then 1 else 0 := by
        by_cases h1 : c0 < n
        · rw [if_pos h1, if_pos (by omega)]
        · rw [if_neg h1, if_neg (by omega)]
      rw [e1, e2]; omega
theorem rdK_zero : rdK S rs u 0 = 0 := by
  unfold rdK
  rw [List.countP_eq_zero]
  intro c _
  unfold bkK; simp
theorem rdK_no (k : Nat) (h : uRec rs u k = false) : rdK S rs u (k + 1) = rdK S rs u k := by
  unfold rdK
  congr 1
  funext c
  exact bkK_no k c h
theorem rdK_old (k : Nat) (h : uRec rs u k = true) (hp : bkK S rs u k (k / S) = true) : rdK S rs u (k + 1) = rdK S rs u k := by
  unfold rdK
  congr 1
  funext c
  rw [bkK_yes k c h]
  by_cases e : c = k / S
  · subst e; rw [hp]; rfl
  · simp [e]
theorem rdK_new (k : Nat) (hk : k < rs.length) (h : uRec rs u k = true) (hp : bkK S rs u k (k / S) = false) : rdK S rs u (k + 1) = rdK S rs u k + 1 := by
  unfold rdK
  rw [countP_one (bkK S rs u k) (bkK S rs u (k + 1)) (k / S) (fun c => bkK_yes k c h) hp, if_pos (by have := Nat.div_le_self k S; omega)]
theorem rdK_le (k : Nat) : rdK S rs u k ≤ rs.length := by
  unfold rdK
  exact Nat.le_trans List.countP_le_length (by simp)
/-- what the block seen last says of the blocks behind it -/
def lastB (S : Nat) (rs : List E2) (u : Int) (k : Nat) (b : Int) : Prop := ∀ c : Nat, (∀ i, i < k → i / S ≤ c) → ((c : Int) = b ↔ bkK S rs u k c = true)
theorem lastB_zero : lastB S rs u 0 (-1) := fun c _ => by
  rw [bkK_iff]
  constructor
  · intro h; omega
  · rintro ⟨i, h, -⟩; omega
theorem lastB_no {k : Nat} {b : Int} (hl : lastB S rs u k b) (h : uRec rs u k = false) : lastB S rs u (k + 1) b := fun c hc => by
  rw [bkK_no k c h]
  exact hl c fun i hi => hc i (by omega)
theorem lastB_yes {k : Nat} (h : uRec rs u k = true) : lastB S rs u (k + 1) ((k / S : Nat) : Int) := fun c hc => by
  rw [bkK_iff]
  constructor
  · intro e; exact ⟨k, by omega, by omega, h⟩
  · rintro ⟨i, h1, h2, h3⟩
    have h4 := hc k (by omega)
    have h5 : i / S ≤ k / S := Nat.div_le_div_right (by omega)
    omega
theorem lastB_at {k : Nat} {b : Int} (hl : lastB S rs u k b) : (((k / S : Nat) : Int) = b ↔ bkK S rs u k (k / S) = true) := hl (k / S) fun i hi => Nat.div_le_div_right (by omega)
/-- in the end: how many blocks hold one -/
theorem rdK_end (hS : 1 ≤ S) : rdK S rs u rs.length = rdsN S rs u := by
  unfold rdK rdsN
  congr 1
  funext c
  rw [Bool.eq_iff_iff, bkK_iff]
  unfold hasU chkC
  rw [List.any_eq_true]
  constructor
  · rintro ⟨i, h1, h2, h3⟩
    have hx : rs[i]? = some rs[i] := List.getElem?_eq_getElem h1
    unfold uRec at h3
    rw [hx] at h3
    have hdm := Nat.div_add_mod i S
    have hml := Nat.mod_lt i (show 0 < S by omega)
    rw [h2, Nat.mul_comm] at hdm
    refine ⟨rs[i], List.mem_of_getElem? (i := i % S) ?_, h3⟩
    rw [List.getElem?_take, if_pos hml, List.getElem?_drop, hdm]
    exact hx
  · rintro ⟨e, he, h⟩
    obtain ⟨j, hj⟩ := List.getElem?_of_mem he
    rw [List.getElem?_take] at hj
    split at hj
    · rename_i hjS
      rw [List.getElem?_drop] at hj
      refine ⟨c * S + j, (List.getElem?_eq_some_iff.1 hj).1, ?_, ?_⟩
      · rw [Nat.mul_comm, Nat.mul_add_div (by omega), Nat.div_eq_of_lt hjS, Nat.add_zero]
      · unfold uRec; rw [hj]; exact h
    · cases hj
/-- the blocks, one by one -/
theorem rdsN_of (Ls : List (List E2)) (hL : Ls.length ≤ rs.length) (hc : ∀ (c : Nat) (l : List E2), Ls[c]? = some l → l = chkC rs S c) (he : rs.length ≤ Ls.length * S) : Ls.countP (hasU u) = rdsN S rs u := by
  have h1 : Ls = (List.range Ls.length).map (chkC rs S) := by
    apply List.ext_getElem?
    intro i
    rw [List.getElem?_map]
    by_cases hi : i < Ls.length
    · rw [List.getElem?_range hi, Option.map_some]
      have hx : Ls[i]? = some Ls[i] := List.getElem?_eq_getElem hi
      rw [hx, hc i _ hx]
    · rw [List.getElem?_eq_none (by omega), List.getElem?_eq_none (by simp; omega)]; rfl
  have h2 : Ls.countP (hasU u) = (List.range Ls.length).countP fun c => hasU u (chkC rs S c) := by
    conv => lhs; rw [h1]
    rw [List.countP_map]; rfl
  have key : ∀ d, (List.range (Ls.length + d)).countP (fun c => hasU u (chkC rs S c)) = (List.range Ls.length).countP fun c => hasU u (chkC rs S c) := by
    intro d
    induction d with
    | zero => rfl
    | succ d ih =>
      rw [show Ls.length + (d + 1) = (Ls.length + d) + 1 by omega, List.range_succ, List.countP_append, ih]
      have : chkC rs S (Ls.length + d) = [] := by
        unfold chkC
        rw [List.drop_of_length_le (by have : Ls.length * S ≤ (Ls.length + d) * S := Nat.mul_le_mul_right _ (by omega)
                                       omega), List.take_nil]
      simp [this, hasU]
  rw [h2, ← key (rs.length - Ls.length)]
  unfold rdsN
  rw [show Ls.length + (rs.length - Ls.length) = rs.length by omega]
theorem rdsN_le (S : Nat) (rs : List E2) (u : Int) : rdsN S rs u ≤ rs.length := by
  unfold rdsN
  exact Nat.le_trans List.countP_le_length (by simp)
end
end Go.Proofs.Ytdkmdcdoiaelfaa
