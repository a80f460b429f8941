/- Plain: squares and cliques of four among the copies. What the law on copies asks, in plain numbers. -/
import Derived.Test.YtekbpoppajbljaaDoorCopPlain
import Derived.Test.YtekbpoppajbljaaDoorRef25Cnts
namespace Go.Proofs.YtekbpoppajbljaaDoor
open Go.RowKit Go.BigFrame

theorem lsum_drop (f : Nat → Int) (n k : Nat) : lsum f ((List.range n).drop k) = sumN (fun v => if k ≤ v then f v else 0) n := by
  have hz : ∀ l : List Nat, (∀ x ∈ l, x < k) → lsum (fun v => if k ≤ v then f v else 0) l = 0 := by
    intro l
    induction l with
    | nil => intro _; rfl
    | cons x l ih =>
      intro h
      have := h x List.mem_cons_self
      rw [lsum, ih (fun y hy => h y (List.mem_cons_of_mem _ hy)), if_neg (by omega)]; rfl
  have hp : ∀ l : List Nat, (∀ x ∈ l, k ≤ x) → lsum (fun v => if k ≤ v then f v else 0) l = lsum f l := by
    intro l
    induction l with
    | nil => intro _; rfl
    | cons x l ih =>
      intro h
      rw [lsum, lsum, ih (fun y hy => h y (List.mem_cons_of_mem _ hy)), if_pos (h x List.mem_cons_self)]
  rw [← lsum_range]
  conv => rhs; rw [← List.take_append_drop k (List.range n)]
  rw [lsum_append, hz _ (fun x hx => ?_), hp _ (fun x hx => ?_), Int.zero_add]
  · obtain ⟨i, hi, he⟩ := List.getElem_of_mem hx
    rw [List.getElem_drop, List.getElem_range] at he
    omega
  · obtain ⟨i, hi, he⟩ := List.getElem_of_mem hx
    rw [List.getElem_take, List.getElem_range] at he
    rw [List.length_take] at hi
    omega
theorem clqL_sum (g : Nat → Nat) (p : Nat → Bool) (n k : Nat) : (clqL g p ((List.range n).drop k) : Int) = sumN (fun v => if k ≤ v ∧ p v = true then (g v : Int) else 0) n := by
  have e : ∀ l : List Nat, (clqL g p l : Int) = lsum (fun v => if p v = true then (g v : Int) else 0) l := by
    intro l
    induction l with
    | nil => rfl
    | cons x l ih =>
      rw [clqL, lsum, ← ih, Int.natCast_add]
      split <;> rfl
  rw [e, lsum_drop]
  refine sumN_congr _ _ n fun v _ => ?_
  by_cases h1 : k ≤ v
  · rw [if_pos h1]
    by_cases h2 : p v = true
    · rw [if_pos h2, if_pos ⟨h1, h2⟩]
    · rw [if_neg h2, if_neg (fun h => h2 h.2)]
  · rw [if_neg h1, if_neg (fun h => h1 h.1)]
theorem sumN_if (P : Prop) [Decidable P] (f : Nat → Int) (n : Nat) : sumN (fun v => if P then f v else 0) n = if P then sumN f n else 0 := by
  by_cases h : P
  · rw [if_pos h]; exact sumN_congr _ _ n fun v _ => if_pos h
  · rw [if_neg h, sumN_congr _ (fun _ => 0) n (fun v _ => if_neg h), sumN_zero]
def H10 (es : List E2) (a b c d : Nat) : Int :=
  if a + 1 ≤ b ∧ fitB es [a] b = true then (if b + 1 ≤ c ∧ fitB es [a, b] c = true then (if c + 1 ≤ d ∧ fitB es [a, b, c] d = true then 1 else 0) else 0) else 0
theorem clq_H10 (es : List E2) (n : Nat) : (clq es n 4 [] 0 : Int) = all4 n (H10 es) := by
  have l1 : ∀ a b c, (clq es n 1 [a, b, c] (c + 1) : Int) = sumN (fun d => if c + 1 ≤ d ∧ fitB es [a, b, c] d = true then 1 else 0) n := fun a b c => clqL_sum _ _ n (c + 1)
  have l2 : ∀ a b, (clq es n 2 [a, b] (b + 1) : Int) = sumN (fun c => if b + 1 ≤ c ∧ fitB es [a, b] c = true then (clq es n 1 [a, b, c] (c + 1) : Int) else 0) n := fun a b => clqL_sum _ _ n (b + 1)
  have l3 : ∀ a, (clq es n 3 [a] (a + 1) : Int) = sumN (fun b => if a + 1 ≤ b ∧ fitB es [a] b = true then (clq es n 2 [a, b] (b + 1) : Int) else 0) n := fun a => clqL_sum _ _ n (a + 1)
  have l4 : (clq es n 4 [] 0 : Int) = sumN (fun a => if 0 ≤ a ∧ fitB es [] a = true then (clq es n 3 [a] (a + 1) : Int) else 0) n := clqL_sum _ _ n 0
  rw [l4]
  refine sumN_congr _ _ n fun a _ => ?_
  rw [if_pos ⟨Nat.zero_le _, rfl⟩, l3]
  refine sumN_congr _ _ n fun b _ => ?_
  rw [l2]
  show _ = sumN (fun c => sumN (fun d => H10 es a b c d) n) n
  unfold H10
  rw [← sumN_if]
  refine sumN_congr _ _ n fun c _ => ?_
  rw [sumN_if, sumN_if, l1]
theorem H10_zero (es : List E2) (a b c d : Nat) (h : ¬ (a < b ∧ b < c ∧ c < d)) : H10 es a b c d = 0 := by
  unfold H10
  split
  · split
    · split
      · omega
      · rfl
    · rfl
  · rfl
theorem H10_apart (es : List E2) : Apart4 (H10 es) := by
  constructor <;> intro a b c <;> exact H10_zero es _ _ _ _ (by omega)
theorem H10_bits : ∀ x0 x1 x2 x3 x4 x5 : Bool, (if x0 = true then (if (x1 && x3) = true then (if (x2 && (x4 && x5)) = true then (1 : Int) else 0) else 0) else 0) = (rowM 10).getD (kB6 x0 x1 x2 x3 x4 x5).toNat 0 := by decide +kernel
/-- CLIQUES OF FOUR. -/
theorem cop10 (es : List E2) (n : Nat) : (copS (indS es n)).getD 10 0 = (clq es n 4 [] 0 : Int) := by
  rw [cop_sort es n 10 (by omega), clq_H10, sym4 _ (H10_apart es)]
  refine sort4_congr n _ _ fun a b c d ha hb hc hd => ?_
  rw [ofKS_kB6, ← H10_bits]
  unfold P4 P3 P2
  dsimp only
  rw [H10_zero es a b c d (by omega), H10_zero es a b d c (by omega), H10_zero es a c b d (by omega), H10_zero es a d b c (by omega), H10_zero es a c d b (by omega), H10_zero es a d c b (by omega),
    H10_zero es b a c d (by omega), H10_zero es b a d c (by omega), H10_zero es c a b d (by omega), H10_zero es d a b c (by omega), H10_zero es c a d b (by omega), H10_zero es d a c b (by omega),
    H10_zero es b c a d (by omega), H10_zero es b d a c (by omega), H10_zero es c b a d (by omega), H10_zero es d b a c (by omega), H10_zero es c d a b (by omega), H10_zero es d c a b (by omega),
    H10_zero es b c d a (by omega), H10_zero es b d c a (by omega), H10_zero es c b d a (by omega), H10_zero es d b c a (by omega), H10_zero es c d b a (by omega)]
  unfold H10
  simp only [fitB, List.all_cons, List.all_nil, Bool.and_true]
  have h1 : d + 1 ≤ c := by omega
  have h2 : c + 1 ≤ b := by omega
  have h3 : b + 1 ≤ a := by omega
  simp only [h1, h2, h3, true_and, Int.zero_add, Int.add_zero]

/-- the squares, as the reference goes over them: a the least node, b and d its neighbours, c opposite -/
def H8 (es : List E2) (a b d c : Nat) : Int :=
  if b < d ∧ (adjB es a b && adjB es a d) = true then (if (a < b ∧ a < c) ∧ (adjB es b c && adjB es d c) = true then 1 else 0) else 0
def pairsum (f : Nat → Nat → Int) : List Nat → Int
  | [] => 0
  | b :: t => lsum (f b) t + pairsum f t
theorem pairsum_snoc (f : Nat → Nat → Int) (x : Nat) : ∀ l, pairsum f (l ++ [x]) = pairsum f l + lsum (fun b => f b x) l := by
  intro l
  induction l with
  | nil => rfl
  | cons b l ih =>
    rw [List.cons_append, pairsum, pairsum, lsum_append, ih, lsum]
    simp only [lsum]
    omega
theorem lsum_filter (f : Nat → Int) (p : Nat → Bool) : ∀ l : List Nat, lsum f (l.filter p) = lsum (fun x => if p x = true then f x else 0) l := by
  intro l
  induction l with
  | nil => rfl
  | cons x l ih =>
    rw [lsum, ← ih]
    cases h : p x
    · simp [h]
    · simp [h, lsum]
theorem pairsum_filter (f : Nat → Nat → Int) (p : Nat → Bool) : ∀ m : Nat, pairsum f ((List.range m).filter p) = sumN (fun b => sumN (fun d => if b < d ∧ (p b && p d) = true then f b d else 0) m) m := by
  intro m
  induction m with
  | zero => rfl
  | succ m ih =>
    have hS : sumN (fun b => sumN (fun d => if b < d ∧ (p b && p d) = true then f b d else 0) (m + 1)) (m + 1) = sumN (fun b => sumN (fun d => if b < d ∧ (p b && p d) = true then f b d else 0) m) m + (if p m = true then sumN (fun b => if p b = true then f b m else 0) m else 0) := by
      have e1 : ∀ b, b < m → sumN (fun d => if b < d ∧ (p b && p d) = true then f b d else 0) (m + 1) = sumN (fun d => if b < d ∧ (p b && p d) = true then f b d else 0) m + (if p m = true then (if p b = true then f b m else 0) else 0) := by
        intro b hb
        simp only [sumN]
        congr 1
        cases p b <;> cases p m <;> simp [hb]
      have e2 : sumN (fun d => if m < d ∧ (p m && p d) = true then f m d else 0) (m + 1) = 0 := by
        rw [sumN_congr _ (fun _ => 0) (m + 1) (fun d hd => if_neg (fun h => by omega)), sumN_zero]
      show sumN (fun b => sumN (fun d => if b < d ∧ (p b && p d) = true then f b d else 0) (m + 1)) m + sumN (fun d => if m < d ∧ (p m && p d) = true then f m d else 0) (m + 1) = _
      rw [e2, sumN_congr _ _ m e1, sumN_add, sumN_if]
      omega
    rw [hS, List.range_succ, List.filter_append, ← ih]
    cases h : p m
    · simp [h]
    · have e : List.filter p [m] = [m] := by simp [h]
      rw [e, pairsum_snoc, lsum_filter, lsum_range, if_pos rfl]
theorem qJ_len (es : List E2) (n a b d : Nat) : ((qJ a b d (cmL es n b d)).length : Int) = sumN (fun c => if (a < b ∧ a < c) ∧ (adjB es b c && adjB es d c) = true then 1 else 0) n := by
  have e : ∀ l : List Nat, ((qJ a b d l).length : Int) = lsum (fun c => if a < b ∧ a < c then 1 else 0) l := by
    intro l
    induction l with
    | nil => rfl
    | cons c l ih =>
      unfold qJ at ih ⊢
      rw [List.flatMap_cons, List.length_append, lsum, ← ih, Int.natCast_add]
      congr 1
      by_cases h : a < b ∧ a < c
      · rw [if_pos h, if_pos h]; rfl
      · rw [if_neg h, if_neg h]; rfl
  rw [e]
  unfold cmL
  rw [lsum_filter, lsum_range]
  refine sumN_congr _ _ n fun c _ => ?_
  by_cases h : (adjB es b c && adjB es d c) = true
  · rw [if_pos h]
    by_cases h2 : a < b ∧ a < c
    · rw [if_pos h2, if_pos ⟨h2, h⟩]
    · rw [if_neg h2, if_neg (fun k => h2 k.1)]
  · rw [if_neg h, if_neg (fun k => h k.2)]
theorem qI_len (es : List E2) (n a : Nat) : ∀ l : List Nat, ((qI es n a l).length : Int) = pairsum (fun b d => ((qJ a b d (cmL es n b d)).length : Int)) l := by
  intro l
  induction l with
  | nil => rfl
  | cons b t ih =>
    rw [qI, pairsum, List.length_append, Int.natCast_add, ih]
    congr 1
    unfold qK
    clear ih
    induction t with
    | nil => rfl
    | cons d t ih => rw [List.flatMap_cons, List.length_append, lsum, ← ih, Int.natCast_add]
theorem cyc_H8 (es : List E2) (n : Nat) : ((cyc30 es n).length : Int) = all4 n (H8 es) := by
  have e : ∀ l : List Nat, ((qA es n l).length : Int) = lsum (fun a => ((qI es n a (nbL es n a)).length : Int)) l := by
    intro l
    unfold qA
    induction l with
    | nil => rfl
    | cons a l ih => rw [List.flatMap_cons, List.length_append, lsum, ← ih, Int.natCast_add]
  unfold cyc30
  rw [e, lsum_range]
  refine sumN_congr _ _ n fun a _ => ?_
  rw [qI_len]
  unfold nbL
  rw [pairsum_filter]
  refine sumN_congr _ _ n fun b _ => sumN_congr _ _ n fun d _ => ?_
  rw [qJ_len, ← sumN_if]
  rfl
theorem H8_zero (es : List E2) (a b d c : Nat) (h : ¬ (a < b ∧ b < d ∧ a < c)) : H8 es a b d c = 0 := by
  unfold H8
  split
  · split
    · omega
    · rfl
  · rfl
theorem H8_apart {n : Nat} {es : List E2} (hv : Valid n es) : Apart4 (H8 es) := by
  constructor <;> intro a b c
  · exact H8_zero es _ _ _ _ (by omega)
  · exact H8_zero es _ _ _ _ (by omega)
  · exact H8_zero es _ _ _ _ (by omega)
  · exact H8_zero es _ _ _ _ (by omega)
  · unfold H8; rw [adj_irrefl hv]; simp
  · unfold H8; rw [adj_irrefl hv]; simp
theorem H8_at (es : List E2) (a b d c : Nat) (h1 : a < b) (h2 : b < d) (h3 : a < c) : H8 es a b d c = ind ((adjB es a b && adjB es a d) && (adjB es b c && adjB es d c)) := by
  unfold H8 ind
  cases adjB es a b <;> cases adjB es a d <;> cases adjB es b c <;> cases adjB es d c <;> simp [h1, h2, h3]
theorem H8_bits : ∀ x0 x1 x2 x3 x4 x5 : Bool, ind ((x0 && x1) && (x4 && x5)) + ind ((x0 && x2) && (x3 && x5)) + ind ((x1 && x2) && (x3 && x4)) = (rowM 8).getD (kB6 x0 x1 x2 x3 x4 x5).toNat 0 := by decide +kernel
/-- SQUARES. -/
theorem cop8 {n : Nat} {es : List E2} (hv : Valid n es) : (copS (indS es n)).getD 8 0 = ((cyc30 es n).length : Int) := by
  rw [cop_sort es n 8 (by omega), cyc_H8, sym4 _ (H8_apart hv)]
  refine sort4_congr n _ _ fun a b c d ha hb hc hd => ?_
  rw [ofKS_kB6, ← H8_bits]
  unfold P4 P3 P2
  dsimp only
  rw [H8_zero es a b c d (by omega), H8_zero es a b d c (by omega), H8_zero es a c b d (by omega), H8_zero es a d b c (by omega), H8_zero es a c d b (by omega), H8_zero es a d c b (by omega),
    H8_zero es b a c d (by omega), H8_zero es b a d c (by omega), H8_zero es c a b d (by omega), H8_zero es d a b c (by omega), H8_zero es c a d b (by omega), H8_zero es d a c b (by omega),
    H8_zero es b c a d (by omega), H8_zero es b d a c (by omega), H8_zero es c b a d (by omega), H8_zero es c d a b (by omega),
    H8_zero es b c d a (by omega), H8_zero es b d c a (by omega), H8_zero es c b d a (by omega), H8_zero es c d b a (by omega), H8_zero es d b c a (by omega),
    H8_at es d c a b (by omega) (by omega) (by omega), H8_at es d b a c (by omega) (by omega) (by omega), H8_at es d c b a (by omega) (by omega) (by omega)]
  rw [adjB_comm es c b, adjB_comm es c a, adjB_comm es b a]
  omega
end Go.Proofs.YtekbpoppajbljaaDoor

namespace Go.Proofs.YtekbpoppajbljaaDoor
open Go.RowKit Go.BigFrame

theorem all2_bd (n : Nat) (hn : n ≤ 9) (F : Nat → Nat → Int) (h : ∀ a b, 0 ≤ F a b ∧ F a b ≤ 1) : 0 ≤ all2 n F ∧ all2 n F ≤ 81 := by
  have := sumN_bd (fun a => sumN (fun b => F a b) n) 9 n (fun a _ => by have := sumN_bd (fun b => F a b) 1 n (fun b _ => h a b); omega)
  unfold all2; omega
theorem all3_bd (n : Nat) (hn : n ≤ 9) (F : Nat → Nat → Nat → Int) (h : ∀ a b c, 0 ≤ F a b c ∧ F a b c ≤ 1) : 0 ≤ all3 n F ∧ all3 n F ≤ 729 := by
  have := sumN_bd (fun a => all2 n (F a)) 81 n (fun a _ => all2_bd n hn (F a) (h a))
  unfold all3; omega
theorem all4_bd (n : Nat) (hn : n ≤ 9) (F : Nat → Nat → Nat → Nat → Int) (h : ∀ a b c d, 0 ≤ F a b c d ∧ F a b c d ≤ 1) : 0 ≤ all4 n F ∧ all4 n F ≤ 6561 := by
  have := sumN_bd (fun a => all3 n (F a)) 729 n (fun a _ => all3_bd n hn (F a) (h a))
  unfold all4; omega
theorem len36 {n : Nat} {es : List E2} (hv : Valid n es) (hn : n ≤ 9) : es.length ≤ 40 := by
  have h := edges_A2 hv
  have := all2_bd n hn (A2 es) (fun a b => by unfold A2; cases adjB es a b <;> simp [ind])
  omega
theorem tri_bd {n : Nat} {es : List E2} (hv : Valid n es) (hn : n ≤ 9) : (tri29 es n es.length).length ≤ 364 := by
  have h := tri_sum hv
  have := all3_bd n hn (fun a b c => A2 es a b * A2 es a c * A2 es b c) (fun a b c => by unfold A2; cases adjB es a b <;> cases adjB es a c <;> cases adjB es b c <;> simp [ind])
  omega
theorem cyc_bd {n : Nat} (es : List E2) (hn : n ≤ 9) : (cyc30 es n).length ≤ 6561 := by
  have h := cyc_H8 es n
  have := all4_bd n hn (H8 es) (fun a b d c => by unfold H8; (split <;> (try split) <;> omega))
  omega
theorem clq_bd {n : Nat} (es : List E2) (hn : n ≤ 9) : clq es n 4 [] 0 ≤ 6561 := by
  have h := clq_H10 es n
  have := all4_bd n hn (H10 es) (fun a b c d => by unfold H10; (split <;> (try split) <;> (try split) <;> omega))
  omega
theorem ch_row : ∀ n : Nat, n < 10 → 4 ≤ n → 2 * (chS (n - 2) 2 : Int) = ((n : Int) - 3) * ((n : Int) - 2) ∧ (chS (n - 2) 2 : Int) ≤ 21 ∧ (chS n 4 : Int) ≤ 126 := by decide
theorem row0 : ∀ k, k < 11 → (rowM 0).getD k 0 = 1 := by decide
theorem cop0 (es : List E2) (n : Nat) : (copS (indS es n)).getD 0 0 = chS n 4 := by
  rw [← tot_all es n, cop_get _ 0 (by omega)]
  have : ∀ k, k ≤ 11 → dotS (matV (wAll 11) 0) (indS es n) k = totS (indS es n) k := by
    intro k hk
    induction k with
    | zero => rfl
    | succ k ih =>
      have e : (matV (wAll 11) 0).getD k 0 = 1 := by rw [rowM_eq 0 (by omega)]; exact row0 k (by omega)
      simp only [dotS, totS]
      rw [ih (by omega)]
      first | rw [e, Int.one_mul] | simp [e]
  exact this 11 (Nat.le_refl _)
theorem ind_small (es : List E2) (n : Nat) (h : n < 4) : copS (indS es n) = cntV [] := by
  have e : indS es n = cntV [] := by
    unfold indS
    have : n = 0 ∨ n = 1 ∨ n = 2 ∨ n = 3 := by omega
    rcases this with rfl | rfl | rfl | rfl <;> rfl
  rw [e]; decide +kernel
theorem copies_plain {n : Nat} {es : List E2} (hv : Valid n es) (h4 : 4 ≤ n) (h9 : n ≤ 9) : ∃ t : Int, wrap64 ((sumW (tri29 es n es.length) n).tdiv 3) = t ∧ 0 ≤ t ∧ t ≤ 1000 ∧
    (copS (indS es n)).getD 0 0 = chS n 4 ∧ (copS (indS es n)).getD 1 0 = (es.length : Int) * (chS (n - 2) 2 : Int) ∧ (copS (indS es n)).getD 2 0 = wed30 es n * ((n : Int) - 3) ∧
    (copS (indS es n)).getD 2 0 + (copS (indS es n)).getD 3 0 = wed30 es n * ((n : Int) - 3) + chS es.length 2 - wed30 es n ∧ (copS (indS es n)).getD 4 0 = t * ((n : Int) - 3) ∧
    (copS (indS es n)).getD 8 0 = wrap64 ((cyc30 es n).length : Int) ∧ (copS (indS es n)).getD 10 0 = wrap64 (clq es n 4 [] 0 : Int) := by
  obtain ⟨c41, c42⟩ := cop4 hv
  have ht := tri_bd hv h9
  have hc := cyc_bd es h9
  have hq := clq_bd es h9
  have e1 : sumW (tri29 es n es.length) n = ((tri29 es n es.length).length : Int) := by
    unfold sumW; rw [occ_sum n _ (tri29_lt es n _)]; exact wrap64_in _ (by omega) (by omega)
  have h1 := cop1 hv
  have h2 := cop2 hv
  have h3 := cop3 hv
  have h5 := ch_two es.length
  have hr := (ch_row n (by omega) h4).1
  rw [e1, cop8 hv, cop10, wrap64_in ((cyc30 es n).length : Int) (by omega) (by omega), wrap64_in (clq es n 4 [] 0 : Int) (by omega) (by omega)]
  generalize (tri29 es n es.length).length = T at *
  obtain ⟨t, rfl⟩ : ∃ t : Nat, T = 3 * t := ⟨T / 3, by omega⟩
  have e2 : ((3 * t : Nat) : Int).tdiv 3 = t := by rw [Int.tdiv_eq_ediv_of_nonneg (by omega)]; omega
  rw [e2]
  refine ⟨t, wrap64_in _ (by omega) (by omega), by omega, by omega, cop0 es n, ?_, ?_, ?_, ?_, rfl, rfl⟩
  · have e : 2 * ((es.length : Int) * (chS (n - 2) 2 : Int)) = ((n : Int) - 3) * (((n : Int) - 2) * (es.length : Int)) := by
      rw [Int.mul_left_comm, hr, ← Int.mul_assoc, Int.mul_comm (es.length : Int)]
      simp only [Int.mul_assoc]
      rw [Int.mul_comm (es.length : Int)]
    omega
  · rw [h2, Int.mul_comm]
  · rw [h2, Int.mul_comm ((n : Int) - 3)]
    generalize wed30 es n * ((n : Int) - 3) = x at *
    omega
  · have e : ((n : Int) - 3) * ((3 * t : Nat) : Int) = 3 * ((t : Int) * ((n : Int) - 3)) := by
      rw [Int.mul_comm ((n : Int) - 3), Int.natCast_mul, Int.mul_assoc]; rfl
    rw [e] at c41
    omega
end Go.Proofs.YtekbpoppajbljaaDoor
