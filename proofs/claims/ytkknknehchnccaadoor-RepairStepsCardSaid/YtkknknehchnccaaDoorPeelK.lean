/- Plain: sets of nodes as bits, and the buckets of a peeling: what a bucket holds, and how it changes when a node goes or its degree falls. -/
import Derived.Test.YtkknknehchnccaaDoorCoreP
import Derived.Test.YtkknknehchnccaaDoorRepB
import Derived.Test.YtkknknehchnccaaDoorReach
namespace Go.Proofs.YtkknknehchnccaaDoor
open Go.RowKit Go.BigFrame

theorem adjR_B (es : List E2) : adjR es = adjB es := rfl
/-- without one bit -/
def offN (B x : Nat) : Nat := B &&& (18446744073709551615 - 2 ^ x)
theorem offN_bit (B x i : Nat) (hB : B < 18446744073709551616) (hx : x < 64) : (offN B x).testBit i = (B.testBit i && decide (i ≠ x)) := by
  have hp := pow64 x hx
  have h : (18446744073709551615 - 2 ^ x).testBit i = (decide (i < 64) && !(2 ^ x).testBit i) := by
    have := Nat.testBit_two_pow_sub_succ (x := 2 ^ x) (n := 64) hp i
    rw [show 2 ^ 64 - (2 ^ x + 1) = 18446744073709551615 - 2 ^ x by omega] at this
    exact this
  unfold offN
  rw [Nat.testBit_and, h, pow_bitR]
  by_cases hi : i < 64
  · by_cases h2 : i = x <;> simp [hi, h2]
  · have : B.testBit i = false := Nat.testBit_lt_two_pow (Nat.lt_of_lt_of_le hB (Nat.pow_le_pow_right (n := 2) (by decide) (show 64 ≤ i by omega)))
    simp [this]
theorem offN_lt (B x : Nat) (hB : B < 18446744073709551616) : offN B x < 18446744073709551616 := Nat.lt_of_le_of_lt Nat.and_le_left hB
theorem orN_bit (B x i : Nat) : (B ||| 2 ^ x).testBit i = (B.testBit i || decide (i = x)) := by rw [Nat.testBit_or, pow_bitR]
theorem orN_lt (B x : Nat) (hB : B < 18446744073709551616) (hx : x < 64) : B ||| 2 ^ x < 18446744073709551616 := Nat.or_lt_two_pow (n := 64) hB (pow64 x hx)
/-- a bit set is nothing only without bits -/
theorem mask_zero (B : Nat) (hB : B < 18446744073709551616) : B = 0 ↔ ∀ x, x < 64 → B.testBit x = false := by
  constructor
  · intro h x _; rw [h]; simp
  · intro h
    apply Nat.eq_of_testBit_eq
    intro i
    rw [Nat.zero_testBit]
    by_cases hi : i < 64
    · exact h i hi
    · exact Nat.testBit_lt_two_pow (Nat.lt_of_lt_of_le hB (Nat.pow_le_pow_right (n := 2) (by decide) (show 64 ≤ i by omega)))
/-- the buckets: d holds those of S whose number is d -/
structure BK (S : Nat → Bool) (F : Nat → Nat) (B : Nat → Nat) : Prop where
  lt : ∀ d, d < 64 → B d < 18446744073709551616
  bit : ∀ d, d < 64 → ∀ x, (B d).testBit x = (S x && decide (F x = d))
def updN (B : Nat → Nat) (d v : Nat) : Nat → Nat := fun i => if i = d then v else B i
theorem BK.start (F : Nat → Nat) : BK (fun _ => false) F (fun _ => 0) := ⟨fun _ _ => by decide, fun _ _ _ => by simp⟩
theorem BK.add {S : Nat → Bool} {F B : Nat → Nat} (h : BK S F B) {x : Nat} (hx : x < 64) (hF : F x < 64) : BK (fun y => S y || decide (y = x)) F (updN B (F x) (B (F x) ||| 2 ^ x)) := by
  refine ⟨fun d hd => ?_, fun d hd y => ?_⟩
  · unfold updN
    split
    · exact orN_lt _ _ (h.lt _ hF) hx
    · exact h.lt d hd
  · unfold updN
    by_cases e : d = F x
    · rw [if_pos e, orN_bit, h.bit _ hF y, e]
      by_cases h2 : y = x
      · subst h2; simp
      · simp [h2]
    · rw [if_neg e, h.bit d hd y]
      by_cases h2 : y = x
      · subst h2
        have : ¬ F y = d := fun e2 => e e2.symm
        simp [this]
      · simp [h2]
theorem BK.take {S : Nat → Bool} {F B : Nat → Nat} (h : BK S F B) {x : Nat} (hx : x < 64) (hF : F x < 64) : BK (offB S x) F (updN B (F x) (offN (B (F x)) x)) := by
  refine ⟨fun d hd => ?_, fun d hd y => ?_⟩
  · unfold updN
    split
    · exact offN_lt _ _ (h.lt _ hF)
    · exact h.lt d hd
  · unfold updN offB
    by_cases e : d = F x
    · rw [if_pos e, offN_bit _ _ _ (h.lt _ hF) hx, h.bit _ hF y, e]
      by_cases h2 : y = x
      · subst h2; simp
      · simp [h2]
    · rw [if_neg e, h.bit d hd y]
      by_cases h2 : y = x
      · subst h2
        have : ¬ F y = d := fun e2 => e e2.symm
        simp [this]
      · simp [h2]
/-- a member goes one bucket down -/
theorem BK.move {S : Nat → Bool} {F B : Nat → Nat} (h : BK S F B) {x d : Nat} (hx : x < 64) (hS : S x = true) (hF : F x = d + 1) (hd : d + 1 < 64) :
    BK S (updN F x d) (updN (updN B (d + 1) (offN (B (d + 1)) x)) d (B d ||| 2 ^ x)) := by
  refine ⟨fun e he => ?_, fun e he y => ?_⟩
  · unfold updN
    split
    · exact orN_lt _ _ (h.lt _ (by omega)) hx
    · split
      · exact offN_lt _ _ (h.lt _ hd)
      · exact h.lt e he
  · unfold updN
    by_cases e1 : e = d
    · rw [if_pos e1, orN_bit, h.bit _ (by omega) y, e1]
      by_cases h2 : y = x
      · subst h2; simp [hS]
      · simp [h2]
    · rw [if_neg e1]
      by_cases e2 : e = d + 1
      · rw [if_pos e2, offN_bit _ _ _ (h.lt _ hd) hx, h.bit _ hd y, e2]
        by_cases h2 : y = x
        · subst h2; simp
        · simp [h2]
      · rw [if_neg e2, h.bit e he y]
        by_cases h2 : y = x
        · subst h2
          have h3 : ¬ F y = e := by omega
          have h4 : ¬ d = e := fun h => e1 h.symm
          simp [h3, h4]
        · simp [h2]
theorem BK.congr {S T : Nat → Bool} {F G B : Nat → Nat} (h : BK S F B) (e : ∀ x, S x = T x) (e2 : ∀ x, S x = true → F x = G x) : BK T G B := by
  refine ⟨h.lt, fun d hd x => ?_⟩
  rw [h.bit d hd x, ← e x]
  cases hs : S x with
  | false => rfl
  | true => rw [e2 x hs]
/-- the degree in what is left, when a node goes -/
theorem dg_off {n : Nat} {es : List E2} (R : Nat → Bool) (b x : Nat) (hb : R b = true) (hbn : b < n) : dgS es n R x = dgS es n (offB R b) x + (if adjB es x b = true then 1 else 0) := by
  unfold dgS
  have key : ∀ N, ((List.range N).filter fun y => adjB es x y && R y).length = ((List.range N).filter fun y => adjB es x y && offB R b y).length + (if b < N ∧ adjB es x b = true then 1 else 0) := by
    intro N
    induction N with
    | zero => simp
    | succ N ih =>
      rw [List.range_succ, List.filter_append, List.filter_append, List.length_append, List.length_append, ih]
      by_cases h1 : N = b
      · subst h1
        have h2 : ¬ N < N := by omega
        cases ha : adjB es x N <;> simp [offB, hb, ha]
      · have h3 : (List.filter (fun y => adjB es x y && R y) [N]) = (List.filter (fun y => adjB es x y && offB R b y) [N]) := by
          simp [offB, List.filter, h1]
        rw [h3]
        by_cases h4 : b < N
        · have h5 : b < N + 1 := by omega
          simp [h4, h5]; omega
        · have h5 : ¬ b < N + 1 := by omega
          simp [h4, h5]
  rw [key n]
  simp [hbn]
/-- the number of bits of what is a set of nodes -/
theorem bits_sel (m n : Nat) (hn : n ≤ 64) (S : Nat → Bool) (hS : ∀ x, m.testBit x = (decide (x < n) && S x)) : bitsL m = castL (selL n S) := by
  unfold bitsL castL selL
  congr 1
  have h1 : List.range 64 = List.range n ++ (List.range (64 - n)).map (n + ·) := by
    have := @List.range_add n (64 - n)
    rw [show n + (64 - n) = 64 by omega] at this
    exact this
  rw [h1, List.filter_append]
  have h2 : ((List.range (64 - n)).map (n + ·)).filter (fun i => m.testBit i) = [] := by
    rw [List.filter_eq_nil_iff]
    intro y hy
    obtain ⟨z, _, rfl⟩ := List.mem_map.1 hy
    rw [hS, decide_eq_false (by omega)]; simp
  rw [h2, List.append_nil]
  refine List.filter_congr fun x hx => ?_
  rw [hS x, decide_eq_true (List.mem_range.1 hx), Bool.true_and]
theorem row_bits {n : Nat} {es : List E2} (hv : Valid n es) (v x : Nat) : (rowN es v).testBit x = (decide (x < n) && adjB es v x) := by
  rw [row_bitR hv, adjR_B]
  cases h : adjB es v x with
  | false => simp
  | true =>
    have := adjR_lt hv (i := v) (j := x) (by rw [adjR_B]; exact h)
    have : x < n := by omega
    simp [this]
/-- the degree of a node: the bits of its row within a set -/
theorem row_count {n : Nat} {es : List E2} (hv : Valid n es) (v W : Nat) (S : Nat → Bool) (hW : ∀ x, x < n → W.testBit x = S x) : (bitsL (rowN es v &&& W)).length = dgS es n S v := by
  have hn : n ≤ 64 := by have := hv.2.1; omega
  rw [bits_sel (rowN es v &&& W) n hn (fun x => adjB es v x && S x) (fun x => by
    rw [Nat.testBit_and, row_bits hv]
    by_cases h : x < n
    · rw [hW x h]; simp [h]
    · simp [h])]
  rw [castL_length]
  rfl
theorem row_deg {n : Nat} {es : List E2} (hv : Valid n es) (v : Nat) : (bitsL (rowN es v)).length = dgS es n (restB n []) v := by
  have hn : n ≤ 64 := by have := hv.2.1; omega
  rw [bits_sel (rowN es v) n hn (fun x => adjB es v x && restB n [] x) (fun x => by
    rw [row_bits hv, restB_nil]
    by_cases h : x < n <;> simp [h])]
  rw [castL_length]
  rfl
theorem ctz_least (m : Nat) (h0 : m ≠ 0) (h : m < 18446744073709551616) : m.testBit (Lib.ctz 64 m) = true ∧ Lib.ctz 64 m < 64 ∧ ∀ y, m.testBit y = true → Lib.ctz 64 m ≤ y := by
  obtain ⟨h1, h2⟩ := low_in m h0 (by simpa using h)
  refine ⟨h1, h2, fun y hy => ?_⟩
  obtain ⟨q, hq, hk⟩ := low_parts m h0 (by simpa using h)
  obtain ⟨k, hk2⟩ : ∃ k, Lib.ctz 64 m = k := ⟨_, rfl⟩
  rw [hk2] at hq ⊢
  rw [hq] at hy
  have := Nat.testBit_two_pow_mul_add (2 * q + 1) (Nat.two_pow_pos k) y
  rw [Nat.add_zero] at this
  rw [this] at hy
  by_cases hlt : y < k
  · simp [hlt] at hy
  · omega
/-- THE NEXT NODE: the least one of the lowest bucket that is not empty. -/
theorem bk_best {n : Nat} {es : List E2} {O : List Nat} {B : Nat → Nat} {d : Nat} (hB : BK (restB n O) (dgS es n (restB n O)) B) (hd : d < 64) (h0 : B d ≠ 0) (hlow : ∀ i, i < d → B i = 0) :
    bestL (dgS es n (restB n O)) (leftL n O) = some (Lib.ctz 64 (B d)) ∧ restB n O (Lib.ctz 64 (B d)) = true ∧ dgS es n (restB n O) (Lib.ctz 64 (B d)) = d := by
  obtain ⟨h1, h2, h3⟩ := ctz_least (B d) h0 (hB.lt d hd)
  obtain ⟨v, hv⟩ : ∃ v, Lib.ctz 64 (B d) = v := ⟨_, rfl⟩
  rw [hv] at h1 h2 h3 ⊢
  have h4 := hB.bit d hd v
  rw [h1] at h4
  have h5 := h4.symm
  simp only [Bool.and_eq_true, decide_eq_true_eq] at h5
  refine ⟨bucket_best _ n O v h5.1 (fun y hy => ?_) (fun y hy he => ?_), h5.1, h5.2⟩
  · rw [h5.2]
    refine Nat.le_of_not_lt fun hlt => ?_
    have h6 := hB.bit _ (Nat.lt_trans hlt hd) y
    rw [hy, hlow _ hlt] at h6
    simp at h6
  · refine h3 y ?_
    rw [hB.bit d hd y, hy, he, h5.2]; simp
/-- somebody is left: a bucket is not empty -/
theorem bk_some {S : Nat → Bool} {F B : Nat → Nat} (hB : BK S F B) (x : Nat) (hx : S x = true) (hF : F x < 64) : B (F x) ≠ 0 := fun h => by
  have := hB.bit _ hF x
  rw [h, hx] at this
  simp at this
end Go.Proofs.YtkknknehchnccaaDoor
