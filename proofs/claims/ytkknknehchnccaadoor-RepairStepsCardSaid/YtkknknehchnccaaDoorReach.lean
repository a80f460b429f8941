/- Nodes that can be reached: in plain words, and by sets of bits. The contracts of sets of nodes as bits: one node, all nodes, the nodes of a list, and the nodes that can be reached. -/
import Derived.Test.YtkknknehchnccaaDoorMasks
import Derived.Test.YtkknknehchnccaaDoorSeqs
import Derived.Laws.BitsAllLaws
namespace Go.Proofs.YtkknknehchnccaaDoor
open Go.RowKit

def adjR (es : List E2) (i j : Nat) : Bool := es.any fun e => decide ((e.1 = i ∧ e.2 = j) ∨ (e.1 = j ∧ e.2 = i))
theorem adjR_symm (es : List E2) (i j : Nat) : adjR es i j = adjR es j i := by
  unfold adjR
  congr 1
  funext e
  rw [decide_eq_decide]
  exact Or.comm
inductive Rch (es : List E2) (s : Nat) : Nat → Prop
  | refl : Rch es s s
  | step {a b : Nat} : Rch es s a → adjR es a b = true → Rch es s b
theorem adjR_lt {n : Int} {es : List E2} (hv : Valid n es) {i j : Nat} (h : adjR es i j = true) : (i : Int) < n ∧ (j : Int) < n ∧ i < 64 ∧ j < 64 := by
  unfold adjR at h
  rw [List.any_eq_true] at h
  obtain ⟨e, he, h⟩ := h
  have hi := hv.2.2.1 e he
  have hn := hv.2.1
  unfold Ins at hi
  simp only [decide_eq_true_eq] at h
  omega
theorem pow_bitR (p x : Nat) : (2 ^ p).testBit x = decide (x = p) := by
  rw [Nat.testBit_two_pow]
  by_cases h : p = x
  · simp [h]
  · have : ¬ x = p := fun e => h e.symm
    simp [h, this]
theorem row_bitR_from (n : Int) (v x : Nat) : ∀ (es : List E2) (m : Nat), (∀ e ∈ es, Ins n e) → (es.foldl (rowE v) m).testBit x = (m.testBit x || adjR es v x) := by
  intro es
  induction es with
  | nil => intro m _; simp [adjR]
  | cons e es ih =>
    intro m h
    have he := h e List.mem_cons_self
    unfold Ins at he
    rw [List.foldl_cons, ih _ (fun y hy => h y (List.mem_cons_of_mem _ hy))]
    have hc : adjR (e :: es) v x = (decide ((e.1 = v ∧ e.2 = x) ∨ (e.1 = x ∧ e.2 = v)) || adjR es v x) := by simp [adjR]
    rw [hc, ← Bool.or_assoc]
    congr 1
    unfold rowE
    split
    · rename_i h1
      rw [Nat.testBit_or, pow_bitR]
      congr 1
      by_cases h2 : x = e.2.toNat
      · rw [decide_eq_true h2, decide_eq_true]; left; constructor
        · exact h1
        · omega
      · rw [decide_eq_false h2, decide_eq_false]; intro h3; omega
    · rename_i h1
      split
      · rename_i h2
        rw [Nat.testBit_or, pow_bitR]
        congr 1
        by_cases h3 : x = e.1.toNat
        · rw [decide_eq_true h3, decide_eq_true]; right; omega
        · rw [decide_eq_false h3, decide_eq_false]; intro h4; omega
      · rename_i h2
        have : ¬ ((e.1 = v ∧ e.2 = x) ∨ (e.1 = x ∧ e.2 = v)) := by intro h3; omega
        rw [decide_eq_false this, Bool.or_false]
theorem row_bitR {n : Int} {es : List E2} (hv : Valid n es) (v x : Nat) : (rowN es v).testBit x = adjR es v x := by
  unfold rowN
  rw [row_bitR_from n v x es 0 hv.2.2.1]
  simp
/-- how many bits -/
def pcN (m : Nat) : Nat := ((List.range 64).filter fun i => m.testBit i).length
theorem pcN_le (m : Nat) : pcN m ≤ 64 := by
  have := List.length_filter_le (fun i => m.testBit i) (List.range 64)
  rw [List.length_range] at this
  exact this
theorem filter_or (p q : Nat → Bool) (h : ∀ i, p i = true → q i = false) : ∀ l : List Nat, (l.filter fun i => p i || q i).length = (l.filter p).length + (l.filter q).length := by
  intro l
  induction l with
  | nil => rfl
  | cons x l ih =>
    rw [List.filter_cons, List.filter_cons, List.filter_cons]
    cases hp : p x with
    | true => have := h x hp; simp only [this, Bool.or_false, ↓reduceIte, List.length_cons, ih]; simp; omega
    | false =>
      cases hq : q x with
      | true => simp only [Bool.false_or, ↓reduceIte, List.length_cons, ih]; simp; omega
      | false => simpa using ih
theorem filter_or_le (p q : Nat → Bool) : ∀ l : List Nat, (l.filter fun i => p i || q i).length ≤ (l.filter p).length + (l.filter q).length := by
  intro l
  induction l with
  | nil => simp
  | cons x l ih =>
    rw [List.filter_cons, List.filter_cons, List.filter_cons]
    cases p x <;> cases q x <;> simp <;> omega
theorem pcN_or {a b : Nat} (h : ∀ i, a.testBit i = true → b.testBit i = false) : pcN (a ||| b) = pcN a + pcN b := by
  unfold pcN
  rw [← filter_or _ _ h]
  congr 2
  funext i
  rw [Nat.testBit_or]
theorem pcN_or_le (a b : Nat) : pcN (a ||| b) ≤ pcN a + pcN b := by
  unfold pcN
  refine Nat.le_trans (Nat.le_of_eq ?_) (filter_or_le (fun i => a.testBit i) (fun i => b.testBit i) _)
  congr 2
  funext i
  rw [Nat.testBit_or]
theorem pcN_step (m : Nat) (h0 : m ≠ 0) (h : m < 2 ^ 64) : pcN m = pcN (m &&& (m - 1)) + 1 := by
  have := congrArg List.length (bitsL_step m h0 h)
  unfold bitsL at this
  rw [List.length_cons, List.length_map, List.length_map] at this
  exact this
/-- the least bit goes -/
theorem low_bit (m : Nat) (h0 : m ≠ 0) (h : m < 2 ^ 64) (i : Nat) : (m &&& (m - 1)).testBit i = (decide (i ≠ Lib.ctz 64 m) && m.testBit i) := by
  obtain ⟨q, hq, hk⟩ := low_parts m h0 h
  obtain ⟨k, hk2⟩ : ∃ k, Lib.ctz 64 m = k := ⟨_, rfl⟩
  rw [hk2] at hq ⊢
  rw [hq]
  exact clear_low k q i
theorem low_in (m : Nat) (h0 : m ≠ 0) (h : m < 2 ^ 64) : m.testBit (Lib.ctz 64 m) = true ∧ Lib.ctz 64 m < 64 := by
  have hb := bitsL_step m h0 h
  have hmem : (Lib.ctz 64 m : Int) ∈ bitsL m := by rw [hb]; exact List.mem_cons_self
  unfold bitsL at hmem
  obtain ⟨i, hi, he⟩ := List.mem_map.1 hmem
  obtain ⟨h1, h2⟩ := List.mem_filter.1 hi
  have : i = Lib.ctz 64 m := by omega
  subst this
  exact ⟨h2, List.mem_range.1 h1⟩
/-- what holds while reached nodes are gathered: F has been reached, of which R is still to be looked at -/
structure RchI (es : List E2) (s F R : Nat) (W : Nat) : Prop where
  sub : ∀ i, R.testBit i = true → F.testBit i = true
  in' : ∀ i, F.testBit i = true → W.testBit i = true
  st : F.testBit s = true
  rch : ∀ i, F.testBit i = true → Rch es s i
  done : ∀ i j, F.testBit i = true → R.testBit i = false → adjR es i j = true → W.testBit j = true → F.testBit j = true
  lt : F < 2 ^ 64
theorem RchI.ltR {es : List E2} {s F R W : Nat} (h : RchI es s F R W) : R < 2 ^ 64 := Nat.lt_pow_two_of_testBit _ fun i hi => by
  cases hb : R.testBit i with
  | false => rfl
  | true => have := h.sub i hb; rw [Nat.testBit_lt_two_pow (Nat.lt_of_lt_of_le h.lt (Nat.pow_le_pow_right (by decide) hi))] at this; cases this
theorem RchI.start {es : List E2} {s W : Nat} (hs : W.testBit s = true) (h64 : s < 64) : RchI es s (2 ^ s &&& W) (2 ^ s &&& W) W := by
  have e : ∀ i, (2 ^ s &&& W).testBit i = decide (i = s) := fun i => by
    rw [Nat.testBit_and, pow_bitR]
    by_cases h : i = s
    · rw [h, hs]; simp
    · simp [h]
  refine ⟨fun i h => h, fun i h => ?_, by rw [e]; simp, fun i h => ?_, (fun i j h1 h2 => by rw [h1] at h2; cases h2), ?_⟩
  · rw [e] at h; simp only [decide_eq_true_eq] at h; rw [h]; exact hs
  · rw [e] at h; simp only [decide_eq_true_eq] at h; rw [h]; exact .refl
  · exact Nat.lt_of_le_of_lt Nat.and_le_left (Nat.pow_lt_pow_right (by decide) h64)
/-- one node is looked at -/
theorem RchI.step {es : List E2} {s F R W fr : Nat} (h : RchI es s F R W) (h0 : R ≠ 0) (hfr : ∀ i, fr.testBit i = (adjR es (Lib.ctz 64 R) i && W.testBit i && !F.testBit i)) (hlt : fr < 2 ^ 64) :
    RchI es s (F ||| fr) ((R &&& (R - 1)) ||| fr) W ∧ 2 * (64 - pcN (F ||| fr)) + pcN ((R &&& (R - 1)) ||| fr) < 2 * (64 - pcN F) + pcN R := by
  have hR := h.ltR
  obtain ⟨hk1, hk2⟩ := low_in R h0 hR
  have hlow := low_bit R h0 hR
  have hpc := pcN_step R h0 hR
  obtain ⟨k, hk⟩ : ∃ k, Lib.ctz 64 R = k := ⟨_, rfl⟩
  rw [hk] at hfr hk1 hk2 hlow
  have hdis : pcN (F ||| fr) = pcN F + pcN fr := pcN_or fun i hi => by rw [hfr, hi]; simp
  have hle := pcN_or_le (R &&& (R - 1)) fr
  have hF64 := pcN_le (F ||| fr)
  refine ⟨⟨fun i hi => ?_, fun i hi => ?_, ?_, fun i hi => ?_, fun i j hi hr ha hw => ?_, ?_⟩, by omega⟩
  · rw [Nat.testBit_or, Bool.or_eq_true] at hi ⊢
    rcases hi with hi | hi
    · rw [hlow, Bool.and_eq_true] at hi; exact .inl (h.sub i hi.2)
    · exact .inr hi
  · rw [Nat.testBit_or, Bool.or_eq_true] at hi
    rcases hi with hi | hi
    · exact h.in' i hi
    · rw [hfr] at hi; simp only [Bool.and_eq_true] at hi; exact hi.1.2
  · rw [Nat.testBit_or, h.st]; rfl
  · rw [Nat.testBit_or, Bool.or_eq_true] at hi
    rcases hi with hi | hi
    · exact h.rch i hi
    · rw [hfr] at hi; simp only [Bool.and_eq_true] at hi; exact .step (h.rch k (h.sub k hk1)) hi.1.1
  · rw [Nat.testBit_or, Bool.or_eq_false_iff] at hr
    rw [Nat.testBit_or, Bool.or_eq_true] at hi ⊢
    rcases hi with hi | hi
    · by_cases hik : i = k
      · subst hik
        cases hFj : F.testBit j with
        | true => exact .inl rfl
        | false => right; rw [hfr, ha, hw, hFj]; rfl
      · have hRi : R.testBit i = false := by
          have := hr.1
          rw [hlow] at this
          simpa [hik] using this
        exact .inl (h.done i j hi hRi ha hw)
    · rw [hr.2] at hi; cases hi
  · exact Nat.or_lt_two_pow h.lt hlt
/-- at the end all is reached that can be -/
theorem RchI.end' {n : Int} {es : List E2} (hv : Valid n es) {s F W : Nat} (h : RchI es s F 0 W) (hW : ∀ i : Nat, (i : Int) < n → W.testBit i = true) : ∀ i, F.testBit i = true ↔ Rch es s i := by
  refine fun i => ⟨h.rch i, fun hr => ?_⟩
  induction hr with
  | refl => exact h.st
  | step hra ha ih => exact h.done _ _ ih (by simp) ha (hW _ (adjR_lt hv ha).2.1)
end Go.Proofs.YtkknknehchnccaaDoor

namespace Go.Proofs.YtkknknehchnccaaDoor
open Go.RowKit Go.BigFrame

theorem least_any (m : Nat) (hm : m < 18446744073709551616) (h0 : m ≠ 0) (w : World) (hT : TzAt w) :
    Calls Tryd.prog 145 #[.int .u64 m] w fun e w' => e = .returned (.int .i64 (Lib.ctz 64 m)) ∧ w = w' := by
  go_enter Tryd.func145, Tryd.ntmps145
  go_wp2_with (go_at_call 108; refine (tz_any m hm h0 _ hT).mono ?_; rintro e w1 ⟨rfl, rfl⟩)
  go_ret
  exact ⟨rfl, rfl⟩
theorem bit_any (v : Nat) (hv : v < 64) (w : World) :
    Calls Tryd.prog 103 #[.int .i64 v] w fun e w' => e = .returned (.int .u64 ((2 ^ v : Nat) : Int)) ∧ w = w' := by
  have h1 := shl_fact v hv
  obtain ⟨P, hP⟩ : ∃ P, 2 ^ v = P := ⟨_, rfl⟩
  rw [hP] at h1 ⊢
  have h2 : ¬ (v : Int) < 0 := by omega
  have h3 : ¬ (64 : Int) ≤ v := by omega
  have h4 : (v : Int) < 64 := by omega
  clear hP
  go_enter Tryd.func103, Tryd.ntmps103
  go_wp2_with fail
  go_ret
  exact ⟨rfl, rfl⟩
theorem all_bit (n i : Nat) : (2 ^ n - 1).testBit i = decide (i < n) := by
  have := Nat.testBit_two_pow_sub_one n i
  exact this
theorem mall_any (n : Nat) (hn : n ≤ 64) (w : World) :
    Calls Tryd.prog 101 #[.int .i64 n] w fun e w' => e = .returned (.int .u64 ((2 ^ n - 1 : Nat) : Int)) ∧ w = w' := by
  by_cases h0 : n = 0
  · subst h0
    go_enter Tryd.func101, Tryd.ntmps101
    go_wp2_with fail
    go_ret
    exact ⟨rfl, rfl⟩
  by_cases h64 : n = 64
  · subst h64
    go_enter Tryd.func101, Tryd.ntmps101
    go_wp2_with fail
    go_ret
    exact ⟨rfl, rfl⟩
  have h1 := shl_fact n (by omega)
  have hp : 0 < 2 ^ n := Nat.pos_of_ne_zero (by simp)
  have hp2 := pow64 n (by omega)
  obtain ⟨P, hP⟩ : ∃ P, 2 ^ n = P := ⟨_, rfl⟩
  rw [hP] at h1 hp hp2 ⊢
  have h2 : ¬ (n : Int) ≤ 0 := by omega
  have h3 : ¬ (64 : Int) ≤ n := by omega
  have h4 : (n : Int) < 64 := by omega
  have h5 : IntKind.u64.wrap ((P : Int) - 1) = ((P - 1 : Nat) : Int) := by rw [IntKind.wrap_u64]; omega
  clear hP h0 h64
  go_enter Tryd.func101, Tryd.ntmps101
  go_wp2_with fail
  go_ret
  exact ⟨rfl, rfl⟩
/-- the bits of a list -/
def ofN (xs : List Int) : Nat := xs.foldl (fun m x => m ||| 2 ^ x.toNat) 0
theorem ofN_from (xs : List Int) : ∀ (m i : Nat), (xs.foldl (fun m x => m ||| 2 ^ x.toNat) m).testBit i = (m.testBit i || decide (∃ x ∈ xs, x.toNat = i)) := by
  induction xs with
  | nil => intro m i; simp
  | cons x xs ih =>
    intro m i
    rw [List.foldl_cons, ih, Nat.testBit_or, pow_bitR, Bool.or_assoc]
    congr 1
    by_cases h : i = x.toNat
    · simp [h]
    · have h' : ¬ x.toNat = i := fun e => h e.symm
      simp [h, h']
theorem ofN_bit (xs : List Int) (i : Nat) : (ofN xs).testBit i = decide (∃ x ∈ xs, x.toNat = i) := by
  unfold ofN
  rw [ofN_from]
  simp
theorem ofN_lt : ∀ (xs : List Int) (m : Nat), m < 2 ^ 64 → (∀ x ∈ xs, x.toNat < 64) → xs.foldl (fun m x => m ||| 2 ^ x.toNat) m < 2 ^ 64 := by
  intro xs
  induction xs with
  | nil => intro m h _; exact h
  | cons x xs ih => intro m h hx; exact ih _ (Nat.or_lt_two_pow h (Nat.pow_lt_pow_right (by decide) (hx x List.mem_cons_self))) fun y hy => hx y (List.mem_cons_of_mem _ hy)
theorem fresh_bit {n : Int} {es : List E2} (hv : Valid n es) (v W F i : Nat) (hW : W < 2 ^ 64) (hF : F < 2 ^ 64) : ((rowN es v &&& W) &&& (18446744073709551615 - F)).testBit i = (adjR es v i && W.testBit i && !F.testBit i) := by
  have h : (18446744073709551615 - F).testBit i = (decide (i < 64) && !F.testBit i) := by
    have := Nat.testBit_two_pow_sub_succ (x := F) (n := 64) hF i
    rw [show 2 ^ 64 - (F + 1) = 18446744073709551615 - F by omega] at this
    exact this
  rw [Nat.testBit_and, Nat.testBit_and, row_bitR hv, h]
  by_cases hi : i < 64
  · simp [hi]
  · have : W.testBit i = false := Nat.testBit_lt_two_pow (Nat.lt_of_lt_of_le hW (Nat.pow_le_pow_right (by decide) (by omega)))
    simp [this]
end Go.Proofs.YtkknknehchnccaaDoor
