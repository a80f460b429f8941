/- Buffers of events in plain words: which are valid, what a push, a flush, a sort gives. -/
import Derived.Test.YtpblaoeaeljmhaaDoorEv
namespace Go.Proofs.YtpblaoeaeljmhaaDoor
open Go.RowKit

def nodeB (v : Int) : Bool := decide (0 ≤ v) && decide (v < 64)
def evEnds (e : Ev) : Bool := if e.kind = 3 then nodeB e.u && decide (e.v = 0) else nodeB e.u && (nodeB e.v && decide (e.u ≠ e.v))
def attS (w l s : Int) : Bool := decide (1 ≤ w) && (decide (w ≤ 1000) && (decide (0 ≤ l) && (decide (l ≤ 15) && (decide (s = 1) || decide (s = -1)))))
/-- the first error of an event -/
def evS (e : Ev) : Int :=
  if e.kind < 1 ∨ 3 < e.kind then 8 else if e.time < 0 ∨ 1048576 < e.time then 9 else if evEnds e = false then 6
  else if e.kind = 1 then (if attS e.weight e.label e.sign = true then 0 else 1)
  else if e.weight ≠ 0 ∨ e.label ≠ 0 ∨ e.sign ≠ 0 then 1 else 0
theorem evS_time {e : Ev} (h : evS e = 0) : 0 ≤ e.time ∧ e.time ≤ 1048576 := by
  unfold evS at h
  split at h
  · omega
  · split at h
    · omega
    · omega

structure Buf where
  bound : Int
  latest : Int
  mark : Int
  wait : List Ev
/-- the events in a buffer: each right, none before the one ahead of it -/
def vldS (latest : Int) : Int → List Ev → Bool
  | _, [] => true
  | last, e :: es => decide (evS e = 0) && (decide (last ≤ e.time) && (decide (e.time ≤ latest) && vldS latest e.time es))
def bufH (b : Buf) : Bool := decide (0 ≤ b.bound) && (decide (b.bound ≤ 1048576) && (decide (-1 ≤ b.mark) && (decide (b.mark ≤ b.latest) && (decide (b.latest ≤ 1048576) && decide (b.wait.length ≤ 4096)))))
def bufB (b : Buf) : Bool := bufH b && vldS b.latest (b.mark + 1) b.wait
def Up (xs : List Ev) : Prop := xs.Pairwise fun a b => a.time ≤ b.time
theorem vld_up (latest : Int) : ∀ (xs : List Ev) (last : Int), vldS latest last xs = true → Up xs ∧ ∀ x ∈ xs, evS x = 0 ∧ last ≤ x.time ∧ x.time ≤ latest := by
  intro xs
  induction xs with
  | nil => intro last _; exact ⟨List.Pairwise.nil, fun x hx => by cases hx⟩
  | cons e xs ih =>
    intro last h
    simp only [vldS, Bool.and_eq_true, decide_eq_true_eq] at h
    obtain ⟨h0, h1, h2, h3⟩ := h
    obtain ⟨i1, i2⟩ := ih _ h3
    refine ⟨List.pairwise_cons.2 ⟨fun x hx => (i2 x hx).2.1, i1⟩, fun x hx => ?_⟩
    rcases List.mem_cons.1 hx with rfl | hx
    · exact ⟨h0, h1, h2⟩
    · have := i2 x hx; exact ⟨this.1, by omega, this.2.2⟩
theorem up_vld (latest : Int) : ∀ (xs : List Ev) (last : Int), Up xs → (∀ x ∈ xs, evS x = 0 ∧ last ≤ x.time ∧ x.time ≤ latest) → vldS latest last xs = true := by
  intro xs
  induction xs with
  | nil => intro last _ _; rfl
  | cons e xs ih =>
    intro last h hx
    obtain ⟨h1, h2⟩ := List.pairwise_cons.1 h
    have he := hx e (List.mem_cons_self ..)
    simp only [vldS, Bool.and_eq_true, decide_eq_true_eq]
    exact ⟨he.1, he.2.1, he.2.2, ih _ h2 fun x hm => ⟨(hx x (List.mem_cons_of_mem _ hm)).1, h1 x hm, (hx x (List.mem_cons_of_mem _ hm)).2.2⟩⟩

/-- the place of a time: behind all that are not later -/
def posS (t : Int) (xs : List Ev) : Nat → Nat
  | 0 => 0
  | i + 1 => if t < (xs.getD i ⟨0, 0, 0, 0, 0, 0, 0⟩).time then posS t xs i else i + 1
theorem posS_le (t : Int) (xs : List Ev) : ∀ i, posS t xs i ≤ i := by
  intro i
  induction i with
  | zero => exact Nat.le_refl _
  | succ i ih => unfold posS; split <;> omega
def insS (e : Ev) (xs : List Ev) : List Ev := xs.take (posS e.time xs xs.length) ++ e :: xs.drop (posS e.time xs xs.length)
theorem insS_length (e : Ev) (xs : List Ev) : (insS e xs).length = xs.length + 1 := by
  have := posS_le e.time xs xs.length
  unfold insS
  rw [List.length_append, List.length_cons, List.length_take, List.length_drop]; omega
theorem posS_hi (t : Int) (xs : List Ev) : ∀ i, i ≤ xs.length → ∀ j x, posS t xs i ≤ j → j < i → xs[j]? = some x → t < x.time := by
  intro i
  induction i with
  | zero => intro _ j x _ h; omega
  | succ i ih =>
    intro hi j x h1 h2 hx
    unfold posS at h1
    split at h1
    · rename_i h
      by_cases hj : j = i
      · subst hj
        rw [List.getD_eq_getElem?_getD, hx] at h; exact h
      · exact ih (by omega) j x h1 (by omega) hx
    · omega
theorem posS_lo (t : Int) (xs : List Ev) : ∀ i, i ≤ xs.length → posS t xs i = 0 ∨ ∃ j x, posS t xs i = j + 1 ∧ xs[j]? = some x ∧ x.time ≤ t := by
  intro i
  induction i with
  | zero => intro _; exact .inl rfl
  | succ i ih =>
    intro hi
    unfold posS
    split
    · exact ih (by omega)
    · rename_i h
      refine .inr ⟨i, xs[i]'(by omega), rfl, List.getElem?_eq_getElem _, ?_⟩
      rw [List.getD_eq_getElem?_getD, List.getElem?_eq_getElem (show i < xs.length by omega)] at h
      simpa using h
theorem ins_parts {e : Ev} {xs : List Ev} (hu : Up xs) : (∀ x ∈ xs.take (posS e.time xs xs.length), x.time ≤ e.time) ∧ ∀ x ∈ xs.drop (posS e.time xs xs.length), e.time < x.time := by
  constructor
  · intro x hx
    obtain ⟨i, hi⟩ := List.mem_iff_getElem?.1 hx
    rw [List.getElem?_take] at hi
    split at hi
    · rcases posS_lo e.time xs xs.length (Nat.le_refl _) with h | ⟨j, y, h, hy, ht⟩
      · omega
      · by_cases hij : i = j
        · subst hij; rw [hy] at hi; cases hi; exact ht
        · obtain ⟨hi', rfl⟩ := List.getElem?_eq_some_iff.1 hi
          obtain ⟨hy', rfl⟩ := List.getElem?_eq_some_iff.1 hy
          have := List.pairwise_iff_getElem.1 hu i j hi' hy' (by omega)
          omega
    · cases hi
  · intro x hx
    obtain ⟨i, hi⟩ := List.mem_iff_getElem?.1 hx
    rw [List.getElem?_drop] at hi
    exact posS_hi e.time xs xs.length (Nat.le_refl _) _ x (by omega) (List.getElem?_eq_some_iff.1 hi).1 hi
theorem ins_up {e : Ev} {xs : List Ev} (hu : Up xs) : Up (insS e xs) := by
  obtain ⟨h1, h2⟩ := ins_parts (e := e) hu
  unfold insS Up
  rw [List.pairwise_append, List.pairwise_cons]
  refine ⟨hu.sublist (List.take_sublist _ _), ⟨fun x hx => by have := h2 x hx; omega, hu.sublist (List.drop_sublist _ _)⟩, fun a ha b hb => ?_⟩
  have := h1 a ha
  rcases List.mem_cons.1 hb with rfl | hb
  · exact this
  · have := h2 b hb; omega
theorem ins_mem {e : Ev} {xs : List Ev} (x : Ev) : x ∈ insS e xs ↔ x = e ∨ x ∈ xs := by
  unfold insS
  rw [List.mem_append, List.mem_cons]
  have : x ∈ xs ↔ x ∈ xs.take (posS e.time xs xs.length) ∨ x ∈ xs.drop (posS e.time xs xs.length) := by rw [← List.mem_append, List.take_append_drop]
  rw [this]
  constructor
  · rintro (h | h | h)
    · exact .inr (.inl h)
    · exact .inl h
    · exact .inr (.inr h)
  · rintro (h | h | h)
    · exact .inr (.inl h)
    · exact .inl h
    · exact .inr (.inr h)

/-- how many at the head are not later than a time -/
def preS (m : Int) : List Ev → Nat
  | [] => 0
  | e :: es => if e.time ≤ m then preS m es + 1 else 0
theorem preS_le (m : Int) : ∀ xs, preS m xs ≤ xs.length := by
  intro xs
  induction xs with
  | nil => exact Nat.le_refl _
  | cons e es ih => unfold preS; split <;> simp <;> omega
def outS (m : Int) (xs : List Ev) : List Ev := xs.filter fun e => decide (e.time ≤ m)
def restS (m : Int) (xs : List Ev) : List Ev := xs.filter fun e => !decide (e.time ≤ m)
theorem pre_out (m : Int) : ∀ xs, Up xs → xs.take (preS m xs) = outS m xs ∧ xs.drop (preS m xs) = restS m xs := by
  intro xs
  induction xs with
  | nil => intro _; exact ⟨rfl, rfl⟩
  | cons e es ih =>
    intro h
    obtain ⟨h1, h2⟩ := List.pairwise_cons.1 h
    unfold preS outS restS
    split
    · rename_i hm
      obtain ⟨i1, i2⟩ := ih h2
      rw [List.filter_cons_of_pos (by simpa using hm), List.filter_cons_of_neg (by simpa using hm)]
      exact ⟨by rw [List.take_succ_cons, i1]; rfl, by rw [List.drop_succ_cons, i2]; rfl⟩
    · rename_i hm
      have e1 : es.filter (fun e => decide (e.time ≤ m)) = [] := by
        rw [List.filter_eq_nil_iff]; intro x hx; have := h1 x hx; simp; omega
      have e2 : es.filter (fun e => !decide (e.time ≤ m)) = es := by
        rw [List.filter_eq_self]; intro x hx; have := h1 x hx; simp; omega
      rw [List.filter_cons_of_neg (by simpa using hm), List.filter_cons_of_pos (by simp; omega), e1, e2]
      exact ⟨rfl, rfl⟩
theorem preS_step (m : Int) : ∀ (xs : List Ev) (k : Nat), (∀ j x, j < k → xs[j]? = some x → x.time ≤ m) → k ≤ xs.length → (k = xs.length ∨ ∃ x, xs[k]? = some x ∧ m < x.time) → preS m xs = k := by
  intro xs
  induction xs with
  | nil => intro k _ hk _; simp at hk; subst hk; rfl
  | cons e es ih =>
    intro k h1 hk h2
    cases k with
    | zero =>
      rcases h2 with h2 | ⟨x, hx, hm⟩
      · simp at h2
      · simp at hx; subst hx
        unfold preS; rw [if_neg (by omega)]
    | succ k =>
      have h0 := h1 0 e (by omega) rfl
      unfold preS
      rw [if_pos h0, ih k (fun j x hj hx => h1 (j + 1) x (by omega) (by simpa using hx)) (by simpa using hk) (by
        rcases h2 with h2 | ⟨x, hx, hm⟩
        · left; simpa using h2
        · right; exact ⟨x, by simpa using hx, hm⟩)]

/-- what is released up to a time -/
def relS (b : Buf) (m : Int) : Buf × List Ev := (⟨b.bound, b.latest, max b.mark m, restS m b.wait⟩, outS m b.wait)
def pushS (b : Buf) (e : Ev) : Buf × List Ev × Int :=
  if bufB b = false then (b, [], 4) else if evS e ≠ 0 then (b, [], evS e) else if e.time ≤ b.mark then (b, [], 10) else if 4096 ≤ b.wait.length then (b, [], 3)
  else ((relS ⟨b.bound, max b.latest e.time, b.mark, insS e b.wait⟩ (max b.latest e.time - b.bound - 1)).1, (relS ⟨b.bound, max b.latest e.time, b.mark, insS e b.wait⟩ (max b.latest e.time - b.bound - 1)).2, 0)
def flushS (b : Buf) : Buf × List Ev × Int := if bufB b = false then (⟨0, 0, 0, []⟩, [], 4) else ((relS b b.latest).1, (relS b b.latest).2, 0)
def openS (k : Int) : Buf × Int := if k < 0 ∨ 1048576 < k then (⟨0, 0, 0, []⟩, 1) else (⟨k, -1, -1, []⟩, 0)
def sortL (b : Buf) (out : List Ev) (late : Int) : List Ev → List Ev × Int × Int
  | [] => (out ++ (flushS b).2.1, late, 0)
  | x :: l => if (pushS b x).2.2 = 10 then sortL b out (late + 1) l else if (pushS b x).2.2 ≠ 0 then ([], 0, (pushS b x).2.2) else sortL (pushS b x).1 (out ++ (pushS b x).2.1) late l
def sortS (k : Int) (l : List Ev) : List Ev × Int × Int := if (openS k).2 ≠ 0 then ([], 0, (openS k).2) else sortL (openS k).1 [] 0 l

theorem out_mem {m : Int} {xs : List Ev} {x : Ev} : x ∈ outS m xs ↔ x ∈ xs ∧ x.time ≤ m := by simp [outS]
theorem rest_mem {m : Int} {xs : List Ev} {x : Ev} : x ∈ restS m xs ↔ x ∈ xs ∧ m < x.time := by simp [restS]
theorem out_rest (m : Int) (xs : List Ev) : (outS m xs).length + (restS m xs).length = xs.length := by
  unfold outS restS
  induction xs with
  | nil => rfl
  | cons e es ih => by_cases h : e.time ≤ m <;> simp [h] at ih ⊢ <;> omega
/-- a valid buffer stays valid -/
theorem rel_valid {b : Buf} (h : bufB b = true) (m : Int) (hm : m ≤ b.latest) : bufB (relS b m).1 = true := by
  unfold bufB at h ⊢
  rw [Bool.and_eq_true] at h
  obtain ⟨hh, hv⟩ := h
  simp only [bufH, Bool.and_eq_true, decide_eq_true_eq] at hh
  obtain ⟨i1, i2⟩ := vld_up _ _ _ hv
  have hl := out_rest m b.wait
  rw [Bool.and_eq_true]
  constructor
  · unfold relS bufH
    simp only [Bool.and_eq_true, decide_eq_true_eq]
    omega
  · refine up_vld _ _ _ (i1.sublist List.filter_sublist) fun x hx => ?_
    obtain ⟨h1, h2⟩ := rest_mem.1 hx
    have := i2 x h1
    dsimp only [relS]
    exact ⟨this.1, by omega, this.2.2⟩
theorem push_mid {b : Buf} {e : Ev} (h : bufB b = true) (he : evS e = 0) (ht : b.mark < e.time) (hl : b.wait.length < 4096) : bufB ⟨b.bound, max b.latest e.time, b.mark, insS e b.wait⟩ = true := by
  unfold bufB at h ⊢
  rw [Bool.and_eq_true] at h
  obtain ⟨hh, hv⟩ := h
  simp only [bufH, Bool.and_eq_true, decide_eq_true_eq] at hh
  obtain ⟨i1, i2⟩ := vld_up _ _ _ hv
  have het := evS_time he
  have hil := insS_length e b.wait
  rw [Bool.and_eq_true]
  constructor
  · simp only [bufH, Bool.and_eq_true, decide_eq_true_eq]; omega
  · refine up_vld _ _ _ (ins_up i1) fun x hx => ?_
    rcases (ins_mem x).1 hx with rfl | hx
    · dsimp only; exact ⟨he, by omega, by omega⟩
    · have := i2 x hx; dsimp only; exact ⟨this.1, this.2.1, by omega⟩
theorem push_valid {b : Buf} (h : bufB b = true) (e : Ev) : bufB (pushS b e).1 = true := by
  unfold pushS
  rw [if_neg (by rw [h]; simp)]
  split
  · exact h
  · rename_i he
    split
    · exact h
    · rename_i ht
      split
      · exact h
      · rename_i hl
        have hh := h
        unfold bufB at hh
        rw [Bool.and_eq_true] at hh
        simp only [bufH, Bool.and_eq_true, decide_eq_true_eq] at hh
        exact rel_valid (push_mid h (by omega) (by omega) (by omega)) _ (by dsimp only; omega)
theorem open_valid (k : Int) (h : (openS k).2 = 0) : bufB (openS k).1 = true := by
  unfold openS at h ⊢
  split at h
  · cases h
  · rename_i hk
    rw [if_neg hk]
    simp [bufB, bufH, vldS]; omega
end Go.Proofs.YtpblaoeaeljmhaaDoor
