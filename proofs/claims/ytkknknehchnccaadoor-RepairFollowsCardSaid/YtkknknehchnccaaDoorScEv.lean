/- Events in plain words, and how they lie in memory. Buffers of events in plain words: which are valid, what a push, a flush, a sort gives. The contracts of slices.Clone, Insert, Delete at a slice of 7 cells an element. The contracts of made events. -/
import Derived.Test.YtkknknehchnccaaDoorSeqs
import Derived.Deep.RegionLaw
import Derived.Deep.RegionWith
import Derived.Test.YtkknknehchnccaaDoorMk
import Derived.Deep.RegionHeld3
import Derived.IntWalk
namespace Go.Proofs.YtkknknehchnccaaDoor
open Go.RowKit

structure Ev where
  kind : Int
  time : Int
  u : Int
  v : Int
  weight : Int
  label : Int
  sign : Int
deriving DecidableEq
def Ev.cells (e : Ev) : Array Value := #[.int .i64 e.kind, .int .i64 e.time, .int .i64 e.u, .int .i64 e.v, .int .i64 e.weight, .int .i64 e.label, .int .i64 e.sign]
def encEv : Enc Ev := ⟨7, fun e => e.cells.toList, fun _ => rfl, fun e u hu => by simp [Ev.cells] at hu; rcases hu with h | h | h | h | h | h | h <;> subst h <;> rfl, by decide⟩
/-- the event at a place, and its seven cells -/
theorem ev_at {w : World} {a : Option Addr} {cap : Nat} {xs : List Ev} (h : RowAt encEv w (.slice a xs.length cap) xs) (i : Nat) (hi : i < xs.length) :
    ∃ b off x, a = some ⟨b, off, none⟩ ∧ xs[i]? = some x ∧ xs.length ≤ cap ∧ w.cell? ⟨b, off + i * 7, none⟩ = some (.int .i64 x.kind) ∧ w.cell? ⟨b, off + i * 7 + 1, none⟩ = some (.int .i64 x.time) ∧ w.cell? ⟨b, off + i * 7 + 2, none⟩ = some (.int .i64 x.u) ∧
      w.cell? ⟨b, off + i * 7 + 3, none⟩ = some (.int .i64 x.v) ∧ w.cell? ⟨b, off + i * 7 + 4, none⟩ = some (.int .i64 x.weight) ∧ w.cell? ⟨b, off + i * 7 + 5, none⟩ = some (.int .i64 x.label) ∧ w.cell? ⟨b, off + i * 7 + 6, none⟩ = some (.int .i64 x.sign) := by
  obtain ⟨b, off, x, e, hx, hc, hat⟩ := h.elem i hi
  exact ⟨b, off, x, e, hx, hc, hat 0 _ rfl, hat 1 _ rfl, hat 2 _ rfl, hat 3 _ rfl, hat 4 _ rfl, hat 5 _ rfl, hat 6 _ rfl⟩
end Go.Proofs.YtkknknehchnccaaDoor

namespace Go.Proofs.YtkknknehchnccaaDoor
open Go.RowKit

def nodeB (v : Int) : Bool := decide (0 ≤ v) && decide (v < 64)
def evEnds (e : Ev) : Bool := if e.kind = 3 then nodeB e.u && decide (e.v = 0) else nodeB e.u && (nodeB e.v && decide (e.u ≠ e.v))
def attS (w l s : Int) : Bool := decide (1 ≤ w) && (decide (w ≤ 1000) && (decide (0 ≤ l) && (decide (l ≤ 15) && (decide (s = 1) || decide (s = -1)))))
/-- the first error of an event -/
def evS (e : Ev) : Int :=
  if e.kind < 1 ∨ 3 < e.kind then 8 else if e.time < 0 ∨ 1048576 < e.time then 9 else if evEnds e = false then 6
  else if e.kind = 1 then (if attS e.weight e.label e.sign = true then 0 else 1)
  else if e.weight ≠ 0 ∨ e.label ≠ 0 ∨ e.sign ≠ 0 then 1 else 0
theorem evS_time {e : Ev} (h : evS e = 0) : 0 ≤ e.time ∧ e.time ≤ 1048576 := by
  unfold evS at h
  split at h
  · omega
  · split at h
    · omega
    · omega

structure Buf where
  bound : Int
  latest : Int
  mark : Int
  wait : List Ev
/-- the events in a buffer: each right, none before the one ahead of it -/
def vldS (latest : Int) : Int → List Ev → Bool
  | _, [] => true
  | last, e :: es => decide (evS e = 0) && (decide (last ≤ e.time) && (decide (e.time ≤ latest) && vldS latest e.time es))
def bufH (b : Buf) : Bool := decide (0 ≤ b.bound) && (decide (b.bound ≤ 1048576) && (decide (-1 ≤ b.mark) && (decide (b.mark ≤ b.latest) && (decide (b.latest ≤ 1048576) && decide (b.wait.length ≤ 4096)))))
def bufB (b : Buf) : Bool := bufH b && vldS b.latest (b.mark + 1) b.wait
def Up (xs : List Ev) : Prop := xs.Pairwise fun a b => a.time ≤ b.time
theorem vld_up (latest : Int) : ∀ (xs : List Ev) (last : Int), vldS latest last xs = true → Up xs ∧ ∀ x ∈ xs, evS x = 0 ∧ last ≤ x.time ∧ x.time ≤ latest := by
  intro xs
  induction xs with
  | nil => intro last _; exact ⟨List.Pairwise.nil, fun x hx => by cases hx⟩
  | cons e xs ih =>
    intro last h
    simp only [vldS, Bool.and_eq_true, decide_eq_true_eq] at h
    obtain ⟨h0, h1, h2, h3⟩ := h
    obtain ⟨i1, i2⟩ := ih _ h3
    refine ⟨List.pairwise_cons.2 ⟨fun x hx => (i2 x hx).2.1, i1⟩, fun x hx => ?_⟩
    rcases List.mem_cons.1 hx with rfl | hx
    · exact ⟨h0, h1, h2⟩
    · have := i2 x hx; exact ⟨this.1, by omega, this.2.2⟩
theorem up_vld (latest : Int) : ∀ (xs : List Ev) (last : Int), Up xs → (∀ x ∈ xs, evS x = 0 ∧ last ≤ x.time ∧ x.time ≤ latest) → vldS latest last xs = true := by
  intro xs
  induction xs with
  | nil => intro last _ _; rfl
  | cons e xs ih =>
    intro last h hx
    obtain ⟨h1, h2⟩ := List.pairwise_cons.1 h
    have he := hx e (List.mem_cons_self ..)
    simp only [vldS, Bool.and_eq_true, decide_eq_true_eq]
    exact ⟨he.1, he.2.1, he.2.2, ih _ h2 fun x hm => ⟨(hx x (List.mem_cons_of_mem _ hm)).1, h1 x hm, (hx x (List.mem_cons_of_mem _ hm)).2.2⟩⟩

/-- the place of a time: behind all that are not later -/
def posS (t : Int) (xs : List Ev) : Nat → Nat
  | 0 => 0
  | i + 1 => if t < (xs.getD i ⟨0, 0, 0, 0, 0, 0, 0⟩).time then posS t xs i else i + 1
theorem posS_le (t : Int) (xs : List Ev) : ∀ i, posS t xs i ≤ i := by
  intro i
  induction i with
  | zero => exact Nat.le_refl _
  | succ i ih => unfold posS; split <;> omega
def insS (e : Ev) (xs : List Ev) : List Ev := xs.take (posS e.time xs xs.length) ++ e :: xs.drop (posS e.time xs xs.length)
theorem insS_length (e : Ev) (xs : List Ev) : (insS e xs).length = xs.length + 1 := by
  have := posS_le e.time xs xs.length
  unfold insS
  rw [List.length_append, List.length_cons, List.length_take, List.length_drop]; omega
theorem posS_hi (t : Int) (xs : List Ev) : ∀ i, i ≤ xs.length → ∀ j x, posS t xs i ≤ j → j < i → xs[j]? = some x → t < x.time := by
  intro i
  induction i with
  | zero => intro _ j x _ h; omega
  | succ i ih =>
    intro hi j x h1 h2 hx
    unfold posS at h1
    split at h1
    · rename_i h
      by_cases hj : j = i
      · subst hj
        rw [List.getD_eq_getElem?_getD, hx] at h; exact h
      · exact ih (by omega) j x h1 (by omega) hx
    · omega
theorem posS_lo (t : Int) (xs : List Ev) : ∀ i, i ≤ xs.length → posS t xs i = 0 ∨ ∃ j x, posS t xs i = j + 1 ∧ xs[j]? = some x ∧ x.time ≤ t := by
  intro i
  induction i with
  | zero => intro _; exact .inl rfl
  | succ i ih =>
    intro hi
    unfold posS
    split
    · exact ih (by omega)
    · rename_i h
      refine .inr ⟨i, xs[i]'(by omega), rfl, List.getElem?_eq_getElem _, ?_⟩
      rw [List.getD_eq_getElem?_getD, List.getElem?_eq_getElem (show i < xs.length by omega)] at h
      simpa using h
theorem ins_parts {e : Ev} {xs : List Ev} (hu : Up xs) : (∀ x ∈ xs.take (posS e.time xs xs.length), x.time ≤ e.time) ∧ ∀ x ∈ xs.drop (posS e.time xs xs.length), e.time < x.time := by
  constructor
  · intro x hx
    obtain ⟨i, hi⟩ := List.mem_iff_getElem?.1 hx
    rw [List.getElem?_take] at hi
    split at hi
    · rcases posS_lo e.time xs xs.length (Nat.le_refl _) with h | ⟨j, y, h, hy, ht⟩
      · omega
      · by_cases hij : i = j
        · subst hij; rw [hy] at hi; cases hi; exact ht
        · obtain ⟨hi', rfl⟩ := List.getElem?_eq_some_iff.1 hi
          obtain ⟨hy', rfl⟩ := List.getElem?_eq_some_iff.1 hy
          have := List.pairwise_iff_getElem.1 hu i j hi' hy' (by omega)
          omega
    · cases hi
  · intro x hx
    obtain ⟨i, hi⟩ := List.mem_iff_getElem?.1 hx
    rw [List.getElem?_drop] at hi
    exact posS_hi e.time xs xs.length (Nat.le_refl _) _ x (by omega) (List.getElem?_eq_some_iff.1 hi).1 hi
theorem ins_up {e : Ev} {xs : List Ev} (hu : Up xs) : Up (insS e xs) := by
  obtain ⟨h1, h2⟩ := ins_parts (e := e) hu
  unfold insS Up
  rw [List.pairwise_append, List.pairwise_cons]
  refine ⟨hu.sublist (List.take_sublist _ _), ⟨fun x hx => by have := h2 x hx; omega, hu.sublist (List.drop_sublist _ _)⟩, fun a ha b hb => ?_⟩
  have := h1 a ha
  rcases List.mem_cons.1 hb with rfl | hb
  · exact this
  · have := h2 b hb; omega
theorem ins_mem {e : Ev} {xs : List Ev} (x : Ev) : x ∈ insS e xs ↔ x = e ∨ x ∈ xs := by
  unfold insS
  rw [List.mem_append, List.mem_cons]
  have : x ∈ xs ↔ x ∈ xs.take (posS e.time xs xs.length) ∨ x ∈ xs.drop (posS e.time xs xs.length) := by rw [← List.mem_append, List.take_append_drop]
  rw [this]
  constructor
  · rintro (h | h | h)
    · exact .inr (.inl h)
    · exact .inl h
    · exact .inr (.inr h)
  · rintro (h | h | h)
    · exact .inr (.inl h)
    · exact .inl h
    · exact .inr (.inr h)

/-- how many at the head are not later than a time -/
def preS (m : Int) : List Ev → Nat
  | [] => 0
  | e :: es => if e.time ≤ m then preS m es + 1 else 0
theorem preS_le (m : Int) : ∀ xs, preS m xs ≤ xs.length := by
  intro xs
  induction xs with
  | nil => exact Nat.le_refl _
  | cons e es ih => unfold preS; split <;> simp <;> omega
def outS (m : Int) (xs : List Ev) : List Ev := xs.filter fun e => decide (e.time ≤ m)
def restS (m : Int) (xs : List Ev) : List Ev := xs.filter fun e => !decide (e.time ≤ m)
theorem pre_out (m : Int) : ∀ xs, Up xs → xs.take (preS m xs) = outS m xs ∧ xs.drop (preS m xs) = restS m xs := by
  intro xs
  induction xs with
  | nil => intro _; exact ⟨rfl, rfl⟩
  | cons e es ih =>
    intro h
    obtain ⟨h1, h2⟩ := List.pairwise_cons.1 h
    unfold preS outS restS
    split
    · rename_i hm
      obtain ⟨i1, i2⟩ := ih h2
      rw [List.filter_cons_of_pos (by simpa using hm), List.filter_cons_of_neg (by simpa using hm)]
      exact ⟨by rw [List.take_succ_cons, i1]; rfl, by rw [List.drop_succ_cons, i2]; rfl⟩
    · rename_i hm
      have e1 : es.filter (fun e => decide (e.time ≤ m)) = [] := by
        rw [List.filter_eq_nil_iff]; intro x hx; have := h1 x hx; simp; omega
      have e2 : es.filter (fun e => !decide (e.time ≤ m)) = es := by
        rw [List.filter_eq_self]; intro x hx; have := h1 x hx; simp; omega
      rw [List.filter_cons_of_neg (by simpa using hm), List.filter_cons_of_pos (by simp; omega), e1, e2]
      exact ⟨rfl, rfl⟩
theorem preS_step (m : Int) : ∀ (xs : List Ev) (k : Nat), (∀ j x, j < k → xs[j]? = some x → x.time ≤ m) → k ≤ xs.length → (k = xs.length ∨ ∃ x, xs[k]? = some x ∧ m < x.time) → preS m xs = k := by
  intro xs
  induction xs with
  | nil => intro k _ hk _; simp at hk; subst hk; rfl
  | cons e es ih =>
    intro k h1 hk h2
    cases k with
    | zero =>
      rcases h2 with h2 | ⟨x, hx, hm⟩
      · simp at h2
      · simp at hx; subst hx
        unfold preS; rw [if_neg (by omega)]
    | succ k =>
      have h0 := h1 0 e (by omega) rfl
      unfold preS
      rw [if_pos h0, ih k (fun j x hj hx => h1 (j + 1) x (by omega) (by simpa using hx)) (by simpa using hk) (by
        rcases h2 with h2 | ⟨x, hx, hm⟩
        · left; simpa using h2
        · right; exact ⟨x, by simpa using hx, hm⟩)]

/-- what is released up to a time -/
def relS (b : Buf) (m : Int) : Buf × List Ev := (⟨b.bound, b.latest, max b.mark m, restS m b.wait⟩, outS m b.wait)
def pushS (b : Buf) (e : Ev) : Buf × List Ev × Int :=
  if bufB b = false then (b, [], 4) else if evS e ≠ 0 then (b, [], evS e) else if e.time ≤ b.mark then (b, [], 10) else if 4096 ≤ b.wait.length then (b, [], 3)
  else ((relS ⟨b.bound, max b.latest e.time, b.mark, insS e b.wait⟩ (max b.latest e.time - b.bound - 1)).1, (relS ⟨b.bound, max b.latest e.time, b.mark, insS e b.wait⟩ (max b.latest e.time - b.bound - 1)).2, 0)
def flushS (b : Buf) : Buf × List Ev × Int := if bufB b = false then (⟨0, 0, 0, []⟩, [], 4) else ((relS b b.latest).1, (relS b b.latest).2, 0)
def openS (k : Int) : Buf × Int := if k < 0 ∨ 1048576 < k then (⟨0, 0, 0, []⟩, 1) else (⟨k, -1, -1, []⟩, 0)
def sortL (b : Buf) (out : List Ev) (late : Int) : List Ev → List Ev × Int × Int
  | [] => (out ++ (flushS b).2.1, late, 0)
  | x :: l => if (pushS b x).2.2 = 10 then sortL b out (late + 1) l else if (pushS b x).2.2 ≠ 0 then ([], 0, (pushS b x).2.2) else sortL (pushS b x).1 (out ++ (pushS b x).2.1) late l
def sortS (k : Int) (l : List Ev) : List Ev × Int × Int := if (openS k).2 ≠ 0 then ([], 0, (openS k).2) else sortL (openS k).1 [] 0 l

theorem out_mem {m : Int} {xs : List Ev} {x : Ev} : x ∈ outS m xs ↔ x ∈ xs ∧ x.time ≤ m := by simp [outS]
theorem rest_mem {m : Int} {xs : List Ev} {x : Ev} : x ∈ restS m xs ↔ x ∈ xs ∧ m < x.time := by simp [restS]
theorem out_rest (m : Int) (xs : List Ev) : (outS m xs).length + (restS m xs).length = xs.length := by
  unfold outS restS
  induction xs with
  | nil => rfl
  | cons e es ih => by_cases h : e.time ≤ m <;> simp [h] at ih ⊢ <;> omega
/-- a valid buffer stays valid -/
theorem rel_valid {b : Buf} (h : bufB b = true) (m : Int) (hm : m ≤ b.latest) : bufB (relS b m).1 = true := by
  unfold bufB at h ⊢
  rw [Bool.and_eq_true] at h
  obtain ⟨hh, hv⟩ := h
  simp only [bufH, Bool.and_eq_true, decide_eq_true_eq] at hh
  obtain ⟨i1, i2⟩ := vld_up _ _ _ hv
  have hl := out_rest m b.wait
  rw [Bool.and_eq_true]
  constructor
  · unfold relS bufH
    simp only [Bool.and_eq_true, decide_eq_true_eq]
    omega
  · refine up_vld _ _ _ (i1.sublist List.filter_sublist) fun x hx => ?_
    obtain ⟨h1, h2⟩ := rest_mem.1 hx
    have := i2 x h1
    dsimp only [relS]
    exact ⟨this.1, by omega, this.2.2⟩
theorem push_mid {b : Buf} {e : Ev} (h : bufB b = true) (he : evS e = 0) (ht : b.mark < e.time) (hl : b.wait.length < 4096) : bufB ⟨b.bound, max b.latest e.time, b.mark, insS e b.wait⟩ = true := by
  unfold bufB at h ⊢
  rw [Bool.and_eq_true] at h
  obtain ⟨hh, hv⟩ := h
  simp only [bufH, Bool.and_eq_true, decide_eq_true_eq] at hh
  obtain ⟨i1, i2⟩ := vld_up _ _ _ hv
  have het := evS_time he
  have hil := insS_length e b.wait
  rw [Bool.and_eq_true]
  constructor
  · simp only [bufH, Bool.and_eq_true, decide_eq_true_eq]; omega
  · refine up_vld _ _ _ (ins_up i1) fun x hx => ?_
    rcases (ins_mem x).1 hx with rfl | hx
    · dsimp only; exact ⟨he, by omega, by omega⟩
    · have := i2 x hx; dsimp only; exact ⟨this.1, this.2.1, by omega⟩
theorem push_valid {b : Buf} (h : bufB b = true) (e : Ev) : bufB (pushS b e).1 = true := by
  unfold pushS
  rw [if_neg (by rw [h]; simp)]
  split
  · exact h
  · rename_i he
    split
    · exact h
    · rename_i ht
      split
      · exact h
      · rename_i hl
        have hh := h
        unfold bufB at hh
        rw [Bool.and_eq_true] at hh
        simp only [bufH, Bool.and_eq_true, decide_eq_true_eq] at hh
        exact rel_valid (push_mid h (by omega) (by omega) (by omega)) _ (by dsimp only; omega)
theorem open_valid (k : Int) (h : (openS k).2 = 0) : bufB (openS k).1 = true := by
  unfold openS at h ⊢
  split at h
  · cases h
  · rename_i hk
    rw [if_neg hk]
    simp [bufB, bufH, vldS]; omega
end Go.Proofs.YtkknknehchnccaaDoor

namespace Go.Proofs.YtkknknehchnccaaDoor
open Go.RowKit Go.BigFrame

theorem evRT : SliceT Tryd.prog 79 78 (.agg #[.int .i64 0, .int .i64 0, .int .i64 0, .int .i64 0, .int .i64 0, .int .i64 0, .int .i64 0]) encEv.k 56 := ⟨Tryd.underlying79, by kernel_rfl, rfl, by decide⟩
theorem ev_nil (x : Addr) (n c : Nat) (w : World) : (binOp .eql 79 (.slice (some x) n c) (.slice none 0 0)).run Tryd.prog w = .ok (.bool false) w := by
  have h : ∀ d : Nat, (Op.equalIn (d + 1) 79 (.slice (some x) n c) (.slice none 0 0)).run Tryd.prog w = .ok false w := fun d => by
    simp [Op.equalIn, run_underlying Tryd.underlying79]
  simp only [binOp]
  simp [Op.equal, Op.maxDepth, h 9999]
end Go.Proofs.YtkknknehchnccaaDoor

namespace Go.Proofs.YtkknknehchnccaaDoor
open Go.RowKit Go.BigFrame

def EvPost (b : Nat) (n t : Int) (w : World) (x : Ending) (w' : World) : Prop := ∃ e : Ev, x = .returned (.agg e.cells) ∧ evS e = 0 ∧ e.time = t ∧ 0 ≤ e.u ∧ e.u < n ∧ 0 ≤ e.v ∧ e.v < n ∧ DeckAt w' b ∧ w.grownBy w' (some b)
theorem set_seven {w : World} {g T : Nat} {x y z u p q r x' y' z' u' p' q' r' : Value} (h : w.heap[g]? = some (.cells #[x, y, z, u, p, q, r] T (0, 0))) :
    (((((((w.setCell ⟨g, 0, none⟩ x').setCell ⟨g, 1, none⟩ y').setCell ⟨g, 2, none⟩ z').setCell ⟨g, 3, none⟩ u').setCell ⟨g, 4, none⟩ p').setCell ⟨g, 5, none⟩ q').setCell ⟨g, 6, none⟩ r').heap[g]? = some (.cells #[x', y', z', u', p', q', r'] T (0, 0)) := by
  rw [heap_setCell_same _ _ _ _ _ _ (heap_setCell_same _ _ _ _ _ _ (heap_setCell_same _ _ _ _ _ _ (heap_setCell_same _ _ _ _ _ _ (heap_setCell_same _ _ _ _ _ _ (heap_setCell_same _ _ _ _ _ _ (heap_setCell_same _ _ _ _ _ _ h))))))]
  rfl
theorem cells7' {w : World} {g T : Nat} {x y z u v p q : Value} (h : w.heap[g]? = some (.cells #[x, y, z, u, v, p, q] T (0, 0))) : w.cell? ⟨g, 0, none⟩ = some x ∧ w.cell? ⟨g, 1, none⟩ = some y ∧ w.cell? ⟨g, 2, none⟩ = some z ∧ w.cell? ⟨g, 3, none⟩ = some u ∧ w.cell? ⟨g, 4, none⟩ = some v ∧ w.cell? ⟨g, 5, none⟩ = some p ∧ w.cell? ⟨g, 6, none⟩ = some q :=
  ⟨by rw [cell_blk h]; rfl, by rw [cell_blk h]; rfl, by rw [cell_blk h]; rfl, by rw [cell_blk h]; rfl, by rw [cell_blk h]; rfl, by rw [cell_blk h]; rfl, by rw [cell_blk h]; rfl⟩
theorem grown_seven {w : World} {g : Nat} {x y z u p q r : Value} : w.grownBy (((((((w.setCell ⟨g, 0, none⟩ x).setCell ⟨g, 1, none⟩ y).setCell ⟨g, 2, none⟩ z).setCell ⟨g, 3, none⟩ u).setCell ⟨g, 4, none⟩ p).setCell ⟨g, 5, none⟩ q).setCell ⟨g, 6, none⟩ r) (some g) :=
  grown_trans (grown_trans (grown_trans (grown_trans (grown_trans (grown_trans grown_store grown_store) grown_store) grown_store) grown_store) grown_store) grown_store
/-- the state of the call: the result's block R, the event's block E, the deck -/
structure EvW (w wr : World) (b R E : Nat) (rc ec : Array Value) : Prop where
  dk : DeckAt wr b
  gr : w.grownBy wr (some b)
  r : wr.heap[R]? = some (.cells rc 78 (0, 0))
  e : wr.heap[E]? = some (.cells ec 78 (0, 0))
  hR : w.heap.size ≤ R
  hE : R < E
theorem EvW.next {w wr w' : World} {b R E : Nat} {rc ec : Array Value} (h : EvW w wr b R E rc ec) (hb : b < w.heap.size) (hd : DeckAt w' b) (hg : wr.grownBy w' (some b)) : EvW w w' b R E rc ec :=
  ⟨hd, grown_trans h.gr hg, grown_blk hg h.r (by have := h.hR; intro e; cases e; omega), grown_blk hg h.e (by have := h.hR; have := h.hE; intro e; cases e; omega), h.hR, h.hE⟩
theorem EvW.set3 {w wr : World} {b R E : Nat} {rc : Array Value} {x y z u p q r : Value} (v : Value) (hb : b < w.heap.size) (h : EvW w wr b R E rc #[x, y, z, u, p, q, r]) : EvW w (wr.setCell ⟨E, 3, none⟩ v) b R E rc #[x, y, z, v, p, q, r] := by
  have hg : wr.grownBy (wr.setCell ⟨E, 3, none⟩ v) (some E) := grown_store
  refine ⟨h.dk.kept hg (fun g e => by cases e; have := h.hR; have := h.hE; omega), grown_new h.gr hg (fun g e => by cases e; right; have := h.hR; have := h.hE; omega), grown_blk hg h.r (by have := h.hE; intro e; cases e; omega), ?_, h.hR, h.hE⟩
  rw [heap_setCell_same _ _ _ _ _ _ h.e]; rfl
theorem other_mod (u x n : Int) (h0 : 0 ≤ u) (h1 : u < n) (h2 : 0 ≤ x) (h3 : x < n - 1) : 0 ≤ (u + 1 + x) % n ∧ (u + 1 + x) % n < n ∧ (u + 1 + x) % n ≠ u := by
  by_cases h : u + 1 + x < n
  · rw [Int.emod_eq_of_lt (by omega) h]; omega
  · have e : (u + 1 + x) % n = (u + 1 + x - n + 1 * n) % n := by congr 1; omega
    rw [e, Int.add_mul_emod_self_right, Int.emod_eq_of_lt (by omega) (by omega)]; omega
set_option maxRecDepth 100000 in
set_option maxHeartbeats 3200000 in
theorem event_any (b : Nat) (n t : Int) (w : World) (hd : DeckAt w b) (h2 : 2 ≤ n) (h64 : n ≤ 64) (ht0 : 0 ≤ t) (ht1 : t ≤ 1048576) :
    Calls Tryd.prog 92 #[.pointer (some ⟨b, 0, none⟩), .int .i64 n, .int .i64 t] w (EvPost b n t w) := by
  have hbw := hd.lt
  go_enter Tryd.func92, Tryd.ntmps92
  go_wp2_with fail
  refine (next_any b n _ (hd.alloc _) (by omega) (by omega)).mono ?_
  rintro e w1 ⟨u, hu0, hu1, rfl, hd1, hg1⟩
  have hR1 := grown_blk hg1 (heap_alloc_new w (.cells #[.int .i64 0, .int .i64 0, .int .i64 0, .int .i64 0, .int .i64 0, .int .i64 0, .int .i64 0] 78)) (by intro e; cases e; omega)
  have hW : EvW w (w1.alloc (.cells #[.int .i64 1, .int .i64 t, .int .i64 u, .int .i64 0, .int .i64 0, .int .i64 0, .int .i64 0] 78)) b w.heap.size w1.heap.size #[.int .i64 0, .int .i64 0, .int .i64 0, .int .i64 0, .int .i64 0, .int .i64 0, .int .i64 0] #[.int .i64 1, .int .i64 t, .int .i64 u, .int .i64 0, .int .i64 0, .int .i64 0, .int .i64 0] :=
    ⟨hd1.alloc _, grown_trans (grown_trans (World.grownBy_alloc w _ (some b)) hg1) (World.grownBy_alloc w1 _ (some b)), (Below.heap_alloc _ _ _ (blk_lt hR1)).trans hR1, heap_alloc_new _ _, Nat.le_refl _, blk_lt hR1⟩
  clear hd hR1 hg1 hd1
  go_wp2_with fail
  have hWd : EvW w (w1.alloc (.cells #[.int .i64 1, .int .i64 t, .int .i64 u, .int .i64 0, .int .i64 0, .int .i64 0, .int .i64 0] 78)).drew b w.heap.size w1.heap.size #[.int .i64 0, .int .i64 0, .int .i64 0, .int .i64 0, .int .i64 0, .int .i64 0, .int .i64 0] #[.int .i64 1, .int .i64 t, .int .i64 u, .int .i64 0, .int .i64 0, .int .i64 0, .int .i64 0] := ⟨hW.dk, ⟨hW.gr.os, hW.gr.tape, hW.gr.output, hW.gr.size, hW.gr.block⟩, hW.r, hW.e, hW.hR, hW.hE⟩
  have v1 : IntKind.i64.wrap (n - 1) = n - 1 := IntWalk.i64_in _ (by omega)
  have v2 : IntKind.i64.wrap (u + 1) = u + 1 := IntWalk.i64_in _ (by omega)
  have hnx := next_any b (n - 1) _ hWd.dk (by omega) (by omega)
  go_region_law (go_simp; go_at_call 33; (with_reducible refine hnx.mono ?_); rintro e w2 ⟨x, hx0, hx1, rfl, hd2, hg2⟩; have hW2 := hWd.next hbw hd2 hg2; have c2 := cell_blk (j := 2) hW2.e; have c3 := cell_blk (j := 3) hW2.e; have f3 : ∀ j, w2.frozen? ⟨w1.heap.size, j, none⟩ = false := (fun j => free_blk hW2.e); have v3 : IntKind.i64.wrap (u + 1 + x) = u + 1 + x := IntWalk.i64_in _ (by omega); have hnz : ¬ n = 0 := (by omega))
  all_goals
    go_wp2_with fail
    have hV := other_mod u x n hu0 hu1 hx0 hx1
    have hW3 := EvW.set3 (.int .i64 ((u + 1 + x) % n)) hbw hW2
    generalize (u + 1 + x) % n = V at *
    refine (next_any b 10 _ hW3.dk (by omega) (by omega)).mono ?_
    rintro e w4 ⟨k, hk0, hk1, rfl, hd4, hg4⟩
    have hW4 := hW3.next hbw hd4 hg4
    clear hW hWd hW2 hW3 hd2 hg2 hd4 hg4 c2 c3 f3 hnx
    obtain ⟨q0, q1, q2, q3, q4, q5, q6⟩ := cells7' hW4.e
    obtain ⟨r0, r1, r2, r3, r4, r5, r6⟩ := cells7' hW4.r
    have fr : ∀ j, w4.frozen? ⟨w.heap.size, j, none⟩ = false := fun j => free_blk hW4.r
    by_cases h8 : 8 ≤ k
    · go_wp2_with fail
      have hfin := set_seven (x' := .int .i64 3) (y' := .int .i64 t) (z' := .int .i64 u) (u' := .int .i64 0) (p' := .int .i64 0) (q' := .int .i64 0) (r' := .int .i64 0) hW4.r
      obtain ⟨t0, t1, t2, t3, t4, t5, t6⟩ := cells7' hfin
      refine bodyPost_ret (v := .agg #[.int .i64 3, .int .i64 t, .int .i64 u, .int .i64 0, .int .i64 0, .int .i64 0, .int .i64 0]) (by simp [results, Tryd.results92, go_sem, t0, t1, t2, t3, t4, t5, t6]) rfl ⟨⟨3, t, u, 0, 0, 0, 0⟩, rfl, ?_, rfl, hu0, hu1, by show (0 : Int) ≤ 0; omega, by show (0 : Int) < n; omega, ?_, ?_⟩
      · simp [evS, evEnds, nodeB]; omega
      · exact (hW4.dk.kept grown_seven (fun g e => by cases e; have := hW4.hR; omega))
      · exact grown_new hW4.gr grown_seven (fun g e => by cases e; right; exact hW4.hR)
    · by_cases h5 : 5 ≤ k
      · go_wp2_with fail
        have hfin := set_seven (x' := .int .i64 2) (y' := .int .i64 t) (z' := .int .i64 u) (u' := .int .i64 V) (p' := .int .i64 0) (q' := .int .i64 0) (r' := .int .i64 0) hW4.r
        obtain ⟨t0, t1, t2, t3, t4, t5, t6⟩ := cells7' hfin
        refine bodyPost_ret (v := .agg #[.int .i64 2, .int .i64 t, .int .i64 u, .int .i64 V, .int .i64 0, .int .i64 0, .int .i64 0]) (by simp [results, Tryd.results92, go_sem, t0, t1, t2, t3, t4, t5, t6]) rfl ⟨⟨2, t, u, V, 0, 0, 0⟩, rfl, ?_, rfl, hu0, hu1, hV.1, hV.2.1, ?_, ?_⟩
        · simp [evS, evEnds, nodeB]; omega
        · exact (hW4.dk.kept grown_seven (fun g e => by cases e; have := hW4.hR; omega))
        · exact grown_new hW4.gr grown_seven (fun g e => by cases e; right; exact hW4.hR)
      · clear q0 q1 q2 q3 q4 q5 q6 r0 r1 r2 r3 r4 r5 r6 fr
        go_wp2_with fail
        refine (next_any b 6 _ hW4.dk (by omega) (by omega)).mono ?_
        rintro e w5 ⟨x6, h60, h61, rfl, hd5, hg5⟩
        have hW5 := hW4.next hbw hd5 hg5
        clear hW4 hd5 hg5
        go_wp2_with fail
        refine (next_any b 4 _ hW5.dk (by omega) (by omega)).mono ?_
        rintro e w6 ⟨x4, h40, h41, rfl, hd6, hg6⟩
        have hW6 := hW5.next hbw hd6 hg6
        clear hW5 hd6 hg6
        go_wp2_with fail
        refine (next_any b 2 _ hW6.dk (by omega) (by omega)).mono ?_
        rintro e w7 ⟨x2, h20, h21, rfl, hd7, hg7⟩
        have hW7 := hW6.next hbw hd7 hg7
        clear hW6 hd7 hg7
        obtain ⟨q0, q1, q2, q3, q4, q5, q6⟩ := cells7' hW7.e
        obtain ⟨r0, r1, r2, r3, r4, r5, r6⟩ := cells7' hW7.r
        have fr : ∀ j, w7.frozen? ⟨w.heap.size, j, none⟩ = false := fun j => free_blk hW7.r
        have fe : ∀ j, w7.frozen? ⟨w1.heap.size, j, none⟩ = false := fun j => free_blk hW7.e
        have hRE := hW7.hE
        go_wp2_with fail
        have hg8 : w7.grownBy (((w7.setCell ⟨w1.heap.size, 4, none⟩ (.int .i64 (1 + x6))).setCell ⟨w1.heap.size, 5, none⟩ (.int .i64 x4)).setCell ⟨w1.heap.size, 6, none⟩ (.int .i64 (1 - 2 * x2))) (some w1.heap.size) := grown_trans (grown_trans grown_store grown_store) grown_store
        have hR8 := grown_blk hg8 hW7.r (by intro e; have := Option.some.inj e; omega)
        have hfin := set_seven (x' := .int .i64 1) (y' := .int .i64 t) (z' := .int .i64 u) (u' := .int .i64 V) (p' := .int .i64 (1 + x6)) (q' := .int .i64 x4) (r' := .int .i64 (1 - 2 * x2)) hR8
        obtain ⟨t0, t1, t2, t3, t4, t5, t6⟩ := cells7' hfin
        refine bodyPost_ret (v := .agg #[.int .i64 1, .int .i64 t, .int .i64 u, .int .i64 V, .int .i64 (1 + x6), .int .i64 x4, .int .i64 (1 - 2 * x2)]) (by simp [results, Tryd.results92, go_sem, t0, t1, t2, t3, t4, t5, t6]) rfl ⟨⟨1, t, u, V, 1 + x6, x4, 1 - 2 * x2⟩, rfl, ?_, rfl, hu0, hu1, hV.1, hV.2.1, ?_, ?_⟩
        · have hx2 : x2 = 0 ∨ x2 = 1 := by omega
          have e1 : attS (1 + x6) x4 (1 - 2 * x2) = true := by
            simp only [attS, Bool.and_eq_true, Bool.or_eq_true, decide_eq_true_eq]; omega
          have e2 : evEnds ⟨1, t, u, V, 1 + x6, x4, 1 - 2 * x2⟩ = true := by
            simp only [evEnds, nodeB, show ¬ ((1 : Int) = 3) by decide, if_false, Bool.and_eq_true, decide_eq_true_eq]; omega
          unfold evS
          rw [if_neg (by dsimp only; omega), if_neg (by dsimp only; omega), e2, if_neg (by simp), if_pos rfl, e1, if_pos rfl]
        · exact (hW7.dk.kept hg8 (fun g e => by cases e; omega)).kept grown_seven (fun g e => by cases e; omega)
        · exact grown_new (grown_new hW7.gr hg8 (fun g e => by cases e; right; omega)) grown_seven (fun g e => by cases e; right; exact Nat.le_refl _)
end Go.Proofs.YtkknknehchnccaaDoor
