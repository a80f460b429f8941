/- The plain laws of sorting: what is released is what was taken, in order. -/
import Derived.Test.YtdljkobgghnkpaaReoPlain
namespace Go.Proofs.Ytdljkobgghnkpaa
open Go.RowKit

/-- the law's own sort: each behind all that are not later -/
def stabL (acc : List Ev) : List Ev → List Ev
  | [] => acc
  | x :: l => stabL (insS x acc) l
def stabS (l : List Ev) : List Ev := stabL [] l
theorem stabL_snoc (x : Ev) : ∀ (l acc : List Ev), stabL acc (l ++ [x]) = insS x (stabL acc l) := by
  intro l
  induction l with
  | nil => intro acc; rfl
  | cons y l ih => intro acc; exact ih _
theorem stabS_snoc (x : Ev) (l : List Ev) : stabS (l ++ [x]) = insS x (stabS l) := stabL_snoc x l []
theorem stabL_up : ∀ (l acc : List Ev), Up acc → Up (stabL acc l) := by
  intro l
  induction l with
  | nil => intro acc h; exact h
  | cons y l ih => intro acc h; exact ih _ (ins_up h)
theorem stabS_up (l : List Ev) : Up (stabS l) := stabL_up l [] List.Pairwise.nil
theorem stabL_length : ∀ (l acc : List Ev), (stabL acc l).length = acc.length + l.length := by
  intro l
  induction l with
  | nil => intro acc; rfl
  | cons y l ih => intro acc; show (stabL (insS y acc) l).length = _; rw [ih, insS_length, List.length_cons]; omega
theorem stabS_length (l : List Ev) : (stabS l).length = l.length := by unfold stabS; rw [stabL_length]; simp
theorem posS_app (t m : Int) (o w : List Ev) (ho : ∀ x ∈ o, x.time ≤ m) (ht : m < t) : ∀ i, i ≤ w.length → posS t (o ++ w) (o.length + i) = o.length + posS t w i := by
  intro i
  induction i with
  | zero =>
    intro _
    rw [Nat.add_zero]
    cases hn : o.length with
    | zero => rfl
    | succ n =>
      have hlt : n < o.length := by omega
      have hx := ho o[n] (List.getElem_mem hlt)
      unfold posS
      rw [if_neg]
      rw [List.getD_eq_getElem?_getD, List.getElem?_append_left hlt, List.getElem?_eq_getElem hlt]
      simp only [Option.getD_some]; omega
  | succ i ih =>
    intro hi
    have e : (o ++ w).getD (o.length + i) ⟨0, 0, 0, 0, 0, 0, 0⟩ = w.getD i ⟨0, 0, 0, 0, 0, 0, 0⟩ := by
      rw [List.getD_eq_getElem?_getD, List.getElem?_append_right (by omega), List.getD_eq_getElem?_getD]; congr 2; omega
    show (if t < ((o ++ w).getD (o.length + i) ⟨0, 0, 0, 0, 0, 0, 0⟩).time then posS t (o ++ w) (o.length + i) else o.length + i + 1) = o.length + (if t < (w.getD i ⟨0, 0, 0, 0, 0, 0, 0⟩).time then posS t w i else i + 1)
    rw [e, ih (by omega)]
    split <;> omega
theorem insS_app (e : Ev) (m : Int) (o w : List Ev) (ho : ∀ x ∈ o, x.time ≤ m) (ht : m < e.time) : insS e (o ++ w) = o ++ insS e w := by
  unfold insS
  rw [show (o ++ w).length = o.length + w.length from List.length_append, posS_app e.time m o w ho ht w.length (Nat.le_refl _)]
  rw [List.take_append, List.drop_append, List.take_of_length_le (by omega), List.drop_eq_nil_of_le (by omega)]
  simp
theorem out_rest_eq (m : Int) (xs : List Ev) (h : Up xs) : outS m xs ++ restS m xs = xs := by
  obtain ⟨h1, h2⟩ := pre_out m xs h
  rw [← h1, ← h2, List.take_append_drop]
theorem wait_up {b : Buf} (h : bufB b = true) : Up b.wait ∧ ∀ x ∈ b.wait, b.mark < x.time ∧ x.time ≤ b.latest := by
  unfold bufB at h
  rw [Bool.and_eq_true] at h
  obtain ⟨h1, h2⟩ := vld_up _ _ _ h.2
  exact ⟨h1, fun x hx => by have := h2 x hx; omega⟩
theorem push_late {b : Buf} (h : bufB b = true) {e : Ev} (he : evS e = 0) (ht : e.time ≤ b.mark) : pushS b e = (b, [], 10) := by
  unfold pushS
  rw [if_neg (by rw [h]; simp), if_neg (by simpa using he), if_pos ht]
theorem push_ok {b : Buf} (h : bufB b = true) {e : Ev} (he : evS e = 0) (ht : b.mark < e.time) (hl : b.wait.length < 4096) :
    pushS b e = (⟨b.bound, max b.latest e.time, max b.mark (max b.latest e.time - b.bound - 1), restS (max b.latest e.time - b.bound - 1) (insS e b.wait)⟩, outS (max b.latest e.time - b.bound - 1) (insS e b.wait), 0) := by
  unfold pushS
  rw [if_neg (by rw [h]; simp), if_neg (by simpa using he), if_neg (by omega), if_neg (by omega)]
  rfl
/-- what is out and what waits are what was taken, in order -/
def SortI (b : Buf) (out taken : List Ev) : Prop := out ++ b.wait = stabS taken ∧ ∀ x ∈ out, x.time ≤ b.mark
theorem sortI_push {b : Buf} {out taken : List Ev} (h : bufB b = true) (hi : SortI b out taken) {e : Ev} (he : evS e = 0) (ht : b.mark < e.time) (hl : b.wait.length < 4096) :
    SortI (pushS b e).1 (out ++ (pushS b e).2.1) (taken ++ [e]) := by
  obtain ⟨h1, h2⟩ := hi
  rw [push_ok h he ht hl]
  dsimp only
  obtain ⟨hu, _⟩ := wait_up h
  refine ⟨?_, fun x hx => ?_⟩
  · rw [List.append_assoc, out_rest_eq _ _ (ins_up hu), stabS_snoc, ← h1, insS_app e b.mark out b.wait h2 ht]
  · show x.time ≤ max b.mark (max b.latest e.time - b.bound - 1)
    rcases List.mem_append.1 hx with hx | hx
    · have := h2 x hx; omega
    · have := (out_mem.1 hx).2; omega
theorem sortI_flush {b : Buf} {out taken : List Ev} (h : bufB b = true) (hi : SortI b out taken) : (flushS b).2.2 = 0 ∧ out ++ (flushS b).2.1 = stabS taken := by
  unfold flushS
  rw [if_neg (by rw [h]; simp)]
  refine ⟨rfl, ?_⟩
  show out ++ outS b.latest b.wait = _
  rw [← hi.1]
  congr 1
  unfold outS
  rw [List.filter_eq_self]
  intro x hx
  have := (wait_up h).2 x hx
  simp; omega

/-- how many are late, by the latest time so far -/
def lateC (k : Int) : Int → List Ev → Int
  | _, [] => 0
  | M, x :: l => (if x.time ≤ max (-1) (M - k - 1) then 1 else 0) + lateC k (max M x.time) l
def takS (k : Int) : Int → List Ev → List Ev
  | _, [] => []
  | M, x :: l => if x.time ≤ max (-1) (M - k - 1) then takS k (max M x.time) l else x :: takS k (max M x.time) l
theorem tak_length (k : Int) : ∀ (l : List Ev) (M : Int), ((takS k M l).length : Int) + lateC k M l = l.length := by
  intro l
  induction l with
  | nil => intro M; rfl
  | cons x l ih =>
    intro M
    have h := ih (max M x.time)
    unfold takS lateC
    split
    · rw [List.length_cons]; omega
    · rw [List.length_cons, List.length_cons]; omega
theorem lateC_nn (k : Int) : ∀ (l : List Ev) (M : Int), 0 ≤ lateC k M l := by
  intro l
  induction l with
  | nil => intro M; exact Int.le_refl _
  | cons x l ih => intro M; have h := ih (max M x.time); unfold lateC; split <;> omega
theorem lateC_less (k : Int) : ∀ (l : List Ev) (M : Int), lateC (k + 1) M l ≤ lateC k M l := by
  intro l
  induction l with
  | nil => intro M; exact Int.le_refl _
  | cons x l ih => intro M; have h := ih (max M x.time); unfold lateC; split <;> split <;> omega
def farC (k : Int) : Int → List Ev → Bool
  | _, [] => false
  | M, x :: l => decide (k < M - x.time) || farC k (max M x.time) l
theorem far_none (k : Int) : ∀ (l : List Ev) (M M' : Int), M' = max 0 M → (∀ x ∈ l, 0 ≤ x.time) → farC k M' l = false → lateC k M l = 0 ∧ takS k M l = l := by
  intro l
  induction l with
  | nil => intro M M' _ _ _; exact ⟨rfl, rfl⟩
  | cons x l ih =>
    intro M M' hM hx hf
    unfold farC at hf
    rw [Bool.or_eq_false_iff] at hf
    obtain ⟨hf1, hf2⟩ := hf
    have h0 := hx x (List.mem_cons_self ..)
    have hf1 : ¬ (k < M' - x.time) := by simpa using hf1
    obtain ⟨i1, i2⟩ := ih (max M x.time) (max M' x.time) (by omega) (fun y hy => hx y (List.mem_cons_of_mem _ hy)) hf2
    unfold lateC takS
    rw [if_neg (by omega), if_neg (by omega), i1, i2]
    exact ⟨rfl, rfl⟩
theorem sortL_spec : ∀ (l : List Ev) (b : Buf) (out taken : List Ev) (late : Int), bufB b = true → b.mark = max (-1) (b.latest - b.bound - 1) → (∀ x ∈ l, evS x = 0) → b.wait.length + l.length ≤ 4096 → SortI b out taken →
    sortL b out late l = (stabS (taken ++ takS b.bound b.latest l), late + lateC b.bound b.latest l, 0) := by
  intro l
  induction l with
  | nil =>
    intro b out taken late hb hm _ _ hi
    obtain ⟨_, h2⟩ := sortI_flush hb hi
    unfold takS lateC
    rw [List.append_nil, Int.add_zero, ← h2]; rfl
  | cons x l ih =>
    intro b out taken late hb hm hx hl hi
    have hex := hx x (List.mem_cons_self ..)
    have hbb := hb
    unfold bufB at hbb
    rw [Bool.and_eq_true] at hbb
    have hh := hbb.1
    simp only [bufH, Bool.and_eq_true, decide_eq_true_eq] at hh
    rw [List.length_cons] at hl
    show (if (pushS b x).2.2 = 10 then sortL b out (late + 1) l else if (pushS b x).2.2 ≠ 0 then ([], 0, (pushS b x).2.2) else sortL (pushS b x).1 (out ++ (pushS b x).2.1) late l) = _
    unfold takS lateC
    by_cases ht : x.time ≤ b.mark
    · rw [push_late hb hex ht, if_pos rfl, ih b out taken (late + 1) hb hm (fun y hy => hx y (List.mem_cons_of_mem _ hy)) (by omega) hi, if_pos (by omega), if_pos (by omega), show max b.latest x.time = b.latest by omega]
      rw [Int.add_assoc]
    · have hi2 := sortI_push hb hi hex (by omega) (by omega)
      have hv := push_valid hb x
      have hlen : (pushS b x).1.wait.length ≤ b.wait.length + 1 := by
        rw [push_ok hb hex (by omega) (by omega)]
        dsimp only
        have h1 := out_rest (max b.latest x.time - b.bound - 1) (insS x b.wait)
        have h2 := insS_length x b.wait
        omega
      have hbd : (pushS b x).1.bound = b.bound ∧ (pushS b x).1.latest = max b.latest x.time ∧ (pushS b x).1.mark = max (-1) ((pushS b x).1.latest - (pushS b x).1.bound - 1) ∧ (pushS b x).2.2 = 0 := by
        rw [push_ok hb hex (by omega) (by omega)]
        refine ⟨rfl, rfl, ?_, rfl⟩
        dsimp only
        omega
      obtain ⟨e1, e2, e3, e4⟩ := hbd
      rw [e4, if_neg (by decide), if_neg (by decide), ih _ _ (taken ++ [x]) late hv e3 (fun y hy => hx y (List.mem_cons_of_mem _ hy)) (by omega) hi2, e1, e2, if_neg (by omega), if_neg (by omega), List.append_assoc, List.singleton_append, Int.zero_add]
/-- what sorting gives for right events -/
theorem sort_right (k : Int) (hk0 : 0 ≤ k) (hk1 : k ≤ 1048576) (l : List Ev) (hx : ∀ x ∈ l, evS x = 0) (hl : l.length ≤ 4096) : sortS k l = (stabS (takS k (-1) l), lateC k (-1) l, 0) := by
  have hO : openS k = (⟨k, -1, -1, []⟩, 0) := by unfold openS; rw [if_neg (by omega)]
  have hv : bufB ⟨k, -1, -1, []⟩ = true := by
    have := open_valid k
    rw [hO] at this
    exact this rfl
  unfold sortS
  rw [hO, if_neg (by simp)]
  have h := sortL_spec l ⟨k, -1, -1, []⟩ [] [] 0 hv (by dsimp only; omega) hx (by simpa using hl) ⟨rfl, fun x hx => by cases hx⟩
  rw [h]
  simp
end Go.Proofs.Ytdljkobgghnkpaa
