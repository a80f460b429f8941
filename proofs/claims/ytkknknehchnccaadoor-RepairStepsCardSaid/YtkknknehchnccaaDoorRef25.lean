/- The contracts of the comparison of equal lists and of the choices of k of n. -/
import Derived.Test.YtkknknehchnccaaDoorNumAt
import Derived.Test.YtkknknehchnccaaDoorRef02
import Derived.WalkSpells
import Derived.WalkLawsBesides
namespace Go.Proofs.YtkknknehchnccaaDoor
open Go.RowKit Go.BigFrame
set_option maxRecDepth 100000 in
theorem cmp_same (a a2 : Option Addr) (cap cap2 : Nat) (xs : List Int) (w : World) (h1 : IntsAt w (.slice a xs.length cap) xs) (h2 : IntsAt w (.slice a2 xs.length cap2) xs) :
    Calls Tryd.prog 62 #[.slice a xs.length cap, .slice a2 xs.length cap2] w fun e w' => e = .returned (.int .i64 0) ∧ Below w.heap.size w w' := by
  have hl : xs.length ≤ 70368744177664 := by obtain ⟨_, _, hv, _, _, hl, _⟩ := h1; exact hl
  have hself : decide (xs.length < xs.length) = false := by simp
  go_enter Tryd.func62, Tryd.ntmps62
  go_wp2_with fail
  go_loopw [8] (fun i wr => ∃ k : Nat, k ≤ xs.length ∧ i = .int .i64 k ∧ Below w.heap.size w wr) (fun i _ => xs.length - (intOf i).toNat)
  case atStart => exact ⟨0, by omega, rfl, Below.refl _ _⟩
  case round =>
    obtain ⟨k, hk, rfl, hb⟩ := hrel
    by_cases hlt : k < xs.length
    · obtain ⟨b, off, y, rfl, hy, _, _, c0⟩ := (h1.below hb).at k hlt
      obtain ⟨b2, off2, y2, rfl, hy2, _, _, c2⟩ := (h2.below hb).at k hlt
      obtain rfl : y = y2 := by rw [hy] at hy2; exact Option.some.inj hy2
      have hd : decide ((xs.length : Int) ≤ k) = false := by simp; omega
      have hd2 : decide (xs.length ≤ k) = false := by simp; omega
      have hyy : decide (y < y) = false := by simp
      clear hy hy2
      go_wp2_with fail
      go_quiet (fail)
      go_wp2_with fail
      go_quiet (fail)
      go_wp2_with fail
      go_roundw
      case rel => exact ⟨k + 1, by omega, by go_num, hb.drewN _⟩
      case measure => simp [intOf]; omega
    · obtain rfl : k = xs.length := by omega
      go_wp2_with fail
      go_ret
      exact ⟨rfl, hb⟩

/-- how many sets of k of n there are -/
def chS : Nat → Nat → Nat
  | _, 0 => 1
  | 0, _ + 1 => 0
  | n + 1, k + 1 => chS n k + chS n (k + 1)
theorem chS_gt : ∀ n k, n < k → chS n k = 0 := by
  intro n
  induction n with
  | zero => intro k hk; cases k with | zero => omega | succ k => rfl
  | succ n ih => intro k hk; cases k with | zero => omega | succ k => rw [chS, ih k (by omega), ih (k + 1) (by omega)]
theorem chS_self : ∀ n, chS n n = 1 := by
  intro n
  induction n with
  | zero => rfl
  | succ n ih => rw [chS, ih, chS_gt n (n + 1) (by omega)]
theorem chS_zero (n : Nat) : chS n 0 = 1 := by cases n <;> rfl
theorem chS_le : ∀ n k, chS n k ≤ 2 ^ n := by
  intro n
  induction n with
  | zero => intro k; cases k <;> simp [chS]
  | succ n ih =>
    intro k
    cases k with
    | zero => rw [chS]; exact Nat.one_le_two_pow
    | succ k => rw [chS, Nat.pow_succ]; have := ih k; have := ih (k + 1); omega
/-- the row before round i -/
def chB : Nat → Nat → Nat
  | 0, _ => 0
  | i + 1, t => chS i t
theorem chB_le (i t : Nat) : chB i t ≤ 2 ^ i := by
  cases i with
  | zero => simp [chB]
  | succ i => rw [chB, Nat.pow_succ]; have := chS_le i t; omega
/-- the row in round i, the places behind j being done -/
def chV (n i : Nat) (j : Int) : List Int := (List.range (n + 1)).map fun (t : Nat) => if j < t then (chS i t : Int) else (chB i t : Int)
theorem chV_length (n i : Nat) (j : Int) : (chV n i j).length = n + 1 := by simp [chV]
theorem chV_get (n i : Nat) (j : Int) (t : Nat) (ht : t ≤ n) : (chV n i j)[t]? = some (if j < t then (chS i t : Int) else (chB i t : Int)) := by
  have : t < n + 1 := by omega
  simp [chV, this]
theorem chV_start (n : Nat) : chV n 0 n = List.replicate (n + 1) 0 := by
  apply List.ext_getElem?
  intro t
  by_cases ht : t ≤ n
  · rw [chV_get _ _ _ _ ht, if_neg (by omega), List.getElem?_replicate, if_pos (by omega)]; rfl
  · rw [List.getElem?_eq_none (by rw [chV_length]; omega), List.getElem?_eq_none (by simp; omega)]
theorem chV_one (n i : Nat) (hi : i ≤ n) : (chV n i n).set i 1 = chV n i ((i : Int) - 1) := by
  apply List.ext_getElem?
  intro t
  by_cases ht : t ≤ n
  · rw [List.getElem?_set, chV_get _ _ _ _ ht, chV_get _ _ _ _ ht, chV_length]
    by_cases h : i = t
    · subst h; rw [if_pos rfl, if_pos (by omega), if_pos (by omega), chS_self]; rfl
    · rw [if_neg h, if_neg (by omega)]
      by_cases h2 : (i : Int) - 1 < t
      · rw [if_pos h2, chS_gt i t (by omega)]
        cases i with
        | zero => rfl
        | succ i => rw [chB, chS_gt i t (by omega)]
      · rw [if_neg h2]
  · rw [List.getElem?_eq_none (by rw [List.length_set, chV_length]; omega), List.getElem?_eq_none (by rw [chV_length]; omega)]
theorem chV_step (n i j : Nat) (hi : i ≤ n) (hj : j + 1 < i) : (chV n i ((j + 1 : Nat) : Int)).set (j + 1) ((chB i (j + 1) : Int) + (chB i j : Int)) = chV n i (j : Int) := by
  apply List.ext_getElem?
  intro t
  by_cases ht : t ≤ n
  · rw [List.getElem?_set, chV_get _ _ _ _ ht, chV_get _ _ _ _ ht, chV_length]
    by_cases h : j + 1 = t
    · subst h
      rw [if_pos rfl, if_pos (by omega), if_pos (by omega)]
      obtain ⟨i', rfl⟩ : ∃ i', i = i' + 1 := ⟨i - 1, by omega⟩
      rw [chB, chB, chS]; congr 1; omega
    · rw [if_neg h]
      by_cases h2 : ((j + 1 : Nat) : Int) < t
      · rw [if_pos h2, if_pos (by omega)]
      · rw [if_neg h2, if_neg (by omega)]
  · rw [List.getElem?_eq_none (by rw [List.length_set, chV_length]; omega), List.getElem?_eq_none (by rw [chV_length]; omega)]
theorem chV_next (n i : Nat) (j : Int) (hj : j = (i : Int) - 1 ∨ j = 0) (hj0 : j ≤ 0) (hi : j = 0 → 0 < i) : chV n i j = chV n (i + 1) n := by
  apply List.ext_getElem?
  intro t
  by_cases ht : t ≤ n
  · rw [chV_get _ _ _ _ ht, chV_get _ _ _ _ ht, if_neg (show ¬ (n : Int) < t by omega), chB]
    by_cases h2 : j < t
    · rw [if_pos h2]
    · rw [if_neg h2]
      have h3 : t = 0 := by omega
      subst h3
      have hi0 := hi (by omega)
      obtain ⟨i', rfl⟩ : ∃ i', i = i' + 1 := ⟨i - 1, by omega⟩
      rw [chB, chS_zero, chS_zero]
  · rw [List.getElem?_eq_none (by rw [chV_length]; omega), List.getElem?_eq_none (by rw [chV_length]; omega)]
theorem pow_bd (i : Nat) (hi : i ≤ 60) : 2 ^ i ≤ 1152921504606846976 := by
  have := Nat.pow_le_pow_right (n := 2) (by omega) hi
  simpa using this

end Go.Proofs.YtkknknehchnccaaDoor
