/- The contracts of the comparison of equal lists and of the choices of k of n. -/
import Derived.Test.YtekbpoppajbljaaDoorPatCopies
namespace Go.Proofs.YtekbpoppajbljaaDoor
open Go.RowKit Go.BigFrame

theorem make_ints (n : Nat) (hn : n ≤ 1000000) : ∀ w, (Instr.makeSlice 22 (.int .i64 (n : Int)) (.int .i64 (n : Int))).run Tryd.prog w = .ok (.slice (some ⟨w.heap.size, 0, none⟩) n n) (w.alloc (.cells (intsV (List.replicate n 0)).toArray 3)) := by
  intro w
  obtain ⟨i, hi, hz, hs, hb⟩ := info_parts intsT.info
  have h := run_make (P := Tryd.prog) w 22 3 i (.int .i64 0) Tryd.underlying22 hi hz .i64 .i64 (n : Int) (n : Int) (by omega) (Int.le_refl _) (by rw [hb]; omega) (by omega)
  rw [h, hs]
  simp only [Int.toNat_natCast, Nat.mul_one, Value.cells]
  have hm : madeCells #[Value.int .i64 0] n = (intsV (List.replicate n 0)).toArray := by
    apply Array.ext_getElem?
    intro j
    simp only [madeCells, intsV]
    by_cases hj : j < n
    · simp [hj, Nat.mod_one]
    · simp [hj]
  rw [hm]

set_option maxRecDepth 100000 in
theorem cmp_same (a a2 : Option Addr) (cap cap2 : Nat) (xs : List Int) (w : World) (h1 : IntsAt w (.slice a xs.length cap) xs) (h2 : IntsAt w (.slice a2 xs.length cap2) xs) :
    Calls Tryd.prog 18 #[.slice a xs.length cap, .slice a2 xs.length cap2] w fun e w' => e = .returned (.int .i64 0) ∧ Below w.heap.size w w' := by
  have hl : xs.length ≤ 70368744177664 := by obtain ⟨_, _, hv, _, _, hl, _⟩ := h1; exact hl
  have hself : decide (xs.length < xs.length) = false := by simp
  go_enter Tryd.func18, Tryd.ntmps18
  go_wp2_with fail
  go_loopw [8] (fun i wr => ∃ k : Nat, k ≤ xs.length ∧ i = .int .i64 k ∧ Below w.heap.size w wr) (fun i _ => xs.length - (intOf i).toNat)
  case atStart => exact ⟨0, by omega, rfl, Below.refl _ _⟩
  case round =>
    obtain ⟨k, hk, rfl, hb⟩ := hrel
    by_cases hlt : k < xs.length
    · obtain ⟨b, off, y, rfl, hy, _, _, c0⟩ := (h1.below hb).at k hlt
      obtain ⟨b2, off2, y2, rfl, hy2, _, _, c2⟩ := (h2.below hb).at k hlt
      obtain rfl : y = y2 := by rw [hy] at hy2; exact Option.some.inj hy2
      have hd : decide ((xs.length : Int) ≤ k) = false := by simp; omega
      have hd2 : decide (xs.length ≤ k) = false := by simp; omega
      have hyy : decide (y < y) = false := by simp
      clear hy hy2
      go_wp2_with fail
      go_quiet (fail)
      go_wp2_with fail
      go_quiet (fail)
      go_wp2_with fail
      go_roundw
      case rel => exact ⟨k + 1, by omega, by go_num, hb.drewN _⟩
      case measure => simp [intOf]; omega
    · obtain rfl : k = xs.length := by omega
      go_wp2_with fail
      go_ret
      exact ⟨rfl, hb⟩

/-- how many sets of k of n there are -/
def chS : Nat → Nat → Nat
  | _, 0 => 1
  | 0, _ + 1 => 0
  | n + 1, k + 1 => chS n k + chS n (k + 1)
theorem chS_gt : ∀ n k, n < k → chS n k = 0 := by
  intro n
  induction n with
  | zero => intro k hk; cases k with | zero => omega | succ k => rfl
  | succ n ih => intro k hk; cases k with | zero => omega | succ k => rw [chS, ih k (by omega), ih (k + 1) (by omega)]
theorem chS_self : ∀ n, chS n n = 1 := by
  intro n
  induction n with
  | zero => rfl
  | succ n ih => rw [chS, ih, chS_gt n (n + 1) (by omega)]
theorem chS_zero (n : Nat) : chS n 0 = 1 := by cases n <;> rfl
theorem chS_le : ∀ n k, chS n k ≤ 2 ^ n := by
  intro n
  induction n with
  | zero => intro k; cases k <;> simp [chS]
  | succ n ih =>
    intro k
    cases k with
    | zero => rw [chS]; exact Nat.one_le_two_pow
    | succ k => rw [chS, Nat.pow_succ]; have := ih k; have := ih (k + 1); omega
/-- the row before round i -/
def chB : Nat → Nat → Nat
  | 0, _ => 0
  | i + 1, t => chS i t
theorem chB_le (i t : Nat) : chB i t ≤ 2 ^ i := by
  cases i with
  | zero => simp [chB]
  | succ i => rw [chB, Nat.pow_succ]; have := chS_le i t; omega
/-- the row in round i, the places behind j being done -/
def chV (n i : Nat) (j : Int) : List Int := (List.range (n + 1)).map fun (t : Nat) => if j < t then (chS i t : Int) else (chB i t : Int)
theorem chV_length (n i : Nat) (j : Int) : (chV n i j).length = n + 1 := by simp [chV]
theorem chV_get (n i : Nat) (j : Int) (t : Nat) (ht : t ≤ n) : (chV n i j)[t]? = some (if j < t then (chS i t : Int) else (chB i t : Int)) := by
  have : t < n + 1 := by omega
  simp [chV, this]
theorem chV_start (n : Nat) : chV n 0 n = List.replicate (n + 1) 0 := by
  apply List.ext_getElem?
  intro t
  by_cases ht : t ≤ n
  · rw [chV_get _ _ _ _ ht, if_neg (by omega), List.getElem?_replicate, if_pos (by omega)]; rfl
  · rw [List.getElem?_eq_none (by rw [chV_length]; omega), List.getElem?_eq_none (by simp; omega)]
theorem chV_one (n i : Nat) (hi : i ≤ n) : (chV n i n).set i 1 = chV n i ((i : Int) - 1) := by
  apply List.ext_getElem?
  intro t
  by_cases ht : t ≤ n
  · rw [List.getElem?_set, chV_get _ _ _ _ ht, chV_get _ _ _ _ ht, chV_length]
    by_cases h : i = t
    · subst h; rw [if_pos rfl, if_pos (by omega), if_pos (by omega), chS_self]; rfl
    · rw [if_neg h, if_neg (by omega)]
      by_cases h2 : (i : Int) - 1 < t
      · rw [if_pos h2, chS_gt i t (by omega)]
        cases i with
        | zero => rfl
        | succ i => rw [chB, chS_gt i t (by omega)]
      · rw [if_neg h2]
  · rw [List.getElem?_eq_none (by rw [List.length_set, chV_length]; omega), List.getElem?_eq_none (by rw [chV_length]; omega)]
theorem chV_step (n i j : Nat) (hi : i ≤ n) (hj : j + 1 < i) : (chV n i ((j + 1 : Nat) : Int)).set (j + 1) ((chB i (j + 1) : Int) + (chB i j : Int)) = chV n i (j : Int) := by
  apply List.ext_getElem?
  intro t
  by_cases ht : t ≤ n
  · rw [List.getElem?_set, chV_get _ _ _ _ ht, chV_get _ _ _ _ ht, chV_length]
    by_cases h : j + 1 = t
    · subst h
      rw [if_pos rfl, if_pos (by omega), if_pos (by omega)]
      obtain ⟨i', rfl⟩ : ∃ i', i = i' + 1 := ⟨i - 1, by omega⟩
      rw [chB, chB, chS]; congr 1; omega
    · rw [if_neg h]
      by_cases h2 : ((j + 1 : Nat) : Int) < t
      · rw [if_pos h2, if_pos (by omega)]
      · rw [if_neg h2, if_neg (by omega)]
  · rw [List.getElem?_eq_none (by rw [List.length_set, chV_length]; omega), List.getElem?_eq_none (by rw [chV_length]; omega)]
theorem chV_next (n i : Nat) (j : Int) (hj : j = (i : Int) - 1 ∨ j = 0) (hj0 : j ≤ 0) (hi : j = 0 → 0 < i) : chV n i j = chV n (i + 1) n := by
  apply List.ext_getElem?
  intro t
  by_cases ht : t ≤ n
  · rw [chV_get _ _ _ _ ht, chV_get _ _ _ _ ht, if_neg (show ¬ (n : Int) < t by omega), chB]
    by_cases h2 : j < t
    · rw [if_pos h2]
    · rw [if_neg h2]
      have h3 : t = 0 := by omega
      subst h3
      have hi0 := hi (by omega)
      obtain ⟨i', rfl⟩ : ∃ i', i = i' + 1 := ⟨i - 1, by omega⟩
      rw [chB, chS_zero, chS_zero]
  · rw [List.getElem?_eq_none (by rw [chV_length]; omega), List.getElem?_eq_none (by rw [chV_length]; omega)]
theorem pow_bd (i : Nat) (hi : i ≤ 60) : 2 ^ i ≤ 1152921504606846976 := by
  have := Nat.pow_le_pow_right (n := 2) (by omega) hi
  simpa using this

set_option maxRecDepth 100000 in
set_option maxHeartbeats 800000 in
theorem choose_any (n k : Nat) (w : World) (hn : n ≤ 60) (hk : k ≤ 60) :
    Calls Tryd.prog 19 #[.int .i64 n, .int .i64 k] w fun e w' => e = .returned (.int .i64 (chS n k)) ∧ Below w.heap.size w w' := by
  have d0 : decide ((n : Int) < 0) = false := by simp
  have d1 : decide ((64 : Int) < n) = false := by simp; omega
  have d2 : decide ((k : Int) < 0) = false := by simp
  by_cases hkn : n < k
  · have d3 : decide ((n : Int) < k) = true := by simp; omega
    have d4 : decide (n < k) = true := by simp; omega
    go_enter Tryd.func19, Tryd.ntmps19
    go_wp2_with fail
    go_ret
    exact ⟨ret_int (by rw [chS_gt n k hkn]; rfl), Below.refl _ _⟩
  · have d3 : decide ((n : Int) < k) = false := by simp; omega
    have d4 : decide (n < k) = false := by simp; omega
    have hmk := make_ints (n + 1) (by omega)
    rw [show ((n + 1 : Nat) : Int) = (n : Int) + 1 by omega] at hmk
    have hN0 : NumAt (w.alloc (.cells (intsV (List.replicate (n + 1) 0)).toArray 3)) w.heap.size (chV n 0 n) := by rw [chV_start]; exact heap_alloc_new _ _
    go_enter Tryd.func19, Tryd.ntmps19
    go_wp2_with fail
    clear hmk
    have hb0 : Below w.heap.size w (w.alloc (.cells (intsV (List.replicate (n + 1) 0)).toArray 3)) := (Below.refl _ _).alloc (Nat.le_refl _) _
    go_loopw [6] (fun i wr => ∃ p : Nat, p ≤ n + 1 ∧ i = .int .i64 p ∧ Below w.heap.size w wr ∧ NumAt wr w.heap.size (chV n p n)) (fun i _ => n + 1 - (intOf i).toNat)
    case atStart => exact ⟨0, by omega, rfl, hb0, hN0⟩
    case round =>
      clear hN0 hb0
      obtain ⟨p, hp, rfl, hb, hN⟩ := hrel
      by_cases hlt : p ≤ n
      · have e1 : decide ((p : Int) ≤ n) = true := by simp; omega
        have e2 : decide (p ≤ n) = true := by simp; omega
        have n1 : wr.frozen? ⟨w.heap.size, p, none⟩ = false := free_blk hN
        have n0 := hN.cell p _ (chV_get _ _ _ _ hlt)
        have hN1 := hN.set p 1
        rw [chV_one n p hlt] at hN1
        have hb1 := hb.setCell (p := ⟨w.heap.size, p, none⟩) (Nat.le_refl _) (.int .i64 1)
        clear hN hb
        go_wp2_with fail
        obtain ⟨wo, rfl⟩ : ∃ wo : World, wo = wr := ⟨_, rfl⟩
        go_loopw [7] (fun i wr => ∃ j : Int, -1 ≤ j ∧ j ≤ (p : Int) - 1 ∧ (0 ≤ j ∨ p = 0) ∧ i = .int .i64 j ∧ Below w.heap.size w wr ∧ NumAt wr w.heap.size (chV n p j)) (fun i _ => (intOf i).toNat)
        case atStart => exact ⟨_, by omega, by omega, by omega, by go_num, hb1, hN1⟩
        case round =>
          clear hb1 hN1
          obtain ⟨j, hj0, hj1, hj2, rfl, hb, hN⟩ := hrel
          by_cases hlj : 0 < j
          · obtain ⟨q, rfl⟩ : ∃ q : Nat, j = ((q + 1 : Nat) : Int) := ⟨(j - 1).toNat, by omega⟩
            have hq : q + 1 < p := by omega
            have n1 : wr.frozen? ⟨w.heap.size, q + 1, none⟩ = false := free_blk hN
            have n0 := hN.cell (q + 1) _ (chV_get _ _ _ (q + 1) (by omega))
            have n2 := hN.cell q _ (chV_get _ _ _ q (by omega))
            rw [if_neg (by omega)] at n0 n2
            have HN := Lib.hid (hN.set (q + 1) ((chB p (q + 1) : Int) + (chB p q : Int)))
            have HS := Lib.hid (chV_step n p q (by omega) hq)
            have x1 := chB_le p (q + 1)
            have x2 := chB_le p q
            have x3 := pow_bd p (by omega)
            have hw : IntKind.i64.wrap ((chB p (q + 1) : Int) + (chB p q : Int)) = (chB p (q + 1) : Int) + (chB p q : Int) := IntWalk.i64_in _ (by omega)
            clear hN
            go_wp2_with fail
            go_region
            go_wp2_with fail
            go_roundw
            case rel => exact ⟨q, by omega, by omega, by omega, by go_num, (hb.setCell (p := ⟨w.heap.size, q + 1, none⟩) (Nat.le_refl _) _).drew, by rw [← HS.out]; exact HN.out⟩
            case measure => simp [intOf]
          · have hd : decide (0 < j) = false := by simpa using hlj
            have hnx := chV_next n p j (by omega) (by omega) (by omega)
            go_wp2_with fail
            go_roundw
            case rel => exact ⟨p + 1, by omega, by go_num, hb, by rw [← hnx]; exact hN⟩
            case measure => simp [intOf]; omega
      · obtain rfl : p = n + 1 := by omega
        have e1 : decide (((n + 1 : Nat) : Int) ≤ n) = false := by simp; omega
        have e2 : decide ((n : Int) + 1 ≤ n) = false := by simp; omega
        have n0 := hN.cell k _ (chV_get _ _ _ k (by omega))
        rw [if_neg (by omega), chB] at n0
        have hk2 : k < n + 1 := by omega
        go_wp2_with fail
        go_ret
        exact ⟨rfl, hb⟩
end Go.Proofs.YtekbpoppajbljaaDoor
