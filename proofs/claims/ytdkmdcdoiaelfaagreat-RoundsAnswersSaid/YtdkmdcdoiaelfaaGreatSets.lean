/- The contracts of the tests for sets of nodes, and of a made set of nodes. -/
import Derived.Test.YtdkmdcdoiaelfaaGreatMk
import Derived.Test.YtdkmdcdoiaelfaaGreatRef02
import Derived.Deep.RegionLaw
namespace Go.Proofs.YtdkmdcdoiaelfaaGreat
open Go.RowKit Go.BigFrame

/-- is a list of numbers a set of so many nodes? -/
def validZ : Option Int → List Int → Int → Bool
  | _, [], _ => true
  | p, x :: l, n => decide (0 ≤ x) && decide (x < n) && p.all (fun y => decide (y < x)) && validZ (some x) l n
def prevZ (xs : List Int) (k : Nat) : Option Int := if k = 0 then none else xs[k - 1]?
set_option maxRecDepth 100000 in
set_option maxHeartbeats 800000 in
theorem nvalidZ_any (a : Option Addr) (cap : Nat) (xs : List Int) (n : Int) (w : World) (hi : IntsAt w (.slice a xs.length cap) xs) :
    Calls Tryz.prog 83 #[.slice a xs.length cap, .int .i64 n] w fun e w' => e = .returned (.bool (validZ none xs n)) ∧ w = w' := by
  have hl : xs.length ≤ 70368744177664 := by obtain ⟨_, _, hv, _, _, hl, _⟩ := hi; exact hl
  go_enter Tryz.func83, Tryz.ntmps83
  go_wp2
  go_loop [9] (fun i => ∃ k : Nat, k ≤ xs.length ∧ i = .int .i64 k ∧ Hid (validZ none xs n = validZ (prevZ xs k) (xs.drop k) n)) (fun i => xs.length - (intOf i).toNat)
  case atStart => exact ⟨0, Nat.zero_le _, rfl, rfl⟩
  case round =>
    obtain ⟨k, hk, rfl, HR⟩ := hrel
    by_cases hlt : k < xs.length
    · obtain ⟨b, off, y, rfl, hy, hd, _, c0⟩ := hi.at k hlt
      have HD : Hid (validZ none xs n = (decide (0 ≤ y) && decide (y < n) && (prevZ xs k).all (fun z => decide (z < y)) && validZ (some y) (xs.drop (k + 1)) n)) := by show _ = _; rw [HR.out, hd, validZ]
      have HP : Hid (prevZ xs (k + 1) = some y) := by show _ = _; unfold prevZ; rw [if_neg (by omega)]; simpa using hy
      clear hd hy HR
      by_cases h1 : y < 0
      · have HF : Hid (validZ none xs n = false) := by show _ = _; rw [HD.out]; simp; omega
        go_wp2
        go_ret
        exact ⟨ret_bool HF.out.symm, rfl⟩
      by_cases h2 : n ≤ y
      · have HF : Hid (validZ none xs n = false) := by show _ = _; rw [HD.out]; simp; omega
        go_wp2
        go_ret
        exact ⟨ret_bool HF.out.symm, rfl⟩
      by_cases hp : k = 0
      · have hp1 : decide (0 < (k : Int)) = false := by simp [hp]
        have hp2 : decide (0 < k) = false := by simp [hp]
        have HF : Hid (validZ none xs n = validZ (prevZ xs (k + 1)) (xs.drop (k + 1)) n) := by
          show _ = _
          rw [HD.out, HP.out, prevZ, if_pos hp]
          simp; omega
        clear hp
        go_wp2
        go_round
        case rel => exact ⟨k + 1, by omega, by go_num, HF⟩
        case measure => simp [intOf]; omega
      · have hp1 : (0 : Int) < (k : Int) := by omega
        have hp2 : 0 < k := by omega
        obtain ⟨b', off', z, hbo, hz, _, _, d0⟩ := hi.at (k - 1) (by omega)
        obtain ⟨rfl, rfl⟩ : b = b' ∧ off = off' := by simpa using hbo
        clear hbo
        have HQ : Hid (prevZ xs k = some z) := by show _ = _; rw [prevZ, if_neg hp]; exact hz
        clear hz hp
        by_cases hzy : y ≤ z
        · have HF : Hid (validZ none xs n = false) := by show _ = _; rw [HD.out, HQ.out]; simp; omega
          go_wp2
          go_ret
          exact ⟨ret_bool HF.out.symm, rfl⟩
        · have HF : Hid (validZ none xs n = validZ (prevZ xs (k + 1)) (xs.drop (k + 1)) n) := by show _ = _; rw [HD.out, HP.out, HQ.out]; simp; omega
          go_wp2
          go_round
          case rel => exact ⟨k + 1, by omega, by go_num, HF⟩
          case measure => simp [intOf]; omega
    · have HF : Hid (validZ none xs n = true) := by show _ = _; rw [HR.out, List.drop_of_length_le (by omega)]; rfl
      go_wp2
      go_ret
      exact ⟨ret_bool HF.out.symm, rfl⟩
set_option maxRecDepth 100000 in
set_option maxHeartbeats 800000 in
theorem rsvalidZ_any (a : Option Addr) (cap : Nat) (xs : List Int) (n : Int) (w : World) (hi : IntsAt w (.slice a xs.length cap) xs) :
    Calls Tryz.prog 90 #[.slice a xs.length cap, .int .i64 n] w fun e w' => e = .returned (.bool (validZ none xs n)) ∧ w = w' := by
  have hl : xs.length ≤ 70368744177664 := by obtain ⟨_, _, hv, _, _, hl, _⟩ := hi; exact hl
  go_enter Tryz.func90, Tryz.ntmps90
  go_wp2
  go_loop [9] (fun i => ∃ k : Nat, k ≤ xs.length ∧ i = .int .i64 k ∧ Hid (validZ none xs n = validZ (prevZ xs k) (xs.drop k) n)) (fun i => xs.length - (intOf i).toNat)
  case atStart => exact ⟨0, Nat.zero_le _, rfl, rfl⟩
  case round =>
    obtain ⟨k, hk, rfl, HR⟩ := hrel
    by_cases hlt : k < xs.length
    · obtain ⟨b, off, y, rfl, hy, hd, _, c0⟩ := hi.at k hlt
      have HD : Hid (validZ none xs n = (decide (0 ≤ y) && decide (y < n) && (prevZ xs k).all (fun z => decide (z < y)) && validZ (some y) (xs.drop (k + 1)) n)) := by show _ = _; rw [HR.out, hd, validZ]
      have HP : Hid (prevZ xs (k + 1) = some y) := by show _ = _; unfold prevZ; rw [if_neg (by omega)]; simpa using hy
      clear hd hy HR
      by_cases h1 : y < 0
      · have HF : Hid (validZ none xs n = false) := by show _ = _; rw [HD.out]; simp; omega
        go_wp2
        go_ret
        exact ⟨ret_bool HF.out.symm, rfl⟩
      by_cases h2 : n ≤ y
      · have HF : Hid (validZ none xs n = false) := by show _ = _; rw [HD.out]; simp; omega
        go_wp2
        go_ret
        exact ⟨ret_bool HF.out.symm, rfl⟩
      by_cases hp : k = 0
      · have hp1 : decide (0 < (k : Int)) = false := by simp [hp]
        have hp2 : decide (0 < k) = false := by simp [hp]
        have HF : Hid (validZ none xs n = validZ (prevZ xs (k + 1)) (xs.drop (k + 1)) n) := by
          show _ = _
          rw [HD.out, HP.out, prevZ, if_pos hp]
          simp; omega
        clear hp
        go_wp2
        go_round
        case rel => exact ⟨k + 1, by omega, by go_num, HF⟩
        case measure => simp [intOf]; omega
      · have hp1 : (0 : Int) < (k : Int) := by omega
        have hp2 : 0 < k := by omega
        obtain ⟨b', off', z, hbo, hz, _, _, d0⟩ := hi.at (k - 1) (by omega)
        obtain ⟨rfl, rfl⟩ : b = b' ∧ off = off' := by simpa using hbo
        clear hbo
        have HQ : Hid (prevZ xs k = some z) := by show _ = _; rw [prevZ, if_neg hp]; exact hz
        clear hz hp
        by_cases hzy : y ≤ z
        · have HF : Hid (validZ none xs n = false) := by show _ = _; rw [HD.out, HQ.out]; simp; omega
          go_wp2
          go_ret
          exact ⟨ret_bool HF.out.symm, rfl⟩
        · have HF : Hid (validZ none xs n = validZ (prevZ xs (k + 1)) (xs.drop (k + 1)) n) := by show _ = _; rw [HD.out, HP.out, HQ.out]; simp; omega
          go_wp2
          go_round
          case rel => exact ⟨k + 1, by omega, by go_num, HF⟩
          case measure => simp [intOf]; omega
    · have HF : Hid (validZ none xs n = true) := by show _ = _; rw [HR.out, List.drop_of_length_le (by omega)]; rfl
      go_wp2
      go_ret
      exact ⟨ret_bool HF.out.symm, rfl⟩
theorem own_nextZ {w wr w' : World} {b T n size : Nat} {v : Value} {xs : List Value} (h : wr.ownsRow w.heap.size T size v n xs) (hb : b < w.heap.size) (hg : wr.grownBy w' (some b)) : w'.ownsRow w.heap.size T size v n xs :=
  h.kept hg (by
    cases hs : v.ownBlock with
    | none => exact .inl rfl
    | some k => have := h.lt k hs; exact .inr (by simp; omega))
end Go.Proofs.YtdkmdcdoiaelfaaGreat
