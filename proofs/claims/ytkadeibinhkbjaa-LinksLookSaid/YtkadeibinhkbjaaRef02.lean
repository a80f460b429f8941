/- Contracts of the reference's sets: put, Of, Has, Meet. -/
import Derived.Test.YtkadeibinhkbjaaApp
import Derived.Deep.RegionLaw
namespace Go.Proofs.Ytkadeibinhkbjaa
open Go.RowKit Go.BigFrame

set_option maxRecDepth 100000 in
theorem has_any (a : Option Addr) (cap : Nat) (xs : List Int) (x : Int) (w : World) (hi : IntsAt w (.slice a xs.length cap) xs) :
    Calls Try.prog 47 #[.slice a xs.length cap, .int .i64 x] w fun e w' => e = .returned (.bool (decide (x ∈ xs))) ∧ w = w' := by
  have hl : xs.length ≤ 70368744177664 := by obtain ⟨_, _, hv, _, _, hl, _⟩ := hi; exact hl
  go_enter Try.func47, Try.ntmps47
  go_wp2
  go_loop [9] (fun i => ∃ k : Nat, k ≤ xs.length ∧ i = .int .i64 k ∧ Hid (decide (x ∈ xs) = decide (x ∈ xs.drop k))) (fun i => xs.length - (intOf i).toNat)
  case atStart => exact ⟨0, Nat.zero_le _, rfl, rfl⟩
  case round =>
    obtain ⟨k, hk, rfl, HR⟩ := hrel
    by_cases hlt : k < xs.length
    · obtain ⟨b, off, y, rfl, _, hd, _, c0⟩ := hi.at k hlt
      have HD := Lib.hid hd
      clear hd
      by_cases he : y = x
      · have HT : Hid (decide (x ∈ xs) = true) := by show _ = _; rw [HR.out, HD.out, he]; simp
        subst he
        go_wp2
        go_ret
        exact ⟨ret_bool HT.out.symm, rfl⟩
      · have he2 : (y == x) = false := by simpa using he
        have HT : Hid (decide (x ∈ xs) = decide (x ∈ xs.drop (k + 1))) := by
          show _ = _
          rw [HR.out, HD.out]
          have : ¬ x = y := fun e => he e.symm
          simp [this]
        go_wp2
        go_round
        case rel => exact ⟨k + 1, by omega, by go_num, HT⟩
        case measure => simp [intOf]; omega
    · have HT : Hid (decide (x ∈ xs) = false) := by show _ = _; rw [HR.out, List.drop_of_length_le (by omega)]; rfl
      go_wp2
      go_ret
      exact ⟨ret_bool HT.out.symm, rfl⟩
end Go.Proofs.Ytkadeibinhkbjaa
