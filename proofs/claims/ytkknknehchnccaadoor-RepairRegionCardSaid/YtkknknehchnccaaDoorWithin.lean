/- The contract of ref02.Within. -/
import Derived.Test.YtkknknehchnccaaDoorRef02
import Derived.Test.YtkknknehchnccaaDoorSeqs
namespace Go.Proofs.YtkknknehchnccaaDoor
open Go.RowKit Go.BigFrame

set_option maxRecDepth 100000 in
set_option maxHeartbeats 1600000 in
theorem rwithin_any (a a2 : Option Addr) (cap cap2 : Nat) (xs ys : List Int) (w : World) (hi : IntsAt w (.slice a xs.length cap) xs) (hj : IntsAt w (.slice a2 ys.length cap2) ys) :
    Calls Tryd.prog 23 #[.slice a xs.length cap, .slice a2 ys.length cap2] w fun e w' => e = .returned (.bool (decide (∀ x ∈ xs, x ∈ ys))) ∧ w = w' := by
  have hl : xs.length ≤ 70368744177664 := by obtain ⟨_, _, hv, _, _, hl, _⟩ := hi; exact hl
  obtain ⟨RB, hRB⟩ : ∃ b, decide (∀ x ∈ xs, x ∈ ys) = b := ⟨_, rfl⟩
  rw [hRB]
  have HRB := Lib.hid hRB
  clear hRB
  go_enter Tryd.func23, Tryd.ntmps23
  go_wp2_with fail
  go_loop [9] (fun i => ∃ k : Nat, k ≤ xs.length ∧ i = .int .i64 k ∧ Hid (∀ x ∈ xs.take k, x ∈ ys)) (fun i => xs.length - (intOf i).toNat)
  case atStart => exact ⟨0, Nat.zero_le _, rfl, (show ∀ x ∈ ([] : List Int), _ by simp)⟩
  case round =>
    obtain ⟨k, hk, rfl, HK⟩ := hrel
    by_cases hlt : k < xs.length
    · have hlt3 : (k : Int) < xs.length := by omega
      obtain ⟨b, off, y, rfl, hy, -, -, c0⟩ := hi.at k hlt
      have hh := has_any a2 cap2 ys y w hj
      have htk := take_at _ _ _ hy
      have hym := List.mem_of_getElem? hy
      by_cases hm : y ∈ ys
      · rw [decide_eq_true hm] at hh
        have HK2 : Hid (∀ x ∈ xs.take (k + 1), x ∈ ys) := by
          show ∀ x ∈ _, _
          rw [htk]
          intro x hx
          rcases List.mem_append.1 hx with hx | hx
          · exact HK.out x hx
          · rw [List.mem_singleton.1 hx]; exact hm
        clear htk hym hy hm HK
        go_wp2_with (go_at_call 52; refine hh.mono ?_; rintro _ w' ⟨rfl, rfl⟩)
        go_round
        case rel => exact ⟨k + 1, by omega, by go_num, HK2⟩
        case measure => simp [intOf]; omega
      · rw [decide_eq_false hm] at hh
        have hf : RB = false := by rw [← HRB.out]; exact decide_eq_false fun h => hm (h y hym)
        subst hf
        clear htk hym hy hm HK
        go_wp2_with (go_at_call 52; refine hh.mono ?_; rintro _ w' ⟨rfl, rfl⟩)
        go_ret
        exact ⟨rfl, rfl⟩
    · obtain rfl : k = xs.length := by omega
      have hlt3 : ¬ (xs.length : Int) < xs.length := by omega
      have hf : RB = true := by rw [← HRB.out]; exact decide_eq_true fun x hx => HK.out x (by rw [List.take_of_length_le (Nat.le_refl _)]; exact hx)
      subst hf
      clear HK
      go_wp2_with fail
      go_ret
      exact ⟨rfl, rfl⟩
end Go.Proofs.YtkknknehchnccaaDoor
