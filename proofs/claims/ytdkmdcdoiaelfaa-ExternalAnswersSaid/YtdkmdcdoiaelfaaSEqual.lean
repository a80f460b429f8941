/- The contract of slices.Equal at numbers. -/
import Derived.Test.YtdkmdcdoiaelfaaApp
namespace Go.Proofs.Ytdkmdcdoiaelfaa
open Go.RowKit Go.BigFrame

set_option maxRecDepth 100000 in
set_option maxHeartbeats 1600000 in
theorem sequal_any (a a2 : Option Addr) (cap cap2 : Nat) (xs ys : List Int) (w : World) (h1 : IntsAt w (.slice a xs.length cap) xs) (h2 : IntsAt w (.slice a2 ys.length cap2) ys) :
    Calls Try.prog 60 #[.slice a xs.length cap, .slice a2 ys.length cap2] w fun e w' => e = .returned (.bool (decide (xs = ys))) ∧ Below w.heap.size w w' := by
  have hl1 : xs.length ≤ 70368744177664 := by obtain ⟨_, _, _, _, _, h, _⟩ := h1; exact h
  have hl2 : ys.length ≤ 70368744177664 := by obtain ⟨_, _, _, _, _, h, _⟩ := h2; exact h
  by_cases hl : xs.length = ys.length
  case neg =>
    have d2 : ((xs.length : Int) != (ys.length : Int)) = true := by simp; omega
    have hr : decide (xs = ys) = false := decide_eq_false fun h => hl (by rw [h])
    rw [hr]
    clear hl hr
    go_enter Try.func60, Try.ntmps60
    go_wp2_with fail
    go_ret
    exact ⟨rfl, Below.refl _ _⟩
  have d2 : ((xs.length : Int) != (ys.length : Int)) = false := by simp; omega
  obtain ⟨R, hR⟩ : ∃ R, decide (xs = ys) = R := ⟨_, rfl⟩
  rw [hR]
  have HR := Lib.hid hR
  have HLN := Lib.hid hl
  have hlen : ys.length ≤ xs.length ∧ xs.length ≤ ys.length := by omega
  clear hR hl
  go_enter Try.func60, Try.ntmps60
  go_wp2_with fail
  go_loopw [13] (fun i wr => ∃ k : Nat, k ≤ xs.length ∧ i = .int .i64 k ∧ Hid (xs.take k = ys.take k) ∧ Below w.heap.size w wr) (fun i _ => xs.length - (intOf i).toNat)
  case atStart => exact ⟨0, Nat.zero_le _, rfl, rfl, Below.refl _ _⟩
  case round =>
    obtain ⟨k, hk, rfl, HT, hb⟩ := hrel
    by_cases hlt : k < xs.length
    · have hlt2 : k < ys.length := by omega
      obtain ⟨b, off, x, rfl, hx, hd1, ht1, c0⟩ := (h1.below hb).at k hlt
      obtain ⟨b2, off2, y, rfl, hy, hd2, ht2, c1⟩ := (h2.below hb).at k hlt2
      have hi1 : (k : Int) < xs.length := by omega
      have hi2 : (k : Int) < ys.length := by omega
      by_cases hxy : x = y
      · have dxy : (x != y) = false := by simpa using hxy
        have HT2 : Hid (xs.take (k + 1) = ys.take (k + 1)) := by show _ = _; rw [ht1, ht2, HT.out, hxy]
        clear hx hy hd1 hd2 ht1 ht2 HT hxy
        go_wp2_with fail
        go_quiet (fail)
        go_wp2_with fail
        go_roundw
        case rel => exact ⟨k + 1, by omega, by go_num, HT2, hb.trans (((Below.refl _ wr).drewN _).mono hb.size)⟩
        case measure => simp [intOf]; omega
      · have dxy : (x != y) = true := by simpa using hxy
        have hRf : R = false := by
          rw [← HR.out]
          refine decide_eq_false fun h => hxy ?_
          rw [h, hy] at hx
          exact (Option.some.inj hx).symm
        subst hRf
        clear hx hy hd1 hd2 ht1 ht2 HT hxy
        go_wp2_with fail
        go_quiet (fail)
        go_wp2_with fail
        go_ret
        exact ⟨rfl, hb.trans (((Below.refl _ wr).drewN _).mono hb.size)⟩
    · obtain rfl : k = xs.length := by omega
      have hRt : R = true := by
        rw [← HR.out]
        refine decide_eq_true ?_
        have h := HT.out
        rw [List.take_length, HLN.out, List.take_length] at h
        exact h
      subst hRt
      go_wp2_with fail
      go_ret
      exact ⟨rfl, hb⟩
end Go.Proofs.Ytdkmdcdoiaelfaa
