/- The contract of the comparison of two lists of events. -/
import Derived.Test.YtpblaoeaeljmhaaEvSlices
import Derived.Lib.Hide
namespace Go.Proofs.Ytpblaoeaeljmhaa
open Go.RowKit Go.BigFrame

set_option maxRecDepth 100000 in
set_option maxHeartbeats 3200000 in
/-- two lists that are equal -/
theorem evsame_eq (xs : List Ev) (a1 a2 : Option Addr) (c1 c2 : Nat) (w : World) (h1 : RowAt encEv w (.slice a1 xs.length c1) xs) (h2 : RowAt encEv w (.slice a2 xs.length c2) xs) :
    Calls Try.prog 27 #[.slice a1 xs.length c1, .slice a2 xs.length c2] w fun e w' => e = .returned (.bool true) ∧ Below w.heap.size w w' := by
  have hsm := h1.small
  go_enter Try.func27, Try.ntmps27
  go_wp2_with fail
  go_loopw [13] (fun i wr => ∃ k : Nat, k ≤ xs.length ∧ i = .int .i64 k ∧ Below w.heap.size w wr) (fun i _ => xs.length - (intOf i).toNat)
  case atStart => exact ⟨0, Nat.zero_le _, rfl, Below.refl _ _⟩
  case round =>
    obtain ⟨k, hk, rfl, hb⟩ := hrel
    by_cases hlt : k < xs.length
    · obtain ⟨bb, off, y, rfl, hy, hcap, c0, c1, c2, c3, c4, c5, c6⟩ := ev_at (h1.below hb) k hlt
      obtain ⟨bb2, off2, y2, rfl, hy2, hcap2, d0, d1, d2, d3, d4, d5, d6⟩ := ev_at (h2.below hb) k hlt
      obtain rfl : y = y2 := by rw [hy] at hy2; exact Option.some.inj hy2
      clear hy hy2
      go_wp2_with fail
      go_quiet (fail)
      go_wp2_with fail
      go_roundw
      case rel => exact ⟨k + 1, by omega, by go_num, hb.drewN _⟩
      case measure => simp [intOf]; omega
    · obtain rfl : k = xs.length := by omega
      go_wp2_with fail
      go_ret
      exact ⟨rfl, hb⟩
end Go.Proofs.Ytpblaoeaeljmhaa
