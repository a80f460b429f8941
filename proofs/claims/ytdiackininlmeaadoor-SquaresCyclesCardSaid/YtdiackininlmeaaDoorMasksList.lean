/- The contract of the list of a set of nodes. -/
import Derived.Test.YtdiackininlmeaaDoorMasks
namespace Go.Proofs.YtdiackininlmeaaDoor
open Go.RowKit Go.BigFrame

set_option maxRecDepth 100000 in
set_option maxHeartbeats 1000000 in
theorem list_any (m : Nat) (hm : m < 18446744073709551616) (w : World) (hT : TzAt w) :
    Calls Tryd.prog 92 #[.int .u64 m] w fun e w' => ∃ v, e = .returned v ∧ w'.ownsRow w.heap.size 3 1 v (bitsL m).length (intsV (bitsL m)) ∧ Below w.heap.size w w' := by
  go_enter Tryd.func92, Tryd.ntmps92
  go_wp2_with fail
  go_loopw [0, 3] (fun i v wr => ∃ (k : Nat) (acc : List Int), k < 18446744073709551616 ∧ i = .int .u64 k ∧ Below w.heap.size w wr ∧ wr.ownsRow w.heap.size 3 1 v acc.length (intsV acc) ∧ Hid (bitsL m = acc ++ bitsL k)) (fun i _ _ => (intOf i).toNat)
  case atStart => exact ⟨m, [], hm, rfl, Below.refl _ _, World.ownsRow_nil _ _ _ _, rfl⟩
  case round =>
    obtain ⟨k, acc, hk, rfl, hb, hown, HR⟩ := hrel
    obtain ⟨a1, cap1, hv1⟩ := owns_shape hown
    subst hv1
    by_cases h0 : k = 0
    · subst h0
      have HF : Hid (bitsL m = acc) := by show _ = _; rw [HR.out, bitsL_zero, List.append_nil]
      go_wp2_with fail
      go_ret
      rw [HF.out]
      exact ⟨_, rfl, hown, hb⟩
    · have hz : ((k : Int) == 0) = false := by simp; omega
      have hz2 : (k == 0) = false := by simpa using h0
      have HF : Hid (bitsL m = (acc ++ [(Lib.ctz 64 k : Int)]) ++ bitsL (k &&& (k - 1))) := by show _ = _; rw [HR.out, bitsL_step k h0 hk]; simp
      have hal : acc.length ≤ 64 := by have := bitsL_length m; rw [HR.out, List.length_append] at this; omega
      have hand : bits BinOp.and IntKind.u64 (k : Int) ((k : Int) - 1) = ((k &&& (k - 1) : Nat) : Int) := by rw [show (k : Int) - 1 = ((k - 1 : Nat) : Int) by omega]; exact bits_and_u64_nat k (k - 1) hk (by omega)
      have hwr : IntKind.u64.wrap ((k : Int) - 1) = (k : Int) - 1 := by rw [IntKind.wrap_u64]; omega
      have hlt : k &&& (k - 1) < k := Nat.lt_of_le_of_lt Nat.and_le_right (by omega)
      have hwt := hT.below hb
      generalize k &&& (k - 1) = k2 at *
      go_wp2_with (first
        | (go_at_call 95; refine (tz_any k hk h0 _ hwt).mono ?_; rintro e w1 ⟨rfl, rfl⟩)
        | (at_builtin; refine wpList_app_ints intsT rfl _ _ rfl w.heap.size _ _ acc [(Lib.ctz 64 k : Int)] rfl (hown.alloc _) rfl (ints_lit1 _ _ _) (by simp; omega) (by have := hb.size; simp; omega) ?_; intro v6 w6 hown6 hg6))
      have hb6 := below_app' (hb.alloc hb.size _) (hown.alloc _) hg6
      obtain ⟨a6, cap6, hv6⟩ := owns_shape hown6
      subst hv6
      go_wp2_with fail
      go_roundw
      case rel => exact ⟨k2, acc ++ [(Lib.ctz 64 k : Int)], by omega, by go_num, hb6, hown6, HF⟩
      case measure => simp [intOf]; omega
end Go.Proofs.YtdiackininlmeaaDoor
