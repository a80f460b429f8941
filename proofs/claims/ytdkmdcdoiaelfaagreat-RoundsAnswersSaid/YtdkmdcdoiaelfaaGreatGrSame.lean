/- ref03.SameEdges and ref03.Same of equal graphs. -/
import Derived.Test.YtdkmdcdoiaelfaaGreatApp
namespace Go.Proofs.YtdkmdcdoiaelfaaGreat
open Go.RowKit

set_option maxRecDepth 100000 in
set_option maxHeartbeats 1600000 in
theorem sameedges_same (a a2 : Option Addr) (cap cap2 : Nat) (es : List E2) (w : World) (h1 : EdgesAt w (.slice a es.length cap) es) (h2 : EdgesAt w (.slice a2 es.length cap2) es) (hl : es.length ≤ 70368744177664) :
    Calls Tryz.prog 75 #[.slice a es.length cap, .slice a2 es.length cap2] w fun e w' => e = .returned (.bool true) ∧ Below w.heap.size w w' := by
  have hc1 : es.length ≤ cap := by obtain ⟨_, _, hv', h, _⟩ := h1; cases hv'; exact h
  have hc2 : es.length ≤ cap2 := by obtain ⟨_, _, hv', h, _⟩ := h2; cases hv'; exact h
  have hn : ((es.length : Int) != (es.length : Int)) = false := by simp
  go_enter Tryz.func75, Tryz.ntmps75
  go_wp2_with fail
  go_loopw [13] (fun i wr => ∃ k : Nat, k ≤ es.length ∧ i = .int .i64 k ∧ Below w.heap.size w wr) (fun i _ => es.length - (intOf i).toNat)
  case atStart => exact ⟨0, Nat.zero_le _, rfl, Below.refl _ _⟩
  case round =>
    obtain ⟨k, hk, rfl, hb⟩ := hrel
    by_cases hlt : k < es.length
    · have hk3 : (k : Int) < es.length := by omega
      obtain ⟨b, off, x, y, rfl, hget, _, _, c0, c1⟩ := (h1.below hb).at k hlt
      obtain ⟨b2, off2, x2, y2, rfl, hget2, _, _, d0, d1⟩ := (h2.below hb).at k hlt
      rw [hget] at hget2
      obtain ⟨rfl, rfl⟩ : x = x2 ∧ y = y2 := by simpa using hget2
      clear hget hget2
      go_wp2_with fail
      go_quiet (fail)
      go_wp2_with fail
      go_roundw
      case rel => exact ⟨k + 1, by omega, by go_num, hb.drewN _⟩
      case measure => simp [intOf]; omega
    · obtain rfl : k = es.length := by omega
      go_wp2_with fail
      go_ret
      exact ⟨rfl, hb⟩
set_option maxRecDepth 100000 in
theorem gsame_same (n : Int) (a a2 : Option Addr) (cap cap2 : Nat) (es : List E2) (w : World) (h1 : EdgesAt w (.slice a es.length cap) es) (h2 : EdgesAt w (.slice a2 es.length cap2) es) (hl : es.length ≤ 70368744177664) :
    Calls Tryz.prog 42 #[.agg #[.int .i64 n, .slice a es.length cap], .agg #[.int .i64 n, .slice a2 es.length cap2]] w fun e w' => e = .returned (.bool true) ∧ Below w.heap.size w w' := by
  have hb0 : Below w.heap.size w ((w.alloc (.cells #[.int .i64 n, .slice a es.length cap] 25)).alloc (.cells #[.int .i64 n, .slice a2 es.length cap2] 25)) := ((Below.refl _ _).alloc (Nat.le_refl _) _).alloc (by simp) _
  have hs := sameedges_same a a2 cap cap2 es _ (h1.below hb0) (h2.below hb0) hl
  go_enter Tryz.func42, Tryz.ntmps42
  go_wp2_with fail
  refine hs.mono ?_
  rintro e w2 ⟨rfl, hb2⟩
  go_wp2_with fail
  go_ret
  exact ⟨rfl, hb0.trans (hb2.mono hb0.size)⟩
end Go.Proofs.YtdkmdcdoiaelfaaGreat
