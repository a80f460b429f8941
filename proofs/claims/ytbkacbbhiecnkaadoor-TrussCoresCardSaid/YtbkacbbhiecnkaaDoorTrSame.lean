/- The contracts of the reference's supports, of the tests for equal graphs, and of the law's test for small graphs. -/
import Derived.Test.YtbkacbbhiecnkaaDoorTrTruss
import Derived.Test.YtbkacbbhiecnkaaDoorTrAwake
import Derived.BigQuiet
namespace Go.Proofs.YtbkacbbhiecnkaaDoor
open Go.RowKit Go.BigFrame

set_option maxRecDepth 100000 in
set_option maxHeartbeats 1600000 in
theorem rsupport12_any (n : Int) (a : Option Addr) (cap : Nat) (es : List E2) (w : World) (he : EdgesAt w (.slice a es.length cap) es) :
    Calls Tryd.prog 62 #[.agg #[.int .i64 n, .slice a es.length cap]] w (TPost w (supX n es)) := by
  have hb0 : Below w.heap.size w (w.alloc (.cells #[.int .i64 n, .slice a es.length cap] 27)) := (Below.refl _ _).alloc (Nat.le_refl _) _
  have hG0 := heap_alloc_new w (.cells #[.int .i64 n, .slice a es.length cap] 27)
  have hck := fun W h => check_any n a cap es W h
  unfold TPost supX
  by_cases hC : checkS n es = 0
  case neg =>
    rw [if_pos hC]
    obtain ⟨C, hCC⟩ : ∃ C, checkS n es = C := ⟨_, rfl⟩
    rw [hCC] at hck hC ⊢
    have d1 : (C != 0) = true := by simpa using hC
    have d2 : (C == 0) = false := by simpa using hC
    clear hC hCC
    go_enter Tryd.func62, Tryd.ntmps62
    go_wp2_with fail
    refine (hck _ (he.below hb0)).mono ?_
    rintro e w1 ⟨rfl, hb1⟩
    go_wp2_with fail
    go_ret2
    exact ⟨none, 0, rfl, ints_nil _, fun p h => (by cases h), hb0.trans (hb1.mono hb0.size)⟩
  have hv := (valid_iff n es).1 hC
  rw [if_neg (by simpa using hC)]
  rw [hC] at hck
  obtain ⟨n, rfl⟩ := Int.eq_ofNat_of_zero_le hv.1
  rw [Int.toNat_natCast]
  have hel := hv.length_le
  go_enter Tryd.func62, Tryd.ntmps62
  go_wp2_with fail
  refine (hck _ (he.below hb0)).mono ?_
  rintro e w1 ⟨rfl, hb1⟩
  have hb01 := hb0.trans (hb1.mono hb0.size)
  have hG1 := lit_next' hb1 hG0
  have g1 : w1.cell? ⟨w.heap.size, 1, none⟩ = some (.slice a es.length cap) := by rw [cell_blk hG1]; rfl
  clear hck hG0 hb0 hb1
  go_wp2_with fail
  clear g1
  go_loopw [5, 15] (fun vo vi wr => ∃ k : Nat, k ≤ es.length ∧ vi = .int .i64 k ∧ wr.ownsRow w1.heap.size 3 1 vo k (intsV (supV es n k)) ∧ Below w1.heap.size w1 wr) (fun _ vi _ => es.length - (intOf vi).toNat)
  case atStart => exact ⟨0, Nat.zero_le _, rfl, World.ownsRow_nil _ _ _ _, Below.refl _ _⟩
  case round =>
    obtain ⟨k, hk, rfl, hown, hb⟩ := hrel
    obtain ⟨ao, co, hvo⟩ := owns_shape hown
    subst hvo
    have hbw := hb01.trans (hb.mono hb01.size)
    by_cases hlt : k < es.length
    · have hlt3 : (k : Int) < es.length := by omega
      have hG := lit_next' hb hG1
      have g0 : wr.cell? ⟨w.heap.size, 0, none⟩ = some (.int .i64 n) := by rw [cell_blk hG]; rfl
      have g1 : wr.cell? ⟨w.heap.size, 1, none⟩ = some (.slice a es.length cap) := by rw [cell_blk hG]; rfl
      have hrp := rpairs_any n k a cap es wr (he.below hbw) hv hlt
      have hst := supV_step es n k
      have hsl := supV_length es n k
      have HS := Lib.hid hst
      clear hst hG
      go_wp2_with fail
      refine hrp.mono ?_
      rintro e w2 ⟨a7, c7, rfl, hr7, -, hb2⟩
      have hb12 := hb.trans (hb2.mono hb.size)
      have hown2 : w2.ownsRow w1.heap.size 3 1 (.slice ao k co) k (intsV (supV es n k)) := hown.kept (grown_of_below hb2) (by
        cases hs : (Value.slice ao k co).ownBlock with
        | none => exact .inl rfl
        | some g => exact .inr (by simp))
      have hlx := ints_lit1 w2 ((triN es n k).length : Int) 3
      have hownA := hown2.alloc (.cells #[.int .i64 ((triN es n k).length : Int)] 3)
      have hbA := hb12.alloc hb12.size (.cells #[.int .i64 ((triN es n k).length : Int)] 3)
      clear hr7 hrp g0 g1 hown hb2
      generalize (triN es n k).length = lk at *
      go_wp2_with (at_builtin; refine wpList_app_ints intsT rfl _ _ rfl w1.heap.size (.slice ao k co) _ (supV es n k) [(lk : Int)] rfl (by rw [hsl]; exact hownA) rfl hlx (by rw [hsl]; simp; omega) hbA.size ?_; intro v6 w6 hown6 hg6)
      have hl6 : (supV es n k ++ [(lk : Int)]).length = k + 1 := by rw [List.length_append, hsl]; rfl
      rw [hl6, ← HS.out] at hown6
      go_roundw
      case rel => exact ⟨k + 1, by omega, by go_num, hown6, hbA.grown hg6 hbA.size (fun g e => (hownA.lt g e).1)⟩
      case measure => simp [intOf]; omega
    · obtain rfl : k = es.length := by omega
      have hsl := supV_length es n es.length
      obtain ⟨a8, c8, hv8, hi8, hp8⟩ := IntsAt.of_owns (xs := supV es n es.length) (by rw [hsl]; exact hown) (by omega)
      rw [hsl] at hv8
      cases hv8
      have hz := hb01.size
      go_wp2_with fail
      go_ret2
      exact ⟨_, _, by rw [hsl]; rfl, hi8, fun p h => Nat.le_trans hz (hp8 p h), hbw⟩
set_option maxRecDepth 100000 in
set_option maxHeartbeats 1600000 in
theorem sameedges_same (a a2 : Option Addr) (cap cap2 : Nat) (es : List E2) (w : World) (h1 : EdgesAt w (.slice a es.length cap) es) (h2 : EdgesAt w (.slice a2 es.length cap2) es) (hl : es.length ≤ 70368744177664) :
    Calls Tryd.prog 119 #[.slice a es.length cap, .slice a2 es.length cap2] w fun e w' => e = .returned (.bool true) ∧ Below w.heap.size w w' := by
  have hc1 : es.length ≤ cap := by obtain ⟨_, _, hv', h, _⟩ := h1; cases hv'; exact h
  have hc2 : es.length ≤ cap2 := by obtain ⟨_, _, hv', h, _⟩ := h2; cases hv'; exact h
  have hn : ((es.length : Int) != (es.length : Int)) = false := by simp
  go_enter Tryd.func119, Tryd.ntmps119
  go_wp2_with fail
  go_loopw [13] (fun i wr => ∃ k : Nat, k ≤ es.length ∧ i = .int .i64 k ∧ Below w.heap.size w wr) (fun i _ => es.length - (intOf i).toNat)
  case atStart => exact ⟨0, Nat.zero_le _, rfl, Below.refl _ _⟩
  case round =>
    obtain ⟨k, hk, rfl, hb⟩ := hrel
    by_cases hlt : k < es.length
    · have hk3 : (k : Int) < es.length := by omega
      obtain ⟨b, off, x, y, rfl, hget, _, _, c0, c1⟩ := (h1.below hb).at k hlt
      obtain ⟨b2, off2, x2, y2, rfl, hget2, _, _, d0, d1⟩ := (h2.below hb).at k hlt
      rw [hget] at hget2
      obtain ⟨rfl, rfl⟩ : x = x2 ∧ y = y2 := by simpa using hget2
      clear hget hget2
      go_wp2_with fail
      go_quiet (fail)
      go_wp2_with fail
      go_roundw
      case rel => exact ⟨k + 1, by omega, by go_num, hb.drewN _⟩
      case measure => simp [intOf]; omega
    · obtain rfl : k = es.length := by omega
      go_wp2_with fail
      go_ret
      exact ⟨rfl, hb⟩
set_option maxRecDepth 100000 in
theorem gsame_same (n : Int) (a a2 : Option Addr) (cap cap2 : Nat) (es : List E2) (w : World) (h1 : EdgesAt w (.slice a es.length cap) es) (h2 : EdgesAt w (.slice a2 es.length cap2) es) (hl : es.length ≤ 70368744177664) :
    Calls Tryd.prog 64 #[.agg #[.int .i64 n, .slice a es.length cap], .agg #[.int .i64 n, .slice a2 es.length cap2]] w fun e w' => e = .returned (.bool true) ∧ Below w.heap.size w w' := by
  have hb0 : Below w.heap.size w ((w.alloc (.cells #[.int .i64 n, .slice a es.length cap] 27)).alloc (.cells #[.int .i64 n, .slice a2 es.length cap2] 27)) := ((Below.refl _ _).alloc (Nat.le_refl _) _).alloc (by simp) _
  have hs := sameedges_same a a2 cap cap2 es _ (h1.below hb0) (h2.below hb0) hl
  go_enter Tryd.func64, Tryd.ntmps64
  go_wp2_with fail
  refine hs.mono ?_
  rintro e w2 ⟨rfl, hb2⟩
  go_wp2_with fail
  go_ret
  exact ⟨rfl, hb0.trans (hb2.mono hb0.size)⟩
/-- the law's test for small graphs -/
def ligB (n : Int) (es : List E2) : Bool := decide (n ≤ 12) || (checkS n es != 0)
set_option maxRecDepth 100000 in
theorem light12_no (n : Int) (a : Option Addr) (len cap : Nat) (w : World) (h : 28 < len) :
    Calls Tryd.prog 60 #[.agg #[.int .i64 n, .slice a len cap]] w fun e w' => e = .returned (.bool false) ∧ Below w.heap.size w w' := by
  have hb0 : Below w.heap.size w (w.alloc (.cells #[.int .i64 n, .slice a len cap] 27)) := (Below.refl _ _).alloc (Nat.le_refl _) _
  have d1 : decide ((len : Int) ≤ 28) = false := decide_eq_false (by omega)
  have d2 : decide (len ≤ 28) = false := decide_eq_false (by omega)
  go_enter Tryd.func60, Tryd.ntmps60
  go_wp2_with fail
  go_ret
  exact ⟨rfl, hb0⟩
set_option maxRecDepth 100000 in
theorem light12_any (n : Int) (a : Option Addr) (cap : Nat) (es : List E2) (w : World) (he : EdgesAt w (.slice a es.length cap) es) (h : es.length ≤ 28) :
    Calls Tryd.prog 60 #[.agg #[.int .i64 n, .slice a es.length cap]] w fun e w' => e = .returned (.bool (ligB n es)) ∧ Below w.heap.size w w' := by
  have hb0 : Below w.heap.size w (w.alloc (.cells #[.int .i64 n, .slice a es.length cap] 27)) := (Below.refl _ _).alloc (Nat.le_refl _) _
  have d1 : decide ((es.length : Int) ≤ 28) = true := decide_eq_true (by omega)
  have d2 : decide (es.length ≤ 28) = true := decide_eq_true (by omega)
  unfold ligB
  by_cases hn : n ≤ 12
  · have d3 : decide (n ≤ 12) = true := decide_eq_true hn
    rw [d3, Bool.true_or]
    go_enter Tryd.func60, Tryd.ntmps60
    go_wp2_with fail
    go_ret
    exact ⟨rfl, hb0⟩
  · have d3 : decide (n ≤ 12) = false := decide_eq_false hn
    have hck := check_any n a cap es _ (he.below hb0)
    rw [d3, Bool.false_or]
    obtain ⟨C, hC⟩ : ∃ C, checkS n es = C := ⟨_, rfl⟩
    rw [hC] at hck ⊢
    obtain ⟨B, hB⟩ : ∃ B, (C != 0) = B := ⟨_, rfl⟩
    clear hC
    rw [hB]
    go_enter Tryd.func60, Tryd.ntmps60
    go_wp2_with fail
    refine hck.mono ?_
    rintro e w2 ⟨rfl, hb2⟩
    go_wp2_with fail
    go_ret
    exact ⟨rfl, hb0.trans (hb2.mono hb0.size)⟩
end Go.Proofs.YtbkacbbhiecnkaaDoor
