/- ref05.Find and ref05.Where. -/
import Derived.Test.YtpblaoeaeljmhaaDoorOutBox
import Derived.Test.YtpblaoeaeljmhaaDoorLkApply
import Derived.Test.YtpblaoeaeljmhaaDoorLkFnd
import Derived.Test.YtpblaoeaeljmhaaDoorRef02
namespace Go.Proofs.YtpblaoeaeljmhaaDoor
open Go.RowKit Go.BigFrame

theorem lkIdx_drop {t : Lk} {ls : List Lk} {i : Nat} {x : Lk} (h : ls[i]? = some x) : lkIdx t i (ls.drop i) = if sameE x t = true then (i : Int) else lkIdx t (i + 1) (ls.drop (i + 1)) := by
  rw [drop_at ls i x h]; rfl
set_option maxRecDepth 100000 in
set_option maxHeartbeats 3200000 in
theorem rfind05_any (n u v : Int) (ls : List Lk) (a : Option Addr) (cap : Nat) (w : World) (hl : RowAt encLk w (.slice a ls.length cap) ls) :
    Calls Tryd.prog 26 #[.agg #[.int .i64 n, .slice a ls.length cap], .int .i64 u, .int .i64 v] w fun e w' => e = .returned (.int .i64 (lfS n ls u v)) ∧ Below w.heap.size w w' := by
  have hsm := hl.small
  have hb := (Below.refl w.heap.size w).alloc (Nat.le_refl _) (.cells #[.int .i64 n, .slice a ls.length cap] 53)
  have hX := heap_alloc_new w (.cells #[.int .i64 n, .slice a ls.length cap] 53)
  have hck := rcheck05_any n a cap ls _ (hl.below hb)
  have x0 := cell_blk (j := 0) hX
  have x1 := cell_blk (j := 1) hX
  unfold lfS
  by_cases hS : stS n ls = 0
  case neg =>
    rw [if_pos hS]
    obtain ⟨Z, hZ⟩ : ∃ Z, stS n ls = Z := ⟨_, rfl⟩
    rw [hZ] at hck hS
    have d2 : (Z != 0) = true := by simpa using hS
    clear hS hZ hX
    go_enter Tryd.func26, Tryd.ntmps26
    go_wp2_with fail
    refine hck.mono ?_
    rintro _ w1 ⟨rfl, hb1⟩
    go_wp2_with fail
    go_ret
    exact ⟨rfl, hb.trans (hb1.mono hb.size)⟩
  rw [if_neg (by simp [hS])]
  rw [hS] at hck
  obtain ⟨R, hR⟩ : ∃ R, lkIdx (edgeL u v) 0 ls = R := ⟨_, rfl⟩
  rw [hR]
  have HR : Hid (lkIdx (edgeL u v) 0 (ls.drop 0) = R) := (show _ = _ from hR)
  clear hS hR
  go_enter Tryd.func26, Tryd.ntmps26
  go_wp2_with fail
  refine hck.mono ?_
  rintro _ w1 ⟨rfl, hb1⟩
  have hb01 := hb.trans (hb1.mono hb.size)
  have hX1 := lk_next hb1 hX
  have y1 := cell_blk (j := 1) hX1
  clear x0 x1 hX hck hb1 hb
  go_wp2_with fail
  clear y1
  go_loopw [15] (fun vi wr => ∃ i : Nat, i ≤ ls.length ∧ vi = .int .i64 i ∧ Hid (lkIdx (edgeL u v) i (ls.drop i) = R) ∧ Below w1.heap.size w1 wr) (fun vi _ => ls.length - (intOf vi).toNat)
  case atStart => exact ⟨0, Nat.zero_le _, rfl, HR, Below.refl _ _⟩
  case round =>
    obtain ⟨i, hi, rfl, HK, hbr⟩ := hrel
    by_cases hlt : i < ls.length
    · have hlt3 : (i : Int) < ls.length := by omega
      have hbe := hb01.trans (hbr.mono hb01.size)
      obtain ⟨b, off, x, rfl, hx, hcap, c0, c1, c2, c3, c4, c5⟩ := lk_at (hl.below hbe) i hlt
      have hk := HK.out
      rw [lkIdx_drop hx] at hk
      have HK2 := Lib.hid hk
      obtain ⟨xu, xv, x1, x2, x3, x4⟩ := x
      dsimp only at c0 c1 c2 c3 c4 c5 HK2
      have hbn := (Below.refl wr.heap.size wr).alloc (Nat.le_refl _) (.cells #[.int .i64 xu, .int .i64 xv, .int .i64 x1, .int .i64 x2, .int .i64 x3, .int .i64 x4] 69)
      have hbE := hbr.trans (hbn.mono hbr.size)
      obtain ⟨q0, q1, q2, q3, q4, q5⟩ := cells6 (heap_alloc_new wr (.cells #[.int .i64 xu, .int .i64 xv, .int .i64 x1, .int .i64 x2, .int .i64 x3, .int .i64 x4] 69))
      clear hk hx HK
      by_cases h1 : xu = min u v
      · have d1 : (xu == min u v) = true := by simpa using h1
        by_cases h2 : xv = max u v
        · have d2 : (xv == max u v) = true := by simpa using h2
          have HF : Hid (R = (i : Int)) := (show _ = _ by rw [← HK2.out, if_pos (by rw [sameE_iff]; exact ⟨h1, h2⟩)])
          clear h1 h2 HK2
          go_wp2_with fail
          go_ret
          exact ⟨by rw [HF.out]; rfl, hb01.trans (hbE.mono hb01.size)⟩
        · have d2 : (xv == max u v) = false := by simpa using h2
          have HN : Hid (lkIdx (edgeL u v) (i + 1) (ls.drop (i + 1)) = R) := (show _ = _ by rw [← HK2.out, if_neg (by rw [sameE_iff]; exact fun h => h2 h.2)])
          clear h1 h2 HK2
          go_wp2_with fail
          go_roundw
          case rel => exact ⟨i + 1, by omega, by go_num, HN, hbE⟩
          case measure => simp [intOf]; omega
      · have d1 : (xu == min u v) = false := by simpa using h1
        have HN : Hid (lkIdx (edgeL u v) (i + 1) (ls.drop (i + 1)) = R) := (show _ = _ by rw [← HK2.out, if_neg (by rw [sameE_iff]; exact fun h => h1 h.1)])
        clear h1 HK2
        go_wp2_with fail
        go_roundw
        case rel => exact ⟨i + 1, by omega, by go_num, HN, hbE⟩
        case measure => simp [intOf]; omega
    · obtain rfl : i = ls.length := by omega
      have HF : Hid (R = -1) := (show _ = _ by rw [← HK.out, List.drop_length]; rfl)
      go_wp2_with fail
      go_ret
      exact ⟨by rw [HF.out]; rfl, hb01.trans (hbr.mono hb01.size)⟩
/-- a state's box and an empty state's -/
structure SsW (w wr : World) (n : Int) (v : Value) : Prop where
  s : wr.heap[w.heap.size]? = some (.cells #[.int .i64 n, v] 53 (0, 0))
  r : wr.heap[w.heap.size + 1]? = some (.cells #[.int .i64 0, .slice none 0 0] 53 (0, 0))
  be : Below w.heap.size w wr
theorem SsW.next {w wr w' : World} {n : Int} {v : Value} (h : SsW w wr n v) (hb : Below wr.heap.size wr w') : SsW w w' n v := ⟨lk_next hb h.s, lk_next hb h.r, h.be.trans (hb.mono h.be.size)⟩
theorem SsW.start (w : World) (n : Int) (v : Value) : SsW w ((w.alloc (.cells #[.int .i64 n, v] 53)).alloc (.cells #[.int .i64 0, .slice none 0 0] 53)) n v := by
  have hb1 := (Below.refl w.heap.size w).alloc (Nat.le_refl _) (.cells #[.int .i64 n, v] 53)
  have hS := heap_alloc_new w (.cells #[.int .i64 n, v] 53)
  have hz1 : (w.alloc (.cells #[.int .i64 n, v] 53)).heap.size = w.heap.size + 1 := by simp
  have hR := heap_alloc_new (w.alloc (.cells #[.int .i64 n, v] 53)) (.cells #[.int .i64 0, .slice none 0 0] 53)
  rw [hz1] at hR
  have hb2 := (Below.refl _ (w.alloc (.cells #[.int .i64 n, v] 53))).alloc (Nat.le_refl _) (.cells #[.int .i64 0, .slice none 0 0] 53)
  exact ⟨lk_next hb2 hS, hR, hb1.trans (hb2.mono hb1.size)⟩
end Go.Proofs.YtpblaoeaeljmhaaDoor
