/- The contract of the test for equal states. -/
import Derived.Test.YtpblaoeaeljmhaaLkSet
namespace Go.Proofs.Ytpblaoeaeljmhaa
open Go.RowKit Go.BigFrame

theorem lk_diff {x y : Lk} (h : x ≠ y) : (x.u == y.u) = false ∨ ((x.u == y.u) = true ∧ (x.v == y.v) = false) ∨ ((x.u == y.u) = true ∧ (x.v == y.v) = true ∧ (x.weight == y.weight) = false) ∨ ((x.u == y.u) = true ∧ (x.v == y.v) = true ∧ (x.weight == y.weight) = true ∧ (x.label == y.label) = false) ∨
    ((x.u == y.u) = true ∧ (x.v == y.v) = true ∧ (x.weight == y.weight) = true ∧ (x.label == y.label) = true ∧ (x.sign == y.sign) = false) ∨ ((x.u == y.u) = true ∧ (x.v == y.v) = true ∧ (x.weight == y.weight) = true ∧ (x.label == y.label) = true ∧ (x.sign == y.sign) = true ∧ (x.time == y.time) = false) := by
  obtain ⟨a, b, c, d, e, f⟩ := x
  obtain ⟨a', b', c', d', e', f'⟩ := y
  dsimp only
  by_cases h1 : a = a'
  · by_cases h2 : b = b'
    · by_cases h3 : c = c'
      · by_cases h4 : d = d'
        · by_cases h5 : e = e'
          · by_cases h6 : f = f'
            · subst h1 h2 h3 h4 h5 h6; exact absurd rfl h
            · right; right; right; right; right; simp [h1, h2, h3, h4, h5, h6]
          · right; right; right; right; left; simp [h1, h2, h3, h4, h5]
        · right; right; right; left; simp [h1, h2, h3, h4]
      · right; right; left; simp [h1, h2, h3]
    · right; left; simp [h1, h2]
  · left; simp [h1]
set_option maxRecDepth 100000 in
set_option maxHeartbeats 3200000 in
theorem rsame05_any (n m : Int) (a a2 : Option Addr) (cap cap2 : Nat) (xs ys : List Lk) (w : World) (h1 : RowAt encLk w (.slice a xs.length cap) xs) (h2 : RowAt encLk w (.slice a2 ys.length cap2) ys) :
    Calls Try.prog 19 #[.agg #[.int .i64 n, .slice a xs.length cap], .agg #[.int .i64 m, .slice a2 ys.length cap2]] w fun e w' => e = .returned (.bool (decide (n = m ∧ xs = ys))) ∧ Below w.heap.size w w' := by
  have hs1 := h1.small
  have hs2 := h2.small
  have hb1 := (Below.refl w.heap.size w).alloc (Nat.le_refl _) (.cells #[.int .i64 n, .slice a xs.length cap] 35)
  have hX := heap_alloc_new w (.cells #[.int .i64 n, .slice a xs.length cap] 35)
  have hb2 := (Below.refl _ (w.alloc (.cells #[.int .i64 n, .slice a xs.length cap] 35))).alloc (Nat.le_refl _) (.cells #[.int .i64 m, .slice a2 ys.length cap2] 35)
  have hX2 := lk_next hb2 hX
  have hY := heap_alloc_new (w.alloc (.cells #[.int .i64 n, .slice a xs.length cap] 35)) (.cells #[.int .i64 m, .slice a2 ys.length cap2] 35)
  have hz : (w.alloc (.cells #[.int .i64 n, .slice a xs.length cap] 35)).heap.size = w.heap.size + 1 := by simp
  rw [hz] at hY
  have hb := hb1.trans (hb2.mono hb1.size)
  have x0 := cell_blk (j := 0) hX2
  have x1 := cell_blk (j := 1) hX2
  have y0 := cell_blk (j := 0) hY
  have y1 := cell_blk (j := 1) hY
  by_cases hn : n = m
  case neg =>
    have d1 : (n != m) = true := by simpa using hn
    have hr : decide (n = m ∧ xs = ys) = false := decide_eq_false fun h => hn h.1
    rw [hr]
    clear hn hr hb1 hb2 hz hX hX2 hY
    go_enter Try.func19, Try.ntmps19
    go_wp2_with fail
    go_ret
    exact ⟨rfl, hb⟩
  have d1 : (n != m) = false := by simpa using hn
  by_cases hl : xs.length = ys.length
  case neg =>
    have d2 : ((xs.length : Int) != (ys.length : Int)) = true := by simp; omega
    have hr : decide (n = m ∧ xs = ys) = false := decide_eq_false fun h => hl (by rw [h.2])
    rw [hr]
    clear hn hl hr hb1 hb2 hz hX hX2 hY
    go_enter Try.func19, Try.ntmps19
    go_wp2_with fail
    go_ret
    exact ⟨rfl, hb⟩
  have d2 : ((xs.length : Int) != (ys.length : Int)) = false := by simp; omega
  have hr : decide (n = m ∧ xs = ys) = decide (xs = ys) := by simp [hn]
  rw [hr]
  have HLN := Lib.hid hl
  have hlen : ys.length ≤ xs.length ∧ xs.length ≤ ys.length := by omega
  obtain ⟨R, hR⟩ : ∃ R, decide (xs = ys) = R := ⟨_, rfl⟩
  rw [hR]
  have HR := Lib.hid hR
  clear hn hl hr hR hb1 hz hX hb2
  have h1' := h1.below hb
  have h2' := h2.below hb
  go_enter Try.func19, Try.ntmps19
  go_wp2_with fail
  clear x0 x1 y0 y1
  obtain ⟨w2, hw2⟩ : ∃ W : World, W = (w.alloc (.cells #[.int .i64 n, .slice a xs.length cap] 35)).alloc (.cells #[.int .i64 m, .slice a2 ys.length cap2] 35) := ⟨_, rfl⟩
  rw [← hw2] at hX2 hY hb h1' h2' ⊢
  clear hw2
  go_loopw [23] (fun vi wr => ∃ i : Nat, i ≤ xs.length ∧ vi = .int .i64 i ∧ Hid (∀ j, j < i → xs[j]? = ys[j]?) ∧ Below w2.heap.size w2 wr) (fun vi _ => xs.length - (intOf vi).toNat)
  case atStart => exact ⟨0, Nat.zero_le _, rfl, (show _ from fun j hj => by omega), Below.refl _ _⟩
  case round =>
    obtain ⟨i, hi, rfl, HP, hbr⟩ := hrel
    by_cases hlt : i < xs.length
    · have hlt3 : (i : Int) < xs.length := by omega
      have hlt4 : (i : Int) < ys.length := by omega
      have hXr := lk_next hbr hX2
      have hYr := lk_next hbr hY
      have x1 := cell_blk (j := 1) hXr
      have y1 := cell_blk (j := 1) hYr
      obtain ⟨b, off, x, rfl, hx, hc1, c0, c1, c2, c3, c4, c5⟩ := lk_at (h1'.below hbr) i hlt
      obtain ⟨b2, off2, y, rfl, hy, hc2, e0, e1, e2, e3, e4, e5⟩ := lk_at (h2'.below hbr) i (by omega)
      have HX := Lib.hid hx
      have HY := Lib.hid hy
      clear hx hy
      by_cases hxy : x = y
      · subst hxy
        have HN : Hid (∀ j, j < i + 1 → xs[j]? = ys[j]?) := (show _ from fun j hj => by
          by_cases e : j = i
          · subst e; rw [HX.out, HY.out]
          · exact HP.out j (by omega))
        go_wp2_with fail
        go_quiet (fail)
        go_wp2_with fail
        go_roundw
        case rel => exact ⟨i + 1, by omega, by go_num, HN, hbr.drewN _⟩
        case measure => simp [intOf]; omega
      · have hR : Hid (R = false) := (show _ = _ by
          rw [← HR.out]
          refine decide_eq_false fun h => hxy ?_
          have h3 := HX.out
          rw [h, HY.out] at h3
          exact (Option.some.inj h3).symm)
        have hd := lk_diff hxy
        obtain ⟨xu, xv, xw, xl, xs', xt⟩ := x
        obtain ⟨yu, yv, yw, yl, ys', yt⟩ := y
        dsimp only at hd c0 c1 c2 c3 c4 c5 e0 e1 e2 e3 e4 e5
        clear hxy
        rcases hd with k1 | ⟨k1, k2⟩ | ⟨k1, k2, k3⟩ | ⟨k1, k2, k3, k4⟩ | ⟨k1, k2, k3, k4, k5⟩ | ⟨k1, k2, k3, k4, k5, k6⟩
        all_goals
          go_wp2_with fail
          go_quiet (fail)
          go_wp2_with fail
          go_ret
          exact ⟨by rw [hR.out]; rfl, hb.trans ((hbr.drewN _).mono hb.size)⟩
    · obtain rfl : i = xs.length := by omega
      have hR : Hid (R = true) := (show _ = _ by
        rw [← HR.out]
        refine decide_eq_true (List.ext_getElem? fun j => ?_)
        by_cases h : j < xs.length
        · exact HP.out j h
        · rw [List.getElem?_eq_none (by omega), List.getElem?_eq_none (by omega)])
      go_wp2_with fail
      go_ret
      exact ⟨by rw [hR.out]; rfl, hb.trans (hbr.mono hb.size)⟩
end Go.Proofs.Ytpblaoeaeljmhaa
