/- The walk of the law HistoryBetween. -/
import Derived.Test.YtpblaoeaeljmhaaRefBet
import Derived.Test.YtpblaoeaeljmhaaMkRan
import Derived.Test.YtpblaoeaeljmhaaHisAwake
import Derived.Test.YtpblaoeaeljmhaaEvSame
namespace Go.Proofs.Ytpblaoeaeljmhaa
open Go.RowKit Go.BigFrame

theorem list_below {w w' : World} {a : Option Addr} {len : Nat} (h : ListAt w a len) {B : Nat} (hb : Below B w w') (hB : w.heap.size ≤ B) : ListAt w' a len := by
  refine ⟨h.1, fun j hj => ?_⟩
  obtain ⟨c, off, x, ha, hc, hx⟩ := h.2 j hj
  exact ⟨c, off, x, ha, (hb.cell (p := ⟨c, off + j, none⟩) (Nat.lt_of_lt_of_le (cell_lt hc) hB)).trans hc, hx⟩
/-- three pairs of states in one block -/
theorem cells12 {w : World} {g T : Nat} {c0 c1 c2 c3 c4 c5 c6 c7 c8 c9 d0 d1 : Value} (h : w.heap[g]? = some (.cells #[c0, c1, c2, c3, c4, c5, c6, c7, c8, c9, d0, d1] T (0, 0))) :
    (w.cell? ⟨g, 0 * 4, none⟩ = some c0 ∧ w.cell? ⟨g, 0 * 4 + 1, none⟩ = some c1 ∧ w.cell? ⟨g, 0 * 4 + 2, none⟩ = some c2 ∧ w.cell? ⟨g, 0 * 4 + 3, none⟩ = some c3) ∧ (w.cell? ⟨g, 1 * 4, none⟩ = some c4 ∧ w.cell? ⟨g, 1 * 4 + 1, none⟩ = some c5 ∧ w.cell? ⟨g, 1 * 4 + 2, none⟩ = some c6 ∧ w.cell? ⟨g, 1 * 4 + 3, none⟩ = some c7) ∧ (w.cell? ⟨g, 2 * 4, none⟩ = some c8 ∧ w.cell? ⟨g, 2 * 4 + 1, none⟩ = some c9 ∧ w.cell? ⟨g, 2 * 4 + 2, none⟩ = some d0 ∧ w.cell? ⟨g, 2 * 4 + 3, none⟩ = some d1) :=
  ⟨⟨by rw [cell_blk h]; rfl, by rw [cell_blk h]; rfl, by rw [cell_blk h]; rfl, by rw [cell_blk h]; rfl⟩, ⟨by rw [cell_blk h]; rfl, by rw [cell_blk h]; rfl, by rw [cell_blk h]; rfl, by rw [cell_blk h]; rfl⟩, ⟨by rw [cell_blk h]; rfl, by rw [cell_blk h]; rfl, by rw [cell_blk h]; rfl, by rw [cell_blk h]; rfl⟩⟩
set_option maxRecDepth 100000 in
set_option maxHeartbeats 6400000 in
theorem between_law (m0 : Int) (ra : Option Addr) (rlen rcap : Nat) (rs : List Lk) (a : Option Addr) (len cap : Nat) (time : Int) (w : World) (hl : ListAt w a len) (hr : rlen ≤ 100 → rs.length = rlen ∧ RowAt encLk w (.slice ra rs.length rcap) rs) :
    Calls Try.prog 6 #[.agg #[.int .i64 m0, .slice ra rlen rcap], .slice a len cap, .int .i64 time] w fun e w' => e = .returned (.bool true) ∧ Below w.heap.size w w' := by
  have hb1 := (Below.refl w.heap.size w).alloc (Nat.le_refl _) (.cells #[.int .i64 m0, .slice ra rlen rcap] 35)
  have hR1 := heap_alloc_new w (.cells #[.int .i64 m0, .slice ra rlen rcap] 35)
  have r1 := cell_blk (j := 1) hR1
  by_cases hlen : rlen ≤ 60
  case neg =>
    have d1 : decide ((rlen : Int) > 60) = true := decide_eq_true (by omega)
    have d2 : decide (rlen > 60) = true := decide_eq_true (by omega)
    have d3 : (60 : Int) < rlen := by omega
    go_enter Try.func6, Try.ntmps6
    go_wp2_with fail
    refine (hawake_any _).mono ?_
    rintro e w4 ⟨rfl, hb4⟩
    go_wp2_with fail
    go_ret
    exact ⟨rfl, hb1.trans (hb4.mono hb1.size)⟩
  obtain ⟨rfl, hr0⟩ := hr (by omega)
  have d1 : decide ((rs.length : Int) > 60) = false := decide_eq_false (by omega)
  have d3 : ¬ (60 : Int) < rs.length := by omega
  have hl1 := list_below hl hb1 (Nat.le_refl _)
  have hdk := deck_new (cap := cap) hl1
  have bD := (Below.refl _ (w.alloc (.cells #[.int .i64 m0, .slice ra rs.length rcap] 35))).alloc (Nat.le_refl _) (.cells #[.slice a len cap, .int .i64 0] 65)
  have hr1 := (hr0.below hb1).below bD
  have hR2 := lk_next bD hR1
  have hbw := hb1.trans (bD.mono hb1.size)
  have hz1 : (w.alloc (.cells #[.int .i64 m0, .slice ra rs.length rcap] 35)).heap.size = w.heap.size + 1 := by simp
  rw [hz1] at hdk
  clear hr hl hr0 hl1 hb1 bD hR1 hz1
  go_enter Try.func6, Try.ntmps6
  go_wp2_with (go_at_call 7; refine (new_any _ _ _ _).mono ?_; rintro e w' ⟨rfl, rfl⟩)
  obtain ⟨b, hbb⟩ : ∃ b, w.heap.size + 1 = b := ⟨_, rfl⟩
  have hbl : w.heap.size < b := by omega
  have HBB := Lib.hid hbb
  rw [hbb] at hdk
  try rw [hbb]
  clear hbb r1
  refine (next_any b 5 _ hdk (by omega) (by omega)).mono ?_
  rintro _ w2 ⟨y, hy0, hy1, rfl, hd2, hg2⟩
  have hb2 := hbw.grown hg2 hbw.size (fun g e => by cases e; omega)
  have hr2 := hr1.grown' hg2 (fun g e hn => by cases e; exact off_deck (by decide) hr1 hdk hn)
  have hR3 := grown_blk hg2 hR2 (by intro e; have := Option.some.inj e; omega)
  have v1 : IntKind.i64.wrap (2 + y) = 2 + y := IntWalk.i64_in _ (by omega)
  clear hdk hbw hg2 hr1 hR2
  go_wp2_with fail
  obtain ⟨n, hn⟩ : ∃ n, 2 + y = n := ⟨_, rfl⟩
  have hn2 : 2 ≤ n := by omega
  have hn5 : n ≤ 6 := by omega
  rw [hn]
  clear hn v1 hy0 hy1
  refine (ran_any b n 8 _ hd2 hn2 (by omega) (by omega) (by omega)).mono ?_
  rintro _ w3 ⟨aA, cA, A, rfl, hA3, hvA, hd3, hg3⟩
  have hb3 := hb2.grown hg3 hb2.size (fun g e => by cases e; omega)
  have hr3 := hr2.grown' hg3 (fun g e hn => by cases e; exact off_deck (by decide) hr2 hd2 hn)
  have hR4 := grown_blk hg3 hR3 (by intro e; have := Option.some.inj e; omega)
  have HVA := Lib.hid hvA
  clear hd2 hb2 hg3 hr2 hR3 hvA
  go_wp2_with fail
  refine (next_any b 8 _ hd3 (by omega) (by omega)).mono ?_
  rintro _ w4 ⟨z, hz0, hz1, rfl, hd4, hg4⟩
  have hb4 := hb3.grown hg4 hb3.size (fun g e => by cases e; omega)
  have hr4 := hr3.grown' hg4 (fun g e hn => by cases e; exact off_deck (by decide) hr3 hd3 hn)
  have hA4 := hA3.grown' hg4 (fun g e hn => by cases e; exact off_deck (by decide) hA3 hd3 hn)
  have hR5 := grown_blk hg4 hR4 (by intro e; have := Option.some.inj e; omega)
  have v1 : IntKind.i64.wrap (n + z / 7) = n + z / 7 := IntWalk.i64_in _ (by omega)
  clear hd3 hb3 hg4 hr3 hR4 hA3
  go_wp2_with fail
  obtain ⟨m, hm⟩ : ∃ m, n + z / 7 = m := ⟨_, rfl⟩
  have hm2 : 2 ≤ m := by omega
  have hm5 : m ≤ 7 := by omega
  rw [hm]
  clear hm v1 hz0 hz1
  refine (ran_any b m 8 _ hd4 hm2 (by omega) (by omega) (by omega)).mono ?_
  rintro _ w5 ⟨aB, cB, B, rfl, hB5, hvB, hd5, hg5⟩
  have hb5 := hb4.grown hg5 hb4.size (fun g e => by cases e; omega)
  have hr5 := hr4.grown' hg5 (fun g e hn => by cases e; exact off_deck (by decide) hr4 hd4 hn)
  have hA5 := hA4.grown' hg5 (fun g e hn => by cases e; exact off_deck (by decide) hA4 hd4 hn)
  have hR6 := grown_blk hg5 hR5 (by intro e; have := Option.some.inj e; omega)
  have HVB := Lib.hid hvB
  clear hd4 hb4 hg5 hr4 hA4 hR5 hvB
  have bS := (Below.refl _ w5).alloc (Nat.le_refl _) (.cells #[.int .i64 n, .slice aA A.length cA] 35)
  have hS6 := heap_alloc_new w5 (.cells #[.int .i64 n, .slice aA A.length cA] 35)
  have bT := (Below.refl _ (w5.alloc (.cells #[.int .i64 n, .slice aA A.length cA] 35))).alloc (Nat.le_refl _) (.cells #[.int .i64 m, .slice aB B.length cB] 35)
  have hT6 := heap_alloc_new (w5.alloc (.cells #[.int .i64 n, .slice aA A.length cA] 35)) (.cells #[.int .i64 m, .slice aB B.length cB] 35)
  have hzS : (w5.alloc (.cells #[.int .i64 n, .slice aA A.length cA] 35)).heap.size = w5.heap.size + 1 := by simp
  rw [hzS] at hT6
  have bST := bS.trans (bT.mono bS.size)
  have hS7 := lk_next bT hS6
  have hR7 := lk_next bST hR6
  have r0 := cell_blk (j := 0) hR7
  have r1 := cell_blk (j := 1) hR7
  clear hzS
  have bX := (Below.refl _ ((w5.alloc (.cells #[.int .i64 n, .slice aA A.length cA] 35)).alloc (.cells #[.int .i64 m, .slice aB B.length cB] 35))).alloc (Nat.le_refl _) (.cells #[.int .i64 n, .slice aA A.length cA, .int .i64 m, .slice aB B.length cB, .int .i64 m0, .slice ra rs.length rcap, .int .i64 n, .slice aA A.length cA, .int .i64 n, .slice aA A.length cA, .int .i64 m0, .slice ra rs.length rcap] 56)
  have hX8 := heap_alloc_new ((w5.alloc (.cells #[.int .i64 n, .slice aA A.length cA] 35)).alloc (.cells #[.int .i64 m, .slice aB B.length cB] 35)) (.cells #[.int .i64 n, .slice aA A.length cA, .int .i64 m, .slice aB B.length cB, .int .i64 m0, .slice ra rs.length rcap, .int .i64 n, .slice aA A.length cA, .int .i64 n, .slice aA A.length cA, .int .i64 m0, .slice ra rs.length rcap] 56)
  have hzT : ((w5.alloc (.cells #[.int .i64 n, .slice aA A.length cA] 35)).alloc (.cells #[.int .i64 m, .slice aB B.length cB] 35)).heap.size = w5.heap.size + 1 + 1 := by simp
  rw [hzT] at hX8
  have b5X := bST.trans (bX.mono bST.size)
  have hS8 := lk_next bX hS7
  have hT8 := lk_next bX hT6
  have hR8 := lk_next b5X hR6
  have hA8 := hA5.below b5X
  have hB8 := hB5.below b5X
  have hr8 := hr5.below b5X
  have hb8 := hb5.trans (b5X.mono hb5.size)
  clear hzT bS hS6 bT hT6 bST hS7 hR7 hR6 bX b5X hB5 hA5 hr5 hb5 hd5 d1 d3
  go_wp2_with fail
  obtain ⟨w8, hw8⟩ : ∃ W : World, ((w5.alloc (.cells #[.int .i64 n, .slice aA A.length cA] 35)).alloc (.cells #[.int .i64 m, .slice aB B.length cB] 35)).alloc (.cells #[.int .i64 n, .slice aA A.length cA, .int .i64 m, .slice aB B.length cB, .int .i64 m0, .slice ra rs.length rcap, .int .i64 n, .slice aA A.length cA, .int .i64 n, .slice aA A.length cA, .int .i64 m0, .slice ra rs.length rcap] 56) = W := ⟨_, rfl⟩
  obtain ⟨X, hXX⟩ : ∃ X, w5.heap.size + 1 + 1 = X := ⟨_, rfl⟩
  obtain ⟨T, hTT⟩ : ∃ X, w5.heap.size + 1 = X := ⟨_, rfl⟩
  obtain ⟨S, hSS⟩ : ∃ X, w5.heap.size = X := ⟨_, rfl⟩
  rw [hw8] at hX8 hS8 hT8 hR8 hA8 hB8 hr8 hb8 ⊢
  rw [hXX] at hX8
  rw [hTT] at hT8
  rw [hSS] at hS8
  try rw [hXX]
  try rw [hTT]
  try rw [hSS]
  clear r0 r1 hw8 hXX hTT hSS HBB hR8
  go_loopw [57] (fun vi wr => ∃ q : Nat, q ≤ 3 ∧ vi = .int .i64 q ∧ Below w8.heap.size w8 wr) (fun vi _ => 3 - (intOf vi).toNat)
  case atStart => exact ⟨0, Nat.zero_le _, rfl, Below.refl _ _⟩
  case round =>
    obtain ⟨q, hq, rfl, hbr⟩ := hrel
    by_cases hq3 : q < 3
    · have hql3 : (q : Int) < 3 := by omega
      have hql4 : decide ((q : Int) < 3) = true := decide_eq_true hql3
      obtain ⟨n1, A1, a1, c1, n2, A2, a2, c2, k0, k1, k2, k3, h1, h2⟩ : ∃ (n1 : Int) (A1 : List Lk) (a1 : Option Addr) (c1 : Nat) (n2 : Int) (A2 : List Lk) (a2 : Option Addr) (c2 : Nat), wr.cell? ⟨X, q * 4, none⟩ = some (.int .i64 n1) ∧ wr.cell? ⟨X, q * 4 + 1, none⟩ = some (.slice a1 A1.length c1) ∧ wr.cell? ⟨X, q * 4 + 2, none⟩ = some (.int .i64 n2) ∧ wr.cell? ⟨X, q * 4 + 3, none⟩ = some (.slice a2 A2.length c2) ∧ RowAt encLk wr (.slice a1 A1.length c1) A1 ∧ RowAt encLk wr (.slice a2 A2.length c2) A2 := by
        obtain ⟨⟨e0, e1, e2, e3⟩, ⟨e4, e5, e6, e7⟩, ⟨e8, e9, f0, f1⟩⟩ := cells12 (lk_next hbr hX8)
        rcases (by omega : q = 0 ∨ q = 1 ∨ q = 2) with rfl | rfl | rfl
        · exact ⟨_, _, _, _, _, _, _, _, e0, e1, e2, e3, hA8.below hbr, hB8.below hbr⟩
        · exact ⟨_, _, _, _, _, _, _, _, e4, e5, e6, e7, hr8.below hbr, hA8.below hbr⟩
        · exact ⟨_, _, _, _, _, _, _, _, e8, e9, f0, f1, hA8.below hbr, hr8.below hbr⟩
      have bP := (Below.refl _ wr).alloc (Nat.le_refl _) (.cells #[.int .i64 n1, .slice a1 A1.length c1, .int .i64 n2, .slice a2 A2.length c2] 56)
      have hP := heap_alloc_new wr (.cells #[.int .i64 n1, .slice a1 A1.length c1, .int .i64 n2, .slice a2 A2.length c2] 56)
      have bK := (Below.refl _ (wr.alloc (.cells #[.int .i64 n1, .slice a1 A1.length c1, .int .i64 n2, .slice a2 A2.length c2] 56))).alloc (Nat.le_refl _) (.cells #[.int .i64 time, .int .i64 50] 3)
      have hK := heap_alloc_new (wr.alloc (.cells #[.int .i64 n1, .slice a1 A1.length c1, .int .i64 n2, .slice a2 A2.length c2] 56)) (.cells #[.int .i64 time, .int .i64 50] 3)
      have hzP : (wr.alloc (.cells #[.int .i64 n1, .slice a1 A1.length c1, .int .i64 n2, .slice a2 A2.length c2] 56)).heap.size = wr.heap.size + 1 := by simp
      rw [hzP] at hK
      have bPK := bP.trans (bK.mono bP.size)
      have hP2 := lk_next bK hP
      have h12 := h1.below bPK
      have h22 := h2.below bPK
      have hb2 := hbr.trans (bPK.mono hbr.size)
      clear bP bK hP hzP bPK h1 h2
      go_wp2_with fail
      obtain ⟨wi, hwi⟩ : ∃ W : World, ((wr.alloc (.cells #[.int .i64 n1, .slice a1 A1.length c1, .int .i64 n2, .slice a2 A2.length c2] 56)).alloc (.cells #[.int .i64 time, .int .i64 50] 3)) = W := ⟨_, rfl⟩
      obtain ⟨K, hKK⟩ : ∃ X, wr.heap.size + 1 = X := ⟨_, rfl⟩
      obtain ⟨P, hPP⟩ : ∃ X, wr.heap.size = X := ⟨_, rfl⟩
      rw [hwi] at hK hP2 h12 h22 hb2 ⊢
      rw [hKK] at hK
      rw [hPP] at hP2
      try rw [hKK]
      try rw [hPP]
      clear hwi hKK hPP k0 k1 k2 k3
      go_loopw [64] (fun vi wr => ∃ s : Nat, s ≤ 2 ∧ vi = .int .i64 s ∧ Below wi.heap.size wi wr) (fun vi _ => 2 - (intOf vi).toNat)
      case atStart => exact ⟨0, Nat.zero_le _, rfl, Below.refl _ _⟩
      case round =>
        obtain ⟨s, hs, rfl, hbs⟩ := hrel
        by_cases hs2 : s < 2
        · have hsl3 : (s : Int) < 2 := by omega
          have hsl4 : decide ((s : Int) < 2) = true := decide_eq_true hsl3
          have hKr := lk_next hbs hK
          have hPr := lk_next hbs hP2
          obtain ⟨tt, c0⟩ : ∃ tt, wr.cell? ⟨K, s, none⟩ = some (.int .i64 tt) := by
            rcases (by omega : s = 0 ∨ s = 1) with rfl | rfl
            · exact ⟨_, cell_blk (j := 0) hKr⟩
            · exact ⟨_, cell_blk (j := 1) hKr⟩
          have h1 := h12.below hbs
          have h2 := h22.below hbs
          have hx1 := between_any n1 n2 A1 A2 tt a1 a2 c1 c2 _ h1 h2
          have hx2 := fun W h h' => rbetween_any n1 n2 A1 A2 tt a1 a2 c1 c2 W h h'
          obtain ⟨⟨es, ez⟩, hE⟩ : ∃ R, betX n1 n2 A1 A2 tt = R := ⟨_, rfl⟩
          rw [hE] at hx1 hx2
          unfold BetPost at hx1 hx2
          dsimp only at hx1 hx2
          have p0 := cell_blk (j := 0) hPr
          have p1 := cell_blk (j := 1) hPr
          have p2 := cell_blk (j := 2) hPr
          have p3 := cell_blk (j := 3) hPr
          clear hE hKr
          go_wp2_with fail
          refine hx1.mono ?_
          rintro _ w9 ⟨e1, f1, rfl, hr1, hb9⟩
          have hP9 := lk_next hb9 hPr
          have hx3 := hx2 _ (h1.below hb9) (h2.below hb9)
          have hb09 := hbs.trans (hb9.mono hbs.size)
          clear p0 p1 p2 p3 hx1 hx2 h1 h2 c0 hPr
          have p0 := cell_blk (j := 0) hP9
          have p1 := cell_blk (j := 1) hP9
          have p2 := cell_blk (j := 2) hP9
          have p3 := cell_blk (j := 3) hP9
          go_wp2_with fail
          refine hx3.mono ?_
          rintro _ w10 ⟨e2, f2, rfl, hr2, hb10⟩
          have hsm := evsame_eq es e1 e2 f1 f2 _ (hr1.below hb10) hr2
          have hb010 := hb09.trans (hb10.mono hb09.size)
          clear p0 p1 p2 p3 hx3 hr1 hr2 hP9 hb10 hb9 hb09
          go_wp2_with fail
          refine hsm.mono ?_
          rintro _ w11 ⟨rfl, hb11⟩
          have hb011 := hb010.trans (hb11.mono hb010.size)
          clear hsm hb11 hb010
          go_wp2_with fail
          go_roundw
          case rel =>
            first | exact ⟨s + 1, by omega, by go_num, hb011⟩ | ((repeat apply Exists.intro); exact ⟨⟨s + 1, by omega, by go_num, hb011⟩, rfl⟩)
          case measure => simp [intOf]; omega
        · obtain rfl : s = 2 := by omega
          have hbe := hb2.trans (hbs.mono hb2.size)
          clear hK hP2 h12 h22
          go_wp2_with fail
          go_roundw
          case rel =>
            first | exact ⟨q + 1, by omega, by go_num, hbe⟩ | ((repeat apply Exists.intro); exact ⟨⟨q + 1, by omega, by go_num, hbe⟩, rfl⟩)
          case measure => simp [intOf]; omega
    · obtain rfl : q = 3 := by omega
      have hS9 := lk_next hbr hS8
      have hT9 := lk_next hbr hT8
      have hA9 := hA8.below hbr
      have hB9 := hB8.below hbr
      have hb9 := hb8.trans (hbr.mono hb8.size)
      clear hX8 hS8 hT8 hA8 hB8 hr8 hb8 hbr hq
      have hx1 := between_any n m A B 50 aA aB cA cB _ hA9 hB9
      unfold betX at hx1
      rw [if_neg (by rw [(stS_iff n A).2 HVA.out]; simp), if_neg (by rw [(stS_iff m B).2 HVB.out]; simp)] at hx1
      have s0 := cell_blk (j := 0) hS9
      have s1 := cell_blk (j := 1) hS9
      have t0 := cell_blk (j := 0) hT9
      have t1 := cell_blk (j := 1) hT9
      by_cases hnm : n = m
      case neg =>
        rw [if_pos hnm] at hx1
        unfold BetPost at hx1
        dsimp only at hx1
        clear hnm
        go_wp2_with fail
        refine hx1.mono ?_
        rintro _ w10 ⟨e1, f1, rfl, -, hb10⟩
        have hb010 := hb9.trans (hb10.mono hb9.size)
        clear s0 s1 t0 t1 hx1
        go_wp2_with fail
        refine (hawake_any _).mono ?_
        rintro _ w13 ⟨rfl, hb13⟩
        go_wp2_with fail
        go_ret
        exact ⟨rfl, hb010.trans (hb13.mono hb010.size)⟩
      subst hnm
      rw [if_neg (by simp), if_neg (by omega)] at hx1
      unfold BetPost at hx1
      dsimp only at hx1
      obtain ⟨R, kk, hall, hRB⟩ := bet_leads (t := 50) HVA.out HVB.out (by omega) (by omega)
      obtain ⟨es, hes⟩ : ∃ l, mrg 50 A B = l := ⟨_, rfl⟩
      rw [hes] at hx1 hall
      have hlRB : R.length = B.length := by have := congrArg List.length hRB; simpa using this
      have HRB := Lib.hid hRB
      have hal := fun a2 cap2 W h1 h2 => rall05_any n es A aA a2 cA cap2 W h1 h2
      rw [hall] at hal
      unfold RAllPost at hal
      dsimp only at hal
      have hRl : R.length ≤ 4096 := by rw [hlRB]; exact HVB.out.length_le
      have HLB := Lib.hid hlRB
      clear hes hall hRB hlRB
      go_wp2_with fail
      refine hx1.mono ?_
      rintro _ w10 ⟨e1, f1, rfl, hE1, hb10⟩
      have hS10 := lk_next hb10 hS9
      have hT10 := lk_next hb10 hT9
      have hA10 := hA9.below hb10
      have hB10 := hB9.below hb10
      have hb010 := hb9.trans (hb10.mono hb9.size)
      have hal2 := hal _ _ _ hA10 hE1
      clear s0 s1 t0 t1 hx1 hal hS9 hT9 hA9 hB9 hb9 hb10
      have s0 := cell_blk (j := 0) hS10
      have s1 := cell_blk (j := 1) hS10
      go_wp2_with fail
      refine hal2.mono ?_
      rintro _ w11 ⟨aR, cR, rfl, hR11, hb11⟩
      have bn := (Below.refl _ w11).alloc (Nat.le_refl _) (.cells #[.int .i64 n, .slice aR R.length cR] 35)
      have b11 := hb11.trans (bn.mono hb11.size)
      have hT12 := lk_next b11 hT10
      have hB12 := hB10.below b11
      have hR12 := hR11.below bn
      have hU12 := heap_alloc_new w11 (.cells #[.int .i64 n, .slice aR R.length cR] 35)
      have hb012 := hb010.trans (b11.mono hb010.size)
      clear s0 s1 hal2 hS10 hT10 hA10 hB10 hE1 hb11 hR11 bn b11 hb010
      have u0 := cell_blk (j := 0) hU12
      have u1 := cell_blk (j := 1) hU12
      have t0 := cell_blk (j := 0) hT12
      have t1 := cell_blk (j := 1) hT12
      have hlb := HLB.out
      have g4 : ((R.length : Int) != (B.length : Int)) = false := by rw [hlb]; simp
      clear hlb
      go_wp2_with fail
      obtain ⟨w12, hw12⟩ : ∃ W : World, w11.alloc (.cells #[.int .i64 n, .slice aR R.length cR] 35) = W := ⟨_, rfl⟩
      rw [hw12] at hT12 hB12 hR12 hb012 ⊢
      clear hw12 hU12 u0 u1 t0 t1 g4
      go_loopw [127] (fun vi wr => ∃ i : Nat, i ≤ R.length ∧ vi = .int .i64 i ∧ Below w12.heap.size w12 wr) (fun vi _ => R.length - (intOf vi).toNat)
      case atStart => exact ⟨0, Nat.zero_le _, rfl, Below.refl _ _⟩
      case round =>
        obtain ⟨i, hi, rfl, hbr⟩ := hrel
        by_cases hil : i < R.length
        · have hil3 : (i : Int) < R.length := by omega
          have hil4 : i < B.length := by rw [← HLB.out]; exact hil
          have hil5 : (i : Int) < B.length := by omega
          obtain ⟨bx, ox, x, rfl, hx, hcapx, d0, d1, d2, d3, d4, d5⟩ := lk_at (hR12.below hbr) i hil
          have hBr := hB12.below hbr
          obtain ⟨by', oy, y, rfl, hy, hcapy, -⟩ := lk_at hBr i hil4
          have hxy : noT x = noT y := by
            have h1 : (R.map noT)[i]? = some (noT x) := by rw [List.getElem?_map, hx]; rfl
            have h2 : (B.map noT)[i]? = some (noT y) := by rw [List.getElem?_map, hy]; rfl
            rw [HRB.out, h2] at h1
            exact (Option.some.inj h1).symm
          obtain ⟨xu, xv, xw, xl, xs, xt⟩ := x
          obtain ⟨yu, yv, yw, yl, ys, yt⟩ := y
          obtain ⟨e1, e2, e3, e4, e5, -⟩ := Lk.mk.inj hxy
          dsimp only at e1 e2 e3 e4 e5
          subst xu
          subst xv
          subst xw
          subst xl
          subst xs
          have bl := (Below.refl _ wr).alloc (Nat.le_refl _) (.cells #[.int .i64 yu, .int .i64 yv, .int .i64 yw, .int .i64 yl, .int .i64 ys, .int .i64 xt] 62)
          have hL := heap_alloc_new wr (.cells #[.int .i64 yu, .int .i64 yv, .int .i64 yw, .int .i64 yl, .int .i64 ys, .int .i64 xt] 62)
          have l5 := cell_blk (j := 5) hL
          have f5 := free_blk (j := 5) hL
          have hTr := lk_next bl (lk_next hbr hT12)
          have t1 := cell_blk (j := 1) hTr
          obtain ⟨b2, o2, y2, hpp, hy2, -, c0, c1, c2, c3, c4, c5⟩ := lk_at (hBr.below bl) i hil4
          cases hpp
          obtain rfl := Option.some.inj (hy.symm.trans hy2)
          dsimp only at c0 c1 c2 c3 c4 c5 d0 d1 d2 d3 d4 d5
          clear hxy hx
          go_wp2_with fail
          clear c0 c1 c2 c3 c4 c5 t1 hTr l5 f5 hL bl d0 d1 d2 d3 d4 d5 hy2
          have bl := (Below.refl _ wr).alloc (Nat.le_refl _) (.cells #[.int .i64 yu, .int .i64 yv, .int .i64 yw, .int .i64 yl, .int .i64 ys, .int .i64 yt] 62)
          have hL := heap_alloc_new wr (.cells #[.int .i64 yu, .int .i64 yv, .int .i64 yw, .int .i64 yl, .int .i64 ys, .int .i64 yt] 62)
          have l0 := cell_blk (j := 0) hL
          have l1 := cell_blk (j := 1) hL
          have l2 := cell_blk (j := 2) hL
          have l3 := cell_blk (j := 3) hL
          have l4 := cell_blk (j := 4) hL
          have l5 := cell_blk (j := 5) hL
          have hTr := lk_next bl (lk_next hbr hT12)
          have t1 := cell_blk (j := 1) hTr
          obtain ⟨b2, o2, y2, hpp, hy2, -, c0, c1, c2, c3, c4, c5⟩ := lk_at (hBr.below bl) i hil4
          cases hpp
          obtain rfl := Option.some.inj (hy.symm.trans hy2)
          dsimp only at c0 c1 c2 c3 c4 c5
          have hbe := hbr.trans (bl.mono hbr.size)
          clear hy hy2 hL bl hTr
          go_quiet (fail)
          clear c0 c1 c2 c3 c4 c5 t1 l0 l1 l2 l3 l4 l5
          go_wp2_with fail
          go_roundw
          case rel =>
            first | exact ⟨i + 1, by omega, by go_num, hbe.drewN _⟩ | ((repeat apply Exists.intro); exact ⟨⟨i + 1, by omega, by go_num, hbe.drewN _⟩, rfl⟩)
          case measure => simp [intOf]; omega
        · obtain rfl : i = R.length := by omega
          have hbe := hb012.trans (hbr.mono hb012.size)
          have hil3 : ¬ (R.length : Int) < R.length := by omega
          clear hT12 hB12 hR12
          go_wp2_with fail
          refine (hawake_any _).mono ?_
          rintro _ w13 ⟨rfl, hb13⟩
          go_wp2_with fail
          go_ret
          exact ⟨rfl, hbe.trans (hb13.mono hbe.size)⟩
end Go.Proofs.Ytpblaoeaeljmhaa
