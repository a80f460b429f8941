/- The walk of the law LinksBack. -/
import Derived.Test.YtkadeibinhkbjaaLkBackP
import Derived.Test.YtkadeibinhkbjaaLkAwake
import Derived.Test.YtkadeibinhkbjaaLkSame
import Derived.Test.YtkadeibinhkbjaaMkState
namespace Go.Proofs.Ytkadeibinhkbjaa
open Go.RowKit Go.BigFrame

theorem rows_lits {α : Type} {E : Enc α} (w : World) (xs : List α) (T : TypeId) (cs : Array Value) (hl : xs.length ≤ 1099511627776) (hcs : cs.toList = flatR E xs) : RowAt E (w.alloc (.cells cs T)) (.slice (some ⟨w.heap.size, 0, none⟩) xs.length xs.length) xs := by
  refine ⟨_, _, rfl, Nat.le_refl _, (fun h => by cases h), hl, fun j u hj => ⟨w.heap.size, 0, rfl, ?_⟩⟩
  rw [cell_blk (heap_alloc_new _ _), Nat.zero_add]
  rw [← hcs] at hj
  simpa using hj
theorem rem_in {n u y : Int} (hn : 2 ≤ n) (hu0 : 0 ≤ u) (hu1 : u < n) (hy0 : 0 ≤ y) (hy1 : y < n - 1) : 0 ≤ (u + 1 + y).tmod n ∧ (u + 1 + y).tmod n < n ∧ u ≠ (u + 1 + y).tmod n := by
  rw [Int.tmod_eq_emod_of_nonneg (by omega)]
  refine ⟨Int.emod_nonneg _ (by omega), Int.emod_lt_of_pos _ (by omega), ?_⟩
  by_cases h : u + 1 + y < n
  · rw [Int.emod_eq_of_lt (by omega) h]; omega
  · have e : u + 1 + y = (u + 1 + y - n) + n * 1 := by omega
    rw [e, Int.add_mul_emod_self_left, Int.emod_eq_of_lt (by omega) (by omega)]; omega
set_option maxRecDepth 100000 in
set_option maxHeartbeats 6400000 in
theorem back_law (a : Option Addr) (len cap : Nat) (w : World) (hl : ListAt w a len) :
    Calls Try.prog 5 #[.slice a len cap] w fun e w' => e = .returned (.bool true) ∧ Below w.heap.size w w' := by
  have hdk := deck_new (cap := cap) hl
  have hb1 : Below w.heap.size w (w.alloc (.cells #[.slice a len cap, .int .i64 0] 66)) := (Below.refl _ _).alloc (Nat.le_refl _) _
  go_enter Try.func5, Try.ntmps5
  go_wp2_with (go_at_call 9; refine (new_any _ _ _ _).mono ?_; rintro e w' ⟨rfl, rfl⟩)
  refine (mkstate_any w.heap.size 7 _ hdk (by omega) (by omega)).mono ?_
  rintro _ w2 ⟨n, ls, al, cl, rfl, hr2, hv, hn7, ht, hd2, hg2, ho2⟩
  have hb2 := hb1.grown hg2 hb1.size (fun g e => by cases e; exact Nat.le_refl _)
  have hz1 : (w.alloc (.cells #[.slice a len cap, .int .i64 0] 66)).heap.size = w.heap.size + 1 := by simp
  have hz2 := hg2.size
  rw [hz1] at hz2 ho2
  have hn0 := hv.1
  have hX := heap_alloc_new w2 (.cells #[.int .i64 n, .slice al ls.length cl] 24)
  have x0 := cell_blk (j := 0) hX
  have hb3 := hb2.alloc hb2.size (.cells #[.int .i64 n, .slice al ls.length cl] 24)
  by_cases hn2 : n < 2
  · clear hX hr2 hd2 hg2 ho2 hdk hb1
    go_wp2_with fail
    refine (awake05_any _).mono ?_
    rintro e w3 ⟨rfl, hb4⟩
    go_wp2_with fail
    go_ret
    exact ⟨rfl, hb3.trans (hb4.mono hb3.size)⟩
  have hr3 := hr2.below ((Below.refl w2.heap.size w2).alloc (Nat.le_refl _) (.cells #[.int .i64 n, .slice al ls.length cl] 24))
  have hd3 := hd2.alloc (.cells #[.int .i64 n, .slice al ls.length cl] 24)
  obtain ⟨S, hSS⟩ : ∃ S, w2.heap.size = S := ⟨_, rfl⟩
  obtain ⟨w3, hw3⟩ : ∃ W : World, W = w2.alloc (.cells #[.int .i64 n, .slice al ls.length cl] 24) := ⟨_, rfl⟩
  clear hdk hb1 hz1 hb2 hr2 hd2
  go_wp2_with fail
  rw [hSS] at hz2 hX
  try rw [hSS]
  rw [← hw3] at hX hb3 hr3 hd3 ⊢
  clear hw3 x0 hg2
  refine (next_any w.heap.size n _ hd3 (by omega) (by omega)).mono ?_
  rintro _ w4 ⟨u, hu0, hu1, rfl, hd4, hg4⟩
  have hX4 := grown_blk hg4 hX (by intro e; have := Option.some.inj e; omega)
  have hr4 := hr3.grown hg4 (fun g e n' c' p hp => by cases e; have := ho2 p (Value.slice.inj hp).1; omega)
  have hb4 := hb3.grown hg4 hb3.size (fun g e => by cases e; exact Nat.le_refl _)
  have x4 : w4.drew.cell? ⟨S, 0, none⟩ = some (.int .i64 n) := cell_blk (w := w4.drew) (j := 0) hX4
  have hcx : ∀ W : World, W.heap[S]? = some (.cells #[.int .i64 n, .slice al ls.length cl] 24 (0, 0)) → W.cell? ⟨S, 0, none⟩ = some (.int .i64 n) := fun W h => by rw [cell_blk h]; rfl
  have hnx := next_any w.heap.size (n - 1) w4.drew hd4.drew (by omega) (by omega)
  have hX4d : w4.drew.heap[S]? = _ := hX4
  have v1 : IntKind.i64.wrap (u + 1) = u + 1 := IntWalk.i64_in _ (by omega)
  have v2 : IntKind.i64.wrap (n - 1) = n - 1 := IntWalk.i64_in _ (by omega)
  have hnz : ¬ n = 0 := by omega
  have hnz2 : (n == 0) = false := by simpa using hnz
  clear hX hb3 hr3 hd3 hg4
  go_wp2_with fail
  go_region_held3 (fun w' => w'.cell? ⟨S, 0, none⟩ = some (.int .i64 n))
    (first
      | exact hcx _ hX5
      | exact hcx _ hX4d)
    (first
      | (go_at_call 22; (with_reducible refine hnx.mono ?_); rintro _ w5 ⟨y, hy0, hy1, rfl, hd5, hg5⟩; have hX5 := grown_blk hg5 hX4d (by intro e; have := Option.some.inj e; omega); have v3 : IntKind.i64.wrap (u + 1 + y) = u + 1 + y := IntWalk.i64_in _ (by omega)))
  have hvb := rem_in (by omega : 2 ≤ n) hu0 hu1 hy0 hy1
  obtain ⟨v, hvv⟩ : ∃ v, (u + 1 + y).tmod n = v := ⟨_, rfl⟩
  rw [hvv] at hvb ⊢
  obtain ⟨hv0, hv1, huv⟩ := hvb
  have hr5 := RowAt.grown (show RowAt encLk w4.drew (.slice al ls.length cl) ls from hr4) hg5 (fun g e n' c' p hp => by cases e; have := ho2 p (Value.slice.inj hp).1; omega)
  have hb5 := hb4.drew.grown hg5 hb4.size (fun g e => by cases e; exact Nat.le_refl _)
  clear hvv v3 v1 v2 x4 hcx hnx hX4 hr4 hb4 hX4d hd4 hd5 hg5 hnz hnz2 hy0 hy1
  have B2 := back_two hv ht hu0 hu1 hv0 hv1 huv
  obtain ⟨m, hm, B1⟩ := back_one hv hu0 hu1 hv0 hv1 huv
  obtain ⟨Ch, B3⟩ := back_leave hv hu0 hu1
  have HF := Lib.hid (fun x hx => back_find hv hu0 hu1 (x := x) hx)
  have hLl : (ls.filter fun l => !goneB (leaveE u) l).length ≤ ls.length := List.length_filter_le _ _
  obtain ⟨K, hK⟩ : ∃ K, (ls.filter fun l => !goneB (cutE u v) l) = K := ⟨_, rfl⟩
  obtain ⟨L, hL⟩ : ∃ L, (ls.filter fun l => !goneB (leaveE u) l) = L := ⟨_, rfl⟩
  rw [hK] at B2 B1
  rw [hL] at B3 HF hLl
  clear hK hL
  -- the event, and both lists
  have bE := (Below.refl _ w5).alloc (Nat.le_refl _) (.cells #[.int .i64 2, .int .i64 30, .int .i64 u, .int .i64 v, .int .i64 0, .int .i64 0, .int .i64 0] 26)
  have hE := heap_alloc_new w5 (.cells #[.int .i64 2, .int .i64 30, .int .i64 u, .int .i64 v, .int .i64 0, .int .i64 0, .int .i64 0] 26)
  have hXE := lk_next bE hX5
  obtain ⟨e0, e1, e2, e3, e4, e5, e6⟩ := lk_cells7 hE
  have x0 := cell_blk (j := 0) hXE
  have x1 := cell_blk (j := 1) hXE
  have bL := (Below.refl _ (w5.alloc (.cells #[.int .i64 2, .int .i64 30, .int .i64 u, .int .i64 v, .int .i64 0, .int .i64 0, .int .i64 0] 26))).alloc (Nat.le_refl _) (.cells #[.int .i64 1, .int .i64 30, .int .i64 v, .int .i64 u, .int .i64 3, .int .i64 0, .int .i64 (-1), .int .i64 2, .int .i64 30, .int .i64 u, .int .i64 v, .int .i64 0, .int .i64 0, .int .i64 0] 26)
  have bEL := bE.trans (bL.mono bE.size)
  have hz5 : (w5.alloc (.cells #[.int .i64 2, .int .i64 30, .int .i64 u, .int .i64 v, .int .i64 0, .int .i64 0, .int .i64 0] 26)).heap.size = w5.heap.size + 1 := by simp
  have hev := rows_lits (E := encEv) (w5.alloc (.cells #[.int .i64 2, .int .i64 30, .int .i64 u, .int .i64 v, .int .i64 0, .int .i64 0, .int .i64 0] 26)) [setE u v, cutE u v] 26 #[.int .i64 1, .int .i64 30, .int .i64 v, .int .i64 u, .int .i64 3, .int .i64 0, .int .i64 (-1), .int .i64 2, .int .i64 30, .int .i64 u, .int .i64 v, .int .i64 0, .int .i64 0, .int .i64 0] (by simp) rfl
  rw [hz5] at hev
  have h1 := lall_any n [setE u v, cutE u v] ls al _ cl 2 _ (hr5.below bEL) hev
  rw [B2] at h1
  unfold AllPost at h1
  dsimp only at h1
  go_wp2_with fail
  refine (show Calls Try.prog 19 #[.agg #[.int .i64 n, .slice al ls.length cl], .slice (some ⟨w5.heap.size + 1, 0, none⟩) 2 2] _ _ from h1).mono ?_
  rintro _ w8 ⟨a1, c1, rfl, hA8, -, hb8⟩
  have b58 := bEL.trans (hb8.mono bEL.size)
  have hX8 := lk_next b58 hX5
  have hE8 := lk_next hb8 (lk_next bL hE)
  have hr8 := hr5.below b58
  have hb08 := hb5.trans (b58.mono hb5.size)
  clear h1 hev bEL bL x0 x1 e0 e1 e2 e3 e4 e5 e6 hXE hE bE b58 hb8 hr5 hX5 hb5 B2 hz5
  have bA := (Below.refl _ w8).alloc (Nat.le_refl _) (.cells #[.int .i64 n, .slice a1 K.length c1] 24)
  have hA := heap_alloc_new w8 (.cells #[.int .i64 n, .slice a1 K.length c1] 24)
  have hXA := lk_next bA hX8
  obtain ⟨e0, e1, e2, e3, e4, e5, e6⟩ := lk_cells7 (lk_next bA hE8)
  have x0 := cell_blk (j := 0) hXA
  have x1 := cell_blk (j := 1) hXA
  have bL := (Below.refl _ (w8.alloc (.cells #[.int .i64 n, .slice a1 K.length c1] 24))).alloc (Nat.le_refl _) (.cells #[.int .i64 2, .int .i64 30, .int .i64 u, .int .i64 v, .int .i64 0, .int .i64 0, .int .i64 0] 26)
  have bAL := bA.trans (bL.mono bA.size)
  have hz8 : (w8.alloc (.cells #[.int .i64 n, .slice a1 K.length c1] 24)).heap.size = w8.heap.size + 1 := by simp
  have hev := rows_lits (E := encEv) (w8.alloc (.cells #[.int .i64 n, .slice a1 K.length c1] 24)) [cutE u v] 26 #[.int .i64 2, .int .i64 30, .int .i64 u, .int .i64 v, .int .i64 0, .int .i64 0, .int .i64 0] (by simp) rfl
  rw [hz8] at hev
  have h2 := lall_any n [cutE u v] ls al _ cl 1 _ (hr8.below bAL) hev
  rw [B1] at h2
  unfold AllPost at h2
  dsimp only at h2
  go_wp2_with fail
  refine (show Calls Try.prog 19 #[.agg #[.int .i64 n, .slice al ls.length cl], .slice (some ⟨w8.heap.size + 1, 0, none⟩) 1 1] _ _ from h2).mono ?_
  rintro _ w10 ⟨a2, c2, rfl, hB10, -, hb10⟩
  have b810 := bAL.trans (hb10.mono bAL.size)
  have hX10 := lk_next b810 hX8
  have hA10 := lk_next hb10 (lk_next bL hA)
  have hA10r := hA8.below b810
  have hr10 := hr8.below b810
  have hb010 := hb08.trans (b810.mono hb08.size)
  clear h2 hev bA hA hXA e0 e1 e2 e3 e4 e5 e6 x0 x1 bL bAL hz8 hb10 b810 hX8 hA8 hr8 hb08 hE8 B1
  have bB := (Below.refl _ w10).alloc (Nat.le_refl _) (.cells #[.int .i64 n, .slice a2 K.length c2] 24)
  have hBn := heap_alloc_new w10 (.cells #[.int .i64 n, .slice a2 K.length c2] 24)
  have hXB := lk_next bB hX10
  have x0 := cell_blk (j := 0) hXB
  have x1 := cell_blk (j := 1) hXB
  have h3 := lapply_any n (leaveE u) ls al cl _ (hr10.below bB)
  rw [B3] at h3
  unfold AppPost Ev.cells leaveE at h3
  dsimp only at h3
  go_wp2_with fail
  refine (show Calls Try.prog 15 #[.agg #[.int .i64 n, .slice al ls.length cl], .agg #[.int .i64 3, .int .i64 30, .int .i64 u, .int .i64 0, .int .i64 0, .int .i64 0, .int .i64 0]] _ _ from h3).mono ?_
  rintro _ w12 ⟨a3, c3, a4, c4, rfl, hC12, -, -, -, hb12⟩
  have b012 := bB.trans (hb12.mono bB.size)
  have hX12 := lk_next b012 hX10
  have hA12 := lk_next b012 hA10
  have hB12 := lk_next hb12 hBn
  have hAr12 := hA10r.below b012
  have hBr12 := hB10.below b012
  have hr12 := hr10.below b012
  have hb012 := hb010.trans (b012.mono hb010.size)
  clear h3 bB hBn hXB x0 x1 hb12 b012 hX10 hA10 hA10r hr10 hb010 B3 hB10
  have bC := (Below.refl _ w12).alloc (Nat.le_refl _) (.cells #[.int .i64 n, .slice a3 L.length c3] 24)
  have hC := heap_alloc_new w12 (.cells #[.int .i64 n, .slice a3 L.length c3] 24)
  have hXC := lk_next bC hX12
  have hAC := lk_next bC hA12
  have hBC := lk_next bC hB12
  have p0 := cell_blk (j := 0) hAC
  have p1 := cell_blk (j := 1) hAC
  have q0 := cell_blk (j := 0) hBC
  have q1 := cell_blk (j := 1) hBC
  have h4 := rsame05_any n n a1 a2 c1 c2 K K _ (hAr12.below bC) (hBr12.below bC)
  rw [show decide (n = n ∧ K = K) = true by simp] at h4
  have dm : decide ((m : Int) > 1) = false := by simp; omega
  go_wp2_with fail
  refine h4.mono ?_
  rintro _ w13 ⟨rfl, hb13⟩
  have b13 := bC.trans (hb13.mono bC.size)
  have hX13 := lk_next b13 hX12
  have hC13 := lk_next hb13 hC
  have hr13 := hr12.below b13
  have hL13 := (hC12.below b13)
  have hb013 := hb012.trans (b13.mono hb012.size)
  have x1 := cell_blk (j := 1) hX13
  have y1 := cell_blk (j := 1) hC13
  obtain ⟨SC, hSC⟩ : ∃ SC, w12.heap.size = SC := ⟨_, rfl⟩
  rw [hSC] at hC13 y1
  try rw [hSC]
  clear hAr12 hBr12 h4 p0 p1 q0 q1 hXC hAC hBC hC bC hX12 hA12 hB12 hC12 hr12 hb012 hb13 b13 hSC
  have hLs : L.length ≤ 100000 := by have := hv.length_le; omega
  have hrs := hr13.small
  clear hv ht
  go_wp2_with fail
  clear x1 y1
  go_loopw [99] (fun vi wr => ∃ i : Nat, i ≤ ls.length ∧ vi = .int .i64 i ∧ Below w13.heap.size w13 wr) (fun vi _ => ls.length - (intOf vi).toNat)
  case atStart => exact ⟨0, Nat.zero_le _, rfl, Below.refl _ _⟩
  case round =>
    obtain ⟨i, hi, rfl, hbr⟩ := hrel
    by_cases hlt : i < ls.length
    · have hlt3 : (i : Int) < ls.length := by omega
      obtain ⟨b, off, x, rfl, hx, hc1, c0, d1, d2, d3, d4, d5⟩ := lk_at (hr13.below hbr) i hlt
      have hF := HF.out x (List.mem_of_getElem? hx)
      obtain ⟨xu, xv, q1, q2, q3, q4⟩ := x
      dsimp only at c0 d1 d2 d3 d4 d5 hF
      have hbn := (Below.refl _ wr).alloc (Nat.le_refl _) (.cells #[.int .i64 xu, .int .i64 xv, .int .i64 q1, .int .i64 q2, .int .i64 q3, .int .i64 q4] 50)
      have hn := heap_alloc_new wr (.cells #[.int .i64 xu, .int .i64 xv, .int .i64 q1, .int .i64 q2, .int .i64 q3, .int .i64 q4] 50)
      have hCn := lk_next hbn (lk_next hbr hC13)
      have hLn := (hL13.below hbr).below hbn
      have hbE := hbr.trans (hbn.mono hbr.size)
      obtain ⟨F, hFF⟩ : ∃ F, lfS n L xu xv = F := ⟨_, rfl⟩
      rw [hFF] at hF
      go_wp2_with fail
      obtain ⟨Q, hQ⟩ : ∃ Q, wr.heap.size = Q := ⟨_, rfl⟩
      obtain ⟨wE, hwE⟩ : ∃ W : World, W = wr.alloc (.cells #[.int .i64 xu, .int .i64 xv, .int .i64 q1, .int .i64 q2, .int .i64 q3, .int .i64 q4] 50) := ⟨_, rfl⟩
      rw [← hwE] at hn hCn hLn hbE ⊢
      rw [hQ] at hn
      try rw [hQ]
      clear hwE hbn c0 d1 d2 d3 d4 d5 hx
      have xt : ∀ (g j : Nat) (v : Value), wE.cell? ⟨g, j, none⟩ = some v → ∀ z : Ext wE.heap.size wE, z.world.cell? ⟨g, j, none⟩ = some v := fun g j v h z => (z.below.cell (p := ⟨g, j, none⟩) (cell_lt h)).trans h
      obtain ⟨q0, q1, -, -, -, -⟩ := cells6 hn
      have e0 := xt _ _ _ q0
      have e1 := xt _ _ _ q1
      have f0 := xt _ _ _ (cell_blk (j := 0) hCn)
      have f1 := xt _ _ _ (cell_blk (j := 1) hCn)
      have hfd := fun z : Ext wE.heap.size wE => lfind_any n xu xv L a3 c3 z.world (hLn.below z.below) hLs
      rw [hFF] at hfd
      clear q0 q1 xt hn hCn hLn hFF
      by_cases hU : xu = u
      · have dU : (xu == u) = true := by simpa using hU
        have dF : decide (F < 0) = true := by rw [hF]; simp [hU]
        clear hU hF
        refine wp_region_ext wE.heap.size wE (by kernel_rfl) (by kernel_rfl) (Below.refl _ _) ?_
        try simp only [List.append_eq, List.cons_append, List.nil_append]
        repeat (any_goals (go_big_quiet_step ((go_at_call 23; exact Calls.ext_of (Nat.le_refl _) (hfd _)))))
        refine wpQuiet_nil ?_
        rintro _ ⟨⟨wq, hq⟩, rfl⟩
        clear e0 e1 f0 f1 hfd
        go_wp2_with fail
        go_roundw
        case rel => exact ⟨i + 1, by omega, by go_num, hbE.trans (hq.mono hbE.size)⟩
        case measure => simp [intOf]; omega
      · have dU : (xu == u) = false := by simpa using hU
        have dF : decide (F < 0) = (xv == u) := by rw [hF, decide_eq_false hU, Bool.false_or]; exact Bool.eq_iff_iff.2 (by simp)
        clear hU hF
        cases dV : xv == u
        all_goals
          rw [dV] at dF
          refine wp_region_ext wE.heap.size wE (by kernel_rfl) (by kernel_rfl) (Below.refl _ _) ?_
          try simp only [List.append_eq, List.cons_append, List.nil_append]
          repeat (any_goals (go_big_quiet_step ((go_at_call 23; exact Calls.ext_of (Nat.le_refl _) (hfd _)))))
          refine wpQuiet_nil ?_
          rintro _ ⟨⟨wq, hq⟩, rfl⟩
          clear e0 e1 f0 f1 hfd
          go_wp2_with fail
          go_roundw
          case rel => exact ⟨i + 1, by omega, by go_num, hbE.trans (hq.mono hbE.size)⟩
          case measure => simp [intOf]; omega
    · obtain rfl : i = ls.length := by omega
      have x1 := cell_blk (j := 1) (lk_next hbr hX13)
      have y1 := cell_blk (j := 1) (lk_next hbr hC13)
      have hLi : (L.length : Int) ≤ ls.length := by omega
      have dL : decide ((L.length : Int) ≤ ls.length) = true := decide_eq_true hLi
      have dL2 : decide (L.length ≤ ls.length) = true := decide_eq_true hLl
      go_wp2_with fail
      refine (awake05_any _).mono ?_
      rintro _ w20 ⟨rfl, hb20⟩
      go_wp2_with fail
      go_ret
      exact ⟨rfl, hb013.trans ((hbr.trans (hb20.mono hbr.size)).mono hb013.size)⟩
end Go.Proofs.Ytkadeibinhkbjaa
