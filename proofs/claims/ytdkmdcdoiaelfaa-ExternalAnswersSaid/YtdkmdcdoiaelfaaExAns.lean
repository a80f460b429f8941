/- The walk of the law ExternalAnswers (printed by wip/mkexans.py). -/
import Derived.Test.YtdkmdcdoiaelfaaExT36
import Derived.Test.YtdkmdcdoiaelfaaExFld
import Derived.Test.YtdkmdcdoiaelfaaExAwk
import Derived.Test.YtdkmdcdoiaelfaaSameI
namespace Go.Proofs.Ytdkmdcdoiaelfaa
open Go.RowKit Go.BigFrame

theorem eq_r3 (x y z : Int) (W : World) : (Op.equalIn 10000 71 (.agg #[.int .i64 x, .int .i64 y, .int .i64 z]) (.agg #[.int .i64 x, .int .i64 y, .int .i64 z])).run Try.prog W = .ok true W := by
  obtain ⟨i, hi⟩ : ∃ i, Try.prog.info? 3 = some i := Option.isSome_iff_exists.1 (by kernel_rfl)
  have hc : Try.prog.cellsOf 3 = 1 := by kernel_rfl
  have hr : List.range 3 = [0, 1, 2] := rfl
  have h1 : ∀ d, (Op.equalIn (d + 1 + 1) 71 (.agg #[.int .i64 x, .int .i64 y, .int .i64 z]) (.agg #[.int .i64 x, .int .i64 y, .int .i64 z])).run Try.prog W = .ok true W := fun d => by
    rw [run_equalIn_array (w := W) (d + 1) #[.int .i64 x, .int .i64 y, .int .i64 z] #[.int .i64 x, .int .i64 y, .int .i64 z] Try.underlying71 hi, hc, hr]
    simp [Op.eqItems, Sem.run_bind, part, isAgg, go_sem, Op.equalIn, run_underlying Try.underlying3, Result.andThen]
  exact h1 9998
/-- Supports, of any run -/
theorem exsupX_any (size : Int) (C : Int) (a : Option Addr) (cap : Nat) (rs : List E2) (w : World) (he : EdgesAt w (.slice a rs.length cap) rs) (hl : rs.length ≤ 10000) (hC : (graphR size 64 rs).2.2 = C) :
    Calls Try.prog 34 #[.agg #[.int .i64 size, .slice a rs.length cap]] w (if C = 0 then SPostR w (supL rs rs) 0 (rdsL size.toNat rs rs) else SPostR w [] C 0) := by
  by_cases hz : C = 0
  · rw [if_pos hz]
    subst hz
    obtain ⟨⟨k, es, C'⟩, hG⟩ : ∃ F, graphR size 64 rs = F := ⟨_, rfl⟩
    rw [hG] at hC
    dsimp only at hC
    subst hC
    obtain ⟨n, -, rfl, hv, hrs, hs1, hs2⟩ := graphR_of hG
    have hck : chkR size rs = 0 := by
      have hG2 := hG
      unfold graphR at hG2
      by_cases h : chkR size rs = 0
      · exact h
      · rw [if_pos h] at hG2
        exact absurd (Prod.mk.inj (Prod.mk.inj hG2).2).2 h
    exact exsupR_any size (n : Int) es a cap rs w he hl hG hck (fun e h => by have := (recOk_iff e).1 (recN_ok hv e (hrs ▸ h)).1; omega) (fun v => by rw [hrs]; exact rowR_asc36 hv v)
  · rw [if_neg hz]
    exact exsupE_any size C a cap rs w he hl hC hz
theorem sup_both (size : Int) (a : Option Addr) (cap : Nat) (rs : List E2) (hl : rs.length ≤ 1000) : ∃ (L : List (E2 × Nat)) (C : Int) (R : Nat), L.length ≤ 1000 ∧ ∀ w, EdgesAt w (.slice a rs.length cap) rs → Calls Try.prog 34 #[.agg #[.int .i64 size, .slice a rs.length cap]] w (SPostR w L C R) ∧ Calls Try.prog 43 #[.agg #[.int .i64 size, .slice a rs.length cap]] w (SPostR w L C R) := by
  obtain ⟨C, hC⟩ : ∃ C, (graphR size 64 rs).2.2 = C := ⟨_, rfl⟩
  by_cases hz : C = 0
  · subst hz
    refine ⟨supL rs rs, 0, rdsL size.toNat rs rs, Nat.le_trans (supL_len rs rs) hl, fun w he => ⟨?_, ?_⟩⟩
    · have h := exsupX_any size 0 a cap rs w he (by omega) hC
      rw [if_pos rfl] at h; exact h
    · have h := r36sup_any size 0 a cap rs w he (by omega) hC
      rw [if_pos rfl] at h; exact h
  · refine ⟨[], C, 0, by simp, fun w he => ⟨?_, ?_⟩⟩
    · have h := exsupX_any size C a cap rs w he (by omega) hC
      rw [if_neg hz] at h; exact h
    · have h := r36sup_any size C a cap rs w he (by omega) hC
      rw [if_neg hz] at h; exact h
theorem ListAt.belowX {w w' : World} {a : Option Addr} {len : Nat} (h : ListAt w a len) (hb : Below w.heap.size w w') : ListAt w' a len := ⟨h.1, fun j hj => by
  obtain ⟨c, off, x, ha, hc, hx⟩ := h.2 j hj
  exact ⟨c, off, x, ha, (hb.cell (p := ⟨c, off + j, none⟩) (cell_lt hc)).trans hc, hx⟩⟩
set_option linter.unusedSimpArgs false in
set_option maxRecDepth 100000 in
set_option maxHeartbeats 6400000 in
theorem exans_law (a : Option Addr) (len cap : Nat) (aV : Option Addr) (lenV cV : Nat) (xs : List Int) (zr : Int) (ar : Option Addr) (lr cr : Nat) (rr : List E2) (nn : Int) (w : World) (hl : ListAt w a len) (hxs0 : lenV ≤ 100000 → IntsAt w (.slice aV xs.length cV) xs ∧ xs.length = lenV) (hr0 : lr ≤ 100000 → EdgesAt w (.slice ar rr.length cr) rr ∧ rr.length = lr) :
    Calls Try.prog 9 #[.slice a len cap, .slice aV lenV cV, .agg #[.int .i64 zr, .slice ar lr cr], .int .i64 nn] w fun e w' => e = .returned (.bool true) ∧ Below w.heap.size w w' := by
  obtain ⟨hX0, hb0⟩ := boxG_new w #[.int .i64 zr, .slice ar lr cr] 33
  obtain ⟨wA, hwA⟩ : ∃ W : World, W = w.alloc (.cells #[.int .i64 zr, .slice ar lr cr] 33) := ⟨_, rfl⟩
  rw [← hwA] at hX0 hb0
  have hwAs : wA.heap.size = w.heap.size + 1 := by rw [hwA]; simp
  have HWA := Lib.hid hwA
  clear hwA
  obtain ⟨x0, x1⟩ := cells2R hX0
  by_cases hfew : len ≤ 500
  case neg =>
    have hd : decide (len ≤ 500) = false := by simpa using hfew
    go_enter Try.func9, Try.ntmps9
    go_upto_region 1 with fail
    rw [← HWA.out]
    go_wp2_with (first
      | (go_at_call 14; refine (few_any _ _ _ _).mono ?_; rintro e w' ⟨rfl, rfl⟩)
      | (go_at_call 15; refine (awake36_any _).mono ?_; rintro e w' ⟨rfl, hb⟩))
    go_ret
    exact ⟨rfl, hb0.trans (hb.mono hb0.size)⟩
  case pos =>
  have hd : decide (len ≤ 500) = true := by simpa using hfew
  by_cases hrl : lr ≤ 40
  case neg =>
    have hx3 : (40 : Int) < lr := by omega
    go_enter Try.func9, Try.ntmps9
    go_upto_region 1 with fail
    rw [← HWA.out]
    go_wp2_with (first
      | (go_at_call 14; refine (few_any _ _ _ _).mono ?_; rintro e w' ⟨rfl, rfl⟩)
      | (go_at_call 15; refine (awake36_any _).mono ?_; rintro e w' ⟨rfl, hb⟩))
    go_ret
    exact ⟨rfl, hb0.trans (hb.mono hb0.size)⟩
  case pos =>
  have hr40 : decide ((40 : Int) < (lr : Int)) = false := decide_eq_false (by omega)
  by_cases hvl : lenV ≤ 80
  case neg =>
    have hx3 : (80 : Int) < lenV := by omega
    go_enter Try.func9, Try.ntmps9
    go_upto_region 1 with fail
    rw [← HWA.out]
    go_wp2_with (first
      | (go_at_call 14; refine (few_any _ _ _ _).mono ?_; rintro e w' ⟨rfl, rfl⟩)
      | (go_at_call 15; refine (awake36_any _).mono ?_; rintro e w' ⟨rfl, hb⟩))
    go_ret
    exact ⟨rfl, hb0.trans (hb.mono hb0.size)⟩
  case pos =>
  have hv80 : decide ((80 : Int) < (lenV : Int)) = false := decide_eq_false (by omega)
  obtain ⟨hxs, hxe⟩ := hxs0 (by omega)
  obtain ⟨hrr, hre⟩ := hr0 (by omega)
  subst hxe
  subst hre
  have hdk := deck_new (cap := cap) (hl.belowX hb0)
  obtain ⟨Bd, hBd⟩ : ∃ B, w.heap.size + 1 = B := ⟨_, rfl⟩
  have hb1 : Below w.heap.size w (wA.alloc (.cells #[.slice a len cap, .int .i64 0] 92)) := hb0.alloc hb0.size _
  have hX1 := lit_next' ((Below.refl wA.heap.size wA).alloc (Nat.le_refl _) (.cells #[.slice a len cap, .int .i64 0] 92)) hX0
  obtain ⟨w1, hw1⟩ : ∃ W : World, W = wA.alloc (.cells #[.slice a len cap, .int .i64 0] 92) := ⟨_, rfl⟩
  rw [← hw1] at hdk hb1 hX1
  rw [hwAs, hBd] at hdk
  have HW1 := Lib.hid hw1
  clear hw1
  go_enter Try.func9, Try.ntmps9
  go_upto_region 1 with fail
  rw [← HWA.out]
  go_upto_region 4 with (first
    | (go_at_call 14; refine (few_any _ _ _ _).mono ?_; rintro e w' ⟨rfl, rfl⟩)
    | (go_at_call 17; refine (new_any _ _ _ _).mono ?_; rintro e w' ⟨rfl, rfl⟩))
  rw [← HW1.out]
  try rw [hBd]
  have hrun := frun_any Bd w1 hdk
  have hd1l := hdk.lt
  go_wp2_with fail
  refine hrun.mono ?_
  rintro e w2 ⟨z, ay, cy, ys, rfl, hi2, hl2, ho2, hd2, hg2⟩
  have hb2 : Below w.heap.size w w2 := hb1.grown hg2 hb1.size (fun g e => by have e1 := Option.some.inj e; omega)
  have hX2 := grown_blk hg2 hX1 (fun e => by have e1 := Option.some.inj e; omega)
  obtain ⟨hC3, hb23⟩ := boxG_new w2 #[.int .i64 z, .slice ay ys.length cy] 33
  obtain ⟨w3, hw3⟩ : ∃ W : World, W = w2.alloc (.cells #[.int .i64 z, .slice ay ys.length cy] 33) := ⟨_, rfl⟩
  rw [← hw3] at hC3 hb23
  have hX3 := lit_next' hb23 hX2
  have hd3 := hd2.kept (grown_of_below hb23) (fun g e => by cases e)
  have hb3 := hb2.trans (hb23.mono hb2.size)
  have hi3 := hi2.below hb23
  have HW3 := Lib.hid hw3
  obtain ⟨B10, hB10⟩ : ∃ B, w2.heap.size = B := ⟨_, rfl⟩
  rw [hB10] at hC3
  clear hw3 hrun x0 x1 hX0 hX1 hX2 hi2
  go_upto_region 5 with fail
  rw [← HW3.out]
  try rw [hB10]
  obtain ⟨x0, x1⟩ := cells2R hX3
  obtain ⟨y0, y1⟩ := cells2R hC3
  obtain ⟨hS4, hb34⟩ := boxG_new w3 #[.int .i64 z, .slice ay ys.length cy, .int .i64 zr, .slice ar rr.length cr] 33
  obtain ⟨w4, hw4⟩ : ∃ W : World, W = w3.alloc (.cells #[.int .i64 z, .slice ay ys.length cy, .int .i64 zr, .slice ar rr.length cr] 33) := ⟨_, rfl⟩
  rw [← hw4] at hS4 hb34
  have hd4 := hd3.kept (grown_of_below hb34) (fun g e => by cases e)
  have hb4 := hb3.trans (hb34.mono hb3.size)
  have hi4 := hi3.below hb34
  have HW4 := Lib.hid hw4
  have h34s : Bd < w3.heap.size := hd3.lt
  obtain ⟨Bs, hBs⟩ : ∃ B, w3.heap.size = B := ⟨_, rfl⟩
  rw [hBs] at hS4 h34s
  have hstay : ∀ W, w4.grownBy W (some Bd) → Below w.heap.size w W := fun W hg => hb4.grown hg hb4.size (fun g e => by have e1 := Option.some.inj e; omega)
  have hpick : ∀ i, i < 2 → ∃ (z : Int) (a : Option Addr) (c : Nat) (l : List E2), l.length ≤ 200 ∧ w4.cell? ⟨Bs, i * 2, none⟩ = some (.int .i64 z) ∧ w4.cell? ⟨Bs, i * 2 + 1, none⟩ = some (.slice a l.length c) ∧ ∀ W, w4.grownBy W (some Bd) → EdgesAt W (.slice a l.length c) l := fun i hi => by
    match i, hi with
    | 0, _ => exact ⟨z, ay, cy, ys, hl2, cell_blk hS4, cell_blk hS4, fun W hg => hi4.grown hg (fun g e n' c' p ep => by
        have e1 := Option.some.inj e
        have h1 := ho2 p (Value.slice.inj ep).1
        omega)⟩
    | 1, _ => exact ⟨zr, ar, cr, rr, by omega, cell_blk hS4, cell_blk hS4, fun W hg => hrr.below (hstay W hg)⟩
  have hval : ∀ W, w4.grownBy W (some Bd) → IntsAt W (.slice aV xs.length cV) xs := fun W hg => hxs.below (hstay W hg)
  clear hw4 hS4 hi3 hi4
  go_upto_region 6 with fail
  rw [← HW4.out]
  try rw [hBs]
  clear x0 x1 y0 y1 hX3 hC3
  go_loopw [69] (fun vi wr => ∃ i : Nat, i ≤ 2 ∧ vi = .int .i64 (i : Int) ∧ DeckAt wr Bd ∧ w4.grownBy wr (some Bd)) (fun vi _ => 2 - (intOf vi).toNat)
  case atStart => exact ⟨0, Nat.zero_le _, rfl, hd4, grown_refl _ _⟩
  case round =>
    clear hd4
    obtain ⟨i, hi2, rfl, hdr, hgr⟩ := hrel
    by_cases hlt : i < 2
    case neg =>
      have hlt3 : (i : Int) = 2 := by omega
      have hbe := hstay _ hgr
      go_wp2_with fail
      refine (awake36_any _).mono ?_
      rintro e w16 ⟨rfl, hb16⟩
      go_wp2_with fail
      go_ret
      exact ⟨rfl, hbe.trans (hb16.mono hbe.size)⟩
    case pos =>
    have hlt3 : (i : Int) < 2 := by omega
    obtain ⟨z', a', c', l, hll, q0, q1, hE⟩ := hpick i hlt
    have q0' := hgr.cell q0 (fun e => by have e1 := Option.some.inj e; (try dsimp only at e1); omega)
    have q1' := hgr.cell q1 (fun e => by have e1 := Option.some.inj e; (try dsimp only at e1); omega)
    have hEr := hE _ hgr
    clear q0 q1
    obtain ⟨hR5, hb5⟩ := boxG_new wr #[.int .i64 z', .slice a' l.length c'] 33
    obtain ⟨w5, hw5⟩ : ∃ W : World, W = wr.alloc (.cells #[.int .i64 z', .slice a' l.length c'] 33) := ⟨_, rfl⟩
    rw [← hw5] at hR5 hb5
    have hd5 := hdr.kept (grown_of_below hb5) (fun g e => by cases e)
    have hg5 : w4.grownBy w5 (some Bd) := grown_trans hgr (grown_of_below' hb5)
    have HW5 := Lib.hid hw5
    have hBd5 := hdr.lt
    obtain ⟨B12, hB12⟩ : ∃ B, wr.heap.size = B := ⟨_, rfl⟩
    rw [hB12] at hR5 hBd5
    clear hw5
    go_upto_region 8 with fail
    rw [← HW5.out]
    try rw [hB12]
    clear q0' q1'
    go_wp2_with fail
    refine (next_any Bd 2 _ hd5 (by omega) (by omega)).mono ?_
    rintro e w6 ⟨q, hq0, hq1, rfl, hd6, hg56⟩
    obtain ⟨Q, rfl⟩ := Int.eq_ofNat_of_zero_le hq0
    have hg6 := grown_trans hg5 hg56
    have hR6 := grown_blk hg56 hR5 (fun e => by have e1 := Option.some.inj e; omega)
    have hfn := fnumbers_any Bd (7 + Q) 6 w6 hd6 (by omega) (by omega) (by omega)
    rw [show ((7 + Q : Nat) : Int) = 7 + (Q : Int) by omega] at hfn
    have hQw : IntKind.i64.wrap (7 + (Q : Int)) = 7 + (Q : Int) := IntWalk.i64_in _ (by omega)
    go_wp2_with fail
    refine hfn.mono ?_
    rintro e w7 ⟨nl, vn, rfl, hnl, -, hown7, hd7, hg67⟩
    have hg7 := grown_trans hg6 hg67
    have hR7 := grown_blk hg67 hR6 (fun e => by have e1 := Option.some.inj e; omega)
    obtain ⟨an, cn, en, hin, -⟩ := IntsAt.of_owns hown7 (by omega)
    subst en
    obtain ⟨hV8, hb78⟩ := boxG_new w7 #[.slice aV xs.length cV, .slice an nl.length cn] 22
    obtain ⟨w8, hw8⟩ : ∃ W : World, W = w7.alloc (.cells #[.slice aV xs.length cV, .slice an nl.length cn] 22) := ⟨_, rfl⟩
    rw [← hw8] at hV8 hb78
    have hd8 := hd7.kept (grown_of_below hb78) (fun g e => by cases e)
    have hg8 : w4.grownBy w8 (some Bd) := grown_trans hg7 (grown_of_below' hb78)
    have hR8 := lit_next' hb78 hR7
    have HW8 := Lib.hid hw8
    obtain ⟨Bv, hBv⟩ : ∃ B, w7.heap.size = B := ⟨_, rfl⟩
    rw [hBv] at hV8
    have hpickA : ∀ j, j < 2 → ∃ (aa : Option Addr) (cc : Nat) (vs : List Int), w8.cell? ⟨Bv, j, none⟩ = some (.slice aa vs.length cc) ∧ IntsAt w8 (.slice aa vs.length cc) vs := fun j hj => by
      match j, hj with
      | 0, _ => exact ⟨aV, cV, xs, cell_blk hV8, hval _ hg8⟩
      | 1, _ => exact ⟨an, cn, nl, cell_blk hV8, hin.below hb78⟩
    have hE8 := hE _ hg8
    clear hw8 hV8 hin hown7 hfn hR5 hR6 hR7 hd5 hd6 hd7 hg5 hg6 hg7 hg56 hg67 hnl
    go_upto_region 9 with fail
    rw [← HW8.out]
    try rw [hBv]
    go_loopw [81] (fun vj wr => ∃ j : Nat, j ≤ 2 ∧ vj = .int .i64 (j : Int) ∧ Below w8.heap.size w8 wr) (fun vj _ => 2 - (intOf vj).toNat)
    case atStart => exact ⟨0, Nat.zero_le _, rfl, Below.refl _ _⟩
    case round =>
      obtain ⟨j, hj2, rfl, hb⟩ := hrel
      have hRr := lit_next' hb hR8
      obtain ⟨k0, k1⟩ := cells2R hRr
      by_cases hltj : j < 2
      · have hltj3 : (j : Int) < 2 := by omega
        obtain ⟨aa, cc, vs, qv, hiv⟩ := hpickA j hltj
        have qv' := (hb.cell (p := ⟨Bv, j, none⟩) (cell_lt qv)).trans qv
        have hp1 := expass_any z' a' aa c' cc l vs wr (hE8.below hb) (by omega) (hiv.below hb)
        have hp2 := fun W (h : Below wr.heap.size wr W) => r36pass_any z' a' aa c' cc l vs W ((hE8.below hb).below h) (by omega) ((hiv.below hb).below h)
        obtain ⟨⟨RL, RC⟩, hR⟩ : ∃ X, passX z' l vs = X := ⟨_, rfl⟩
        rw [hR] at hp1
        simp only [hR] at hp2
        unfold TPost at hp1 hp2
        dsimp only at hp1 hp2
        clear hR qv hiv
        go_wp2_with fail
        refine hp1.mono ?_
        rintro e w9 ⟨a9, c9, rfl, hi9, -, hb9⟩
        have hR9 := lit_next' hb9 hRr
        clear k0 k1 qv'
        obtain ⟨k0, k1⟩ := cells2R hR9
        go_wp2_with fail
        refine (hp2 _ hb9).mono ?_
        rintro e w10 ⟨a10, c10, rfl, hi10, -, hb10⟩
        have hbe := hb.trans ((hb9.trans (hb10.mono hb9.size)).mono hb.size)
        have hcm := icmp_same a9 a10 c9 c10 RL w10 (hi9.below hb10) hi10
        go_wp2_with fail
        refine hcm.mono ?_
        rintro e w11 ⟨rfl, hb11⟩
        have hbf := hbe.trans (hb11.mono hbe.size)
        go_wp2_with fail
        go_roundw
        case rel => exact ⟨j + 1, by omega, by go_num, hbf⟩
        case measure => simp [intOf]; omega
      · have hltj3 : (j : Int) = 2 := by omega
        obtain ⟨w12, hw12⟩ : ∃ W : World, W = wr := ⟨_, rfl⟩
        have hg12 : w4.grownBy w12 (some Bd) := by rw [hw12]; exact grown_trans hg8 (grown_of_below' hb)
        have hd12 : DeckAt w12 Bd := by rw [hw12]; exact hd8.kept (grown_of_below hb) (fun g e => by cases e)
        rw [← hw12] at hRr k0 k1 ⊢
        clear hw12 hb hpickA hR8 hd8 hE8 hg8
        go_wp2_with fail
        refine (next_any Bd 3 _ hd12 (by omega) (by omega)).mono ?_
        rintro e w13 ⟨qw13, hq0w13, hq1w13, rfl, hdw13, hggw13⟩
        have hgw13 := grown_trans hg12 hggw13
        have hRw13 := grown_blk hggw13 hRr (fun e => by have e1 := Option.some.inj e; omega)
        have hqww13 : IntKind.i64.wrap (6 + qw13) = 6 + qw13 := IntWalk.i64_in _ (by omega)
        obtain ⟨hIw14, hbw14⟩ := boxG_new w13 #[.int .i64 nn, .int .i64 (6 + qw13)] 3
        obtain ⟨w14, hww14⟩ : ∃ W : World, W = w13.alloc (.cells #[.int .i64 nn, .int .i64 (6 + qw13)] 3) := ⟨_, rfl⟩
        rw [← hww14] at hIw14 hbw14
        have hdw14 := hdw13.kept (grown_of_below hbw14) (fun g e => by cases e)
        have hgw14 : w4.grownBy w14 (some Bd) := grown_trans hgw13 (grown_of_below' hbw14)
        have hRw14 := lit_next' hbw14 hRw13
        have HWw14 := Lib.hid hww14
        obtain ⟨Bi, hBi⟩ : ∃ B, w13.heap.size = B := ⟨_, rfl⟩
        rw [hBi] at hIw14
        have hpickw14 : ∀ j, j < 2 → ∃ k : Int, w14.cell? ⟨Bi, j, none⟩ = some (.int .i64 k) := fun j hj => by
          match j, hj with
          | 0, _ => exact ⟨nn, cell_blk hIw14⟩
          | 1, _ => exact ⟨6 + qw13, cell_blk hIw14⟩
        have hEw14 := hE _ hgw14
        clear hww14 hIw14 k0 k1
        go_upto_region 17 with fail
        rw [← HWw14.out]
        try rw [hBi]
        go_loopw [113] (fun vj wr => ∃ j : Nat, j ≤ 2 ∧ vj = .int .i64 (j : Int) ∧ Below w14.heap.size w14 wr) (fun vj _ => 2 - (intOf vj).toNat)
        case atStart => exact ⟨0, Nat.zero_le _, rfl, Below.refl _ _⟩
        case round =>
          obtain ⟨j, hj2, rfl, hb⟩ := hrel
          have hRr := lit_next' hb hRw14
          obtain ⟨k0, k1⟩ := cells2R hRr
          by_cases hltj : j < 2
          · have hltj3 : (j : Int) < 2 := by omega
            obtain ⟨k, qv⟩ := hpickw14 j hltj
            have qv' := (hb.cell (p := ⟨Bi, j, none⟩) (cell_lt qv)).trans qv
            have hp1 := exdeg_any z' k a' c' l wr (hEw14.below hb) (by omega)
            have hp2 := fun W (h : Below wr.heap.size wr W) => r36deg_any z' k a' c' l W ((hEw14.below hb).below h) (by omega)
            have hp3 := fun W (h : Below wr.heap.size wr W) => excor_any z' k a' c' l W ((hEw14.below hb).below h) (by omega)
            have hp4 := fun W (h : Below wr.heap.size wr W) => r36cor_any z' k a' c' l W ((hEw14.below hb).below h) (by omega)
            obtain ⟨⟨RL, RC⟩, hR⟩ : ∃ X, degXR z' k l = X := ⟨_, rfl⟩
            obtain ⟨⟨SL, SN, SC⟩, hS⟩ : ∃ X, corXR z' k l = X := ⟨_, rfl⟩
            rw [hR] at hp1
            simp only [hR] at hp2
            simp only [hS] at hp3 hp4
            unfold TPost at hp1 hp2
            unfold CPost at hp3 hp4
            dsimp only at hp1 hp2 hp3 hp4
            clear hR hS qv
            go_wp2_with fail
            refine hp1.mono ?_
            rintro e w15 ⟨a15, c15, rfl, hi15, -, hb15⟩
            have hR15 := lit_next' hb15 hRr
            clear k0 k1 qv'
            obtain ⟨k0, k1⟩ := cells2R hR15
            go_wp2_with fail
            refine (hp2 _ hb15).mono ?_
            rintro e w16 ⟨a16, c16, rfl, hi16, -, hb16⟩
            have hb1516 := hb15.trans (hb16.mono hb15.size)
            have hR16 := lit_next' hb16 hR15
            clear k0 k1
            obtain ⟨k0, k1⟩ := cells2R hR16
            go_wp2_with fail
            refine (hp3 _ hb1516).mono ?_
            rintro e w17 ⟨a17, c17, rfl, hi17, -, hb17⟩
            have hb1517 := hb1516.trans (hb17.mono hb1516.size)
            have hR17 := lit_next' hb17 hR16
            clear k0 k1
            obtain ⟨k0, k1⟩ := cells2R hR17
            go_wp2_with fail
            refine (hp4 _ hb1517).mono ?_
            rintro e w18 ⟨a18, c18, rfl, hi18, -, hb18⟩
            have hb1518 := hb1517.trans (hb18.mono hb1517.size)
            have hcm := icmp_same a15 a16 c15 c16 RL w18 ((hi15.below hb16).below (hb17.trans (hb18.mono hb17.size))) (hi16.below (hb17.trans (hb18.mono hb17.size)))
            have hcm2 := fun W (h : Below w18.heap.size w18 W) => icmp_same a17 a18 c17 c18 SL W ((hi17.below hb18).below h) (hi18.below h)
            have hbe := hb.trans (hb1518.mono hb.size)
            go_wp2_with fail
            refine hcm.mono ?_
            rintro e w19 ⟨rfl, hb19⟩
            go_wp2_with fail
            refine (hcm2 _ hb19).mono ?_
            rintro e w20 ⟨rfl, hb20⟩
            have hbf := hbe.trans ((hb19.trans (hb20.mono hb19.size)).mono hbe.size)
            go_wp2_with fail
            go_roundw
            case rel => exact ⟨j + 1, by omega, by go_num, hbf⟩
            case measure => simp [intOf]; omega
          · have hltj3 : (j : Int) = 2 := by omega
            obtain ⟨w21, hw21⟩ : ∃ W : World, W = wr := ⟨_, rfl⟩
            have hg21 : w4.grownBy w21 (some Bd) := by rw [hw21]; exact grown_trans hgw14 (grown_of_below' hb)
            have hd21 : DeckAt w21 Bd := by rw [hw21]; exact hdw14.kept (grown_of_below hb) (fun g e => by cases e)
            rw [← hw21] at hRr k0 k1 ⊢
            clear hw21 hb hpickw14 hRw14 hdw14 hEw14 hgw14 hRw13 hdw13 hgw13 hggw13
            go_wp2_with fail
            refine (next_any Bd 4 _ hd21 (by omega) (by omega)).mono ?_
            rintro e w22 ⟨qw22, hq0w22, hq1w22, rfl, hdw22, hggw22⟩
            have hgw22 := grown_trans hg21 hggw22
            have hRw22 := grown_blk hggw22 hRr (fun e => by have e1 := Option.some.inj e; omega)
            have hqww22 : IntKind.i64.wrap (1 + qw22) = 1 + qw22 := IntWalk.i64_in _ (by omega)
            obtain ⟨hIw23, hbw23⟩ := boxG_new w22 #[.int .i64 nn, .int .i64 (1 + qw22)] 3
            obtain ⟨w23, hww23⟩ : ∃ W : World, W = w22.alloc (.cells #[.int .i64 nn, .int .i64 (1 + qw22)] 3) := ⟨_, rfl⟩
            rw [← hww23] at hIw23 hbw23
            have hdw23 := hdw22.kept (grown_of_below hbw23) (fun g e => by cases e)
            have hgw23 : w4.grownBy w23 (some Bd) := grown_trans hgw22 (grown_of_below' hbw23)
            have hRw23 := lit_next' hbw23 hRw22
            have HWw23 := Lib.hid hww23
            obtain ⟨Bj, hBj⟩ : ∃ B, w22.heap.size = B := ⟨_, rfl⟩
            rw [hBj] at hIw23
            have hpickw23 : ∀ j, j < 2 → ∃ k : Int, w23.cell? ⟨Bj, j, none⟩ = some (.int .i64 k) := fun j hj => by
              match j, hj with
              | 0, _ => exact ⟨nn, cell_blk hIw23⟩
              | 1, _ => exact ⟨1 + qw22, cell_blk hIw23⟩
            have hEw23 := hE _ hgw23
            clear hww23 hIw23 k0 k1
            go_upto_region 27 with fail
            rw [← HWw23.out]
            try rw [hBj]
            go_loopw [175] (fun vj wr => ∃ j : Nat, j ≤ 2 ∧ vj = .int .i64 (j : Int) ∧ Below w23.heap.size w23 wr) (fun vj _ => 2 - (intOf vj).toNat)
            case atStart => exact ⟨0, Nat.zero_le _, rfl, Below.refl _ _⟩
            case round =>
              obtain ⟨j, hj2, rfl, hb⟩ := hrel
              have hRr := lit_next' hb hRw23
              obtain ⟨k0, k1⟩ := cells2R hRr
              by_cases hltj : j < 2
              · have hltj3 : (j : Int) < 2 := by omega
                obtain ⟨k, qv⟩ := hpickw23 j hltj
                have qv' := (hb.cell (p := ⟨Bj, j, none⟩) (cell_lt qv)).trans qv
                have hp1 := extri_any z' k a' c' l wr (hEw23.below hb) (by omega)
                have hp2 := fun W (h : Below wr.heap.size wr W) => r36tri_any z' k a' c' l W ((hEw23.below hb).below h) (by omega)
                obtain ⟨⟨T1, T2, TC⟩, hR⟩ : ∃ X, triXR z' k l = X := ⟨_, rfl⟩
                rw [hR] at hp1
                simp only [hR] at hp2
                unfold T3Post at hp1 hp2
                dsimp only at hp1 hp2
                clear hR qv
                go_wp2_with fail
                refine hp1.mono ?_
                rintro e w24 ⟨rfl, hb24⟩
                have hR24 := lit_next' hb24 hRr
                clear k0 k1 qv'
                obtain ⟨k0, k1⟩ := cells2R hR24
                go_wp2_with fail
                refine (hp2 _ hb24).mono ?_
                rintro e w25 ⟨rfl, hb25⟩
                have hbf := hb.trans ((hb24.trans (hb25.mono hb24.size)).mono hb.size)
                go_wp2_with fail
                go_roundw
                case rel => exact ⟨j + 1, by omega, by go_num, hbf⟩
                case measure => simp [intOf]; omega
              · have hltj3 : (j : Int) = 2 := by omega
                obtain ⟨w26, hw26⟩ : ∃ W : World, W = wr := ⟨_, rfl⟩
                have hg26 : w4.grownBy w26 (some Bd) := by rw [hw26]; exact grown_trans hgw23 (grown_of_below' hb)
                have hd26 : DeckAt w26 Bd := by rw [hw26]; exact hdw23.kept (grown_of_below hb) (fun g e => by cases e)
                rw [← hw26] at hRr k0 k1 ⊢
                clear hw26 hb hpickw23 hRw23 hdw23 hEw23 hgw23 hRw22 hdw22 hgw22 hggw22
                have hE26 := hE _ hg26
                obtain ⟨SL, SC, SR, hSl, hsup⟩ := sup_both z' a' c' l (by omega)
                unfold SPostR at hsup
                go_wp2_with fail
                refine (hsup w26 hE26).1.mono ?_
                rintro e w27 ⟨a27, c27, rfl, hi27, -, hb27⟩
                have hR27 := lit_next' hb27 hRr
                clear k0 k1
                obtain ⟨k0, k1⟩ := cells2R hR27
                go_wp2_with fail
                refine (hsup w27 (hE26.below hb27)).2.mono ?_
                rintro e w28 ⟨a28, c28, rfl, hi28, -, hb28⟩
                have hb2628 := hb27.trans (hb28.mono hb27.size)
                have hi27' := hi27.below hb28
                have hg28 : w4.grownBy w28 (some Bd) := grown_trans hg26 (grown_of_below' hb2628)
                have hd28 := hd26.kept (grown_of_below hb2628) (fun g e => by cases e)
                clear k0 k1 hsup
                go_wp2_with fail
                go_loopw [236] (fun vj wr => ∃ j : Nat, j ≤ SL.length ∧ vj = .int .i64 (j : Int) ∧ Below w28.heap.size w28 wr) (fun vj _ => SL.length - (intOf vj).toNat)
                case atStart => exact ⟨0, Nat.zero_le _, rfl, Below.refl _ _⟩
                case round =>
                  obtain ⟨j, hj2, rfl, hb⟩ := hrel
                  by_cases hltj : j < SL.length
                  · have hltj3 : (j : Int) < SL.length := by omega
                    obtain ⟨b1, o1, ⟨⟨X, Y⟩, Z⟩, rfl, hx1, hcap1, hc1⟩ := (hi27'.below hb).elem j hltj
                    obtain ⟨b2, o2, x2, rfl, hx2, hcap2, hc2⟩ := (hi28.below hb).elem j hltj
                    rw [hx1] at hx2
                    obtain rfl := Option.some.inj hx2
                    have e0 := hc1 0 _ rfl
                    have e1 := hc1 1 _ rfl
                    have e2 := hc1 2 _ rfl
                    have f0 := hc2 0 _ rfl
                    have f1 := hc2 1 _ rfl
                    have f2 := hc2 2 _ rfl
                    have hk3 : encT.k = 3 := rfl
                    rw [hk3, Nat.add_zero] at e0 f0
                    rw [hk3] at e1 e2 f1 f2
                    have heqq := fun W => eq_r3 X Y (Z : Int) W
                    clear hc1 hc2 hx1
                    go_wp2_with fail
                    go_quiet (fail)
                    have hbn := hb.drewN nq
                    go_wp2_with fail
                    go_roundw
                    case rel => exact ⟨j + 1, by omega, by go_num, hbn⟩
                    case measure => simp [intOf]; omega
                  · have hltj3 : ¬ (j : Int) < SL.length := by omega
                    have hgE : w4.grownBy wr (some Bd) := grown_trans hg28 (grown_of_below' hb)
                    have hdE := hd28.kept (grown_of_below hb) (fun g e => by cases e)
                    go_wp2_with fail
                    go_roundw
                    case rel => exact ⟨i + 1, by omega, by go_num, hdE, hgE⟩
                    case measure => simp [intOf]; omega
end Go.Proofs.Ytdkmdcdoiaelfaa
