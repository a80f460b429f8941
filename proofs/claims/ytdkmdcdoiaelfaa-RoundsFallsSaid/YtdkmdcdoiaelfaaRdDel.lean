/- rounds.Deliver of a valid world, of a channel that holds a message (printed by wip/mkdel.py). -/
import Derived.Test.YtdkmdcdoiaelfaaRdKey
namespace Go.Proofs.Ytdkmdcdoiaelfaa
open Go.RowKit Go.BigFrame

set_option linter.unusedSimpArgs false in
set_option maxRecDepth 100000 in
set_option maxHeartbeats 6400000 in
theorem rddelS_any (n P : Nat) (es : List E2) (ow : Nat → Nat) (hv : List Int) (W : WdP) (i j : Nat) (m : Msg) (r : List Msg) (v : Value) (w : World) (hG : GoodW n P es ow hv W) (h : WldAt w v (wdL n P es ow hv W)) (hi : i < P) (hj : j < P) (hb : W.bx i j = m :: r) (hpot : potN n P ow W ≤ 800000) :
    Calls Try.prog 46 #[v, .int .i64 (i : Int), .int .i64 (j : Int)] w fun e w' => ∃ v' : Value, e = .returned (.tuple #[v', .int .i64 0]) ∧ WldS w.heap.size w' v' (wdL n P es ow hv (dlvP es n P ow W i j)) ∧ Below w.heap.size w w' := by
  have hn64 : n ≤ 64 := by have := hG.hg.2.1; omega
  have hP8 := hG.hP.2
  obtain ⟨e1, e3, e4, e5, e6, d1, d3, d4, d5, d6, rfl, -, -, -, hBxA⟩ := h.shapeD
  obtain ⟨hX0, hb0⟩ := boxG_new w #[.int .i64 (n : Int), .slice e1 es.length d1, .int .i64 (P : Int), .slice e3 n d3, .slice e4 hv.length d4, .slice e5 P d5, .slice e6 P d6] 59
  obtain ⟨w1, hw1⟩ : ∃ U : World, U = w.alloc (.cells #[.int .i64 (n : Int), .slice e1 es.length d1, .int .i64 (P : Int), .slice e3 n d3, .slice e4 hv.length d4, .slice e5 P d5, .slice e6 P d6] 59) := ⟨_, rfl⟩
  have hz1 : w1.heap.size = w.heap.size + 1 := by rw [hw1]; simp
  rw [← hw1] at hX0 hb0
  obtain ⟨hY0, hb1⟩ := boxG_new w1 #[.int .i64 0, .slice none 0 0, .int .i64 0, .slice none 0 0, .slice none 0 0, .slice none 0 0, .slice none 0 0] 59
  obtain ⟨wA, hwA⟩ : ∃ U : World, U = w1.alloc (.cells #[.int .i64 0, .slice none 0 0, .int .i64 0, .slice none 0 0, .slice none 0 0, .slice none 0 0, .slice none 0 0] 59) := ⟨_, rfl⟩
  rw [← hwA] at hY0 hb1
  have hX1 := lit_next' hb1 hX0
  have hbA := hb0.trans (hb1.mono hb0.size)
  obtain ⟨X, hX⟩ : ∃ X, w.heap.size = X := ⟨_, rfl⟩
  rw [hz1] at hY0
  rw [hX] at hX1 hY0
  have hwA2 : wA = (w.alloc (.cells #[.int .i64 (n : Int), .slice e1 es.length d1, .int .i64 (P : Int), .slice e3 n d3, .slice e4 hv.length d4, .slice e5 P d5, .slice e6 P d6] 59)).alloc (.cells #[.int .i64 0, .slice none 0 0, .int .i64 0, .slice none 0 0, .slice none 0 0, .slice none 0 0, .slice none 0 0] 59) := by rw [hwA, hw1]
  have HWA := Lib.hid hwA2
  have hva := rdvalid_any _ _ wA (h.below hbA) hG.box
  rw [hG.val] at hva
  clear hwA hw1 hwA2 hX0 hb0 hb1 hz1 w1
  obtain ⟨x0, x1, x2, x3, x4, x5, x6⟩ := cells7 hX1
  go_enter Try.func46, Try.ntmps46
  go_wp2_with (rw [← HWA.out])
  refine hva.mono ?_
  rintro e w1 ⟨rfl, hb1⟩
  have hbw1 := hbA.trans (hb1.mono hbA.size)
  have hX2 := lit_next' hb1 hX1
  have hY2 := lit_next' hb1 hY0
  clear hva x0 x1 x2 x3 x4 x5 x6 hX1 hY0
  obtain ⟨x0, x1, x2, x3, x4, x5, x6⟩ := cells7 hX2
  have hB1 : BoxA w1 (.slice e6 P d6) ((List.range P).map fun r => (List.range P).map (W.bx r)) := hBxA.below hbw1
  obtain ⟨-, -, b6, o6, sl, rfl, hc0, hR0⟩ := hB1.at i _ (bxL_row P W i hi)
  obtain ⟨sa, sn, sc⟩ := sl
  have hR3 : BoxR w1 (.slice sa sn sc) ((List.range P).map (W.bx i)) := hR0
  have hsn : P = sn := by have h1 := (NestA.len hR3).1; simp at h1; exact h1.symm
  subst hsn
  have hbk : ((List.range P).map (W.bx i))[j]? = some (W.bx i j) := by rw [List.getElem?_map, List.getElem?_range hj]; rfl
  obtain ⟨-, -, b7, o7, sl, rfl, hc2, hi2⟩ := hR3.at j _ hbk
  obtain ⟨sa2, sn2, sc2⟩ := sl
  have hsn2 : sn2 = (W.bx i j).length := RowAt.lenE hi2
  have hsp : 0 < sn2 := by rw [hsn2, hb]; simp
  change w1.cell? _ = some (Value.slice _ _ _) at hc0
  change w1.cell? _ = some (Value.slice _ _ _) at hc2
  have hi3 : (i : Int) < P := by omega
  have hj3 : (j : Int) < P := by omega
  have hmn : ¬ min (i : Int) (j : Int) < 0 := by omega
  have hmx : ¬ (P : Int) ≤ max (i : Int) (j : Int) := by omega
  clear hB1 hR0 hR3 hbk hi2
  have hcp := rdcopyG_any n P es ow hv W _ w1 hG (h.below hbw1)
  go_wp2_with fail
  refine hcp.mono ?_
  rintro e w4 ⟨ae, ao, ah, ce, co, ch, lo, KB, BB, cK, cB, R, cR, vs, rfl, hE4, hO4, hH4, hmE, hmO, hmH, hlo, hlo4, hOW, hb4⟩
  have hY4 := lit_next' hb4 hY2
  have hbw4 := hbw1.trans (hb4.mono hbw1.size)
  obtain ⟨hO0, hb5⟩ := boxG_new w4 #[.int .i64 (n : Int), .slice ae es.length ce, .int .i64 (P : Int), .slice ao n co, .slice ah hv.length ch, .slice (some ⟨KB, 0, none⟩) P cK, .slice (some ⟨BB, 0, none⟩) P cB] 59
  obtain ⟨w5, hw5⟩ : ∃ U : World, U = w4.alloc (.cells #[.int .i64 (n : Int), .slice ae es.length ce, .int .i64 (P : Int), .slice ao n co, .slice ah hv.length ch, .slice (some ⟨KB, 0, none⟩) P cK, .slice (some ⟨BB, 0, none⟩) P cB] 59) := ⟨_, rfl⟩
  have hz5 : w5.heap.size = w4.heap.size + 1 := by rw [hw5]; simp
  rw [← hw5] at hO0 hb5
  have hE5 := hE4.below hb5
  have hO5 := hO4.below hb5
  have hH5 := hH4.below hb5
  have hY5 := lit_next' hb5 hY4
  obtain ⟨s0, hs0⟩ : ∃ s, w4.heap.size = s := ⟨_, rfl⟩
  rw [hs0] at hO0 hz5 hlo4
  have hYl : X + 1 < w1.heap.size := blk_lt hY2
  have HW5 := Lib.hid hw5
  clear hw5 x0 x1 x2 x3 x4 x5 x6 hX2 hcp hc0 hc2 hb1 hY2 hbA hE4 hH4 hY4
  have hs5 : s0 < w5.heap.size := by omega
  have c0 : w5.cell? ⟨s0, 0, none⟩ = some (.int .i64 (n : Int)) := cell_blk hO0
  have c1 : w5.cell? ⟨s0, 1, none⟩ = some (.slice ae es.length ce) := cell_blk hO0
  have c2 : w5.cell? ⟨s0, 2, none⟩ = some (.int .i64 (P : Int)) := cell_blk hO0
  have c3 : w5.cell? ⟨s0, 3, none⟩ = some (.slice ao n co) := cell_blk hO0
  have c4 : w5.cell? ⟨s0, 4, none⟩ = some (.slice ah hv.length ch) := cell_blk hO0
  go_upto_region 8 with fail
  rw [← HW5.out]
  refine wp_region_heldK (k := 9) (S := fun _ W => (W.cell? ⟨s0, 0, none⟩ = some (.int .i64 (n : Int)) ∧ W.cell? ⟨s0, 1, none⟩ = some (.slice ae es.length ce) ∧ W.cell? ⟨s0, 2, none⟩ = some (.int .i64 (P : Int)) ∧ W.cell? ⟨s0, 3, none⟩ = some (.slice ao n co) ∧ W.cell? ⟨s0, 4, none⟩ = some (.slice ah hv.length ch) ∧ W.cell? ⟨s0, 5, none⟩ = some (.slice (some ⟨KB, 0, none⟩) P cK) ∧ W.cell? ⟨s0, 6, none⟩ = some (.slice (some ⟨BB, 0, none⟩) P cB))) (by kernel_rfl) ?_
  have c5 : w5.cell? ⟨s0, 5, none⟩ = some (.slice (some ⟨KB, 0, none⟩) P cK) := cell_blk hO0
  have c6 : w5.cell? ⟨s0, 6, none⟩ = some (.slice (some ⟨BB, 0, none⟩) P cB) := cell_blk hO0
  have hS0 : (w5.drew.cell? ⟨s0, 0, none⟩ = some (.int .i64 (n : Int)) ∧ w5.drew.cell? ⟨s0, 1, none⟩ = some (.slice ae es.length ce) ∧ w5.drew.cell? ⟨s0, 2, none⟩ = some (.int .i64 (P : Int)) ∧ w5.drew.cell? ⟨s0, 3, none⟩ = some (.slice ao n co) ∧ w5.drew.cell? ⟨s0, 4, none⟩ = some (.slice ah hv.length ch) ∧ w5.drew.cell? ⟨s0, 5, none⟩ = some (.slice (some ⟨KB, 0, none⟩) P cK) ∧ w5.drew.cell? ⟨s0, 6, none⟩ = some (.slice (some ⟨BB, 0, none⟩) P cB)) := ⟨c0, c1, c2, c3, c4, c5, c6⟩
  refine wpAnyK_take (i := 0) (v := .agg #[.int .i64 (n : Int), .slice ae es.length ce, .int .i64 (P : Int), .slice ao n co, .slice ah hv.length ch, .slice (some ⟨KB, 0, none⟩) P cK, .slice (some ⟨BB, 0, none⟩) P cB]) false rfl (by kernel_rfl) (by kernel_rfl) (by kernel_rfl) (by kernel_rfl) (by kernel_rfl) (fun _ _ _ h => h) (fun _ h => h) (Or.inl ⟨by rfl, by intro w hSw; (try dsimp only at hSw); go_simp⟩) (b := false) (by kernel_rfl) hS0 ?_
  try simp only [Act.put, List.setIfInBounds_toArray, List.set_cons_zero, List.set_cons_succ]
  refine wpAnyK_take (i := 1) (v := .pointer (some ⟨s0, 2, none⟩)) true rfl (by kernel_rfl) (by kernel_rfl) (by kernel_rfl) (by kernel_rfl) (by kernel_rfl) (fun _ _ _ h => h) (fun _ h => h) (Or.inl ⟨by rfl, by intro w hSw; (try dsimp only at hSw); go_simp⟩) (b := false) (by kernel_rfl) hS0 ?_
  try simp only [Act.put, List.setIfInBounds_toArray, List.set_cons_zero, List.set_cons_succ]
  refine wpAnyK_take (i := 2) (v := .agg #[.int .i64 (P : Int), .slice ao n co, .slice ah hv.length ch]) true rfl (by kernel_rfl) (by kernel_rfl) (by kernel_rfl) (by kernel_rfl) (by kernel_rfl) (fun _ _ _ h => h) (fun _ h => h) (Or.inl ⟨by rfl, by intro w hSw; (try dsimp only at hSw); go_simp⟩) (b := false) (by kernel_rfl) hS0 ?_
  try simp only [Act.put, List.setIfInBounds_toArray, List.set_cons_zero, List.set_cons_succ]
  refine wpAnyK_take (i := 3) (v := .pointer (some ⟨s0, 0, none⟩)) true rfl (by kernel_rfl) (by kernel_rfl) (by kernel_rfl) (by kernel_rfl) (by kernel_rfl) (fun _ _ _ h => h) (fun _ h => h) (Or.inl ⟨by rfl, by intro w hSw; (try dsimp only at hSw); go_simp⟩) (b := false) (by kernel_rfl) hS0 ?_
  try simp only [Act.put, List.setIfInBounds_toArray, List.set_cons_zero, List.set_cons_succ]
  refine wpAnyK_take (i := 4) (v := .agg #[.int .i64 (n : Int), .slice ae es.length ce]) true rfl (by kernel_rfl) (by kernel_rfl) (by kernel_rfl) (by kernel_rfl) (by kernel_rfl) (fun _ _ _ h => h) (fun _ h => h) (Or.inl ⟨by rfl, by intro w hSw; (try dsimp only at hSw); go_simp⟩) (b := false) (by kernel_rfl) hS0 ?_
  try simp only [Act.put, List.setIfInBounds_toArray, List.set_cons_zero, List.set_cons_succ]
  refine wpAnyK_take (i := 7) (v := .int .i64 (i : Int)) false rfl (by kernel_rfl) (by kernel_rfl) (by kernel_rfl) (by kernel_rfl) (by kernel_rfl) (fun _ _ _ h => h) (fun _ h => h) (Or.inl ⟨by rfl, by intro w hSw; (try dsimp only at hSw); go_simp⟩) (b := false) (by kernel_rfl) hS0 ?_
  try simp only [Act.put, List.setIfInBounds_toArray, List.set_cons_zero, List.set_cons_succ]
  refine wpAnyK_take (i := 8) (v := .int .i64 (j : Int)) false rfl (by kernel_rfl) (by kernel_rfl) (by kernel_rfl) (by kernel_rfl) (by kernel_rfl) (fun _ _ _ h => h) (fun _ h => h) (Or.inl ⟨by rfl, by intro w hSw; (try dsimp only at hSw); go_simp⟩) (b := false) (by kernel_rfl) hS0 ?_
  try simp only [Act.put, List.setIfInBounds_toArray, List.set_cons_zero, List.set_cons_succ]
  refine wpAnyK_one (i := 5) (by kernel_rfl) rfl (by rfl) (b := false) (by kernel_rfl) (fun K hK => ?_)
  go_simp
  go_at_call 66
  refine (rdneigh_any n ae ce es w5.drew (hE5.below (Below.refl _ _).drew) hG.hg).mono ?_
  rintro e w6 ⟨N, rfl, hN, vs2, hGn, hb6'⟩
  have hb6 : Below w5.heap.size w5 w6 := (Below.refl w5.heap.size w5).drew.trans hb6'
  have hzd : w5.drew.heap.size = w5.heap.size := rfl
  have hz6 := hb6.size
  have hS2 : (w6.cell? ⟨s0, 0, none⟩ = some (.int .i64 (n : Int)) ∧ w6.cell? ⟨s0, 1, none⟩ = some (.slice ae es.length ce) ∧ w6.cell? ⟨s0, 2, none⟩ = some (.int .i64 (P : Int)) ∧ w6.cell? ⟨s0, 3, none⟩ = some (.slice ao n co) ∧ w6.cell? ⟨s0, 4, none⟩ = some (.slice ah hv.length ch) ∧ w6.cell? ⟨s0, 5, none⟩ = some (.slice (some ⟨KB, 0, none⟩) P cK) ∧ w6.cell? ⟨s0, 6, none⟩ = some (.slice (some ⟨BB, 0, none⟩) P cB)) := ⟨(hb6.cell (p := ⟨s0, 0, none⟩) hs5).trans c0, (hb6.cell (p := ⟨s0, 1, none⟩) hs5).trans c1, (hb6.cell (p := ⟨s0, 2, none⟩) hs5).trans c2, (hb6.cell (p := ⟨s0, 3, none⟩) hs5).trans c3, (hb6.cell (p := ⟨s0, 4, none⟩) hs5).trans c4, (hb6.cell (p := ⟨s0, 5, none⟩) hs5).trans c5, (hb6.cell (p := ⟨s0, 6, none⟩) hs5).trans c6⟩
  have hR : RowsX (fun b => s0 ≤ b ∧ b < w6.heap.size) w6 (.slice (some ⟨N, 0, none⟩) n n) (nearL es n) := GridO.rowsX (Ls := fun i => castL (nbL es n i)) hGn (by omega) (Nat.le_refl _) (fun i hi => by have := nb_lt hG.hg i hi; rw [castL, List.length_map]; omega) _ (by have := hGn.lt; exact ⟨by omega, by omega⟩) (fun i hi b e => by have := (hGn.own i hi).lt b e; exact ⟨by omega, by omega⟩)
  have hblW : ∀ a b, a < P → b < P → (W.bx a b).length ≤ 900000 := fun a b ha hb => by have := bx_pot (n := n) (ow := ow) (W := W) ha hb; omega
  have hb46 := hb5.trans (hb6.mono hb5.size)
  have hPS := PlyS.start (wS := w6) (s0 := s0) (s1 := w6.heap.size) (V := W) hOW hb46 hs0.symm
  have hdl := plydlv_any n P i j lo s0 w6.heap.size KB BB cK cB R cR (n : Int) (P : Int) ae ao ah ah es.length n hv.length hv.length ce co ch ch es ow ao (some ⟨N, 0, none⟩) co n W m r w6 w6 hn64 (by omega) hG.how hi hj hb hG.vld hblW hPS hlo4 (by omega) rfl (hO5.below hb6) hmO.low hR
  dsimp only
  refine hK.out _ _ hS2 ?_
  try simp only [Act.put, List.setIfInBounds_toArray, List.set_cons_zero, List.set_cons_succ]
  refine wpAnyK_take (i := 6) (v := .agg #[.int .i64 (P : Int), .slice ao n co, .slice ah hv.length ch, .slice (some ⟨N, 0, none⟩) n n]) false rfl (by kernel_rfl) (by kernel_rfl) (by kernel_rfl) (by kernel_rfl) (by kernel_rfl) (fun _ _ _ h => h) (fun _ h => h) (Or.inl ⟨by rfl, by intro w hSw; (try dsimp only at hSw); go_simp⟩) (b := false) (by kernel_rfl) hS2 ?_
  try simp only [Act.put, List.setIfInBounds_toArray, List.set_cons_zero, List.set_cons_succ]
  refine wpAnyK_one (i := 9) (by kernel_rfl) rfl (by rfl) (b := true) (by kernel_rfl) (fun K hK => ?_)
  go_simp
  go_at_call 85
  refine hdl.mono ?_
  rintro e w7 ⟨rfl, hPK⟩
  have hfr := hPK.fr
  have hno : ¬ GdB lo s0 w6.heap.size s0 := fun h => by rcases h.2 with h | h <;> omega
  obtain ⟨s0', s1', s2', s3', s4', s5', s6'⟩ := hS2
  have hS3 : (w7.cell? ⟨s0, 0, none⟩ = some (.int .i64 (n : Int)) ∧ w7.cell? ⟨s0, 1, none⟩ = some (.slice ae es.length ce) ∧ w7.cell? ⟨s0, 2, none⟩ = some (.int .i64 (P : Int)) ∧ w7.cell? ⟨s0, 3, none⟩ = some (.slice ao n co) ∧ w7.cell? ⟨s0, 4, none⟩ = some (.slice ah hv.length ch) ∧ w7.cell? ⟨s0, 5, none⟩ = some (.slice (some ⟨KB, 0, none⟩) P cK) ∧ w7.cell? ⟨s0, 6, none⟩ = some (.slice (some ⟨BB, 0, none⟩) P cB)) := ⟨hfr.cell s0' hno, hfr.cell s1' hno, hfr.cell s2' hno, hfr.cell s3' hno, hfr.cell s4' hno, hfr.cell s5' hno, hfr.cell s6' hno⟩
  dsimp only
  refine hK.out _ _ hS3 (wpAnyK_done (by kernel_rfl) ?_ _)
  have hbS := hbw4.trans (hb46.mono hbw4.size)
  have hES := hE5.below hb6
  have hOS := hO5.below hb6
  have hHS := hH5.below hb6
  have hY7 := hfr.blk (lit_next' hb6 hY5) (fun h => by have := h.1; omega)
  have hwl : w.heap.size ≤ w1.heap.size := hbw1.size
  have hvldK := dlv_vld (es := es) hG.how hG.vld hi hj hb
  have hblK : ∀ a b, a < P → b < P → ((dlvP es n P ow W i j).bx a b).length ≤ 900000 := fun a b ha hb2 => by
    have h1 := bx_pot (n := n) (ow := ow) (W := dlvP es n P ow W i j) ha hb2
    have h2 := dlv_potV (es := es) hG.how hG.vld hi hj hb
    omega
  obtain ⟨o0, o1, o2, o3, o4, o5, o6'⟩ := hS3
  obtain ⟨z0, z1, z2, z3, z4, z5, z6⟩ := cells7 hY7
  obtain ⟨f0, f1, f2, f3, f4, f5, f6⟩ := frees7 hY7
  have hfin := set7all (d0 := .int .i64 (n : Int)) (d1 := .slice ae es.length ce) (d2 := .int .i64 (P : Int)) (d3 := .slice ao n co) (d4 := .slice ah hv.length ch) (d5 := .slice (some ⟨KB, 0, none⟩) P cK) (d6 := .slice (some ⟨BB, 0, none⟩) P cB) hY7
  have hgF := set7_grown w7 (X + 1) (.int .i64 (n : Int)) (.slice ae es.length ce) (.int .i64 (P : Int)) (.slice ao n co) (.slice ah hv.length ch) (.slice (some ⟨KB, 0, none⟩) P cK) (.slice (some ⟨BB, 0, none⟩) P cB)
  obtain ⟨wF, hwF⟩ : ∃ U : World, U = (((((((w7.setCell ⟨X + 1, 0, none⟩ (.int .i64 (n : Int))).setCell ⟨X + 1, 1, none⟩ (.slice ae es.length ce)).setCell ⟨X + 1, 2, none⟩ (.int .i64 (P : Int))).setCell ⟨X + 1, 3, none⟩ (.slice ao n co)).setCell ⟨X + 1, 4, none⟩ (.slice ah hv.length ch)).setCell ⟨X + 1, 5, none⟩ (.slice (some ⟨KB, 0, none⟩) P cK)).setCell ⟨X + 1, 6, none⟩ (.slice (some ⟨BB, 0, none⟩) P cB)) := ⟨_, rfl⟩
  rw [← hwF] at hfin hgF
  have hW := hPK.wld (by omega) hvldK hn64 hblK hES hOS hHS hmE hmO hmH hgF hYl hlo
  have hbE : Below w.heap.size w wF := ((hbS.trans (hPK.fr.below (fun b h => by have := h.1; omega) hbS.size)).grown hgF (by have := hbS.size; have := hPK.fr.size; omega) (fun t e => by have e1 : X + 1 = t := Option.some.inj e; omega))
  obtain ⟨t0, t1, t2, t3, t4, t5, t6⟩ := cells7 hfin
  have HWF := Lib.hid hwF
  clear hfin hgF hwF
  go_wp2_with fail
  rw [← HWF.out]
  exact bodyPost_ret (v := .tuple #[.agg #[.int .i64 (n : Int), .slice ae es.length ce, .int .i64 (P : Int), .slice ao n co, .slice ah hv.length ch, .slice (some ⟨KB, 0, none⟩) P cK, .slice (some ⟨BB, 0, none⟩) P cB], .int .i64 0]) (by simp [results, Try.results46, go_sem, t0, t1, t2, t3, t4, t5, t6]) rfl ⟨_, rfl, hW.less (by omega), hbE⟩
end Go.Proofs.Ytdkmdcdoiaelfaa
