/- The walk of the law that the truss of a truss is itself. -/
import Derived.Test.YtbkacbbhiecnkaaDoorTrSelfP
import Derived.Test.YtbkacbbhiecnkaaDoorTrSame
import Derived.Test.YtbkacbbhiecnkaaDoorMkGraph
import Derived.BigQuiet
namespace Go.Proofs.YtbkacbbhiecnkaaDoor
open Go.RowKit Go.BigFrame

set_option maxRecDepth 100000 in
set_option maxHeartbeats 6400000 in
theorem self_law (a0 : Option Addr) (len0 cap0 : Nat) (k : Int) (w : World) (hl : ListAt w a0 len0) (hT : TzAt w) :
    Calls Tryd.prog 11 #[.slice a0 len0 cap0, .int .i64 k] w fun e w' => e = .returned (.bool true) ∧ Below w.heap.size w w' := by
  have hdk := deck_new (cap := cap0) hl
  have hb1 : Below w.heap.size w (w.alloc (.cells #[.slice a0 len0 cap0, .int .i64 0] 81)) := (Below.refl _ _).alloc (Nat.le_refl _) _
  go_enter Tryd.func11, Tryd.ntmps11
  go_wp2_with (first
    | (go_at_call 18; refine (new_any _ _ _ _).mono ?_; rintro e w' ⟨rfl, rfl⟩)
    | (go_at_call 17; refine (mkgraph_any w.heap.size 8 _ hdk (by omega) (by omega)).mono ?_; rintro e w2 ⟨n0, es, ag, cg, rfl, he2, hv, hn8, -, hg2, -⟩))
  have hb2 : Below w.heap.size w w2 := below_deck hb1 hg2 (Nat.le_refl _) hb1.size
  obtain ⟨n, rfl⟩ := Int.eq_ofNat_of_zero_le hv.1
  have hn8 : n ≤ 8 := by omega
  have hel := hv.length_le
  have hG := heap_alloc_new w2 (.cells #[.int .i64 n, .slice ag es.length cg] 27)
  have hbn3 := (Below.refl w2.heap.size w2).alloc (Nat.le_refl _) (.cells #[.int .i64 n, .slice ag es.length cg] 27)
  have hb3 := hb2.trans (hbn3.mono hb2.size)
  have he3 := he2.below hbn3
  have hmb := modS_bd k 5 (by omega)
  refine (mod_any k 5 _ (by omega) (by omega)).mono ?_
  rintro e w' ⟨rfl, rfl⟩
  obtain ⟨m, hm⟩ : ∃ m, modS k 5 = m := ⟨_, rfl⟩
  rw [hm] at hmb ⊢
  obtain ⟨X, hXX⟩ : ∃ X, w2.heap.size = X := ⟨_, rfl⟩
  obtain ⟨w3, hw3⟩ : ∃ W : World, W = w2.alloc (.cells #[.int .i64 n, .slice ag es.length cg] 27) := ⟨_, rfl⟩
  rw [← hw3] at hG hb3 he3 ⊢
  rw [hXX] at hG ⊢
  have hvT := truE_valid hv m
  have h1 := ttruss_any (n : Int) m ag cg es _ he3 (hT.below hb3)
  have hX1 : truX n es m = ((n : Int), truE es n m, 0) := by
    unfold truX
    rw [if_neg (by rw [(valid_iff n es).2 hv]; simp), Int.toNat_natCast]; rfl
  unfold GPost at h1
  rw [hX1] at h1
  dsimp only at h1
  have hS1 : supX n (truE es n m) = (supV (truE es n m) n (truE es n m).length, 0) := by
    unfold supX
    rw [if_neg (by rw [(valid_iff n _).2 hvT]; simp), Int.toNat_natCast]
  have hX2 := truE_self hv m hmb.1
  have HGET : Hid (∀ i, i < (truE es n m).length → m ≤ ((triN (truE es n m) n i).length : Int)) := truE_get hv m
  have HFIND : Hid (∀ j x y, es[j]? = some (x, y) → decide (0 ≤ findS (truE es n m) x y) = decide (m ≤ numF es n j)) := truE_find hv m
  have hTl := hvT.length_le
  obtain ⟨T, hTT⟩ : ∃ T, truE es n m = T := ⟨_, rfl⟩
  rw [hTT] at hvT h1 hS1 hX2 HGET HFIND hTl
  have g0 := cell_blk (j := 0) hG
  have g1 := cell_blk (j := 1) hG
  clear hdk hb1 hg2 he2 hb2 hbn3 hm hXX hw3 hX1 hTT
  go_wp2_with fail
  refine h1.mono ?_
  rintro e w4 ⟨aT, cT, rfl, heT4, -, hb4⟩
  have hb04 := hb3.trans (hb4.mono hb3.size)
  have hG4 := lit_next' hb4 hG
  have he4 := he3.below hb4
  have hbn := (Below.refl w4.heap.size w4).alloc (Nat.le_refl _) (.cells #[.int .i64 n, .slice aT T.length cT] 27)
  have hY5 := heap_alloc_new w4 (.cells #[.int .i64 n, .slice aT T.length cT] 27)
  have hG5 := lit_next' hbn hG4
  have he5 := he4.below hbn
  have heT5 := heT4.below hbn
  have hb05 := hb04.trans (hbn.mono hb04.size)
  obtain ⟨Y, hYY⟩ : ∃ Y, w4.heap.size = Y := ⟨_, rfl⟩
  rw [hYY] at hY5
  have y0 := cell_blk (j := 0) hY5
  have y1 := cell_blk (j := 1) hY5
  have h2 := tsupport_any (n : Int) aT cT T _ heT5 (hT.below hb05)
  rw [hS1] at h2
  unfold TPost at h2
  dsimp only at h2
  have hsl := supV_length T n T.length
  rw [hsl] at h2
  clear g0 g1 hb3 hG he3 h1 hb4 hb04 hG4 he4 heT4 hS1
  go_wp2_with fail
  refine h2.mono ?_
  rintro e w6 ⟨aS, cS, rfl, hS6, -, hb6⟩
  have hY6 := lit_next' hb6 hY5
  have hG6 := lit_next' hb6 hG5
  have he6 := he5.below hb6
  have heT6 := heT5.below hb6
  have hb06 := hb05.trans (hb6.mono hb05.size)
  have h3 := ttruss_any (n : Int) m aT cT T _ heT6 (hT.below hb06)
  unfold GPost at h3
  rw [hX2] at h3
  dsimp only at h3
  clear y0 y1 hY5 hG5 he5 heT5 hb05 h2 hb6 hbn hX2
  have y0 := cell_blk (j := 0) hY6
  have y1 := cell_blk (j := 1) hY6
  go_wp2_with fail
  refine h3.mono ?_
  rintro e w7 ⟨aU, cU, rfl, heU7, -, hb7⟩
  have hbn := (Below.refl w7.heap.size w7).alloc (Nat.le_refl _) (.cells #[.int .i64 n, .slice aU T.length cU] 27)
  have hb67 := hb7.trans (hbn.mono hb7.size)
  have hU8 := heap_alloc_new w7 (.cells #[.int .i64 n, .slice aU T.length cU] 27)
  have heU8 := heU7.below hbn
  have hY8 := lit_next' hb67 hY6
  have hG8 := lit_next' hb67 hG6
  have he8 := he6.below hb67
  have heT8 := heT6.below hb67
  have hS8 := hS6.below hb67
  have hb08 := hb06.trans (hb67.mono hb06.size)
  have hsm := gsame_same (n : Int) aT aU cT cU T _ heT8 heU8 (by omega)
  clear y0 y1 hY6 hG6 he6 heT6 hb06 h3 hb7 hb67 heU7 hS6
  have y0 := cell_blk (j := 0) hY8
  have y1 := cell_blk (j := 1) hY8
  have z0 := cell_blk (j := 0) hU8
  have z1 := cell_blk (j := 1) hU8
  go_wp2_with fail
  refine hsm.mono ?_
  rintro e w9 ⟨rfl, hb9⟩
  have hY9 := lit_next' hb9 hY8
  have hG9 := lit_next' hb9 hG8
  have he9 := he8.below hb9
  have heT9 := heT8.below hb9
  have hS9 := hS8.below hb9
  have hb09 := hb08.trans (hb9.mono hb08.size)
  clear y0 y1 z0 z1 hY8 hG8 he8 heT8 hS8 hb08 hsm hbn hU8 heU8 hb9
  have y1 := cell_blk (j := 1) hY9
  have hSc : T.length ≤ cS := by obtain ⟨_, _, hv', h, _⟩ := hS9; have e1 := (Value.slice.inj hv').2; rw [hsl] at h; omega
  have HSL := Lib.hid hsl
  clear hsl
  go_wp2_with fail
  go_loopw [63] (fun vi wr => ∃ i : Nat, i ≤ T.length ∧ vi = .int .i64 i ∧ Below w9.heap.size w9 wr) (fun vi _ => T.length - (intOf vi).toNat)
  case atStart => exact ⟨0, Nat.zero_le _, rfl, Below.refl _ _⟩
  case round =>
    obtain ⟨i, hi, rfl, hb⟩ := hrel
    by_cases hlt : i < T.length
    · have hlt3 : (i : Int) < T.length := by omega
      obtain ⟨b8, o8, rfl, c8⟩ : ∃ b off, aS = some ⟨b, off, none⟩ ∧ wr.cell? ⟨b, off + i, none⟩ = some (.int .i64 ((triN T n i).length : Int)) := by
        obtain ⟨_, _, hv', _, _, _, hc⟩ := hS9.below hb
        have e1 := (Value.slice.inj hv').1
        rw [e1]
        exact hc i _ (by unfold supV; rw [List.getElem?_map, List.getElem?_range hlt]; rfl)
      have hge := HGET.out i hlt
      generalize (triN T n i).length = z at *
      have dz : decide ((z : Int) < m) = false := decide_eq_false (by omega)
      clear hge
      go_wp2_with fail
      go_roundw
      case rel => exact ⟨i + 1, by omega, by go_num, hb⟩
      case measure => simp [intOf]; omega
    · obtain rfl : i = T.length := by omega
      have hbR := hb09.trans (hb.mono hb09.size)
      have hYR := lit_next' hb hY9
      have hGR := lit_next' hb hG9
      have heR := he9.below hb
      have heTR := heT9.below hb
      have g0 := cell_blk (j := 0) hGR
      have g1 := cell_blk (j := 1) hGR
      have hnx : numX (n : Int) es = (numT es n, 0) := by unfold numX; rw [if_neg (by rw [(valid_iff n es).2 hv]; simp), Int.toNat_natCast]
      have hnl := numT_length es n
      have hn := tnumbers_any (n : Int) ag cg es _ heR (hT.below hbR)
      rw [hnx] at hn
      unfold TPost at hn
      dsimp only at hn
      rw [hnl] at hn
      clear y1 hY9 hG9 he9 heT9 hS9 hb09 hb HGET HSL hnx
      go_wp2_with fail
      refine hn.mono ?_
      rintro e wA ⟨aN, cN, rfl, hNA, -, hbA⟩
      have hb0A := hbR.trans (hbA.mono hbR.size)
      have hYA := lit_next' hbA hYR
      have hGA := lit_next' hbA hGR
      have heA := heR.below hbA
      have heTA := heTR.below hbA
      have hNc : es.length ≤ cN := by obtain ⟨_, _, hv', h, _⟩ := hNA; have e1 := (Value.slice.inj hv').2; rw [hnl] at h; omega
      have HNL := Lib.hid hnl
      clear g0 g1 hYR hGR heR heTR hbR hbA hn hnl
      have g1 := cell_blk (j := 1) hGA
      go_wp2_with fail
      go_loopw [89] (fun vi wr => ∃ j : Nat, j ≤ es.length ∧ vi = .int .i64 j ∧ Below wA.heap.size wA wr) (fun vi _ => es.length - (intOf vi).toNat)
      case atStart => exact ⟨0, Nat.zero_le _, rfl, Below.refl _ _⟩
      case round =>
        clear g1
        obtain ⟨j, hj, rfl, hb⟩ := hrel
        have hbw := hb0A.trans (hb.mono hb0A.size)
        by_cases hlt : j < es.length
        · have hlt3 : (j : Int) < es.length := by omega
          obtain ⟨b8, o8, rfl, c8⟩ : ∃ b off, aN = some ⟨b, off, none⟩ ∧ wr.cell? ⟨b, off + j, none⟩ = some (.int .i64 (numF es n j)) := by
            obtain ⟨_, _, hv', _, _, _, hc⟩ := hNA.below hb
            have e1 := (Value.slice.inj hv').1
            rw [e1]
            exact hc j _ (fnL_get _ _ _ hlt)
          obtain ⟨b, off, x, y, rfl, hget, _, _, c0, c1⟩ := (heA.below hb).at j hlt
          have hce : es.length ≤ cg := by obtain ⟨_, _, hv', h1, _⟩ := heA; cases hv'; exact h1
          have hfd := HFIND.out j x y hget
          have hbE := (Below.refl wr.heap.size wr).alloc (Nat.le_refl _) (.cells #[.int .i64 x, .int .i64 y] 42)
          have hE := heap_alloc_new wr (.cells #[.int .i64 x, .int .i64 y] 42)
          have hYE := lit_next' hbE (lit_next' hb hYA)
          have heTE := (heTA.below hb).below hbE
          have hbE2 := hb.alloc hb.size (.cells #[.int .i64 x, .int .i64 y] 42)
          have c8E := (hbE.cell (p := ⟨b8, o8 + j, none⟩) (cell_lt c8)).trans c8
          obtain ⟨Q, hQ⟩ : ∃ Q, wr.heap.size = Q := ⟨_, rfl⟩
          obtain ⟨wE, hwE⟩ : ∃ W : World, W = wr.alloc (.cells #[.int .i64 x, .int .i64 y] 42) := ⟨_, rfl⟩
          have hfi := fun W h => find_any (n : Int) aT cT T x y W h hvT
          obtain ⟨F, hF⟩ : ∃ F, findS T x y = F := ⟨_, rfl⟩
          obtain ⟨z', hz⟩ : ∃ z, numF es n j = z := ⟨_, rfl⟩
          rw [hF, hz] at hfd
          rw [hF] at hfi
          rw [hz] at c8E
          clear hF hz c8 hget HFIND
          go_wp2_with fail
          rw [← hwE] at hE hYE heTE hbE2 c8E ⊢
          rw [hQ] at hE
          try rw [hQ]
          clear hwE hQ hbE c0 c1
          have y0 := cell_blk (j := 0) hYE
          have y1 := cell_blk (j := 1) hYE
          have q0 := cell_blk (j := 0) hE
          have q1 := cell_blk (j := 1) hE
          have e0 : ∀ z : Ext wE.heap.size wE, z.world.cell? ⟨Y, 0, none⟩ = some (.int .i64 n) := fun z => (z.below.cell (p := ⟨Y, 0, none⟩) (cell_lt y0)).trans y0
          have e1 : ∀ z : Ext wE.heap.size wE, z.world.cell? ⟨Y, 1, none⟩ = some (.slice aT T.length cT) := fun z => (z.below.cell (p := ⟨Y, 1, none⟩) (cell_lt y1)).trans y1
          have e2 : ∀ z : Ext wE.heap.size wE, z.world.cell? ⟨Q, 0, none⟩ = some (.int .i64 x) := fun z => (z.below.cell (p := ⟨Q, 0, none⟩) (cell_lt q0)).trans q0
          have e3 : ∀ z : Ext wE.heap.size wE, z.world.cell? ⟨Q, 1, none⟩ = some (.int .i64 y) := fun z => (z.below.cell (p := ⟨Q, 1, none⟩) (cell_lt q1)).trans q1
          have e4 : ∀ z : Ext wE.heap.size wE, z.world.cell? ⟨b8, o8 + j, none⟩ = some (.int .i64 z') := fun z => (z.below.cell (p := ⟨b8, o8 + j, none⟩) (cell_lt c8E)).trans c8E
          have hcf := fun z : Ext wE.heap.size wE => hfi z.world (heTE.below z.below)
          cases hB : decide (m ≤ z')
          all_goals
            rw [hB] at hfd
            refine wp_region_ext wE.heap.size wE (by kernel_rfl) (by kernel_rfl) (Below.refl _ _) ?_
            try simp only [List.append_eq, List.cons_append, List.nil_append]
            repeat (any_goals (go_big_quiet_step ((go_at_call 59; exact Calls.ext_of (Nat.le_refl _) (hcf _)))))
            all_goals
              refine wpQuiet_nil ?_
              rintro _ ⟨⟨wq, hq⟩, rfl⟩
              go_wp2_with fail
              go_roundw
              case rel => exact ⟨j + 1, by omega, by go_num, hbE2.trans (hq.mono hbE2.size)⟩
              case measure => simp [intOf]; omega
        · obtain rfl : j = es.length := by omega
          go_wp2_with fail
          refine (awake12_any _ (hT.below hbw)).mono ?_
          rintro e wE ⟨rfl, hbE⟩
          go_wp2_with fail
          go_ret
          exact ⟨rfl, hbw.trans (hbE.mono hbw.size)⟩
end Go.Proofs.YtbkacbbhiecnkaaDoor
