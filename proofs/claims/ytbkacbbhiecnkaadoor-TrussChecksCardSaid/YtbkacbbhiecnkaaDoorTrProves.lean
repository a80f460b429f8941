/- The walk of the law that whatever numbers are accepted are the truss numbers. -/
import Derived.Test.YtbkacbbhiecnkaaDoorTrCert
import Derived.Test.YtbkacbbhiecnkaaDoorTrAwake
import Derived.Test.YtbkacbbhiecnkaaDoorMkGraph
import Derived.Test.YtbkacbbhiecnkaaDoorMkOrder
namespace Go.Proofs.YtbkacbbhiecnkaaDoor
open Go.RowKit Go.BigFrame

theorem peel_perm (sup : (Nat → Bool) → Nat → Nat) (m : Nat) : (peelO sup m m).Perm (List.range m) := by
  obtain ⟨h1, h2, h3⟩ := peelO_spec sup m m (Nat.le_refl _)
  refine (List.perm_ext_iff_of_nodup h2 List.nodup_range).2 fun y => ?_
  rw [List.mem_range]
  refine ⟨h3 y, fun hy => ?_⟩
  obtain ⟨i, _, he⟩ := peel_mem sup m y hy
  exact List.mem_of_getElem? he
/-- a row of numbers in block g -/
structure RowI (w : World) (g cap : Nat) (xs : List Int) : Prop where
  blk : ∃ cur : Array Value, w.heap[g]? = some (.cells cur 3 (0, 0)) ∧ cur.toList.take xs.length = intsV xs
  cap : xs.length ≤ cap
  small : xs.length ≤ 1099511627776
theorem RowI.ints {w : World} {g cap : Nat} {xs : List Int} (h : RowI w g cap xs) : IntsAt w (.slice (some ⟨g, 0, none⟩) xs.length cap) xs := by
  obtain ⟨⟨cur, hb, ht⟩, hc, hs⟩ := h
  refine ⟨_, cap, rfl, hc, (fun e => by cases e), by omega, fun i e hi => ⟨g, 0, rfl, ?_⟩⟩
  have hj := (List.getElem?_eq_some_iff.1 hi).1
  have hu : (intsV xs)[i]? = some (.int .i64 e) := by simp [intsV, hi]
  rw [Nat.zero_add, cell_blk hb, ← Array.getElem?_toList]
  rw [← ht, List.getElem?_take, if_pos hj] at hu
  exact hu
theorem RowI.set {w : World} {g cap : Nat} {xs : List Int} (h : RowI w g cap xs) (i : Nat) (y : Int) : RowI (w.setCell ⟨g, i, none⟩ (.int .i64 y)) g cap (xs.set i y) := by
  obtain ⟨⟨cur, hb, ht⟩, hc, hs⟩ := h
  refine ⟨⟨_, heap_setCell_same _ _ _ _ _ _ hb, ?_⟩, by rw [List.length_set]; exact hc, by rw [List.length_set]; exact hs⟩
  rw [List.length_set, Array.toList_setIfInBounds, List.take_set, ht]
  simp [intsV, List.map_set]
theorem RowI.free {w : World} {g cap : Nat} {xs : List Int} (h : RowI w g cap xs) : ∀ j, w.frozen? ⟨g, j, none⟩ = false := by
  obtain ⟨⟨cur, hb, ht⟩, hc, hs⟩ := h
  exact fun j => free_blk hb
theorem RowI.of_owns {w : World} {base cap : Nat} {a : Option Addr} {xs : List Int} (h : w.ownsRow base 3 1 (.slice a xs.length cap) xs.length (intsV xs)) (hl : xs.length ≤ 1099511627776) (hp : 0 < xs.length) : ∃ g, a = some ⟨g, 0, none⟩ ∧ base ≤ g ∧ RowI w g cap xs := by
  rcases h.2 with ⟨hv, h0⟩ | ⟨g, cap', cur, hv, hb, hg, hn, hc, hs, ht⟩
  · omega
  · cases hv
    exact ⟨g, rfl, hb, ⟨⟨cur, hg, by simpa using ht⟩, hn, hl⟩⟩
set_option maxRecDepth 100000 in
set_option maxHeartbeats 6400000 in
theorem proves_law (a0 : Option Addr) (len0 cap0 : Nat) (a1 : Option Addr) (len1 cap1 : Nat) (w : World) (hl : ListAt w a0 len0) (hby : ListAt w a1 len1) (hT : TzAt w) :
    Calls Tryd.prog 8 #[.slice a0 len0 cap0, .slice a1 len1 cap1] w fun e w' => e = .returned (.bool true) ∧ Below w.heap.size w w' := by
  have hdk := deck_new (cap := cap0) hl
  have hb1 : Below w.heap.size w (w.alloc (.cells #[.slice a0 len0 cap0, .int .i64 0] 81)) := (Below.refl _ _).alloc (Nat.le_refl _) _
  go_enter Tryd.func8, Tryd.ntmps8
  go_wp2_with (first
    | (go_at_call 18; refine (new_any _ _ _ _).mono ?_; rintro e w' ⟨rfl, rfl⟩)
    | (go_at_call 17; refine (mkgraph_any w.heap.size 7 _ hdk (by omega) (by omega)).mono ?_; rintro e w2 ⟨n0, es, a2, cap2, rfl, he2, hv, hn7, hd2, hg2, ho2⟩))
  have hb2 : Below w.heap.size w w2 := below_deck hb1 hg2 (Nat.le_refl _) hb1.size
  obtain ⟨n, rfl⟩ := Int.eq_ofNat_of_zero_le hv.1
  have hn7 : n ≤ 7 := by omega
  have hel := hv.length_le
  have hoff2 : ∀ p, a2 = some p → w.heap.size < p.block := fun p hp => by have := ho2 p hp; simp at this; omega
  have hG := heap_alloc_new w2 (.cells #[.int .i64 n, .slice a2 es.length cap2] 27)
  have hbn3 := (Below.refl w2.heap.size w2).alloc (Nat.le_refl _) (.cells #[.int .i64 n, .slice a2 es.length cap2] 27)
  have hb3 := hb2.trans (hbn3.mono hb2.size)
  have he3 := he2.below hbn3
  have hd3 := hd2.alloc (.cells #[.int .i64 n, .slice a2 es.length cap2] 27)
  have hX := hd2.lt
  have hnx : numX (n : Int) es = (numT es n, 0) := by unfold numX; rw [if_neg (by rw [(valid_iff n es).2 hv]; simp), Int.toNat_natCast]
  have hox : ordX (n : Int) es = (ordT es n, 0) := by unfold ordX; rw [if_neg (by rw [(valid_iff n es).2 hv]; simp), Int.toNat_natCast]
  have hnl := numT_length es n
  have hol := ordT_length es n
  obtain ⟨X, hXX⟩ : ∃ X, w2.heap.size = X := ⟨_, rfl⟩
  obtain ⟨w3, hw3⟩ : ∃ W : World, W = w2.alloc (.cells #[.int .i64 n, .slice a2 es.length cap2] 27) := ⟨_, rfl⟩
  rw [← hw3] at hG hb3 he3 hd3 ⊢
  rw [hXX] at hG hX ⊢
  clear hw3 hXX hbn3 hb2 he2 hd2 hg2 ho2 hdk hb1
  go_wp2_with fail
  refine (tnumbers_any n a2 cap2 es _ he3 (hT.below hb3)).mono ?_
  rw [hnx]
  rintro e w4 ⟨aN, cN, rfl, hN4, hoN, hb4⟩
  have hb04 := hb3.trans (hb4.mono hb3.size)
  have hG4 := lit_next' hb4 hG
  have he4 := he3.below hb4
  have hd4 := hd3.kept (grown_of_below hb4) (fun g e => by cases e)
  have hoNb : ∀ p, aN = some p → w.heap.size < p.block := fun p hp => by have := hoN p hp; have := blk_lt hG; omega
  rw [hnl]
  have hN4' : IntsAt w4 (.slice aN es.length cN) (numT es n) := by have h := hN4; rw [hnl] at h; exact h
  have g0 : w4.cell? ⟨X, 0, none⟩ = some (.int .i64 n) := by rw [cell_blk hG4]; rfl
  have g1 : w4.cell? ⟨X, 1, none⟩ = some (.slice a2 es.length cap2) := by rw [cell_blk hG4]; rfl
  have hX4 := blk_lt hG4
  clear hb3 hG he3 hd3 hb4 hoN
  go_wp2_with (at_builtin; refine wpList_app_ints intsT rfl _ _ rfl w4.heap.size (.slice none 0 0) _ [] (numT es n) rfl (World.ownsRow_nil _ _ _ _) rfl hN4' (by simp; omega) (Nat.le_refl _) ?_; intro v5 w5 hown5 hg5; rw [List.nil_append] at hown5; obtain ⟨a5, c5, rfl⟩ := owns_shape hown5)
  have hb45 : Below w4.heap.size w4 w5 := below_of_grown hg5
  rw [hnl] at hown5
  have hs5 : 0 < es.length → ∃ g, a5 = some ⟨g, 0, none⟩ ∧ w4.heap.size ≤ g ∧ RowI w5 g c5 (numT es n) := fun hp => RowI.of_owns (by rw [hnl]; exact hown5) (by omega) (by omega)
  have hi5 : IntsAt w5 (.slice a5 es.length c5) (numT es n) := by
    obtain ⟨_, _, hv', h, _⟩ := IntsAt.of_owns (xs := numT es n) (by rw [hnl]; exact hown5) (by omega)
    rw [hnl] at hv' h
    cases hv'; exact h
  have ho5 : ∀ p, a5 = some p → w4.heap.size ≤ p.block := fun p hp => by subst hp; exact (hown5.lt p.block rfl).1
  have HNL := Lib.hid hnl
  clear hown5 hg5 g0 g1 hnl hnx
  go_loopw [10] (fun vi wr => ∃ (i : Nat) (ys : List Int), vi = .int .i64 i ∧ i ≤ es.length ∧ Hid (ys.length = es.length) ∧ IntsAt wr (.slice a5 es.length c5) ys ∧ (0 < es.length → ∃ g, a5 = some ⟨g, 0, none⟩ ∧ w4.heap.size ≤ g ∧ RowI wr g c5 ys) ∧ Below w4.heap.size w4 wr) (fun vi _ => es.length - (intOf vi).toNat)
  case atStart => exact ⟨0, numT es n, rfl, Nat.zero_le _, HNL, hi5, hs5, hb45⟩
  case round =>
    clear hs5 hi5 hb45
    obtain ⟨i, ys, rfl, him, HYL, hiy, hsy, hb⟩ := hrel
    have hbw := hb04.trans (hb.mono hb04.size)
    by_cases hgo : i < len1 ∧ i < es.length
    · obtain ⟨hi1, hi2⟩ := hgo
      have d1 : decide ((i : Int) < len1) = true := by simp; omega
      have d2 : decide ((i : Int) < es.length) = true := by simp; omega
      have hi13 : (i : Int) < len1 := by omega
      have hi23 : (i : Int) < es.length := by omega
      obtain ⟨g, rfl, hgw, hR⟩ := hsy (by omega)
      obtain ⟨c, off, z, rfl, cz, hz0, hz1⟩ := hby.2 i hi1
      have cz' := (hbw.cell (p := ⟨c, off + i, none⟩) (cell_lt cz)).trans cz
      have hc5 := hR.cap
      have hyc : wr.cell? ⟨g, i, none⟩ = some (.int .i64 (numsF ys i)) := by
        obtain ⟨_, _, e, h⟩ := ints_cell hR.ints i (by rw [HYL.out]; exact hi2)
        cases e
        simpa using h
      have hyf := hR.free
      have hmd := mod_any z 3 wr.drew (by omega) (by omega)
      have hm := modS_bd z 3 (by omega)
      have v1 : IntKind.i64.wrap (modS z 3 - 1) = modS z 3 - 1 := IntWalk.i64_in _ (by omega)
      have hbl := hby.1
      clear hsy hiy cz
      generalize modS z 3 = mz at *
      obtain ⟨Y, hY⟩ : ∃ Y, IntKind.i64.wrap (numsF ys i + (mz - 1)) = Y := ⟨_, rfl⟩
      have hR2 := hR.set i Y
      have hyl2 : Hid ((ys.set i Y).length = es.length) := (show _ = _ by rw [List.length_set]; exact HYL.out)
      have hi2' := hR2.ints
      rw [hyl2.out] at hi2'
      generalize numsF ys i = yi at *
      go_wp2_with fail
      go_region_law (go_simp; go_at_call 54; (with_reducible refine hmd.mono ?_); rintro e w6 ⟨rfl, rfl⟩)
      all_goals
        go_wp2_with fail
        go_roundw
        case rel => exact ⟨i + 1, _, by go_num, by omega, hyl2, hi2', fun _ => ⟨g, rfl, hgw, ⟨hR2.blk, hR2.cap, hR2.small⟩⟩, (hb.setCell (p := ⟨g, i, none⟩) hgw _).drew⟩
        case measure => simp [intOf]; omega
    · have hd5 := hd4.kept (grown_of_below hb) (fun g e => by cases e)
      have hG5 := lit_next' hb hG4
      have he5 := he4.below hb
      have hN5 := hN4'.below hb
      have hoY : ∀ p, a5 = some p → w.heap.size < p.block := fun p hp => by have := ho5 p hp; omega
      have g0 : wr.cell? ⟨X, 0, none⟩ = some (.int .i64 n) := by rw [cell_blk hG5]; rfl
      have g1 : wr.cell? ⟨X, 1, none⟩ = some (.slice a2 es.length cap2) := by rw [cell_blk hG5]; rfl
      have hto := torder_any n a2 cap2 es _ he5 (hT.below hbw)
      rw [hox] at hto
      have htt := hto
      unfold TPost at htt
      dsimp only at htt
      rw [hol] at htt
      have hend : (decide ((i : Int) < len1) = false ∧ decide (i < len1) = false) ∨ (decide ((i : Int) < len1) = true ∧ decide (i < len1) = true ∧ decide ((i : Int) < es.length) = false ∧ decide (i < es.length) = false) := by
        by_cases h : i < len1
        · exact .inr ⟨by simp; omega, by simp; omega, by simp; omega, by simp; omega⟩
        · exact .inl ⟨by simp; omega, by simp; omega⟩
      clear hsy hto hN4' hN4 hd4 hG4 he4 hb hgo
      have hpo : (peelO (trS es n) es.length es.length).Perm (List.range es.length) := peel_perm _ _
      have hollen : (castL (peelO (trS es n) es.length es.length)).length = es.length := by rw [castL_length, hpo.length_eq, List.length_range]
      rcases hend with ⟨d1, d1n⟩ | ⟨d1, d1n, d2, d2n⟩ <;> go_wp2_with fail
      all_goals
        refine htt.mono ?_
        rintro e w6 ⟨aO, cO, rfl, hO6, hoO, hb6⟩
        have hbw6 := hbw.trans (hb6.mono hbw.size)
        have hd6 := hd5.kept (grown_of_below hb6) (fun g e => by cases e)
        have he6 := he5.below hb6
        have hG6 := lit_next' hb6 hG5
        have hN6 := hN5.below hb6
        have hY6 := hiy.below hb6
        have hXw := hd5.lt
        have hoOb : ∀ p, aO = some p → w.heap.size < p.block := fun p hp => by have := hoO p hp; omega
        clear htt g0 g1 hbw hd5 he5 hG5 hN5 hiy hb6 hoO
        go_wp2_with fail
        refine (next_any w.heap.size 2 _ hd6 (by omega) (by omega)).mono ?_
        rintro e w7 ⟨x, hx0, hx1, rfl, hd7, hg7⟩
        have hb7 : Below w.heap.size w w7 := below_deck hbw6 hg7 (Nat.le_refl _) hbw6.size
        have hG7 := grown_blk hg7 hG6 (by intro e; have := Option.some.inj e; omega)
        have he7 := he6.grown hg7 (fun g e n' c' p hp => by cases e; have := hoff2 p (Value.slice.inj hp).1; omega)
        have hN7 := hN6.grown hg7 (fun g e n' c' p hp => by cases e; have := hoNb p (Value.slice.inj hp).1; omega)
        have hY7 := hY6.grown hg7 (fun g e n' c' p hp => by cases e; have := hoY p (Value.slice.inj hp).1; omega)
        have hO7 := hO6.grown hg7 (fun g e n' c' p hp => by cases e; have := hoOb p (Value.slice.inj hp).1; omega)
        have gg1 : w7.cell? ⟨X, 1, none⟩ = some (.slice a2 es.length cap2) := by rw [cell_blk hG7]; rfl
        clear hd6 he6 hG6 hN6 hY6 hO6 hg7 hbw6
        by_cases hx : x = 0
        · subst hx
          go_wp2_with fail
          refine (mkorder_any w.heap.size es.length _ hd7 (by omega)).mono ?_
          rintro e wW ⟨q, aQ, cQ, rfl, hq, hQW, hdW, hgW, -⟩
          have hQW : IntsAt wW (.slice aQ es.length cQ) (castL q) := hQW
          have hqlen : (castL q).length = es.length := by rw [castL_length, hq.length_eq, List.length_range]
          have hbW : Below w.heap.size w wW := below_deck hb7 hgW (Nat.le_refl _) hb7.size
          have hGW := grown_blk hgW hG7 (by intro e; have := Option.some.inj e; omega)
          have heW := he7.grown hgW (fun g e n' c' p hp => by cases e; have := hoff2 p (Value.slice.inj hp).1; omega)
          have hNW := hN7.grown hgW (fun g e n' c' p hp => by cases e; have := hoNb p (Value.slice.inj hp).1; omega)
          have hYW := hY7.grown hgW (fun g e n' c' p hp => by cases e; have := hoY p (Value.slice.inj hp).1; omega)
          clear hdW hgW hb7 hG7 he7 hN7 hY7 hO7 hd7 gg1
          have hcx := tcheck_any n a2 a5 aQ cap2 c5 cQ es ys (castL q) _ heW (by rw [HYL.out]; exact hYW) (by rw [hqlen]; exact hQW) (hT.below hbW)
          rw [HYL.out, hqlen] at hcx
          have gW0 : wW.cell? ⟨X, 0, none⟩ = some (.int .i64 n) := by rw [cell_blk hGW]; rfl
          have gW1 : wW.cell? ⟨X, 1, none⟩ = some (.slice a2 es.length cap2) := by rw [cell_blk hGW]; rfl
          by_cases h0 : chkX n es ys (castL q) = 0
          · have hys := chk_eq hv ys q HYL.out hq h0
            rw [h0] at hcx
            rw [hys] at hYW
            clear h0 hq hys
            go_wp2_with fail
            refine hcx.mono ?_
            rintro e wC ⟨rfl, hbC⟩
            have hbWC := hbW.trans (hbC.mono hbW.size)
            have hsm := rsame_same a5 aN c5 cN (numT es n) _ (by rw [HNL.out]; exact hYW.below hbC) (by rw [HNL.out]; exact hNW.below hbC)
            rw [HNL.out] at hsm
            go_wp2_with fail
            refine hsm.mono ?_
            rintro e wD ⟨rfl, hbD⟩
            have hbWD := hbWC.trans (hbD.mono hbWC.size)
            go_wp2_with fail
            refine (awake12_any _ (hT.below hbWD)).mono ?_
            rintro e wE ⟨rfl, hbE⟩
            go_wp2_with fail
            go_ret
            exact ⟨rfl, hbWD.trans (hbE.mono hbWD.size)⟩
          · obtain ⟨r, hr⟩ : ∃ r, chkX n es ys (castL q) = r := ⟨_, rfl⟩
            rw [hr] at hcx h0
            have dr : (r != 0) = true := by simpa using h0
            have dr2 : (r == 0) = false := by simpa using h0
            clear h0 hr hq
            go_wp2_with fail
            refine hcx.mono ?_
            rintro e wC ⟨rfl, hbC⟩
            have hbWC := hbW.trans (hbC.mono hbW.size)
            go_wp2_with fail
            refine (awake12_any _ (hT.below hbWC)).mono ?_
            rintro e wE ⟨rfl, hbE⟩
            go_wp2_with fail
            go_ret
            exact ⟨rfl, hbWC.trans (hbE.mono hbWC.size)⟩
        · have dx : (x == 0) = false := by simpa using hx
          obtain ⟨wW, hwW⟩ : ∃ W : World, W = w7 := ⟨_, rfl⟩
          rw [← hwW] at hb7 hG7 he7 hN7 hY7 hO7 ⊢
          have hbW := hb7
          have hGW := hG7
          have heW := he7
          have hNW := hN7
          have hYW := hY7
          obtain ⟨q, hqq⟩ : ∃ q, peelO (trS es n) es.length es.length = q := ⟨_, rfl⟩
          have hQW : IntsAt wW (.slice aO es.length cO) (castL q) := by rw [← hqq]; exact hO7
          have hq := hpo
          have hqlen := hollen
          rw [hqq] at hq hqlen
          obtain ⟨aQ, haQ⟩ : ∃ x, aO = x := ⟨_, rfl⟩
          obtain ⟨cQ, hcQ⟩ : ∃ x, cO = x := ⟨_, rfl⟩
          rw [haQ, hcQ] at hQW ⊢
          clear hwW hb7 hG7 he7 hN7 hY7 hO7 hd7 gg1 hqq haQ hcQ
          have hcx := tcheck_any n a2 a5 aQ cap2 c5 cQ es ys (castL q) _ heW (by rw [HYL.out]; exact hYW) (by rw [hqlen]; exact hQW) (hT.below hbW)
          rw [HYL.out, hqlen] at hcx
          have gW0 : wW.cell? ⟨X, 0, none⟩ = some (.int .i64 n) := by rw [cell_blk hGW]; rfl
          have gW1 : wW.cell? ⟨X, 1, none⟩ = some (.slice a2 es.length cap2) := by rw [cell_blk hGW]; rfl
          by_cases h0 : chkX n es ys (castL q) = 0
          · have hys := chk_eq hv ys q HYL.out hq h0
            rw [h0] at hcx
            rw [hys] at hYW
            clear h0 hq hys
            go_wp2_with fail
            refine hcx.mono ?_
            rintro e wC ⟨rfl, hbC⟩
            have hbWC := hbW.trans (hbC.mono hbW.size)
            have hsm := rsame_same a5 aN c5 cN (numT es n) _ (by rw [HNL.out]; exact hYW.below hbC) (by rw [HNL.out]; exact hNW.below hbC)
            rw [HNL.out] at hsm
            go_wp2_with fail
            refine hsm.mono ?_
            rintro e wD ⟨rfl, hbD⟩
            have hbWD := hbWC.trans (hbD.mono hbWC.size)
            go_wp2_with fail
            refine (awake12_any _ (hT.below hbWD)).mono ?_
            rintro e wE ⟨rfl, hbE⟩
            go_wp2_with fail
            go_ret
            exact ⟨rfl, hbWD.trans (hbE.mono hbWD.size)⟩
          · obtain ⟨r, hr⟩ : ∃ r, chkX n es ys (castL q) = r := ⟨_, rfl⟩
            rw [hr] at hcx h0
            have dr : (r != 0) = true := by simpa using h0
            have dr2 : (r == 0) = false := by simpa using h0
            clear h0 hr hq
            go_wp2_with fail
            refine hcx.mono ?_
            rintro e wC ⟨rfl, hbC⟩
            have hbWC := hbW.trans (hbC.mono hbW.size)
            go_wp2_with fail
            refine (awake12_any _ (hT.below hbWC)).mono ?_
            rintro e wE ⟨rfl, hbE⟩
            go_wp2_with fail
            go_ret
            exact ⟨rfl, hbWC.trans (hbE.mono hbWC.size)⟩
end Go.Proofs.YtbkacbbhiecnkaaDoor
