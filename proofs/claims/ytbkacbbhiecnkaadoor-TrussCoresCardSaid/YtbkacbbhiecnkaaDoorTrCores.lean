/- The walk of the law on truss numbers and core numbers. -/
import Derived.Test.YtbkacbbhiecnkaaDoorTrCoresP
import Derived.Test.YtbkacbbhiecnkaaDoorRef10
import Derived.Test.YtbkacbbhiecnkaaDoorTrSame
import Derived.Test.YtbkacbbhiecnkaaDoorMkGraph
import Derived.BigRegion
import Derived.BigQuiet
namespace Go.Proofs.YtbkacbbhiecnkaaDoor
open Go.RowKit Go.BigFrame

/-- the graph of a truss in block P -/
structure TruAt (w wx : World) (n : Nat) (es : List E2) (m : Int) (P : Nat) (aT : Option Addr) (cT : Nat) : Prop where
  blk : wx.heap[P]? = some (.cells #[.int .i64 n, .slice aT (truE es n m).length cT] 27 (0, 0))
  ed : EdgesAt wx (.slice aT (truE es n m).length cT) (truE es n m)
  be : Below w.heap.size w wx
set_option maxRecDepth 100000 in
set_option maxHeartbeats 6400000 in
theorem cores_law (a0 : Option Addr) (len0 cap0 : Nat) (k : Int) (w : World) (hl : ListAt w a0 len0) (hT : TzAt w) :
    Calls Tryd.prog 9 #[.slice a0 len0 cap0, .int .i64 k] w fun e w' => e = .returned (.bool true) ∧ Below w.heap.size w w' := by
  have hdk := deck_new (cap := cap0) hl
  have hb1 : Below w.heap.size w (w.alloc (.cells #[.slice a0 len0 cap0, .int .i64 0] 81)) := (Below.refl _ _).alloc (Nat.le_refl _) _
  go_enter Tryd.func9, Tryd.ntmps9
  go_wp2_with (first
    | (go_at_call 18; refine (new_any _ _ _ _).mono ?_; rintro e w' ⟨rfl, rfl⟩)
    | (go_at_call 17; refine (mkgraph_any w.heap.size 8 _ hdk (by omega) (by omega)).mono ?_; rintro e w2 ⟨n0, es, ag, cg, rfl, he2, hv, hn8, -, hg2, -⟩; have hG0 := heap_alloc_new w2 (.cells #[.int .i64 n0, .slice ag es.length cg] 27); have q0 := cell_blk (j := 0) hG0; have q1 := cell_blk (j := 1) hG0))
  have hb2 : Below w.heap.size w w2 := below_deck hb1 hg2 (Nat.le_refl _) hb1.size
  clear q0 q1
  obtain ⟨n, rfl⟩ := Int.eq_ofNat_of_zero_le hv.1
  have hn8 : n ≤ 8 := by omega
  have hel := hv.length_le
  have hbn3 := (Below.refl w2.heap.size w2).alloc (Nat.le_refl _) (.cells #[.int .i64 n, .slice ag es.length cg] 27)
  have hb3 := hb2.trans (hbn3.mono hb2.size)
  have he3 := he2.below hbn3
  obtain ⟨X, hXX⟩ : ∃ X, w2.heap.size = X := ⟨_, rfl⟩
  obtain ⟨w3, hw3⟩ : ∃ W : World, W = w2.alloc (.cells #[.int .i64 n, .slice ag es.length cg] 27) := ⟨_, rfl⟩
  rw [← hw3] at hG0 hb3 he3 ⊢
  rw [hXX] at hG0
  try rw [hXX]
  have hnx : numX (n : Int) es = (numT es n, 0) := by unfold numX; rw [if_neg (by rw [(valid_iff n es).2 hv]; simp), Int.toNat_natCast]
  have hcx : corX (n : Int) es = (corT es n, 0) := by unfold corX; rw [if_neg (by rw [(valid_iff n es).2 hv]; simp), Int.toNat_natCast]
  have hnl := numT_length es n
  have hcl := corT_length es n
  have h1 := tnumbers_any (n : Int) ag cg es _ he3 (hT.below hb3)
  have h2 := fun W h => rnumbers10_any (n : Int) ag cg es W h
  unfold TPost at h1 h2
  rw [hnx] at h1
  rw [hcx] at h2
  dsimp only at h1 h2
  rw [hnl] at h1
  rw [hcl] at h2
  refine h1.mono ?_
  rintro e w4 ⟨aN, cN, rfl, hN4, -, hb4⟩
  have hb04 := hb3.trans (hb4.mono hb3.size)
  have hG4 := lit_next' hb4 hG0
  have he4 := he3.below hb4
  have g0 := cell_blk (j := 0) hG4
  have g1 := cell_blk (j := 1) hG4
  have h2' := h2 _ he4
  clear hdk hb1 hg2 he2 hb2 hbn3 hXX hw3 h1 h2 hb3 hG0 he3 hb4 hnx hcx
  go_wp2_with fail
  refine h2'.mono ?_
  rintro e w5 ⟨aC, cC, rfl, hC5, -, hb5⟩
  have hb05 := hb04.trans (hb5.mono hb04.size)
  have hG5 := lit_next' hb5 hG4
  have he5 := he4.below hb5
  have hN5 := hN4.below hb5
  have hNc : es.length ≤ cN := by obtain ⟨_, _, hv', h, _⟩ := hN5; have e1 := (Value.slice.inj hv').2; rw [hnl] at h; omega
  have hCc : n ≤ cC := by obtain ⟨_, _, hv', h, _⟩ := hC5; have e1 := (Value.slice.inj hv').2; rw [hcl] at h; omega
  have HNL := Lib.hid hnl
  have HCL := Lib.hid hcl
  clear g0 g1 hb04 hG4 he4 hN4 hb5 h2' hnl hcl
  have g1 := cell_blk (j := 1) hG5
  go_wp2_with fail
  clear g1
  go_loopw [44] (fun vi wr => ∃ i : Nat, i ≤ es.length ∧ vi = .int .i64 i ∧ Below w5.heap.size w5 wr) (fun vi _ => es.length - (intOf vi).toNat)
  case atStart => exact ⟨0, Nat.zero_le _, rfl, Below.refl _ _⟩
  case round =>
    obtain ⟨i, hi, rfl, hb⟩ := hrel
    have hbw := hb05.trans (hb.mono hb05.size)
    by_cases hlt : i < es.length
    · have hlt3 : (i : Int) < es.length := by omega
      obtain ⟨b8, o8, rfl, c8⟩ : ∃ b off, aN = some ⟨b, off, none⟩ ∧ wr.cell? ⟨b, off + i, none⟩ = some (.int .i64 (numF es n i)) := by
        obtain ⟨_, _, hv', _, _, _, hc⟩ := hN5.below hb
        have e1 := (Value.slice.inj hv').1
        rw [e1]
        exact hc i _ (fnL_get _ _ _ hlt)
      have hget : es[i]? = some es[i] := List.getElem?_eq_getElem hlt
      obtain ⟨u, v, huv, _, _, _⟩ := edge_at hv i _ hget
      rw [huv] at hget
      obtain ⟨k0, k1, k2, hu, hvn⟩ := cores_gt hv i u v hget
      obtain ⟨b, off, rfl, c0, c1⟩ : ∃ b off, ag = some ⟨b, off, none⟩ ∧ wr.cell? ⟨b, off + i * 2, none⟩ = some (.int .i64 (u : Int)) ∧ wr.cell? ⟨b, off + i * 2 + 1, none⟩ = some (.int .i64 (v : Int)) := by
        obtain ⟨_, _, hv', _, _, _, hc⟩ := he5.below hb
        have e1 := (Value.slice.inj hv').1
        rw [e1]
        exact hc i _ hget
      have hcell : ∀ x, x < n → ∃ b off, aC = some ⟨b, off, none⟩ ∧ wr.cell? ⟨b, off + x, none⟩ = some (.int .i64 (corF es n x)) := fun x hx => by
        obtain ⟨_, _, hv', _, _, _, hc⟩ := hC5.below hb
        have e1 := (Value.slice.inj hv').1
        rw [e1]
        exact hc x _ (fnL_get _ _ _ hx)
      obtain ⟨b9, o9, rfl, d0⟩ := hcell u hu
      obtain ⟨_, _, e9, d1⟩ := hcell v hvn
      cases e9
      have hce : es.length ≤ cg := by obtain ⟨_, _, hv', h1, _⟩ := he5; cases hv'; exact h1
      have hbE := (Below.refl wr.heap.size wr).alloc (Nat.le_refl _) (.cells #[.int .i64 (u : Int), .int .i64 (v : Int)] 42)
      have hE := heap_alloc_new wr (.cells #[.int .i64 (u : Int), .int .i64 (v : Int)] 42)
      have hbE2 := hb.alloc hb.size (.cells #[.int .i64 (u : Int), .int .i64 (v : Int)] 42)
      have c8E := (hbE.cell (p := ⟨b8, o8 + i, none⟩) (cell_lt c8)).trans c8
      have d0E := (hbE.cell (p := ⟨b9, o9 + u, none⟩) (cell_lt d0)).trans d0
      have d1E := (hbE.cell (p := ⟨b9, o9 + v, none⟩) (cell_lt d1)).trans d1
      obtain ⟨Q, hQ⟩ : ∃ Q, wr.heap.size = Q := ⟨_, rfl⟩
      obtain ⟨wE, hwE⟩ : ∃ W : World, W = wr.alloc (.cells #[.int .i64 (u : Int), .int .i64 (v : Int)] 42) := ⟨_, rfl⟩
      obtain ⟨z, hz⟩ : ∃ z, numF es n i = z := ⟨_, rfl⟩
      obtain ⟨cu, hcu⟩ : ∃ z, corF es n u = z := ⟨_, rfl⟩
      obtain ⟨cv, hcv⟩ : ∃ z, corF es n v = z := ⟨_, rfl⟩
      rw [hz] at c8E k0 k1 k2
      rw [hcu] at d0E k1
      rw [hcv] at d1E k2
      have t0 : decide (z < 0) = false := decide_eq_false (by omega)
      have t1 : decide (cu ≤ z) = false := decide_eq_false (by omega)
      have t2 : decide (cv ≤ z) = false := decide_eq_false (by omega)
      have hu3 : (u : Int) < n := by omega
      have hv3 : (v : Int) < n := by omega
      clear hz hcu hcv c8 d0 d1 hget huv hcell k0 k1 k2
      go_wp2_with fail
      rw [← hwE] at hE hbE2 c8E d0E d1E ⊢
      rw [hQ] at hE
      try rw [hQ]
      clear hwE hQ hbE c0 c1
      have q0 := cell_blk (j := 0) hE
      have q1 := cell_blk (j := 1) hE
      go_quiet (fail)
      go_wp2_with fail
      go_roundw
      case rel => exact ⟨i + 1, by omega, by go_num, hbE2.drewN _⟩
      case measure => simp [intOf]; omega
    · obtain rfl : i = es.length := by omega
      have hGR := lit_next' hb hG5
      have heR := he5.below hb
      clear hG5 he5 hN5 hC5 hb05 hb
      have hmb := modS_bd k 6 (by omega)
      have hmod := fun W => mod_any k 6 W (by omega) (by omega)
      obtain ⟨m, hm⟩ : ∃ m, modS k 6 = m := ⟨_, rfl⟩
      rw [hm] at hmb hmod
      clear hm
      have v1 : IntKind.i64.wrap (m + 1) = m + 1 := IntWalk.i64_in _ (by omega)
      go_upto_region 12 with fail
      go_cut [12, 13] from 79 to 85 (fun p e wx => ∃ (P : Nat) (aT : Option Addr) (cT : Nat), p = .pointer (some ⟨P, 0, none⟩) ∧ e = .int .i64 0 ∧ TruAt wr wx n es m P aT cT)
      case first =>
        have g0 := cell_blk (j := 0) hGR
        have g1 := cell_blk (j := 1) hGR
        have hbz := (Below.refl wr.heap.size wr).alloc (Nat.le_refl _) (.cells #[.int .i64 0, .slice none 0 0] 27)
        have hGZ := lit_next' hbz hGR
        have hZ := heap_alloc_new wr (.cells #[.int .i64 0, .slice none 0 0] 27)
        have gz0 := cell_blk (j := 0) hGZ
        have gz1 := cell_blk (j := 1) hGZ
        have hX1 : truX n es m = ((n : Int), truE es n m, 0) := by
          unfold truX
          rw [if_neg (by rw [(valid_iff n es).2 hv]; simp), Int.toNat_natCast]; rfl
        have hA := ttruss_any (n : Int) m ag cg es wr.drew (heR.below (Below.refl _ _).drew) (hT.below (hbw.trans ((Below.refl _ _).drew)))
        have hB := ttruss_any (n : Int) m ag cg es _ ((heR.below hbz).below (Below.refl _ _).drew) (hT.below ((hbw.trans (hbz.mono hbw.size)).drew))
        unfold GPost at hA hB
        rw [hX1] at hA hB
        dsimp only at hA hB
        clear hX1
        go_region_law (first
          | (go_simp; go_at_call 54; (with_reducible refine (hmod _).mono ?_); rintro e w' ⟨rfl, rfl⟩)
          | (go_simp; go_at_call 58; (with_reducible refine hA.mono ?_); rintro e w6 ⟨aT, cT, rfl, heT, -, hb6⟩)
          | (go_simp; go_at_call 58; (with_reducible refine hB.mono ?_); rintro e w6 ⟨aT, cT, rfl, heT, ho6, hb6⟩; have hP := lit_next' hb6 hZ; have p0 := cell_blk (j := 0) hP; have p1 := cell_blk (j := 1) hP; have f0 := free_blk (j := 0) hP; have f1 := free_blk (j := 1) hP))
        all_goals
          go_wp2_with fail
          go_meet
          first
            | (have hb6' : Below wr.heap.size wr w6 := (Below.refl _ _).drew.trans hb6
               exact ⟨w6.heap.size, aT, cT, rfl, rfl, heap_alloc_new _ _, heT.below ((Below.refl _ _).alloc (Nat.le_refl _) _), hb6'.alloc hb6'.size _⟩)
            | (have hb6' : Below wr.heap.size wr w6 := hbz.drew.trans (hb6.mono hbz.size)
               have hz6 : wr.heap.size + 1 = (wr.alloc (.cells #[.int .i64 0, .slice none 0 0] 27)).heap.size := by simp
               exact ⟨wr.heap.size, aT, cT, rfl, rfl, set_two hP, heT.grown (grown_trans grown_store grown_store) (fun g e n' c' p hp => by cases e; have h9 : (wr.alloc (.cells #[.int .i64 0, .slice none 0 0] 27)).heap.size ≤ p.block := ho6 p (Value.slice.inj hp).1; omega), hb6'.grown (grown_trans grown_store grown_store) hb6'.size (fun k hk => by cases hk; exact Nat.le_refl _)⟩)
      case rest =>
      obtain ⟨P, aT, cT, rfl, rfl, hTru⟩ := hcut
      obtain ⟨w7, hw7⟩ : ∃ W : World, W = wc := ⟨_, rfl⟩
      rw [← hw7] at hTru ⊢
      clear hw7
      have hG7 := lit_next' hTru.be hGR
      have he7 := heR.below hTru.be
      have hb07 := hbw.trans (hTru.be.mono hbw.size)
      clear hGR heR hbw
      go_upto_region 13 with fail
      go_cut [14, 15] from 86 to 93 (fun p e wx => ∃ (P : Nat) (aT : Option Addr) (cT : Nat), p = .pointer (some ⟨P, 0, none⟩) ∧ e = .int .i64 0 ∧ TruAt w7 wx n es (m + 1) P aT cT)
      case first =>
        have g0 := cell_blk (j := 0) hG7
        have g1 := cell_blk (j := 1) hG7
        have hbz := (Below.refl w7.heap.size w7).alloc (Nat.le_refl _) (.cells #[.int .i64 0, .slice none 0 0] 27)
        have hGZ := lit_next' hbz hG7
        have hZ := heap_alloc_new w7 (.cells #[.int .i64 0, .slice none 0 0] 27)
        have gz0 := cell_blk (j := 0) hGZ
        have gz1 := cell_blk (j := 1) hGZ
        have hX1 : truX n es (m + 1) = ((n : Int), truE es n (m + 1), 0) := by
          unfold truX
          rw [if_neg (by rw [(valid_iff n es).2 hv]; simp), Int.toNat_natCast]; rfl
        have hA := ttruss_any (n : Int) (m + 1) ag cg es w7.drew (he7.below (Below.refl _ _).drew) (hT.below (hb07.trans ((Below.refl _ _).drew)))
        have hB := ttruss_any (n : Int) (m + 1) ag cg es _ ((he7.below hbz).below (Below.refl _ _).drew) (hT.below ((hb07.trans (hbz.mono hb07.size)).drew))
        unfold GPost at hA hB
        rw [hX1] at hA hB
        dsimp only at hA hB
        clear hX1
        go_region_law (first
          | (go_simp; go_at_call 54; (with_reducible refine (hmod _).mono ?_); rintro e w' ⟨rfl, rfl⟩)
          | (go_simp; go_at_call 58; (with_reducible refine hA.mono ?_); rintro e w6 ⟨aT, cT, rfl, heT, -, hb6⟩)
          | (go_simp; go_at_call 58; (with_reducible refine hB.mono ?_); rintro e w6 ⟨aT, cT, rfl, heT, ho6, hb6⟩; have hP := lit_next' hb6 hZ; have p0 := cell_blk (j := 0) hP; have p1 := cell_blk (j := 1) hP; have f0 := free_blk (j := 0) hP; have f1 := free_blk (j := 1) hP))
        all_goals
          go_wp2_with fail
          go_meet
          first
            | (have hb6' : Below w7.heap.size w7 w6 := (Below.refl _ _).drew.trans hb6
               exact ⟨w6.heap.size, aT, cT, rfl, rfl, heap_alloc_new _ _, heT.below ((Below.refl _ _).alloc (Nat.le_refl _) _), hb6'.alloc hb6'.size _⟩)
            | (have hb6' : Below w7.heap.size w7 w6 := hbz.drew.trans (hb6.mono hbz.size)
               have hz6 : w7.heap.size + 1 = (w7.alloc (.cells #[.int .i64 0, .slice none 0 0] 27)).heap.size := by simp
               exact ⟨w7.heap.size, aT, cT, rfl, rfl, set_two hP, heT.grown (grown_trans grown_store grown_store) (fun g e n' c' p hp => by cases e; have h9 : (w7.alloc (.cells #[.int .i64 0, .slice none 0 0] 27)).heap.size ≤ p.block := ho6 p (Value.slice.inj hp).1; omega), hb6'.grown (grown_trans grown_store grown_store) hb6'.size (fun k hk => by cases hk; exact Nat.le_refl _)⟩)
      case rest =>
      obtain ⟨P2, aT2, cT2, rfl, rfl, hTru2⟩ := hcut
      have hP := lit_next' hTru2.be hTru.blk
      have heP := hTru.ed.below hTru2.be
      have hb08 := hb07.trans (hTru2.be.mono hb07.size)
      have hP2 := hTru2.blk
      have heP2 := hTru2.ed
      have hvT := truE_valid hv m
      have HNEST : Hid (∀ x y, (x, y) ∈ truE es n (m + 1) → 0 ≤ findS (truE es n m) x y) := truE_nest hv m
      have hTl := hvT.length_le
      have hTl2 := (truE_valid hv (m + 1)).length_le
      obtain ⟨T, hTT⟩ : ∃ T, truE es n m = T := ⟨_, rfl⟩
      obtain ⟨T2, hTT2⟩ : ∃ T, truE es n (m + 1) = T := ⟨_, rfl⟩
      rw [hTT] at hP heP hvT HNEST hTl
      rw [hTT2] at hP2 heP2 HNEST hTl2
      have hfi := fun x y W h => find_any (n : Int) aT cT T x y W h hvT
      clear hTru hTru2 hG7 he7 hb07 hTT hTT2 hmod
      have g1 := cell_blk (j := 1) hP2
      obtain ⟨w8, hw8⟩ : ∃ W : World, W = wc := ⟨_, rfl⟩
      rw [← hw8] at hP heP hb08 hP2 heP2 g1 ⊢
      clear hw8
      go_wp2_with fail
      clear g1
      go_loopw [97] (fun vi wr => ∃ i : Nat, i ≤ T2.length ∧ vi = .int .i64 i ∧ Below w8.heap.size w8 wr) (fun vi _ => T2.length - (intOf vi).toNat)
      case atStart => exact ⟨0, Nat.zero_le _, rfl, Below.refl _ _⟩
      case round =>
        obtain ⟨i, hi, rfl, hb⟩ := hrel
        have hbw := hb08.trans (hb.mono hb08.size)
        by_cases hlt : i < T2.length
        · have hlt3 : (i : Int) < T2.length := by omega
          obtain ⟨b, off, x, y, rfl, hget, _, _, c0, c1⟩ := (heP2.below hb).at i hlt
          have hce : T2.length ≤ cT2 := by obtain ⟨_, _, hv', h1, _⟩ := heP2; cases hv'; exact h1
          have hnst := HNEST.out x y (List.mem_of_getElem? hget)
          have hbE := (Below.refl wr.heap.size wr).alloc (Nat.le_refl _) (.cells #[.int .i64 x, .int .i64 y] 42)
          have hE := heap_alloc_new wr (.cells #[.int .i64 x, .int .i64 y] 42)
          have hPE := lit_next' hbE (lit_next' hb hP)
          have hfi2 := hfi x y _ ((heP.below hb).below hbE)
          have hbE2 := hb.alloc hb.size (.cells #[.int .i64 x, .int .i64 y] 42)
          obtain ⟨F, hF⟩ : ∃ F, findS T x y = F := ⟨_, rfl⟩
          rw [hF] at hfi2 hnst
          have dF : decide (F < 0) = false := decide_eq_false (by omega)
          have p0 := cell_blk (j := 0) hPE
          have p1 := cell_blk (j := 1) hPE
          have q0 := cell_blk (j := 0) hE
          have q1 := cell_blk (j := 1) hE
          clear hF hnst hget hPE hE hbE HNEST
          go_wp2_with fail
          refine hfi2.mono ?_
          rintro e wF ⟨rfl, hbF⟩
          go_wp2_with fail
          go_roundw
          case rel => exact ⟨i + 1, by omega, by go_num, hbE2.trans (hbF.mono hbE2.size)⟩
          case measure => simp [intOf]; omega
        · obtain rfl : i = T2.length := by omega
          go_wp2_with fail
          refine (awake12_any _ (hT.below hbw)).mono ?_
          rintro e wE ⟨rfl, hbE⟩
          go_wp2_with fail
          go_ret
          exact ⟨rfl, hbw.trans (hbE.mono hbw.size)⟩
end Go.Proofs.YtbkacbbhiecnkaaDoor
