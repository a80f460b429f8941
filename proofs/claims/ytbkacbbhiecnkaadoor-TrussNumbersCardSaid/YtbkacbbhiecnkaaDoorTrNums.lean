/- The walk of the law on supports, truss numbers, trusses and orders. -/
import Derived.Test.YtbkacbbhiecnkaaDoorTrSame
import Derived.Test.YtbkacbbhiecnkaaDoorMkGraph
namespace Go.Proofs.YtbkacbbhiecnkaaDoor
open Go.RowKit Go.BigFrame

theorem EdgesAt.lenle {w : World} {v : Value} {es : List E2} (h : EdgesAt w v es) : es.length ≤ 70368744177664 := by
  obtain ⟨_, _, _, _, _, h3, _⟩ := h; exact h3
theorem list_below {w w' : World} {a : Option Addr} {len : Nat} (h : ListAt w a len) {B : Nat} (hb : Below B w w') (hB : w.heap.size ≤ B) : ListAt w' a len :=
  ⟨h.1, fun j hj => by
    obtain ⟨c, off, x, ha, hc, hx⟩ := h.2 j hj
    exact ⟨c, off, x, ha, ((hb.mono hB).cell (p := ⟨c, off + j, none⟩) (cell_lt hc)).trans hc, hx⟩⟩
/-- two graphs in block L -/
structure G2 (w : World) (L : Nat) (N : Nat → Int) (E : Nat → List E2) (A : Nat → Option Addr) (C : Nat → Nat) : Prop where
  cell : ∀ k, k < 2 → w.cell? ⟨L, k * 2, none⟩ = some (.int .i64 (N k)) ∧ w.cell? ⟨L, k * 2 + 1, none⟩ = some (.slice (A k) (E k).length (C k))
  edges : ∀ k, k < 2 → EdgesAt w (.slice (A k) (E k).length (C k)) (E k)
theorem G2.below {w w' : World} {L : Nat} {N : Nat → Int} {E : Nat → List E2} {A : Nat → Option Addr} {C : Nat → Nat} (h : G2 w L N E A C) (hb : Below w.heap.size w w') : G2 w' L N E A C :=
  ⟨fun k hk => ⟨(hb.cell (p := ⟨L, k * 2, none⟩) (cell_lt (h.cell k hk).1)).trans (h.cell k hk).1, (hb.cell (p := ⟨L, k * 2 + 1, none⟩) (cell_lt (h.cell k hk).2)).trans (h.cell k hk).2⟩, fun k hk => (h.edges k hk).below hb⟩
def pk2 {α : Type} (x y : α) : Nat → α
  | 0 => x
  | _ => y
theorem g2_of {w : World} {L T : Nat} {n0 n1 : Int} {e0 e1 : List E2} {a0 a1 : Option Addr} {c0 c1 : Nat}
    (h : w.heap[L]? = some (.cells #[.int .i64 n0, .slice a0 e0.length c0, .int .i64 n1, .slice a1 e1.length c1] T (0, 0)))
    (h0 : EdgesAt w (.slice a0 e0.length c0) e0) (h1 : EdgesAt w (.slice a1 e1.length c1) e1) : G2 w L (pk2 n0 n1) (pk2 e0 e1) (pk2 a0 a1) (pk2 c0 c1) := by
  refine ⟨fun k hk => ?_, fun k hk => ?_⟩
  · rcases (by omega : k = 0 ∨ k = 1) with rfl | rfl <;> exact ⟨by rw [cell_blk h]; rfl, by rw [cell_blk h]; rfl⟩
  · rcases (by omega : k = 0 ∨ k = 1) with rfl | rfl
    · exact h0
    · exact h1
set_option maxRecDepth 100000 in
set_option maxHeartbeats 6400000 in
theorem numbers_law (rn : Int) (ra : Option Addr) (rlen rcap : Nat) (a1 : Option Addr) (len1 cap1 : Nat) (k : Int) (res : List E2) (w : World) (hl : ListAt w a1 len1) (hT : TzAt w)
    (hrs : rlen ≤ 28 → res.length = rlen ∧ EdgesAt w (.slice ra res.length rcap) res) :
    Calls Tryd.prog 10 #[.agg #[.int .i64 rn, .slice ra rlen rcap], .slice a1 len1 cap1, .int .i64 k] w fun e w' => e = .returned (.bool true) ∧ Below w.heap.size w w' := by
  have hbX : Below w.heap.size w (w.alloc (.cells #[.int .i64 rn, .slice ra rlen rcap] 27)) := (Below.refl _ _).alloc (Nat.le_refl _) _
  have hX0 := heap_alloc_new w (.cells #[.int .i64 rn, .slice ra rlen rcap] 27)
  by_cases hr : rlen ≤ 28
  case neg =>
    go_enter Tryd.func10, Tryd.ntmps10
    go_wp2_with fail
    refine (light12_no rn ra rlen rcap _ (by omega)).mono ?_
    rintro e w1 ⟨rfl, hb1⟩
    have hb01 := hbX.trans (hb1.mono hbX.size)
    go_wp2_with fail
    refine (awake12_any _ (hT.below hb01)).mono ?_
    rintro e w2 ⟨rfl, hb2⟩
    go_wp2_with fail
    go_ret
    exact ⟨rfl, hb01.trans (hb2.mono hb01.size)⟩
  obtain ⟨hrl, hre⟩ := hrs hr
  clear hrs
  subst hrl
  have hlg := light12_any rn ra rcap res _ (hre.below hbX) hr
  obtain ⟨B, hB⟩ : ∃ B, ligB rn res = B := ⟨_, rfl⟩
  rw [hB] at hlg
  clear hB
  cases B with
  | false =>
    go_enter Tryd.func10, Tryd.ntmps10
    go_wp2_with fail
    refine hlg.mono ?_
    rintro e w1 ⟨rfl, hb1⟩
    have hb01 := hbX.trans (hb1.mono hbX.size)
    go_wp2_with fail
    refine (awake12_any _ (hT.below hb01)).mono ?_
    rintro e w2 ⟨rfl, hb2⟩
    go_wp2_with fail
    go_ret
    exact ⟨rfl, hb01.trans (hb2.mono hb01.size)⟩
  | true =>
  go_enter Tryd.func10, Tryd.ntmps10
  go_wp2_with fail
  refine hlg.mono ?_
  rintro e w1 ⟨rfl, hb1⟩
  have hb01 := hbX.trans (hb1.mono hbX.size)
  have hX1 := lit_next' hb1 hX0
  have hl1 := list_below hl hb01 (Nat.le_refl _)
  have hdk := deck_new (cap := cap1) hl1
  have hb02 := hb01.alloc hb01.size (.cells #[.slice a1 len1 cap1, .int .i64 0] 81)
  have hX2 := lit_next' ((Below.refl w1.heap.size w1).alloc (Nat.le_refl _) (.cells #[.slice a1 len1 cap1, .int .i64 0] 81)) hX1
  have hwb : w.heap.size < w1.heap.size := blk_lt hX1
  clear hbX hX0 hlg hb1 hX1 hl1 hl
  go_wp2_with (first
    | (go_at_call 18; refine (new_any _ _ _ _).mono ?_; rintro e w' ⟨rfl, rfl⟩)
    | (go_at_call 17; refine (mkgraph_any w1.heap.size 7 _ hdk (by omega) (by omega)).mono ?_; rintro e w3 ⟨n0, es0, ag, cg, rfl, he3, -, -, -, hg3, -⟩; have hb03 : Below w.heap.size w w3 := below_deck hb02 hg3 (by omega) hb02.size; have hX3 := grown_blk hg3 hX2 (by intro e; have := Option.some.inj e; omega); have hbn := (Below.refl w3.heap.size w3).alloc (Nat.le_refl _) (.cells #[.int .i64 n0, .slice ag es0.length cg] 27); have hX4 := lit_next' hbn hX3; have x0 := cell_blk (j := 0) hX4; have x1 := cell_blk (j := 1) hX4))
  have hz4 : (w3.alloc (.cells #[.int .i64 n0, .slice ag es0.length cg] 27)).heap.size = w3.heap.size + 1 := by simp
  have hb04 := hb03.trans (hbn.mono hb03.size)
  have hbL := (Below.refl _ (w3.alloc (.cells #[.int .i64 n0, .slice ag es0.length cg] 27))).alloc (Nat.le_refl _) (.cells #[.int .i64 n0, .slice ag es0.length cg, .int .i64 rn, .slice ra res.length rcap] 27)
  have hG := g2_of (heap_alloc_new (w3.alloc (.cells #[.int .i64 n0, .slice ag es0.length cg] 27)) (.cells #[.int .i64 n0, .slice ag es0.length cg, .int .i64 rn, .slice ra res.length rcap] 27)) ((he3.below hbn).below hbL) ((hre.below hb04).below hbL)
  have hb0L := hb04.trans (hbL.mono hb04.size)
  rw [hz4] at hG
  obtain ⟨L, hL⟩ : ∃ L, w3.heap.size + 1 = L := ⟨_, rfl⟩
  obtain ⟨wL, hwL⟩ : ∃ W : World, W = (w3.alloc (.cells #[.int .i64 n0, .slice ag es0.length cg] 27)).alloc (.cells #[.int .i64 n0, .slice ag es0.length cg, .int .i64 rn, .slice ra res.length rcap] 27) := ⟨_, rfl⟩
  rw [← hwL] at hG hb0L ⊢
  rw [hL] at hG ⊢
  obtain ⟨N, hN⟩ : ∃ N, pk2 n0 rn = N := ⟨_, rfl⟩
  obtain ⟨E, hE⟩ : ∃ E, pk2 es0 res = E := ⟨_, rfl⟩
  obtain ⟨A, hA⟩ : ∃ A, pk2 ag ra = A := ⟨_, rfl⟩
  obtain ⟨C, hC⟩ : ∃ C, pk2 cg rcap = C := ⟨_, rfl⟩
  rw [hN, hE, hA, hC] at hG
  clear hN hE hA hC hre hz4 hb04 hbL hL hwL hb03 hX3 hbn hX4 x0 x1 hg3 he3 hb02 hb01 hwb hX2 hdk
  go_loopw [39] (fun vi wr => ∃ j : Nat, j ≤ 2 ∧ vi = .int .i64 j ∧ Below wL.heap.size wL wr) (fun vi _ => 2 - (intOf vi).toNat)
  case atStart => exact ⟨0, by omega, rfl, Below.refl _ _⟩
  case round =>
    obtain ⟨j, hj, rfl, hb⟩ := hrel
    have hbw := hb0L.trans (hb.mono hb0L.size)
    by_cases hlt : j < 2
    · have hdj : decide ((j : Int) < 2) = true := by simp; omega
      have hdj2 : decide (j < 2) = true := by simpa using hlt
      have hj3 : (j : Int) < 2 := by omega
      obtain ⟨c0, c1⟩ := (hG.below hb).cell j hlt
      have hed := (hG.below hb).edges j hlt
      obtain ⟨n, hn⟩ : ∃ n, N j = n := ⟨_, rfl⟩
      obtain ⟨es, hes⟩ : ∃ es, E j = es := ⟨_, rfl⟩
      obtain ⟨a, ha⟩ : ∃ a, A j = a := ⟨_, rfl⟩
      obtain ⟨cap, hcap⟩ : ∃ cap, C j = cap := ⟨_, rfl⟩
      rw [hes, ha, hcap] at hed c1
      rw [hn] at c0
      clear hn hes ha hcap
      have hbn := (Below.refl wr.heap.size wr).alloc (Nat.le_refl _) (.cells #[.int .i64 n, .slice a es.length cap] 27)
      have hX := heap_alloc_new wr (.cells #[.int .i64 n, .slice a es.length cap] 27)
      have hed1 := hed.below hbn
      have hT1 := hT.below (hbw.trans (hbn.mono hbw.size))
      have hbx := hb.alloc hb.size (.cells #[.int .i64 n, .slice a es.length cap] 27)
      have hs1 := tsupport_any n a cap es _ hed1 hT1
      have hs2 := fun W h => rsupport12_any n a cap es W h
      have hm1 := fun W h hT => tnumbers_any n a cap es W h hT
      have hm2 := fun W h => rnumbers12_any n a cap es W h
      have ho1 := fun W h hT => torder_any n a cap es W h hT
      have ho2 := fun W h => rorder12_any n a cap es W h
      obtain ⟨S, s, hS⟩ : ∃ S s, supX n es = (S, s) := ⟨_, _, rfl⟩
      obtain ⟨M, m, hM⟩ : ∃ S s, numX n es = (S, s) := ⟨_, _, rfl⟩
      obtain ⟨O, o, hO⟩ : ∃ S s, ordX n es = (S, s) := ⟨_, _, rfl⟩
      unfold TPost at hs1 hs2 hm1 hm2 ho1 ho2
      rw [hS] at hs1 hs2
      rw [hM] at hm1 hm2
      rw [hO] at ho1 ho2
      dsimp only at hs1 hs2 hm1 hm2 ho1 ho2
      have e1 : (s != s) = false := by simp
      have e2 : (m != m) = false := by simp
      have e3 : (o != o) = false := by simp
      clear hS hM hO hed
      go_wp2_with fail
      refine hs1.mono ?_
      obtain ⟨X, hXX⟩ : ∃ X, wr.heap.size = X := ⟨_, rfl⟩
      rw [hXX] at hX ⊢
      rintro e wA ⟨as1, cs1, rfl, hS1, -, hb1⟩
      have hX1 := lit_next' hb1 hX
      have hed2 := hed1.below hb1
      have hT2 := hT1.below hb1
      have hbx1 := hbx.trans (hb1.mono hbx.size)
      have g0 := cell_blk (j := 0) hX1
      have g1 := cell_blk (j := 1) hX1
      clear hs1 hXX hX hed1 hT1 hbx hb1 hbn
      go_wp2_with fail
      refine (hs2 _ hed2).mono ?_
      rintro e wB ⟨as2, cs2, rfl, hS2, -, hb⟩
      have hX2 := lit_next' hb hX1
      have hed3 := hed2.below hb
      have hT3 := hT2.below hb
      have hbx2 := hbx1.trans (hb.mono hbx1.size)
      have hS1' := hS1.below hb
      clear hS1
      have hS1 := hS1'
      clear hS1'
      clear g0 g1
      have g0 := cell_blk (j := 0) hX2
      have g1 := cell_blk (j := 1) hX2
      clear hX1 hed2 hT2 hbx1 hb
      go_wp2_with fail
      refine (hm1 _ hed3 hT3).mono ?_
      rintro e wC ⟨am1, cm1, rfl, hM1, -, hb⟩
      have hX3 := lit_next' hb hX2
      have hed4 := hed3.below hb
      have hT4 := hT3.below hb
      have hbx3 := hbx2.trans (hb.mono hbx2.size)
      have hS1' := hS1.below hb
      clear hS1
      have hS1 := hS1'
      clear hS1'
      have hS2' := hS2.below hb
      clear hS2
      have hS2 := hS2'
      clear hS2'
      clear g0 g1
      have g0 := cell_blk (j := 0) hX3
      have g1 := cell_blk (j := 1) hX3
      clear hX2 hed3 hT3 hbx2 hb
      go_wp2_with fail
      refine (hm2 _ hed4).mono ?_
      rintro e wD ⟨am2, cm2, rfl, hM2, -, hb⟩
      have hX4 := lit_next' hb hX3
      have hed5 := hed4.below hb
      have hT5 := hT4.below hb
      have hbx4 := hbx3.trans (hb.mono hbx3.size)
      have hS1' := hS1.below hb
      clear hS1
      have hS1 := hS1'
      clear hS1'
      have hS2' := hS2.below hb
      clear hS2
      have hS2 := hS2'
      clear hS2'
      have hM1' := hM1.below hb
      clear hM1
      have hM1 := hM1'
      clear hM1'
      clear g0 g1
      have g0 := cell_blk (j := 0) hX4
      have g1 := cell_blk (j := 1) hX4
      clear hX3 hed4 hT4 hbx3 hb
      go_wp2_with fail
      refine (ho1 _ hed5 hT5).mono ?_
      rintro e wE ⟨ao1, co1, rfl, hO1, -, hb⟩
      have hX5 := lit_next' hb hX4
      have hed6 := hed5.below hb
      have hT6 := hT5.below hb
      have hbx5 := hbx4.trans (hb.mono hbx4.size)
      have hS1' := hS1.below hb
      clear hS1
      have hS1 := hS1'
      clear hS1'
      have hS2' := hS2.below hb
      clear hS2
      have hS2 := hS2'
      clear hS2'
      have hM1' := hM1.below hb
      clear hM1
      have hM1 := hM1'
      clear hM1'
      have hM2' := hM2.below hb
      clear hM2
      have hM2 := hM2'
      clear hM2'
      clear g0 g1
      have g0 := cell_blk (j := 0) hX5
      have g1 := cell_blk (j := 1) hX5
      clear hX4 hed5 hT5 hbx4 hb
      go_wp2_with fail
      refine (ho2 _ hed6).mono ?_
      rintro e wF ⟨ao2, co2, rfl, hO2, -, hb⟩
      have hX6 := lit_next' hb hX5
      have hed7 := hed6.below hb
      have hT7 := hT6.below hb
      have hbx6 := hbx5.trans (hb.mono hbx5.size)
      have hS1' := hS1.below hb
      clear hS1
      have hS1 := hS1'
      clear hS1'
      have hS2' := hS2.below hb
      clear hS2
      have hS2 := hS2'
      clear hS2'
      have hM1' := hM1.below hb
      clear hM1
      have hM1 := hM1'
      clear hM1'
      have hM2' := hM2.below hb
      clear hM2
      have hM2 := hM2'
      clear hM2'
      have hO1' := hO1.below hb
      clear hO1
      have hO1 := hO1'
      clear hO1'
      clear g0 g1
      have g0 := cell_blk (j := 0) hX6
      have g1 := cell_blk (j := 1) hX6
      clear hX5 hed6 hT6 hbx5 hb
      go_wp2_with fail
      refine (rsame_same as1 as2 cs1 cs2 S _ hS1 hS2).mono ?_
      rintro e wG ⟨rfl, hb⟩
      have hX7 := lit_next' hb hX6
      have hed8 := hed7.below hb
      have hT8 := hT7.below hb
      have hbx7 := hbx6.trans (hb.mono hbx6.size)
      have hM1' := hM1.below hb
      have hM2' := hM2.below hb
      have hO1' := hO1.below hb
      have hO2' := hO2.below hb
      clear hX6 hed7 hT7 hbx6 hb hM1 hM2 hO1 hO2 hS1 hS2 g0 g1
      go_wp2_with fail
      refine (rsame_same am1 am2 cm1 cm2 M _ hM1' hM2').mono ?_
      rintro e wH ⟨rfl, hb⟩
      have hX8 := lit_next' hb hX7
      have hed9 := hed8.below hb
      have hT9 := hT8.below hb
      have hbx8 := hbx7.trans (hb.mono hbx7.size)
      have hO1 := hO1'.below hb
      have hO2 := hO2'.below hb
      clear hX7 hed8 hT8 hbx7 hb hM1' hM2' hO1' hO2'
      go_wp2_with fail
      refine (rsame_same ao1 ao2 co1 co2 O _ hO1 hO2).mono ?_
      rintro e wI ⟨rfl, hb⟩
      have hX9 := lit_next' hb hX8
      have hed10 := hed9.below hb
      have hT10 := hT9.below hb
      have hbx9 := hbx8.trans (hb.mono hbx8.size)
      clear hX8 hed9 hT9 hbx8 hb hO1 hO2
      go_wp2_with fail
      refine (mod_any k 6 _ (by omega) (by omega)).mono ?_
      rintro e w' ⟨rfl, rfl⟩
      have hmb := modS_bd k 6 (by omega)
      have v1 : IntKind.i64.wrap (modS k 6 - 1) = modS k 6 - 1 := IntWalk.i64_in _ (by omega)
      obtain ⟨mz, hmz⟩ : ∃ mz, modS k 6 = mz := ⟨_, rfl⟩
      rw [hmz] at v1 ⊢
      clear hmz hmb
      go_wp2_with fail
      have hbv := (Below.refl wI.heap.size wI).alloc (Nat.le_refl _) (.cells #[.int .i64 k, .int .i64 (mz - 1)] 3)
      have hV := heap_alloc_new wI (.cells #[.int .i64 k, .int .i64 (mz - 1)] 3)
      have hXV := lit_next' hbv hX9
      have hedV := hed10.below hbv
      have hTV := hT10.below hbv
      have hbxV := hbx9.trans (hbv.mono hbx9.size)
      obtain ⟨V, hVV⟩ : ∃ V, wI.heap.size = V := ⟨_, rfl⟩
      obtain ⟨wV, hwV⟩ : ∃ W : World, W = wI.alloc (.cells #[.int .i64 k, .int .i64 (mz - 1)] 3) := ⟨_, rfl⟩
      rw [← hwV] at hV hXV hedV hTV hbxV ⊢
      rw [hVV] at hV ⊢
      clear hbv hX9 hed10 hT10 hbx9 hVV hwV v1
      go_loopw [110] (fun vi wr => ∃ i : Nat, i ≤ 2 ∧ vi = .int .i64 i ∧ Below wV.heap.size wV wr) (fun vi _ => 2 - (intOf vi).toNat)
      case atStart => exact ⟨0, by omega, rfl, Below.refl _ _⟩
      case round =>
        obtain ⟨i, hi, rfl, hb2⟩ := hrel
        by_cases hlti : i < 2
        · have hdi : decide ((i : Int) < 2) = true := by simp; omega
          have hdi2 : decide (i < 2) = true := by simpa using hlti
          have hi3 : (i : Int) < 2 := by omega
          obtain ⟨y, y0⟩ : ∃ y : Int, wr.cell? ⟨V, i, none⟩ = some (.int .i64 y) := by
            have hV := lit_next' hb2 hV
            rcases (by omega : i = 0 ∨ i = 1) with rfl | rfl
            · exact ⟨k, by rw [cell_blk hV]; rfl⟩
            · exact ⟨mz - 1, by rw [cell_blk hV]; rfl⟩
          have hXr := lit_next' hb2 hXV
          have hedr := hedV.below hb2
          have g0 := cell_blk (j := 0) hXr
          have g1 := cell_blk (j := 1) hXr
          have hk1 := ttruss_any n y a cap es _ hedr (hTV.below hb2)
          have hk2 := fun W h => rtrussG_any n y a cap es W h
          obtain ⟨N', E', C', hq⟩ : ∃ N' E' C', truX n es y = (N', E', C') := ⟨_, _, _, rfl⟩
          unfold GPost at hk1 hk2
          rw [hq] at hk1 hk2
          dsimp only at hk1 hk2
          have e1 : (C' != C') = false := by simp
          clear hq
          go_wp2_with fail
          refine hk1.mono ?_
          rintro e wJ ⟨at1, ct1, rfl, hE1, -, hb3⟩
          have hXJ := lit_next' hb3 hXr
          have hedJ := hedr.below hb3
          have hbJ := hb2.trans (hb3.mono hb2.size)
          have hbn := (Below.refl wJ.heap.size wJ).alloc (Nat.le_refl _) (.cells #[.int .i64 N', .slice at1 E'.length ct1] 27)
          have hXK := lit_next' hbn hXJ
          have hedK := hedJ.below hbn
          have hEK := hE1.below hbn
          have hPK := heap_alloc_new wJ (.cells #[.int .i64 N', .slice at1 E'.length ct1] 27)
          have hbK := hbJ.alloc hbJ.size (.cells #[.int .i64 N', .slice at1 E'.length ct1] 27)
          clear g0 g1 y0 hXr hedr hk1 hb3 hXJ hedJ hbJ hE1
          have g0 := cell_blk (j := 0) hXK
          have g1 := cell_blk (j := 1) hXK
          have hk2' := hk2 _ hedK
          clear hk2
          go_wp2_with fail
          refine hk2'.mono ?_
          rintro e wM ⟨at2, ct2, rfl, hE2, -, hb4⟩
          have hP1 := lit_next' hb4 hPK
          have hEM := hEK.below hb4
          have hbM := hbK.trans (hb4.mono hbK.size)
          have hbn2 := (Below.refl wM.heap.size wM).alloc (Nat.le_refl _) (.cells #[.int .i64 N', .slice at2 E'.length ct2] 27)
          have hPN := lit_next' hbn2 hP1
          have hQN := heap_alloc_new wM (.cells #[.int .i64 N', .slice at2 E'.length ct2] 27)
          have hEN1 := hEM.below hbn2
          have hEN2 := hE2.below hbn2
          have hbN := hbM.alloc hbM.size (.cells #[.int .i64 N', .slice at2 E'.length ct2] 27)
          have p0 := cell_blk (j := 0) hPN
          have p1 := cell_blk (j := 1) hPN
          have q0 := cell_blk (j := 0) hQN
          have q1 := cell_blk (j := 1) hQN
          have hsm := gsame_same N' at1 at2 ct1 ct2 E' _ hEN1 hEN2 hEN1.lenle
          clear g0 g1 hk2' hb4 hP1 hEM hbM hbn hbn2 hEK hPK hbK hE2 hXK hedK hPN hQN
          go_wp2_with fail
          refine hsm.mono ?_
          rintro e wO ⟨rfl, hb5⟩
          go_wp2_with fail
          go_roundw
          case rel => exact ⟨i + 1, by omega, by go_num, hbN.trans (hb5.mono hbN.size)⟩
          case measure => simp [intOf]; omega
        · obtain rfl : i = 2 := by omega
          go_wp2_with fail
          go_roundw
          case rel => exact ⟨j + 1, by omega, by go_num, hbxV.trans (hb2.mono hbxV.size)⟩
          case measure => simp [intOf]; omega
    · obtain rfl : j = 2 := by omega
      go_wp2_with fail
      refine (awake12_any _ (hT.below hbw)).mono ?_
      rintro e wE ⟨rfl, hbE⟩
      go_wp2_with fail
      go_ret
      exact ⟨rfl, hbw.trans (hbE.mono hbw.size)⟩
end Go.Proofs.YtbkacbbhiecnkaaDoor
