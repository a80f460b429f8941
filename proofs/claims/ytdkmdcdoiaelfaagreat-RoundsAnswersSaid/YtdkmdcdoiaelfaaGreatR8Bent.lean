/- cohesionlaw38.world: a graph, and a world behind some messages (printed by wip/mkr8w.py). cohesionlaw38.bent: a world in which something was changed (printed by wip/mkr8bent.py). -/
import Derived.Test.YtdkmdcdoiaelfaaGreatR8Stl
namespace Go.Proofs.YtdkmdcdoiaelfaaGreat
open Go.RowKit Go.BigFrame

theorem stb_edges {D : Nat → Prop} {w : World} {v : Value} {es : List E2} (h : EdgesAt w v es) (hd : ∀ n c p, v = .slice (some p) n c → p.block < w.heap.size → ¬ D p.block) : Stb D w fun U => EdgesAt U v es := fun U g => by
  obtain ⟨a, cap, rfl, h1, h2, h3, h4⟩ := h
  refine ⟨a, cap, rfl, h1, h2, h3, fun i e he => ?_⟩
  obtain ⟨b, off, rfl, c0, c1⟩ := h4 i e he
  have hn := hd _ _ _ rfl (cell_lt c0)
  exact ⟨b, off, rfl, g.cell c0 hn, g.cell c1 hn⟩
theorem LowV.mono {a b : Nat} {v : Value} (h : LowV a v) (hl : a ≤ b) : LowV b v := fun n c p e => Nat.lt_of_lt_of_le (h n c p e) hl
theorem PlyB.new {n P : Nat} {es : List E2} {ow : Nat → Nat} {hv : List Int} {D D1 : Nat → Prop} {W : WdP} {w : World} {v : Value} {cs : Array Value} (h : Stb D w fun U => WldAt U v (wdL n P es ow hv W)) (hc : v = .agg cs) (hD : ∀ b, D1 b → D b ∨ w.heap.size ≤ b) : PlyB n P es ow hv D1 w.heap.size W (w.alloc (.cells cs 36)) := by
  obtain ⟨ae, ao, ah, ak, ab, ce, co, ch, ck, cb, e, -⟩ := h.now.shapeH
  subst hc
  obtain rfl := Value.agg.inj e
  exact ⟨ae, ao, ah, ak, ab, ce, co, ch, ck, cb, heap_alloc_new w _, Stb.step h (Fr.of_below (D := fun _ => False) ((Below.refl w.heap.size w).alloc (Nat.le_refl _) _)) (fun _ h => h.elim) hD⟩
theorem PlyB.put {n P Y TT : Nat} {es : List E2} {ow : Nat → Nat} {hv : List Int} {D1 : Nat → Prop} {W : WdP} {w : World} {c0 c1 c2 c3 c4 c5 c6 : Value} {ae ao ah ak ab : Option Addr} {ce co ch ck cb : Nat} (h : Stb D1 w fun U => WldAt U (.agg #[.int .i64 (n : Int), .slice ae es.length ce, .int .i64 (P : Int), .slice ao n co, .slice ah hv.length ch, .slice ak P ck, .slice ab P cb]) (wdL n P es ow hv W)) (hB : w.heap[Y]? = some (.cells #[c0, c1, c2, c3, c4, c5, c6] TT (0, 0))) (hT : TT = 36) (hY : D1 Y) :
    PlyB n P es ow hv D1 Y W (((((((w.setCell ⟨Y, 0, none⟩ (.int .i64 (n : Int))).setCell ⟨Y, 1, none⟩ (.slice ae es.length ce)).setCell ⟨Y, 2, none⟩ (.int .i64 (P : Int))).setCell ⟨Y, 3, none⟩ (.slice ao n co)).setCell ⟨Y, 4, none⟩ (.slice ah hv.length ch)).setCell ⟨Y, 5, none⟩ (.slice ak P ck)).setCell ⟨Y, 6, none⟩ (.slice ab P cb)) := by
  subst hT
  exact ⟨ae, ao, ah, ak, ab, ce, co, ch, ck, cb, set7all hB, Stb.step h (set7_fr w Y _ _ _ _ _ _ _) (fun b e => .inl (by rw [e]; exact hY)) (fun b h => .inl h)⟩
set_option linter.unusedSimpArgs false in
set_option maxRecDepth 100000 in
set_option maxHeartbeats 6400000 in
theorem world38_any (dk : Nat) (w : World) (hd : DeckAt w dk) : Calls Tryz.prog 8 #[.pointer (some ⟨dk, 0, none⟩)] w fun e w' => ∃ (n P : Nat) (es : List E2) (ow : Nat → Nat) (hv : List Int) (W : WdP) (a : Option Addr) (cap : Nat) (v : Value), e = .returned (.tuple #[.agg #[.int .i64 (n : Int), .slice a es.length cap], v]) ∧ n ≤ 7 ∧ GoodW n P es ow hv W ∧ potN n P ow W ≤ 400000 ∧
    (Stb (fun b => b = dk) w' fun U => EdgesAt U (.slice a es.length cap) es) ∧ (Stb (fun b => b = dk) w' fun U => WldAt U v (wdL n P es ow hv W)) ∧ DeckAt w' dk ∧ w.grownBy w' (some dk) ∧ LowV w'.heap.size (owOf v) := by
  have hdl := hd.lt
  obtain ⟨hA0, hb0⟩ := boxG_new w #[.int .i64 0, .slice none 0 0] 25
  obtain ⟨w1, hw1⟩ : ∃ V : World, V = w.alloc (.cells #[.int .i64 0, .slice none 0 0] 25) := ⟨_, rfl⟩
  have hz1 : w1.heap.size = w.heap.size + 1 := by rw [hw1]; simp
  rw [← hw1] at hA0 hb0
  obtain ⟨hC0, hb1⟩ := boxG_new w1 #[.int .i64 0, .slice none 0 0, .int .i64 0, .slice none 0 0, .slice none 0 0, .slice none 0 0, .slice none 0 0] 36
  obtain ⟨wA, hwA⟩ : ∃ V : World, V = w1.alloc (.cells #[.int .i64 0, .slice none 0 0, .int .i64 0, .slice none 0 0, .slice none 0 0, .slice none 0 0, .slice none 0 0] 36) := ⟨_, rfl⟩
  rw [← hwA] at hC0 hb1
  have hA1 := lit_next' hb1 hA0
  have hbA := hb0.trans (hb1.mono hb0.size)
  obtain ⟨X, hX⟩ : ∃ X, w.heap.size = X := ⟨_, rfl⟩
  rw [hz1] at hC0
  rw [hX] at hA1 hC0 hdl
  have HX := Lib.hid hX
  have hwA2 : wA = (w.alloc (.cells #[.int .i64 0, .slice none 0 0] 25)).alloc (.cells #[.int .i64 0, .slice none 0 0, .int .i64 0, .slice none 0 0, .slice none 0 0, .slice none 0 0, .slice none 0 0] 36) := by rw [hwA, hw1]
  have HWA := Lib.hid hwA2
  have hdA := hd.kept (grown_of_below hbA) (fun g e => by cases e)
  have hgr := mkgraph_any dk 7 wA hdA (by omega) (by omega)
  clear hA0 hb0 hb1 hz1 hw1 hwA hwA2 w1 hX
  go_enter Tryz.func8, Tryz.ntmps8
  go_upto_region 1 with fail
  rw [← HWA.out, HX.out]
  go_wp2_with fail
  refine hgr.mono ?_
  rintro e w2 ⟨n0, es, a2, cap2, rfl, he2, hv, hn7, hd2, hg2, ho2⟩
  obtain ⟨n, rfl⟩ := Int.eq_ofNat_of_zero_le hv.1
  have hn8 : n ≤ 7 := by omega
  have hXA : X < wA.heap.size := blk_lt hA1
  have hCA : X + 1 < wA.heap.size := blk_lt hC0
  have hA2 := grown_blk hg2 hA1 (fun e => by have e2 : X = dk := Option.some.inj e; omega)
  have hC2 := grown_blk hg2 hC0 (fun e => by have e2 : X + 1 = dk := Option.some.inj e; omega)
  obtain ⟨hG0, hb3⟩ := boxG_new w2 #[.int .i64 (n : Int), .slice a2 es.length cap2] 25
  obtain ⟨w3, hw3⟩ : ∃ V : World, V = w2.alloc (.cells #[.int .i64 (n : Int), .slice a2 es.length cap2] 25) := ⟨_, rfl⟩
  have hz3 : w3.heap.size = w2.heap.size + 1 := by rw [hw3]; simp
  rw [← hw3] at hG0 hb3
  obtain ⟨Bg, hBg⟩ : ∃ q, w2.heap.size = q := ⟨_, rfl⟩
  rw [hBg] at hG0 hz3
  have hBgl : X + 1 < Bg := by have := hg2.size; omega
  have hA3 := lit_next' hb3 hA2
  have hC3 := lit_next' hb3 hC2
  have hd3 := hd2.kept (grown_of_below hb3) (fun g e => by cases e)
  have he3 := he2.below hb3
  have hgw3 : w.grownBy w3 (some dk) := grown_trans (grown_none (grown_of_below hbA)) (grown_trans hg2 (grown_none (grown_of_below hb3)))
  have hSE2 : Stb (fun b => b ≤ X + 1 ∨ Bg ≤ b) w2 fun U => EdgesAt U (.slice a2 es.length cap2) es := stb_edges he2 (fun n' c' p e hl hD => by
    have h1 := ho2 p (Value.slice.inj e).1
    have h2 : p.block ≤ X + 1 ∨ Bg ≤ p.block := hD
    omega)
  have hSE3 : Stb (fun b => b ≤ X + 1 ∨ Bg ≤ b) w3 fun U => EdgesAt U (.slice a2 es.length cap2) es := Stb.step hSE2 (Fr.of_below (D := fun _ => False) hb3) (fun _ h => h.elim) (fun b h => .inl h)
  have HW3 := Lib.hid hw3
  clear hw3 hgr hg2 hd2 he2 hb3 ho2 hSE2 hA1 hC0 hA2 hC2 hdA
  go_upto_region 2 with fail
  rw [← HW3.out]
  obtain ⟨g0, g1⟩ := cells2R hG0
  have hBg3 : Bg < w3.heap.size := blk_lt hG0
  have HZ3 := Lib.hid hz3
  clear hz3 hBg
  go_cut [5, 6] from 10 to 17 (fun p c wx => ∃ (Bw P : Nat) (ow : Nat → Nat) (hv2 : List Int), p = .pointer (some ⟨Bw, 0, none⟩) ∧ c = .int .i64 0 ∧ 1 ≤ P ∧ P ≤ 4 ∧ (∀ v, v < n → ow v < P) ∧ validZ none hv2 n = true ∧ hv2.length ≤ 1000000 ∧ PlyB n P es ow hv2 (fun b => b ≤ X + 1 ∨ b = Bw) Bw (staP es n P ow) wx ∧ Fr (fun b => b = dk) w3 wx ∧ w3.heap.size ≤ Bw ∧ DeckAt wx dk ∧ ∃ vo, LowV wx.heap.size vo ∧ wx.cell? ⟨Bw, 3, none⟩ = some vo)
  case first =>
    refine wp_region_heldK (k := 10) (S := fun b W => match b with | false => (W.cell? ⟨Bg, 0, none⟩ = some (.int .i64 (n : Int)) ∧ W.cell? ⟨Bg, 1, none⟩ = some (.slice a2 es.length cap2)) | true => True) (by kernel_rfl) ?_
    have hS0 : (w3.drew.cell? ⟨Bg, 0, none⟩ = some (.int .i64 (n : Int)) ∧ w3.drew.cell? ⟨Bg, 1, none⟩ = some (.slice a2 es.length cap2)) := ⟨g0, g1⟩
    refine tkA 0 (.agg #[.int .i64 (n : Int), .slice a2 es.length cap2]) false rfl (fun _ _ => trivial) false hS0 ?_
    refine tkA 1 (.pointer (some ⟨dk, 0, none⟩)) false rfl (fun _ _ => trivial) false hS0 ?_
    refine tkA 2 (.pointer (some ⟨Bg, 0, none⟩)) false rfl (fun _ _ => trivial) false hS0 ?_
    refine tkA 3 (.int .i64 (n : Int)) false rfl (fun _ _ => trivial) false hS0 ?_
    try simp only [Act.put, List.setIfInBounds_toArray, List.set_cons_zero, List.set_cons_succ]
    refine wpAnyK_two (i := 4) (j := 9) (by kernel_rfl) rfl rfl (by rfl) (by rfl) (b := false) (b2 := false) (by kernel_rfl) (by kernel_rfl) (fun K hK => ?_) (fun K hK => ?_)
    · go_simp
      go_at_call 31
      refine (fplan_any dk n _ (hd3.drew) (by omega)).mono ?_
      rintro e w4 ⟨P, ow, hv2, ao, ah, co, ch, rfl, hP1, hP4, how, hhv, hhl, hO4, hH4, hMO, hMH, hd4, hg4⟩
      have hF4 : Fr (fun b => b = dk) w3 w4 := ((Fr.refl _ w3).trans (Fr.of_below (D := fun _ => False) (Below.refl w3.heap.size w3).drew) (fun b h => h.elim)).grown hg4 (fun b e => .inl (Option.some.inj e).symm)
      have hG4 := hF4.blk hG0 (by omega)
      have hs4 := hF4.size
      have hSO4 : Stb (fun b => b < w3.heap.size ∨ w4.heap.size ≤ b) w4 fun U => IntsAt U (.slice ao n co) (owI n ow) := fun U g => g.ints hO4 (fun n' c' p e q => by have h1 := hMO n' c' p e; have h3 : w3.drew.heap.size = w3.heap.size := rfl; have h2 : p.block < w3.heap.size ∨ w4.heap.size ≤ p.block := q; omega)
      have hSH4 : Stb (fun b => b < w3.heap.size ∨ w4.heap.size ≤ b) w4 fun U => IntsAt U (.slice ah hv2.length ch) hv2 := fun U g => g.ints hH4 (fun n' c' p e q => by have h1 := hMH n' c' p e; have h3 : w3.drew.heap.size = w3.heap.size := rfl; have h2 : p.block < w3.heap.size ∨ w4.heap.size ≤ p.block := q; omega)
      have hS4 : (w4.cell? ⟨Bg, 0, none⟩ = some (.int .i64 (n : Int)) ∧ w4.cell? ⟨Bg, 1, none⟩ = some (.slice a2 es.length cap2)) := ⟨cell_blk hG4, cell_blk hG4⟩
      dsimp only
      refine hK.out _ _ hS4 ?_
      try simp only [Act.put, List.setIfInBounds_toArray, List.set_cons_zero, List.set_cons_succ]
      refine wpAnyK_two (i := 5) (j := 9) (by kernel_rfl) rfl rfl (by rfl) (by rfl) (b := false) (b2 := false) (by kernel_rfl) (by kernel_rfl) (fun K hK => ?_) (fun K hK => ?_)
      · go_simp
        go_at_call 10
        refine (start38O_any n P es ow hv2 a2 ao ah cap2 co ch (fun b => b ≤ X + 1) w4 hv ⟨hP1, by omega⟩ how hhv (Stb.step hSE3 (hF4) (fun b e => .inl (.inl (by omega))) (fun b h => by have h2 : b ≤ X + 1 := h; omega)) (Stb.step hSO4 (Fr.of_below (D := fun _ => False) (Below.refl _ _)) (fun _ h => h.elim) (fun b h => by have h2 : b ≤ X + 1 := h; omega)) (Stb.step hSH4 (Fr.of_below (D := fun _ => False) (Below.refl _ _)) (fun _ h => h.elim) (fun b h => by have h2 : b ≤ X + 1 := h; omega)) (fun b h => by have h2 : b ≤ X + 1 := h; skip; omega)).mono ?_
        rintro e w6 ⟨v6, rfl, hS6w, hb6, ho6⟩
        have hF6 : Fr (fun b => b = dk) w3 w6 := (hF4).trans (Fr.of_below (D := fun _ => False) hb6) (fun b h => h.elim)
        have hG6 := hF6.blk hG0 (by omega)
        have hz6 := hb6.size
        have hS6 : (w6.cell? ⟨Bg, 0, none⟩ = some (.int .i64 (n : Int)) ∧ w6.cell? ⟨Bg, 1, none⟩ = some (.slice a2 es.length cap2)) := ⟨cell_blk hG6, cell_blk hG6⟩
        obtain ⟨ae, ao1, ah1, ak, ab, ce, co1, ch1, ck, cb, ev, -⟩ := hS6w.now.shapeH
        subst ev
        have hlo6 : LowV w6.heap.size (.slice ao1 n co1) := fun n' c p e => by have h1 := hMO n' c p ((show Value.slice ao n co = .slice ao1 n co1 from ho6.symm).trans e); omega
        clear ho6
        dsimp only
        refine hK.out _ _ hS6 ?_
        try simp only [Act.put, List.setIfInBounds_toArray, List.set_cons_zero, List.set_cons_succ]
        refine tkA 6 (.tuple #[.agg #[.int .i64 (n : Int), .slice ae es.length ce, .int .i64 (P : Int), .slice ao1 n co1, .slice ah1 hv2.length ch1, .slice ak P ck, .slice ab P cb], .int .i64 0]) false rfl (fun _ _ => trivial) false hS6 ?_
        refine tkA 7 (.agg #[.int .i64 (n : Int), .slice ae es.length ce, .int .i64 (P : Int), .slice ao1 n co1, .slice ah1 hv2.length ch1, .slice ak P ck, .slice ab P cb]) false rfl (fun _ _ => trivial) false hS6 ?_
        refine tkA 8 (.int .i64 0) true rfl (fun _ _ => trivial) false hS6 ?_
        try simp only [Act.put, List.setIfInBounds_toArray, List.set_cons_zero, List.set_cons_succ]
        refine wpAnyK_one (i := 9) (by kernel_rfl) rfl (by rfl) (b := false) (by kernel_rfl) (fun K hK => ?_)
        go_simp
        refine hK.out _ _ (show ((w6.alloc (.cells #[.int .i64 0, .slice none 0 0, .int .i64 0, .slice none 0 0, .slice none 0 0, .slice none 0 0, .slice none 0 0] 36)).cell? ⟨Bg, 0, none⟩ = some (.int .i64 (n : Int)) ∧ (w6.alloc (.cells #[.int .i64 0, .slice none 0 0, .int .i64 0, .slice none 0 0, .slice none 0 0, .slice none 0 0, .slice none 0 0] 36)).cell? ⟨Bg, 1, none⟩ = some (.slice a2 es.length cap2)) from ⟨cell_alloc hS6.1, cell_alloc hS6.2⟩) ?_
        try simp only [Act.put, List.setIfInBounds_toArray, List.set_cons_zero, List.set_cons_succ]
        refine wpAnyK_one (i := 10) (by kernel_rfl) rfl (by rfl) (b := true) (by kernel_rfl) (fun K hK => ?_)
        go_simp
        refine hK.out _ _ trivial ?_
        try simp only [Act.put, List.setIfInBounds_toArray, List.set_cons_zero, List.set_cons_succ]
        refine wpAnyK_one (i := 11) (by kernel_rfl) rfl (by rfl) (b := true) (by kernel_rfl) (fun K hK => ?_)
        go_simp
        refine hK.out _ _ trivial (wpAnyK_done (by kernel_rfl) ?_ _)
        have hWB := PlyB.new (D1 := (fun b => b ≤ X + 1 ∨ b = w6.heap.size)) hS6w rfl (fun b h => h.imp id (fun e => by omega))
        have hbB : Below w6.heap.size w6 (w6.alloc (.cells #[.int .i64 (n : Int), .slice ae es.length ce, .int .i64 (P : Int), .slice ao1 n co1, .slice ah1 hv2.length ch1, .slice ak P ck, .slice ab P cb] 36)) := (Below.refl _ _).alloc (Nat.le_refl _) _
        have hd6 := (hd4.kept (grown_of_below hb6) (fun g e => by cases e)).kept (grown_of_below hbB) (fun g e => by cases e)
        go_wp2_with fail
        go_meet
        exact ⟨w6.heap.size, P, ow, hv2, rfl, rfl, hP1, hP4, how, hhv, by omega, hWB, hF6.trans (Fr.of_below (D := fun _ => False) hbB) (fun b h => h.elim), by have := hF6.size; omega, hd6, _, hlo6.mono hbB.size, cell_blk (heap_alloc_new _ _)⟩
      · go_simp
        have hbA4 : Below w4.heap.size w4 (w4.alloc (.cells #[.int .i64 0, .slice none 0 0, .int .i64 0, .slice none 0 0, .slice none 0 0, .slice none 0 0, .slice none 0 0] 36)) := (Below.refl _ _).alloc (Nat.le_refl _) _
        have hC4 := heap_alloc_new w4 (.cells #[.int .i64 0, .slice none 0 0, .int .i64 0, .slice none 0 0, .slice none 0 0, .slice none 0 0, .slice none 0 0] 36)
        have hzA4 : (w4.alloc (.cells #[.int .i64 0, .slice none 0 0, .int .i64 0, .slice none 0 0, .slice none 0 0, .slice none 0 0, .slice none 0 0] 36)).heap.size = w4.heap.size + 1 := by simp
        have hFA : Fr (fun b => b = dk) w3 (w4.alloc (.cells #[.int .i64 0, .slice none 0 0, .int .i64 0, .slice none 0 0, .slice none 0 0, .slice none 0 0, .slice none 0 0] 36)) := hF4.trans (Fr.of_below (D := fun _ => False) hbA4) (fun b h => h.elim)
        refine hK.out _ _ (show ((w4.alloc (.cells #[.int .i64 0, .slice none 0 0, .int .i64 0, .slice none 0 0, .slice none 0 0, .slice none 0 0, .slice none 0 0] 36)).cell? ⟨Bg, 0, none⟩ = some (.int .i64 (n : Int)) ∧ (w4.alloc (.cells #[.int .i64 0, .slice none 0 0, .int .i64 0, .slice none 0 0, .slice none 0 0, .slice none 0 0, .slice none 0 0] 36)).cell? ⟨Bg, 1, none⟩ = some (.slice a2 es.length cap2)) from ⟨cell_alloc hS4.1, cell_alloc hS4.2⟩) ?_
        try simp only [Act.put, List.setIfInBounds_toArray, List.set_cons_zero, List.set_cons_succ]
        refine wpAnyK_one (i := 5) (by kernel_rfl) rfl (by rfl) (b := false) (by kernel_rfl) (fun K hK => ?_)
        go_simp
        go_at_call 10
        refine (start38O_any n P es ow hv2 a2 ao ah cap2 co ch (fun b => b ≤ X + 1 ∨ b = w4.heap.size) (w4.alloc (.cells #[.int .i64 0, .slice none 0 0, .int .i64 0, .slice none 0 0, .slice none 0 0, .slice none 0 0, .slice none 0 0] 36)) hv ⟨hP1, by omega⟩ how hhv (Stb.step hSE3 (hFA) (fun b e => .inl (.inl (by omega))) (fun b h => by have h2 : b ≤ X + 1 ∨ b = w4.heap.size := h; omega)) (Stb.step hSO4 (Fr.of_below (D := fun _ => False) (hbA4)) (fun _ h => h.elim) (fun b h => by have h2 : b ≤ X + 1 ∨ b = w4.heap.size := h; omega)) (Stb.step hSH4 (Fr.of_below (D := fun _ => False) (hbA4)) (fun _ h => h.elim) (fun b h => by have h2 : b ≤ X + 1 ∨ b = w4.heap.size := h; omega)) (fun b h => by have h2 : b ≤ X + 1 ∨ b = w4.heap.size := h; skip; omega)).mono ?_
        rintro e w6 ⟨v6, rfl, hS6w, hb6, ho6⟩
        have hF6 : Fr (fun b => b = dk) w3 w6 := (hFA).trans (Fr.of_below (D := fun _ => False) hb6) (fun b h => h.elim)
        have hG6 := hF6.blk hG0 (by omega)
        have hz6 := hb6.size
        have hS6 : (w6.cell? ⟨Bg, 0, none⟩ = some (.int .i64 (n : Int)) ∧ w6.cell? ⟨Bg, 1, none⟩ = some (.slice a2 es.length cap2)) := ⟨cell_blk hG6, cell_blk hG6⟩
        obtain ⟨ae, ao1, ah1, ak, ab, ce, co1, ch1, ck, cb, ev, -⟩ := hS6w.now.shapeH
        subst ev
        have hlo6 : LowV w6.heap.size (.slice ao1 n co1) := fun n' c p e => by have h1 := hMO n' c p ((show Value.slice ao n co = .slice ao1 n co1 from ho6.symm).trans e); omega
        clear ho6
        have hC6 : w6.heap[w4.heap.size]? = _ := lit_next' hb6 hC4
        dsimp only
        refine hK.out _ _ hS6 ?_
        try simp only [Act.put, List.setIfInBounds_toArray, List.set_cons_zero, List.set_cons_succ]
        refine tkA 6 (.tuple #[.agg #[.int .i64 (n : Int), .slice ae es.length ce, .int .i64 (P : Int), .slice ao1 n co1, .slice ah1 hv2.length ch1, .slice ak P ck, .slice ab P cb], .int .i64 0]) false rfl (fun _ _ => trivial) false hS6 ?_
        refine tkA 7 (.agg #[.int .i64 (n : Int), .slice ae es.length ce, .int .i64 (P : Int), .slice ao1 n co1, .slice ah1 hv2.length ch1, .slice ak P ck, .slice ab P cb]) false rfl (fun _ _ => trivial) false hS6 ?_
        refine tkA 8 (.int .i64 0) true rfl (fun _ _ => trivial) false hS6 ?_
        try simp only [Act.put, List.setIfInBounds_toArray, List.set_cons_zero, List.set_cons_succ]
        obtain ⟨k0, k1, k2, k3, k4, k5, k6⟩ := cells7 hC6
        obtain ⟨f0, f1, f2, f3, f4, f5, f6⟩ := frees7 hC6
        refine wpAnyK_one (i := 10) (by kernel_rfl) rfl (by rfl) (b := true) (by kernel_rfl) (fun K hK => ?_)
        go_simp
        refine hK.out _ _ trivial ?_
        try simp only [Act.put, List.setIfInBounds_toArray, List.set_cons_zero, List.set_cons_succ]
        refine wpAnyK_one (i := 11) (by kernel_rfl) rfl (by rfl) (b := true) (by kernel_rfl) (fun K hK => ?_)
        go_simp
        refine hK.out _ _ trivial (wpAnyK_done (by kernel_rfl) ?_ _)
        have hWB := PlyB.put hS6w hC6 rfl (.inr rfl)
        have hd6 := ((hd4.kept (grown_of_below hbA4) (fun g e => by cases e)).kept (grown_of_below hb6) (fun g e => by cases e)).kept (set7_grown w6 w4.heap.size (.int .i64 (n : Int)) (.slice ae es.length ce) (.int .i64 (P : Int)) (.slice ao1 n co1) (.slice ah1 hv2.length ch1) (.slice ak P ck) (.slice ab P cb)) (fun g e => by have e2 := Option.some.inj e; omega)
        go_wp2_with fail
        go_meet
        exact ⟨w4.heap.size, P, ow, hv2, rfl, rfl, hP1, hP4, how, hhv, by omega, hWB, hF6.trans (set7_fr w6 w4.heap.size _ _ _ _ _ _ _) (fun b e => .inr (by omega)), by omega, hd6, _, hlo6.mono (set7_fr w6 w4.heap.size _ _ _ _ _ _ _).size, cell_blk (set7all hC6)⟩
    · go_simp
      have hbA4 : Below w3.heap.size w3 (w3.drew.alloc (.cells #[.int .i64 0, .slice none 0 0, .int .i64 0, .slice none 0 0, .slice none 0 0, .slice none 0 0, .slice none 0 0] 36)) := ((Below.refl w3.heap.size w3).drew).alloc (Nat.le_refl _) _
      have hC3n := heap_alloc_new w3.drew (.cells #[.int .i64 0, .slice none 0 0, .int .i64 0, .slice none 0 0, .slice none 0 0, .slice none 0 0, .slice none 0 0] 36)
      have hzA4 : (w3.drew.alloc (.cells #[.int .i64 0, .slice none 0 0, .int .i64 0, .slice none 0 0, .slice none 0 0, .slice none 0 0, .slice none 0 0] 36)).heap.size = w3.heap.size + 1 := by simp
      have hFA : Fr (fun b => b = dk) w3 (w3.drew.alloc (.cells #[.int .i64 0, .slice none 0 0, .int .i64 0, .slice none 0 0, .slice none 0 0, .slice none 0 0, .slice none 0 0] 36)) := (Fr.refl _ w3).trans (Fr.of_below (D := fun _ => False) hbA4) (fun b h => h.elim)
      refine hK.out _ _ (show ((w3.drew.alloc (.cells #[.int .i64 0, .slice none 0 0, .int .i64 0, .slice none 0 0, .slice none 0 0, .slice none 0 0, .slice none 0 0] 36)).cell? ⟨Bg, 0, none⟩ = some (.int .i64 (n : Int)) ∧ (w3.drew.alloc (.cells #[.int .i64 0, .slice none 0 0, .int .i64 0, .slice none 0 0, .slice none 0 0, .slice none 0 0, .slice none 0 0] 36)).cell? ⟨Bg, 1, none⟩ = some (.slice a2 es.length cap2)) from ⟨cell_alloc hS0.1, cell_alloc hS0.2⟩) ?_
      try simp only [Act.put, List.setIfInBounds_toArray, List.set_cons_zero, List.set_cons_succ]
      refine wpAnyK_one (i := 4) (by kernel_rfl) rfl (by rfl) (b := false) (by kernel_rfl) (fun K hK => ?_)
      go_simp
      go_at_call 31
      refine (fplan_any dk n _ (hd3.kept (grown_of_below hbA4) (fun g e => by cases e)) (by omega)).mono ?_
      rintro e w4 ⟨P, ow, hv2, ao, ah, co, ch, rfl, hP1, hP4, how, hhv, hhl, hO4, hH4, hMO, hMH, hd4, hg4⟩
      have hF4 : Fr (fun b => b = dk) w3 w4 := (hFA).grown hg4 (fun b e => .inl (Option.some.inj e).symm)
      have hG4 := hF4.blk hG0 (by omega)
      have hs4 := hF4.size
      have hSO4 : Stb (fun b => b < w3.heap.size + 1 ∨ w4.heap.size ≤ b) w4 fun U => IntsAt U (.slice ao n co) (owI n ow) := fun U g => g.ints hO4 (fun n' c' p e q => by have h1 := hMO n' c' p e; have h2 : p.block < w3.heap.size + 1 ∨ w4.heap.size ≤ p.block := q; omega)
      have hSH4 : Stb (fun b => b < w3.heap.size + 1 ∨ w4.heap.size ≤ b) w4 fun U => IntsAt U (.slice ah hv2.length ch) hv2 := fun U g => g.ints hH4 (fun n' c' p e q => by have h1 := hMH n' c' p e; have h2 : p.block < w3.heap.size + 1 ∨ w4.heap.size ≤ p.block := q; omega)
      have hS4 : (w4.cell? ⟨Bg, 0, none⟩ = some (.int .i64 (n : Int)) ∧ w4.cell? ⟨Bg, 1, none⟩ = some (.slice a2 es.length cap2)) := ⟨cell_blk hG4, cell_blk hG4⟩
      have hC4 := grown_blk hg4 hC3n (fun e => by have e1 : w3.heap.size = dk := Option.some.inj e; omega)
      dsimp only
      refine hK.out _ _ hS4 ?_
      try simp only [Act.put, List.setIfInBounds_toArray, List.set_cons_zero, List.set_cons_succ]
      refine wpAnyK_one (i := 5) (by kernel_rfl) rfl (by rfl) (b := false) (by kernel_rfl) (fun K hK => ?_)
      go_simp
      go_at_call 10
      refine (start38O_any n P es ow hv2 a2 ao ah cap2 co ch (fun b => b ≤ X + 1 ∨ b = w3.heap.size) w4 hv ⟨hP1, by omega⟩ how hhv (Stb.step hSE3 (hF4) (fun b e => .inl (.inl (by omega))) (fun b h => by have h2 : b ≤ X + 1 ∨ b = w3.heap.size := h; omega)) (Stb.step hSO4 (Fr.of_below (D := fun _ => False) (Below.refl _ _)) (fun _ h => h.elim) (fun b h => by have h2 : b ≤ X + 1 ∨ b = w3.heap.size := h; omega)) (Stb.step hSH4 (Fr.of_below (D := fun _ => False) (Below.refl _ _)) (fun _ h => h.elim) (fun b h => by have h2 : b ≤ X + 1 ∨ b = w3.heap.size := h; omega)) (fun b h => by have h2 : b ≤ X + 1 ∨ b = w3.heap.size := h; have h5 := hg4.size; omega)).mono ?_
      rintro e w6 ⟨v6, rfl, hS6w, hb6, ho6⟩
      have hF6 : Fr (fun b => b = dk) w3 w6 := (hF4).trans (Fr.of_below (D := fun _ => False) hb6) (fun b h => h.elim)
      have hG6 := hF6.blk hG0 (by omega)
      have hz6 := hb6.size
      have hS6 : (w6.cell? ⟨Bg, 0, none⟩ = some (.int .i64 (n : Int)) ∧ w6.cell? ⟨Bg, 1, none⟩ = some (.slice a2 es.length cap2)) := ⟨cell_blk hG6, cell_blk hG6⟩
      obtain ⟨ae, ao1, ah1, ak, ab, ce, co1, ch1, ck, cb, ev, -⟩ := hS6w.now.shapeH
      subst ev
      have hlo6 : LowV w6.heap.size (.slice ao1 n co1) := fun n' c p e => by have h1 := hMO n' c p ((show Value.slice ao n co = .slice ao1 n co1 from ho6.symm).trans e); omega
      clear ho6
      have hC6 : w6.heap[w3.heap.size]? = _ := lit_next' hb6 hC4
      dsimp only
      refine hK.out _ _ hS6 ?_
      try simp only [Act.put, List.setIfInBounds_toArray, List.set_cons_zero, List.set_cons_succ]
      refine tkA 6 (.tuple #[.agg #[.int .i64 (n : Int), .slice ae es.length ce, .int .i64 (P : Int), .slice ao1 n co1, .slice ah1 hv2.length ch1, .slice ak P ck, .slice ab P cb], .int .i64 0]) false rfl (fun _ _ => trivial) false hS6 ?_
      refine tkA 7 (.agg #[.int .i64 (n : Int), .slice ae es.length ce, .int .i64 (P : Int), .slice ao1 n co1, .slice ah1 hv2.length ch1, .slice ak P ck, .slice ab P cb]) false rfl (fun _ _ => trivial) false hS6 ?_
      refine tkA 8 (.int .i64 0) true rfl (fun _ _ => trivial) false hS6 ?_
      try simp only [Act.put, List.setIfInBounds_toArray, List.set_cons_zero, List.set_cons_succ]
      obtain ⟨k0, k1, k2, k3, k4, k5, k6⟩ := cells7 hC6
      obtain ⟨f0, f1, f2, f3, f4, f5, f6⟩ := frees7 hC6
      refine wpAnyK_one (i := 10) (by kernel_rfl) rfl (by rfl) (b := true) (by kernel_rfl) (fun K hK => ?_)
      go_simp
      refine hK.out _ _ trivial ?_
      try simp only [Act.put, List.setIfInBounds_toArray, List.set_cons_zero, List.set_cons_succ]
      refine wpAnyK_one (i := 11) (by kernel_rfl) rfl (by rfl) (b := true) (by kernel_rfl) (fun K hK => ?_)
      go_simp
      refine hK.out _ _ trivial (wpAnyK_done (by kernel_rfl) ?_ _)
      have hWB := PlyB.put hS6w hC6 rfl (.inr rfl)
      have hd6 := (hd4.kept (grown_of_below hb6) (fun g e => by cases e)).kept (set7_grown w6 w3.heap.size (.int .i64 (n : Int)) (.slice ae es.length ce) (.int .i64 (P : Int)) (.slice ao1 n co1) (.slice ah1 hv2.length ch1) (.slice ak P ck) (.slice ab P cb)) (fun g e => by have e2 := Option.some.inj e; omega)
      go_wp2_with fail
      go_meet
      exact ⟨w3.heap.size, P, ow, hv2, rfl, rfl, hP1, hP4, how, hhv, by omega, hWB, hF6.trans (set7_fr w6 w3.heap.size _ _ _ _ _ _ _) (fun b e => .inr (by omega)), by omega, hd6, _, hlo6.mono (set7_fr w6 w3.heap.size _ _ _ _ _ _ _).size, cell_blk (set7all hC6)⟩
  case rest =>
    obtain ⟨Bw, P, ow, hv2, rfl, rfl, hP1, hP4, how, hhv, hhl, ⟨be, bo, bh, bk, bb, de, do', dh, dk', db, hYc, hSc⟩, hFc, hBl, hdc, vo, hlo, hvo⟩ := hcut
    have e3 : wc.cell? ⟨Bw, 3, none⟩ = some (.slice bo n do') := cell_blk hYc
    have e4 : vo = .slice bo n do' := Option.some.inj (hvo.symm.trans e3)
    have hloc : LowV wc.heap.size (.slice bo n do') := by rw [← e4]; exact hlo
    clear hlo hvo e3 e4 vo
    have hBgB : Bg < Bw := by omega
    have hXB : X + 1 < Bw := by omega
    have hGc := hFc.blk hG0 (by omega)
    have hAc := hFc.blk hA3 (by omega)
    have hCc := hFc.blk hC3 (by omega)
    have hgood : GoodW n P es ow hv2 (staP es n P ow) := GoodW.start hv ⟨hP1, by omega⟩ how hhv hhl
    have hpot2 : potN n P ow (staP es n P ow) ≤ 400 := by
      have h1 := sta_pot (es := es) (P := P) how
      have h2 := sumR_leC (fun v => ((nbL es n v).length + 1) * (P - 1)) 24 n fun v hvn => Nat.le_trans (Nat.mul_le_mul (by have := nb_lt hv v hvn; omega : _ ≤ 8) (by omega : _ ≤ 3)) (by decide)
      omega
    have hpot : potN n P ow (staP es n P ow) ≤ 800000 := by omega
    have hBwl : Bw < wc.heap.size := blk_lt hYc
    clear g0 g1
    obtain ⟨y0, y1, y2, y3, y4, y5, y6⟩ := cells7 hYc
    go_upto_region 3 with fail
    refine wp_region_heldK (k := 10) (S := fun b W => match b with | false => W.cell? ⟨Bw, 0, none⟩ = some (.int .i64 (n : Int)) ∧ W.cell? ⟨Bw, 1, none⟩ = some (.slice be es.length de) ∧ W.cell? ⟨Bw, 2, none⟩ = some (.int .i64 (P : Int)) ∧ W.cell? ⟨Bw, 3, none⟩ = some (.slice bo n do') ∧ W.cell? ⟨Bw, 4, none⟩ = some (.slice bh hv2.length dh) ∧ W.cell? ⟨Bw, 5, none⟩ = some (.slice bk P dk') ∧ W.cell? ⟨Bw, 6, none⟩ = some (.slice bb P db) | true => True) (by kernel_rfl) ?_
    have hS0 : wc.drew.cell? ⟨Bw, 0, none⟩ = some (.int .i64 (n : Int)) ∧ wc.drew.cell? ⟨Bw, 1, none⟩ = some (.slice be es.length de) ∧ wc.drew.cell? ⟨Bw, 2, none⟩ = some (.int .i64 (P : Int)) ∧ wc.drew.cell? ⟨Bw, 3, none⟩ = some (.slice bo n do') ∧ wc.drew.cell? ⟨Bw, 4, none⟩ = some (.slice bh hv2.length dh) ∧ wc.drew.cell? ⟨Bw, 5, none⟩ = some (.slice bk P dk') ∧ wc.drew.cell? ⟨Bw, 6, none⟩ = some (.slice bb P db) := ⟨y0, y1, y2, y3, y4, y5, y6⟩
    refine tkA 0 (.agg #[.int .i64 (n : Int), .slice be es.length de, .int .i64 (P : Int), .slice bo n do', .slice bh hv2.length dh, .slice bk P dk', .slice bb P db]) false rfl (fun _ _ => trivial) false hS0 ?_
    refine tkA 1 (.pointer (some ⟨dk, 0, none⟩)) true rfl (fun _ _ => trivial) false hS0 ?_
    refine tkA 2 (.pointer (some ⟨dk, 0, none⟩)) true rfl (fun _ _ => trivial) false hS0 ?_
    try simp only [Act.put, List.setIfInBounds_toArray, List.set_cons_zero, List.set_cons_succ]
    refine wpAnyK_one (i := 3) (by kernel_rfl) rfl (by rfl) (b := false) (by kernel_rfl) (fun K hK => ?_)
    go_simp
    go_at_call 23
    refine (next_any dk 12 wc.drew hdc.drew (by omega) (by omega)).mono ?_
    rintro e w4 ⟨x, hx0, hx1, rfl, hd4, hg4⟩
    obtain ⟨q, rfl⟩ := Int.eq_ofNat_of_zero_le hx0
    have hF4 : Fr (fun b => b = dk) wc w4 := ((Fr.refl _ wc).trans (Fr.of_below (D := fun _ => False) (Below.refl wc.heap.size wc).drew) (fun b h => h.elim)).grown hg4 (fun b e => .inl (Option.some.inj e).symm)
    have hY4 := hF4.blk hYc (by omega)
    have hS4 : w4.cell? ⟨Bw, 0, none⟩ = some (.int .i64 (n : Int)) ∧ w4.cell? ⟨Bw, 1, none⟩ = some (.slice be es.length de) ∧ w4.cell? ⟨Bw, 2, none⟩ = some (.int .i64 (P : Int)) ∧ w4.cell? ⟨Bw, 3, none⟩ = some (.slice bo n do') ∧ w4.cell? ⟨Bw, 4, none⟩ = some (.slice bh hv2.length dh) ∧ w4.cell? ⟨Bw, 5, none⟩ = some (.slice bk P dk') ∧ w4.cell? ⟨Bw, 6, none⟩ = some (.slice bb P db) := by obtain ⟨z0, z1, z2, z3, z4, z5, z6⟩ := cells7 hY4; exact ⟨z0, z1, z2, z3, z4, z5, z6⟩
    dsimp only
    refine hK.out _ _ hS4 ?_
    try simp only [Act.put, List.setIfInBounds_toArray, List.set_cons_zero, List.set_cons_succ]
    refine wpAnyK_one (i := 4) (by kernel_rfl) rfl (by rfl) (b := false) (by kernel_rfl) (fun K hK => ?_)
    go_simp
    go_at_call 12
    refine (fnumbers_any dk q 100 w4 hd4 (by omega) (by omega) (by omega)).mono ?_
    rintro e w5 ⟨l, vl, rfl, hll, -, hown5, hd5, hg5⟩
    obtain ⟨aS, cS, rfl, hi5, -⟩ := IntsAt.of_owns hown5 (by omega)
    clear hll hx0 hx1
    have hF5 := hF4.grown hg5 (fun b e => .inl (Option.some.inj e).symm)
    have hY5 := hF5.blk hYc (by omega)
    have hS5 : w5.cell? ⟨Bw, 0, none⟩ = some (.int .i64 (n : Int)) ∧ w5.cell? ⟨Bw, 1, none⟩ = some (.slice be es.length de) ∧ w5.cell? ⟨Bw, 2, none⟩ = some (.int .i64 (P : Int)) ∧ w5.cell? ⟨Bw, 3, none⟩ = some (.slice bo n do') ∧ w5.cell? ⟨Bw, 4, none⟩ = some (.slice bh hv2.length dh) ∧ w5.cell? ⟨Bw, 5, none⟩ = some (.slice bk P dk') ∧ w5.cell? ⟨Bw, 6, none⟩ = some (.slice bb P db) := by obtain ⟨z0, z1, z2, z3, z4, z5, z6⟩ := cells7 hY5; exact ⟨z0, z1, z2, z3, z4, z5, z6⟩
    have hz5 := hF5.size
    have hply := play38O_any n P es ow hv2 (staP es n P ow) (.agg #[.int .i64 (n : Int), .slice be es.length de, .int .i64 (P : Int), .slice bo n do', .slice bh hv2.length dh, .slice bk P dk', .slice bb P db]) aS cS l (fun b => b ≤ X + 1 ∨ b = Bw) w5 hgood (Stb.step hSc hF5 (fun b e => .inl (.inl (by omega))) (fun b h => .inl h)) (fun b h => by have h2 : b ≤ X + 1 ∨ b = Bw := h; omega) hi5 hpot
    dsimp only
    refine hK.out _ _ hS5 ?_
    try simp only [Act.put, List.setIfInBounds_toArray, List.set_cons_zero, List.set_cons_succ]
    refine wpAnyK_one (i := 5) (by kernel_rfl) rfl (by rfl) (b := false) (by kernel_rfl) (fun K hK => ?_)
    go_simp
    go_at_call 27
    refine hply.mono ?_
    rintro e w7 ⟨v7, k7, rfl, hS7, -, -, -, hb7, ho7⟩
    obtain ⟨ce', co', ch', ck', cb', de', dp', dh', dq', db', rfl, -⟩ := hS7.now.shapeH
    have hlo7 : LowV wc.heap.size (.slice co' n dp') := by rw [show Value.slice co' n dp' = .slice bo n do' from ho7]; exact hloc
    clear ho7
    have hY7 := lit_next' hb7 hY5
    have hd7 := hd5.kept (grown_of_below hb7) (fun g e => by cases e)
    have hFc7 : Fr (fun b => b = dk) wc w7 := hF5.trans (Fr.of_below (D := fun _ => False) hb7) (fun b h => h.elim)
    obtain ⟨v0, v1, v2, v3, v4, v5, v6⟩ := cells7 hY7
    have hS8 : w7.cell? ⟨Bw, 0, none⟩ = some (.int .i64 (n : Int)) ∧ w7.cell? ⟨Bw, 1, none⟩ = some (.slice be es.length de) ∧ w7.cell? ⟨Bw, 2, none⟩ = some (.int .i64 (P : Int)) ∧ w7.cell? ⟨Bw, 3, none⟩ = some (.slice bo n do') ∧ w7.cell? ⟨Bw, 4, none⟩ = some (.slice bh hv2.length dh) ∧ w7.cell? ⟨Bw, 5, none⟩ = some (.slice bk P dk') ∧ w7.cell? ⟨Bw, 6, none⟩ = some (.slice bb P db) := ⟨v0, v1, v2, v3, v4, v5, v6⟩
    obtain ⟨f0, f1, f2, f3, f4, f5, f6⟩ := frees7 hY7
    dsimp only
    refine hK.out _ _ hS8 ?_
    try simp only [Act.put, List.setIfInBounds_toArray, List.set_cons_zero, List.set_cons_succ]
    refine tkA 6 (.tuple #[.agg #[.int .i64 (n : Int), .slice ce' es.length de', .int .i64 (P : Int), .slice co' n dp', .slice ch' hv2.length dh', .slice ck' P dq', .slice cb' P db'], .int .i64 (k7 : Int), .int .i64 0]) true rfl (fun _ _ => trivial) false hS8 ?_
    refine tkA 7 (.agg #[.int .i64 (n : Int), .slice ce' es.length de', .int .i64 (P : Int), .slice co' n dp', .slice ch' hv2.length dh', .slice ck' P dq', .slice cb' P db']) true rfl (fun _ _ => trivial) false hS8 ?_
    refine tkA 8 (.int .i64 (k7 : Int)) true rfl (fun _ _ => trivial) false hS8 ?_
    refine tkA 9 (.int .i64 0) true rfl (fun _ _ => trivial) false hS8 ?_
    try simp only [Act.put, List.setIfInBounds_toArray, List.set_cons_zero, List.set_cons_succ]
    refine wpAnyK_one (i := 10) (by kernel_rfl) rfl (by rfl) (b := true) (by kernel_rfl) (fun K hK => ?_)
    go_simp
    refine hK.out _ _ trivial (wpAnyK_done (by kernel_rfl) ?_ _)
    clear hS8 hS5 hS4 hS0 f0 f1 f2 f3 f4 f5 f6 v0 v1 v2 v3 v4 v5 v6 y0 y1 y2 y3 y4 y5 y6 hply hown5 hi5 hY4 hY5 hF4 hF5 hd4 hd5 hg4 hg5
    obtain ⟨wE, hwE⟩ : ∃ V : World, V = (((((((w7.setCell ⟨Bw, 0, none⟩ (.int .i64 (n : Int))).setCell ⟨Bw, 1, none⟩ (.slice ce' es.length de')).setCell ⟨Bw, 2, none⟩ (.int .i64 (P : Int))).setCell ⟨Bw, 3, none⟩ (.slice co' n dp')).setCell ⟨Bw, 4, none⟩ (.slice ch' hv2.length dh')).setCell ⟨Bw, 5, none⟩ (.slice ck' P dq')).setCell ⟨Bw, 6, none⟩ (.slice cb' P db')) := ⟨_, rfl⟩
    have hYE := set7all (d0 := .int .i64 (n : Int)) (d1 := .slice ce' es.length de') (d2 := .int .i64 (P : Int)) (d3 := .slice co' n dp') (d4 := .slice ch' hv2.length dh') (d5 := .slice ck' P dq') (d6 := .slice cb' P db') hY7
    have hgE := set7_grown w7 Bw (.int .i64 (n : Int)) (.slice ce' es.length de') (.int .i64 (P : Int)) (.slice co' n dp') (.slice ch' hv2.length dh') (.slice ck' P dq') (.slice cb' P db')
    rw [← hwE] at hYE hgE
    have HWE := Lib.hid hwE
    have hSE7 := Stb.step (D1 := fun b => b ≤ X + 1 ∨ b = Bw) hS7 ((Fr.refl (fun b => b = Bw) w7).grown hgE (fun b e => .inl (Option.some.inj e).symm)) (fun b e => .inl (.inr e)) (fun b h => .inl h)
    have hdE := hd7.kept hgE (fun g e => by have e2 := Option.some.inj e; omega)
    have hF37 : Fr (fun b => b ≤ X + 1 ∨ Bg < b) w3 wE := ((hFc.mono (fun b e => (.inl (by omega) : b ≤ X + 1 ∨ Bg < b))).trans hFc7 (fun b e => .inl (.inl (by omega)))).grown hgE (fun b e => .inl (.inr (by have e2 := Option.some.inj e; omega)))
    have hGE := hF37.blk hG0 (fun h => by have h2 : Bg ≤ X + 1 ∨ Bg < Bg := h; omega)
    have hAE : wE.heap[X]? = _ := grown_blk hgE (hFc7.blk hAc (by omega)) (fun e => by have e2 := Option.some.inj e; omega)
    have hCE : wE.heap[X + 1]? = _ := grown_blk hgE (hFc7.blk hCc (by omega)) (fun e => by have e2 := Option.some.inj e; omega)
    have hgE' := hgE
    clear hwE hS7 hd7 hY7 hgE hAc hCc hGc
    go_upto_region 4 with fail
    rw [← HWE.out]
    obtain ⟨g0, g1⟩ := cells2R hGE
    obtain ⟨y0, y1, y2, y3, y4, y5, y6⟩ := cells7 hYE
    obtain ⟨a0, a1⟩ := cells2R hAE
    obtain ⟨b0, b1, b2, b3, b4, b5, b6⟩ := cells7 hCE
    have fa0 : wE.frozen? ⟨X, 0, none⟩ = false := free_blk hAE
    have fa1 : wE.frozen? ⟨X, 1, none⟩ = false := free_blk hAE
    obtain ⟨f0, f1, f2, f3, f4, f5, f6⟩ := frees7 hCE
    refine wp_region_heldK (k := 3) (S := fun b W => match b with | false => (W.cell? ⟨Bg, 0, none⟩ = some (.int .i64 (n : Int)) ∧ W.cell? ⟨Bg, 1, none⟩ = some (.slice a2 es.length cap2)) ∧ W.cell? ⟨Bw, 0, none⟩ = some (.int .i64 (n : Int)) ∧ W.cell? ⟨Bw, 1, none⟩ = some (.slice ce' es.length de') ∧ W.cell? ⟨Bw, 2, none⟩ = some (.int .i64 (P : Int)) ∧ W.cell? ⟨Bw, 3, none⟩ = some (.slice co' n dp') ∧ W.cell? ⟨Bw, 4, none⟩ = some (.slice ch' hv2.length dh') ∧ W.cell? ⟨Bw, 5, none⟩ = some (.slice ck' P dq') ∧ W.cell? ⟨Bw, 6, none⟩ = some (.slice cb' P db') | true => True) (by kernel_rfl) ?_
    have hS0 : (wE.drew.cell? ⟨Bg, 0, none⟩ = some (.int .i64 (n : Int)) ∧ wE.drew.cell? ⟨Bg, 1, none⟩ = some (.slice a2 es.length cap2)) ∧ wE.drew.cell? ⟨Bw, 0, none⟩ = some (.int .i64 (n : Int)) ∧ wE.drew.cell? ⟨Bw, 1, none⟩ = some (.slice ce' es.length de') ∧ wE.drew.cell? ⟨Bw, 2, none⟩ = some (.int .i64 (P : Int)) ∧ wE.drew.cell? ⟨Bw, 3, none⟩ = some (.slice co' n dp') ∧ wE.drew.cell? ⟨Bw, 4, none⟩ = some (.slice ch' hv2.length dh') ∧ wE.drew.cell? ⟨Bw, 5, none⟩ = some (.slice ck' P dq') ∧ wE.drew.cell? ⟨Bw, 6, none⟩ = some (.slice cb' P db') := ⟨⟨g0, g1⟩, y0, y1, y2, y3, y4, y5, y6⟩
    refine tkA 0 (.agg #[.int .i64 (n : Int), .slice a2 es.length cap2]) false rfl (fun _ _ => trivial) false hS0 ?_
    refine tkA 1 (.agg #[.int .i64 (n : Int), .slice ce' es.length de', .int .i64 (P : Int), .slice co' n dp', .slice ch' hv2.length dh', .slice ck' P dq', .slice cb' P db']) false rfl (fun _ _ => trivial) false hS0 ?_
    try simp only [Act.put, List.setIfInBounds_toArray, List.set_cons_zero, List.set_cons_succ]
    refine wpAnyK_one (i := 2) (by kernel_rfl) rfl (by rfl) (b := false) (by kernel_rfl) (fun K hK => ?_)
    go_simp
    have nn : ∀ z y b o' q, b ≠ X → wE.cell? ⟨b, o', none⟩ = some q → ((wE.setCell ⟨X, 0, none⟩ z).setCell ⟨X, 1, none⟩ y).cell? ⟨b, o', none⟩ = some q := fun z y b o' q h1 h2 => (World.cell?_setCell_far _ _ _ _ (by first | exact fun e => h1 e | exact fun e => h1 e.symm)).trans ((World.cell?_setCell_far _ _ _ _ (by first | exact fun e => h1 e | exact fun e => h1 e.symm)).trans h2)
    have hgx : Bg ≠ X := by omega
    have hwx : Bw ≠ X := by omega
    refine hK.out _ _ ⟨⟨nn _ _ _ _ _ hgx g0, nn _ _ _ _ _ hgx g1⟩, nn _ _ _ _ _ hwx y0, nn _ _ _ _ _ hwx y1, nn _ _ _ _ _ hwx y2, nn _ _ _ _ _ hwx y3, nn _ _ _ _ _ hwx y4, nn _ _ _ _ _ hwx y5, nn _ _ _ _ _ hwx y6⟩ ?_
    try simp only [Act.put, List.setIfInBounds_toArray, List.set_cons_zero, List.set_cons_succ]
    refine wpAnyK_one (i := 3) (by kernel_rfl) rfl (by rfl) (b := true) (by kernel_rfl) (fun K hK => ?_)
    go_simp
    refine hK.out _ _ trivial (wpAnyK_done (by kernel_rfl) ?_ _)
    clear hS0 nn
    go_wp2_with fail
    obtain ⟨w8, hw8⟩ : ∃ V : World, V = (wE.setCell ⟨X, 0, none⟩ (.int .i64 (n : Int))).setCell ⟨X, 1, none⟩ (.slice a2 es.length cap2) := ⟨_, rfl⟩
    have hA8 : w8.heap[X]? = some (.cells #[.int .i64 (n : Int), .slice a2 es.length cap2] 25 (0, 0)) := by
      have h0 := heap_setCell_same _ _ 0 _ _ (.int .i64 (n : Int)) hAE
      have h1 := heap_setCell_same _ _ 1 _ _ (.slice a2 es.length cap2) h0
      rw [hw8, h1]; rfl
    have hg8 : wE.grownBy w8 (some X) := by rw [hw8]; exact grown_trans grown_store grown_store
    have hC8 := grown_blk hg8 hCE (fun e => by have e2 := Option.some.inj e; omega)
    obtain ⟨wF, hwF⟩ : ∃ V : World, V = (((((((w8.setCell ⟨X + 1, 0, none⟩ (.int .i64 (n : Int))).setCell ⟨X + 1, 1, none⟩ (.slice ce' es.length de')).setCell ⟨X + 1, 2, none⟩ (.int .i64 (P : Int))).setCell ⟨X + 1, 3, none⟩ (.slice co' n dp')).setCell ⟨X + 1, 4, none⟩ (.slice ch' hv2.length dh')).setCell ⟨X + 1, 5, none⟩ (.slice ck' P dq')).setCell ⟨X + 1, 6, none⟩ (.slice cb' P db')) := ⟨_, rfl⟩
    have hCF := set7all (d0 := .int .i64 (n : Int)) (d1 := .slice ce' es.length de') (d2 := .int .i64 (P : Int)) (d3 := .slice co' n dp') (d4 := .slice ch' hv2.length dh') (d5 := .slice ck' P dq') (d6 := .slice cb' P db') hC8
    have hgF := set7_grown w8 (X + 1) (.int .i64 (n : Int)) (.slice ce' es.length de') (.int .i64 (P : Int)) (.slice co' n dp') (.slice ch' hv2.length dh') (.slice ck' P dq') (.slice cb' P db')
    rw [← hwF] at hCF hgF
    have hAF := grown_blk hgF hA8 (fun e => by have e2 := Option.some.inj e; omega)
    have hFF : Fr (fun b => b ≤ X + 1) wE wF := ((Fr.refl (fun b => b ≤ X + 1) wE).grown hg8 (fun b e => .inl (by have e2 := Option.some.inj e; omega))).grown hgF (fun b e => .inl (by have e2 := Option.some.inj e; omega))
    have hdF := (hdE.kept hg8 (fun g e => by have e2 := Option.some.inj e; omega)).kept hgF (fun g e => by have e2 := Option.some.inj e; omega)
    have hres : Stb (fun b => b = dk) wF fun U => WldAt U (.agg #[.int .i64 (n : Int), .slice ce' es.length de', .int .i64 (P : Int), .slice co' n dp', .slice ch' hv2.length dh', .slice ck' P dq', .slice cb' P db']) (wdL n P es ow hv2 (plyK es n P ow (staP es n P ow) (fun i => l.getD i 0) k7)) := Stb.step hSE7 hFF (fun b h => .inl (.inl h)) (fun b h => .inl (.inl (by have h2 : b = dk := h; omega)))
    have hedg : Stb (fun b => b = dk) wF fun U => EdgesAt U (.slice a2 es.length cap2) es := Stb.step hSE3 (hF37.trans hFF (fun b h => .inl (.inl h))) (fun b h => .inl (by have h2 : b ≤ X + 1 ∨ Bg < b := h; omega)) (fun b h => .inl (.inl (by have h2 : b = dk := h; omega)))
    have hgw : w.grownBy wF (some dk) := by
      have hX0 := HX.out
      have h1 : Fr (fun b => b = dk ∨ X ≤ b) w w3 := (Fr.refl _ w).grown hgw3 (fun b e => .inl (.inl (Option.some.inj e).symm))
      have h2 : Fr (fun b => b = dk ∨ X ≤ b) w wF := by
        refine (((h1.trans hFc (fun b e => .inl (.inl e))).trans hFc7 (fun b e => .inl (.inl e))).grown hgE' (fun b e => .inl (.inr (by have e2 := Option.some.inj e; omega)))).trans ((((Fr.refl (fun b => X ≤ b) wE).grown hg8 (fun b e => .inl (by have e2 := Option.some.inj e; omega))).grown hgF (fun b e => .inl (by have e2 := Option.some.inj e; omega)))) (fun b h => .inl (.inr h))
      exact ⟨h2.os, h2.tape, h2.output, h2.size, fun b hb hne => h2.block b hb (fun e => by
        rcases e with e | e
        · exact hne (by rw [e])
        · omega)⟩
    have hgk := hgood.ply hpot (fun i => l.getD i 0) k7
    have hpk : potN n P ow (plyK es n P ow (staP es n P ow) (fun i => l.getD i 0) k7) ≤ potN n P ow (staP es n P ow) := ply_potle (es := es) how hgood.vld _ k7
    obtain ⟨t0, t1⟩ := cells2R hAF
    obtain ⟨u0, u1, u2, u3, u4, u5, u6⟩ := cells7 hCF
    rw [← hw8]
    rw [← hwF]
    exact bodyPost_ret (v := .tuple #[.agg #[.int .i64 (n : Int), .slice a2 es.length cap2], .agg #[.int .i64 (n : Int), .slice ce' es.length de', .int .i64 (P : Int), .slice co' n dp', .slice ch' hv2.length dh', .slice ck' P dq', .slice cb' P db']]) (by simp [results, Tryz.results8, go_sem, t0, t1, u0, u1, u2, u3, u4, u5, u6]) rfl ⟨n, P, es, ow, hv2, _, a2, cap2, _, rfl, hn8, hgk, by omega, Stb.step hedg (Fr.of_below (D := fun _ => False) (Below.refl _ _).drew) (fun _ h => h.elim) (fun b h => .inl h), Stb.step hres (Fr.of_below (D := fun _ => False) (Below.refl _ _).drew) (fun _ h => h.elim) (fun b h => .inl h), hdF.drew, grown_trans hgw (grown_none (grown_of_below (Below.refl _ _).drew)), fun n' c p e => by
      have h1 := hlo7 n' c p e
      have h2 := hFc7.size
      have h3 := hgE'.size
      have h4 := hFF.size
      show p.block < wF.heap.size
      omega⟩
end Go.Proofs.YtdkmdcdoiaelfaaGreat

namespace Go.Proofs.YtdkmdcdoiaelfaaGreat
open Go.RowKit Go.BigFrame

/-- what may come of a change: a world that is not valid, or one in the words of worlds of workers -/
def BentOk (X : WdL) : Prop := FewW X ∧ X.hv.length ≤ 1000000 ∧ (valB X = false ∨ ∃ (N Q : Nat) (o : Nat → Nat) (V : WdP), X = wdL N Q X.es o X.hv V ∧ GoodW N Q X.es o X.hv V ∧ potN N Q o V ≤ 800000)
theorem GoodW.few {n P : Nat} {es : List E2} {ow : Nat → Nat} {hv : List Int} {W : WdP} (h : GoodW n P es ow hv W) : FewW (wdL n P es ow hv W) := by
  have hP := h.hP.2
  have hn : n ≤ 64 := by have := h.hg.2.1; omega
  refine ⟨?_, ?_, fun l hl => ?_, ?_, fun r hr => ?_, fun r hr m hm => ?_⟩
  · have h1 := h.hg.length_le
    show es.length ≤ 1000000
    have h2 : n * n ≤ 64 * 64 := Nat.mul_le_mul hn hn
    omega
  · show ((List.range P).map W.kn).length ≤ 1000
    rw [List.length_map, List.length_range]; omega
  · obtain ⟨j, hj, rfl⟩ := List.mem_map.1 hl
    have := h.vld.len j (List.mem_range.1 hj)
    omega
  · show ((List.range P).map _).length ≤ 1000
    rw [List.length_map, List.length_range]; omega
  · obtain ⟨j, hj, rfl⟩ := List.mem_map.1 hr
    rw [List.length_map, List.length_range]; omega
  · obtain ⟨j, hj, rfl⟩ := List.mem_map.1 hr
    obtain ⟨t, ht, rfl⟩ := List.mem_map.1 hm
    exact h.bl j t (List.mem_range.1 hj) (List.mem_range.1 ht)
theorem val_len {X : WdL} (h : (X.kn.length : Int) ≠ X.P) : valB X = false := by
  cases hv : valB X with
  | false => rfl
  | true =>
    unfold valB at hv
    simp only [Bool.and_eq_true, decide_eq_true_eq] at hv
    exact absurd hv.2.1 h
theorem grown_fin {w w1 w2 : World} {r : Option Nat} {Z : Nat} (h : w.grownBy w1 r) (hg : w1.grownBy w2 (some Z)) (hZ : w.heap.size ≤ Z) : w.grownBy w2 r :=
  ⟨hg.os.trans h.os, hg.tape.trans h.tape, hg.output.trans h.output, Nat.le_trans h.size hg.size, fun b hb hne => (hg.block b (Nat.lt_of_lt_of_le hb h.size) (fun e => by have := Option.some.inj e; omega)).trans (h.block b hb hne)⟩
theorem pot_le {n P : Nat} {ow : Nat → Nat} {W : WdP} (hn : n ≤ 64) (hP : P ≤ 8) (how : ∀ v, v < n → ow v < P) (h : VldP n P W) : potN n P ow W ≤ bxN P W + 28672 := by
  have h1 := sumR_leC (fun v => ((W.kn (ow v)).getD v 0).toNat * (P - 1)) 448 n fun v hv => Nat.le_trans (Nat.mul_le_mul (by have := h.le (ow v) (how v hv) v; omega : _ ≤ 64) (by omega : _ ≤ 7)) (by decide)
  have h2 : n * 448 ≤ 64 * 448 := Nat.mul_le_mul_right _ hn
  unfold potN
  omega
theorem bx_potle {n P : Nat} {ow : Nat → Nat} {W : WdP} : bxN P W ≤ potN n P ow W := by unfold potN; omega
/-- a value is set -/
def knW (W : WdP) (y : Int) : WdP := ⟨fun j => if j = 0 then (W.kn 0).set 0 y else W.kn j, W.bx⟩
theorem GoodW.knW {n P : Nat} {es : List E2} {ow : Nat → Nat} {hv : List Int} {W : WdP} {y : Int} (h : GoodW n P es ow hv W) (h0 : 0 ≤ y) (h1 : y ≤ n) : GoodW n P es ow hv (knW W y) := by
  refine ⟨h.hg, h.hP, h.how, h.hh, h.hhl, ⟨fun w hw => ?_, fun w hw v => ?_, fun w hw v => ?_, h.vld.msg⟩, h.bl⟩
  · show (if w = 0 then (W.kn 0).set 0 y else W.kn w).length = n
    by_cases e : w = 0
    · subst e; rw [if_pos rfl, List.length_set]; exact h.vld.len 0 hw
    · rw [if_neg e]; exact h.vld.len w hw
  · show 0 ≤ (if w = 0 then (W.kn 0).set 0 y else W.kn w).getD v 0
    by_cases e : w = 0
    · subst e
      rw [if_pos rfl, getD_set]
      split
      · exact h0
      · exact h.vld.ge 0 hw v
    · rw [if_neg e]; exact h.vld.ge w hw v
  · show (if w = 0 then (W.kn 0).set 0 y else W.kn w).getD v 0 ≤ n
    by_cases e : w = 0
    · subst e
      rw [if_pos rfl, getD_set]
      split
      · exact h1
      · exact h.vld.le 0 hw v
    · rw [if_neg e]; exact h.vld.le w hw v
theorem knW_bad {n P : Nat} {es : List E2} {ow : Nat → Nat} {hv : List Int} {W : WdP} {y : Int} (hP : 1 ≤ P) (hl : 0 < (W.kn 0).length) (h : ¬ (0 ≤ y ∧ y ≤ n)) : valB (wdL n P es ow hv (Go.Proofs.YtdkmdcdoiaelfaaGreat.knW W y)) = false := by
  cases hb : valB (wdL n P es ow hv (Go.Proofs.YtdkmdcdoiaelfaaGreat.knW W y)) with
  | false => rfl
  | true =>
    refine absurd ?_ h
    unfold valB at hb
    simp only [Bool.and_eq_true, decide_eq_true_eq] at hb
    have hk := hb.2.2.2.1
    rw [List.all_eq_true] at hk
    have h1 := hk ((W.kn 0).set 0 y) (List.mem_map.2 ⟨0, List.mem_range.2 hP, (if_pos rfl : (if (0 : Nat) = 0 then (W.kn 0).set 0 y else W.kn 0) = (W.kn 0).set 0 y)⟩)
    unfold okK at h1
    rw [Bool.and_eq_true, List.all_eq_true] at h1
    have h2 := h1.2 y (List.mem_iff_getElem.2 ⟨0, by rw [List.length_set]; exact hl, by simp⟩)
    unfold okN at h2
    rw [Bool.and_eq_true, decide_eq_true_eq, decide_eq_true_eq] at h2
    exact h2
theorem FewW.knW {n P : Nat} {es : List E2} {ow : Nat → Nat} {hv : List Int} {W : WdP} {y : Int} (h : FewW (wdL n P es ow hv W)) (hP : 1 ≤ P) : FewW (wdL n P es ow hv (Go.Proofs.YtdkmdcdoiaelfaaGreat.knW W y)) := by
  refine ⟨h.es, ?_, fun l hl => ?_, h.bl, h.br, h.bm⟩
  · have := h.kl
    simpa [wdL] using this
  · obtain ⟨j, hj, rfl⟩ := List.mem_map.1 hl
    show (if j = 0 then (W.kn 0).set 0 y else W.kn j).length ≤ 1000000
    by_cases e : j = 0
    · rw [if_pos e, List.length_set]; exact h.km _ (List.mem_map.2 ⟨0, List.mem_range.2 hP, rfl⟩)
    · rw [if_neg e]; exact h.km _ (List.mem_map.2 ⟨j, hj, rfl⟩)
/-- a row more that holds nothing -/
def voidW (X : WdL) : WdL := ⟨X.n, X.es, X.P, X.ow, X.hv, X.kn ++ [[]], X.bx⟩
theorem FewW.void {X : WdL} (h : FewW X) (hk : X.kn.length ≤ 900) : FewW (voidW X) := ⟨h.es, by show (X.kn ++ [[]]).length ≤ 1000; rw [List.length_append, List.length_singleton]; omega, fun l hl => by
  rcases List.mem_append.1 hl with h1 | h1
  · exact h.km l h1
  · rw [List.mem_singleton] at h1; subst h1; simp, h.bl, h.br, h.bm⟩
def knL (vs : Ix → Value) (W : WdP) (P : Nat) : List (Sl × List Int) := (List.range P).map fun j => (slOf (vs (0, j)), W.kn j)
theorem knL_flat (vs : Ix → Value) (W : WdP) (P : Nat) : flatR (encP (List Int)) (knL vs W P) = flatR (encP Unit) (ptrs (fun j => vs (0, j)) P) := by
  rw [flatP_eq, flatP_eq]
  unfold knL ptrs
  rw [List.map_map, List.map_map]; rfl
/-- ref38.Copy of a valid world, with its outer row of known values -/
theorem copy38H_any (n P : Nat) (es : List E2) (ow : Nat → Nat) (hv : List Int) (W : WdP) (ae ao ah ak ab : Option Addr) (ce co ch ck cb : Nat) (w : World) (hG : GoodW n P es ow hv W) (hk : KnA w (.slice ak P ck) ((List.range P).map W.kn)) (hb : BoxA w (.slice ab P cb) (bxL P W)) :
    Calls Tryz.prog 49 #[.agg #[.int .i64 (n : Int), .slice ae es.length ce, .int .i64 (P : Int), .slice ao n co, .slice ah hv.length ch, .slice ak P ck, .slice ab P cb]] w fun e w' => ∃ KB BB cK cB R cR vs, e = .returned (.agg #[.int .i64 (n : Int), .slice ae es.length ce, .int .i64 (P : Int), .slice ao n co, .slice ah hv.length ch, .slice (some ⟨KB, 0, none⟩) P cK, .slice (some ⟨BB, 0, none⟩) P cB]) ∧ OwnW w' w.heap.size P KB BB cK cB R cR vs W.kn W.bx ∧ w'.ownsRow w.heap.size 22 (encP (List Int)).k (.slice (some ⟨KB, 0, none⟩) P cK) (knL vs W P).length (flatR (encP (List Int)) (knL vs W P)) ∧ Below w.heap.size w w' := by
  have hP8 := hG.hP
  have hkl : ((List.range P).map W.kn).length = P := by simp
  have hbl := bxL_len P W
  have hn64 : n ≤ 64 := by have := hG.hg.2.1; omega
  have h := copy38_any n P ae ao ah ak ab es.length n hv.length ce co ch ck cb ((List.range P).map W.kn) (bxL P W) w (by rw [hkl]; omega) (by rw [hbl]; omega) (by rw [hkl]; exact hk) (fun l hl => by
    obtain ⟨j, hj, rfl⟩ := List.mem_map.1 hl
    have := hG.vld.len j (List.mem_range.1 hj)
    omega) (by rw [hbl]; exact hb) (fun r hr => by
    obtain ⟨j, hj, rfl⟩ := List.mem_map.1 hr
    rw [List.length_map, List.length_range]; omega) (fun r hr m hm => by
    obtain ⟨j, hj, rfl⟩ := List.mem_map.1 hr
    obtain ⟨t, ht, rfl⟩ := List.mem_map.1 hm
    exact hG.bl j t (List.mem_range.1 hj) (List.mem_range.1 ht))
  rw [hkl, hbl] at h
  refine h.mono ?_
  rintro e w' ⟨vs, rfl, hr, hb'⟩
  obtain ⟨KB, BB, cK, cB, R, cR, eK, eB, hO⟩ := RowsS.world hr hP8.1 (fun r hr => by rw [bxL_rowD P W r hr]; simp)
  refine ⟨KB, BB, cK, cB, R, cR, vs, by rw [eK, eB], ⟨GW.congrKB hO.grid (fun t ht => ?_) (fun r t hrt => ?_), hO.out, hO.cK, hO.cB, hO.low, hO.offA, hO.offV⟩, ?_, hb'⟩
  · have ht2 : t < P := by rcases ht with h | h <;> simp at h; exact h
    unfold knF
    rw [getD_at (by rw [List.getElem?_map, List.getElem?_range ht2]; rfl)]
  · have h2 : r < P ∧ t < P := by rcases hrt with h | h <;> simp at h; omega
    unfold bxF
    rw [bxL_box P W r t h2.1 h2.2]
  · have h1 := hr.o0
    rw [ptrs_len, eK] at h1
    rw [knL_flat, show (knL vs W P).length = P by simp [knL]]
    exact h1
/-- a message more -/
def bxW (W : WdP) (i k : Nat) (m : Msg) : WdP := ⟨W.kn, fun r t => if r = i ∧ t = k then W.bx i k ++ [m] else W.bx r t⟩
theorem bxW_len (W : WdP) (i k : Nat) (m : Msg) (r t : Nat) : ((bxW W i k m).bx r t).length ≤ (W.bx r t).length + 1 := by
  show (if r = i ∧ t = k then W.bx i k ++ [m] else W.bx r t).length ≤ _
  by_cases e : r = i ∧ t = k
  · obtain ⟨rfl, rfl⟩ := e; rw [if_pos ⟨rfl, rfl⟩, List.length_append, List.length_singleton]; exact Nat.le_refl _
  · rw [if_neg e]; omega
theorem sumR_le1 {f g : Nat → Nat} {c : Nat} : ∀ {n : Nat}, (∀ i, i < n → g i ≤ f i + c) → sumR n g ≤ sumR n f + n * c
  | 0, _ => by rw [sumR, sumR]; omega
  | n + 1, h => by
    have h1 := sumR_le1 (f := f) (g := g) (c := c) (n := n) (fun i hi => h i (by omega))
    have h2 := h n (by omega)
    rw [sumR, sumR, Nat.succ_mul]; omega
theorem bxW_sum {P : Nat} (W : WdP) (i k : Nat) (m : Msg) (hP : P ≤ 8) : bxN P (bxW W i k m) ≤ bxN P W + 64 := by
  have h1 : bxN P (bxW W i k m) ≤ bxN P W + P * (P * 1) := sumR_le1 fun r _ => sumR_le1 fun t _ => bxW_len W i k m r t
  have h2 : P * P ≤ 8 * 8 := Nat.mul_le_mul hP hP
  rw [Nat.mul_one] at h1
  omega
theorem GoodW.bxW {n P i k : Nat} {es : List E2} {ow : Nat → Nat} {hv : List Int} {W : WdP} {m : Msg} (h : GoodW n P es ow hv W) (hb : ∀ r t, r < P → t < P → (W.bx r t).length ≤ 900000) (hik : i ≠ k) (h0 : 0 ≤ m.1) (h1 : m.1 < n) (h2 : m.2.2 = false) (h3 : 0 ≤ m.2.1) (h4 : m.2.1 ≤ n) : GoodW n P es ow hv (bxW W i k m) := by
  refine ⟨h.hg, h.hP, h.how, h.hh, h.hhl, ⟨h.vld.len, h.vld.ge, h.vld.le, fun r t hr ht x hx => ?_⟩, fun r t hr ht => ?_⟩
  · have hx2 : x ∈ (if r = i ∧ t = k then W.bx i k ++ [m] else W.bx r t) := hx
    by_cases e : r = i ∧ t = k
    · obtain ⟨rfl, rfl⟩ := e
      rw [if_pos ⟨rfl, rfl⟩] at hx2
      rcases List.mem_append.1 hx2 with hx3 | hx3
      · exact h.vld.msg r t hr ht x hx3
      · rw [List.mem_singleton] at hx3; subst hx3; exact ⟨hik, h0, h1, h2, h3, h4⟩
    · rw [if_neg e] at hx2; exact h.vld.msg r t hr ht x hx2
  · have := bxW_len W i k m r t
    have := hb r t hr ht
    omega
theorem bxW_bad {n P i k : Nat} {es : List E2} {ow : Nat → Nat} {hv : List Int} {W : WdP} {m : Msg} (hi : i < P) (hk : k < P) (h : ¬ (i ≠ k ∧ 0 ≤ m.1 ∧ m.1 < n ∧ m.2.2 = false ∧ 0 ≤ m.2.1 ∧ m.2.1 ≤ n)) : valB (wdL n P es ow hv (Go.Proofs.YtdkmdcdoiaelfaaGreat.bxW W i k m)) = false := by
  cases hb : valB (wdL n P es ow hv (Go.Proofs.YtdkmdcdoiaelfaaGreat.bxW W i k m)) with
  | false => rfl
  | true =>
    refine absurd ?_ h
    unfold valB at hb
    simp only [Bool.and_eq_true, decide_eq_true_eq] at hb
    have hx := hb.2.2.2.2
    rw [List.all_eq_true] at hx
    have hbl : (wdL n P es ow hv (Go.Proofs.YtdkmdcdoiaelfaaGreat.bxW W i k m)).bx = bxL P (Go.Proofs.YtdkmdcdoiaelfaaGreat.bxW W i k m) := rfl
    have h1 := hx i (List.mem_range.2 (by rw [hbl, bxL_len]; exact hi))
    rw [hbl] at h1
    unfold okB at h1
    rw [bxL_box P _ i i hi hi, bxL_rowD P _ i hi] at h1
    simp only [Bool.and_eq_true, decide_eq_true_eq] at h1
    have hm : (Go.Proofs.YtdkmdcdoiaelfaaGreat.bxW W i k m).bx i k = W.bx i k ++ [m] := if_pos ⟨rfl, rfl⟩
    have h2 := h1.2.2
    rw [List.all_eq_true] at h2
    have h3 := h2 _ (List.mem_map.2 ⟨k, List.mem_range.2 hk, rfl⟩)
    rw [List.all_eq_true, hm] at h3
    have h4 := h3 m (List.mem_append.2 (.inr (List.mem_singleton.2 rfl)))
    unfold okM okN at h4
    simp only [Bool.and_eq_true, decide_eq_true_eq, Bool.not_eq_true'] at h4
    refine ⟨fun e => ?_, h4.2.1, h4.2.2.1, h4.1, h4.2.2.2.1, h4.2.2.2.2⟩
    subst e
    have h5 := h1.2.1
    rw [hm] at h5
    simp at h5
theorem FewW.bxW {n P i k : Nat} {es : List E2} {ow : Nat → Nat} {hv : List Int} {W : WdP} {m : Msg} (h : FewW (wdL n P es ow hv W)) (hb : ∀ r t, r < P → t < P → (W.bx r t).length ≤ 900000) : FewW (wdL n P es ow hv (Go.Proofs.YtdkmdcdoiaelfaaGreat.bxW W i k m)) := by
  refine ⟨h.es, h.kl, h.km, ?_, fun r hr => ?_, fun r hr x hx => ?_⟩
  · have := h.bl
    simpa [wdL] using this
  · obtain ⟨a, ha, rfl⟩ := List.mem_map.1 hr
    have h1 := h.bl
    have h2 : ((wdL n P es ow hv W).bx).length = P := by simp [wdL]
    rw [List.length_map, List.length_range]; omega
  · obtain ⟨a, ha, rfl⟩ := List.mem_map.1 hr
    obtain ⟨t, ht, rfl⟩ := List.mem_map.1 hx
    have h1 := bxW_len W i k m a t
    have h2 := hb a t (List.mem_range.1 ha) (List.mem_range.1 ht)
    omega
/-- a world that says that there is one more worker -/
def moreW (X : WdL) : WdL := ⟨X.n, X.es, X.P + 1, X.ow, X.hv, X.kn, X.bx⟩
theorem WldAt.more {w : World} {X : WdL} {a0 a1 a2 a3 a4 a5 a6 : Value} (h : WldAt w (.agg #[a0, a1, a2, a3, a4, a5, a6]) X) : WldAt w (.agg #[a0, a1, .int .i64 (X.P + 1), a3, a4, a5, a6]) (moreW X) := by
  obtain ⟨ae, ao, ah, ak, ab, ce, co, ch, ck, cb, e, h1, h2, h3, h4, h5⟩ := h
  cases e
  exact ⟨ae, ao, ah, ak, ab, ce, co, ch, ck, cb, rfl, h1, h2, h3, h4, h5⟩
theorem FewW.more {X : WdL} (h : FewW X) : FewW (moreW X) := ⟨h.es, h.kl, h.km, h.bl, h.br, h.bm⟩
set_option linter.unusedSimpArgs false in
set_option maxRecDepth 100000 in
set_option maxHeartbeats 6400000 in
theorem bent38_any (dk n P : Nat) (es : List E2) (ow : Nat → Nat) (hv : List Int) (W : WdP) (v : Value) (w : World) (hdk : DeckAt w dk) (hG : GoodW n P es ow hv W) (hpot : potN n P ow W ≤ 400000) (hS : Stb (fun b => b = dk) w fun U => WldAt U v (wdL n P es ow hv W)) :
    Calls Tryz.prog 16 #[.pointer (some ⟨dk, 0, none⟩), v] w fun e w' => ∃ (Y : WdL) (v' : Value), e = .returned v' ∧ (Stb (fun b => b = dk) w' fun U => WldAt U v' Y) ∧ BentOk Y ∧ DeckAt w' dk ∧ w.grownBy w' (some dk) := by
  have hP8 := hG.hP
  have hn64 : n ≤ 64 := by have := hG.hg.2.1; omega
  have hdl := hdk.lt
  obtain ⟨ae, ao, ah, ak, ab, ce, co, ch, ck, cb, rfl, hE, hO, hH, hK, hB⟩ := hS.now.shapeH
  obtain ⟨hSE, hSO, hSH⟩ := stb_parts hS
  obtain ⟨hX0, hb0⟩ := boxG_new w #[.int .i64 (n : Int), .slice ae es.length ce, .int .i64 (P : Int), .slice ao n co, .slice ah hv.length ch, .slice ak P ck, .slice ab P cb] 36
  obtain ⟨w1, hw1⟩ : ∃ V : World, V = w.alloc (.cells #[.int .i64 (n : Int), .slice ae es.length ce, .int .i64 (P : Int), .slice ao n co, .slice ah hv.length ch, .slice ak P ck, .slice ab P cb] 36) := ⟨_, rfl⟩
  have hz1 : w1.heap.size = w.heap.size + 1 := by rw [hw1]; simp
  rw [← hw1] at hX0 hb0
  obtain ⟨hZ0, hb1⟩ := boxG_new w1 #[.int .i64 0, .slice none 0 0, .int .i64 0, .slice none 0 0, .slice none 0 0, .slice none 0 0, .slice none 0 0] 36
  obtain ⟨wA, hwA⟩ : ∃ V : World, V = w1.alloc (.cells #[.int .i64 0, .slice none 0 0, .int .i64 0, .slice none 0 0, .slice none 0 0, .slice none 0 0, .slice none 0 0] 36) := ⟨_, rfl⟩
  have hzA : wA.heap.size = w.heap.size + 2 := by rw [hwA]; simp [hz1]
  rw [← hwA] at hZ0 hb1
  have hX1 := lit_next' hb1 hX0
  have hbA := hb0.trans (hb1.mono hb0.size)
  obtain ⟨X, hX⟩ : ∃ X, w.heap.size = X := ⟨_, rfl⟩
  rw [hz1] at hZ0
  rw [hX] at hX1 hZ0 hzA hdl
  have HX := Lib.hid hX
  have hwA2 : wA = (w.alloc (.cells #[.int .i64 (n : Int), .slice ae es.length ce, .int .i64 (P : Int), .slice ao n co, .slice ah hv.length ch, .slice ak P ck, .slice ab P cb] 36)).alloc (.cells #[.int .i64 0, .slice none 0 0, .int .i64 0, .slice none 0 0, .slice none 0 0, .slice none 0 0, .slice none 0 0] 36) := by rw [hwA, hw1]
  have HWA := Lib.hid hwA2
  have hcp := copy38H_any n P es ow hv W ae ao ah ak ab ce co ch ck cb wA hG (hK.below hbA) (hB.below hbA)
  clear hX0 hb0 hb1 hz1 hw1 hwA hwA2 w1 hX
  obtain ⟨x0, x1, x2, x3, x4, x5, x6⟩ := cells7 hX1
  go_enter Tryz.func16, Tryz.ntmps16
  go_upto_region 1 with fail
  rw [← HWA.out, HX.out]
  go_wp2_with fail
  refine hcp.mono ?_
  rintro e w3 ⟨KB, BB, cK, cB, R, cR, vs, rfl, hOW, hKR, hb3⟩
  have hbw3 := hbA.trans (hb3.mono hbA.size)
  obtain ⟨lo, hlo⟩ : ∃ q, wA.heap.size = q := ⟨_, rfl⟩
  rw [hlo] at hOW hKR hzA
  have hsw : ∀ {p : World → Prop}, Stb (fun b => b = dk) w p → Stb (fun b => b = dk ∨ b = X + 1) w3 p := fun h => Stb.step h (Fr.of_below (D := fun _ => False) hbw3) (fun _ h => h.elim) (fun b h => by
    have h2 : b = dk ∨ b = X + 1 := h
    have h3 := HX.out
    rcases h2 with h2 | h2
    · exact .inl h2
    · right; omega)
  have hS3 := OwnW.readS (D := fun b => b = dk ∨ b = X + 1) (ae := ae) (ao := ao) (ah := ah) (ce := ce) (co := co) (ch := ch) (n := n) (es := es) (ow := ow) (hv := hv) hOW (by omega) (fun j hj => by rw [hG.vld.len j hj]; omega) (fun r t hr ht => hG.bl r t hr ht) (hsw hSE) (hsw hSO) (hsw hSH) (fun b h => by have h2 : b = dk ∨ b = X + 1 := h; omega)
  obtain ⟨hY0, hb4⟩ := boxG_new w3 #[.int .i64 (n : Int), .slice ae es.length ce, .int .i64 (P : Int), .slice ao n co, .slice ah hv.length ch, .slice (some ⟨KB, 0, none⟩) P cK, .slice (some ⟨BB, 0, none⟩) P cB] 36
  obtain ⟨w0, hw0⟩ : ∃ V : World, V = w3.alloc (.cells #[.int .i64 (n : Int), .slice ae es.length ce, .int .i64 (P : Int), .slice ao n co, .slice ah hv.length ch, .slice (some ⟨KB, 0, none⟩) P cK, .slice (some ⟨BB, 0, none⟩) P cB] 36) := ⟨_, rfl⟩
  rw [← hw0] at hY0 hb4
  have HW0 := Lib.hid hw0
  obtain ⟨Y, hY⟩ : ∃ Y, w3.heap.size = Y := ⟨_, rfl⟩
  have hXY : X + 1 < Y := by have := hb3.size; omega
  have hloY : lo ≤ Y := by have := hb3.size; omega
  rw [hY] at hY0
  have hZ3 := lit_next' hb4 (lit_next' hb3 hZ0)
  have hbw0 := hbw3.trans (hb4.mono hbw3.size)
  have hS0 : Stb (fun b => b = dk ∨ b = X + 1 ∨ b = Y) w0 fun U => WldAt U (.agg #[.int .i64 (n : Int), .slice ae es.length ce, .int .i64 (P : Int), .slice ao n co, .slice ah hv.length ch, .slice (some ⟨KB, 0, none⟩) P cK, .slice (some ⟨BB, 0, none⟩) P cB]) (wdL n P es ow hv W) := Stb.step hS3 (Fr.of_below (D := fun _ => False) hb4) (fun _ h => h.elim) (fun b h => by
    have h2 : b = dk ∨ b = X + 1 ∨ b = Y := h
    rcases h2 with h | h | h
    · exact .inl (.inl h)
    · exact .inl (.inr h)
    · right; rw [hY]; omega)
  have hOW0 : OwnW w0 lo P KB BB cK cB R cR vs W.kn W.bx := ⟨hOW.grid.below hb4, fun r hr => ⟨(hb4.cell (p := ⟨BB, r, none⟩) (cell_lt (hOW.out r hr).1)).trans (hOW.out r hr).1, (hOW.out r hr).2⟩, hOW.cK, hOW.cB, hOW.low, hOW.offA, hOW.offV⟩
  have hBBY : BB < Y := by rw [← hY]; exact cell_lt (hOW.out 0 (by omega)).1
  have hvY : ∀ x, CpI P P 0 x → ∀ b, (vs x).ownBlock = some b → b < Y := fun x hx b e => by rw [← hY]; exact ((hOW.grid.own x hx).lt b e).2
  have haY : ∀ x, CpI P P 0 x → (CpA KB R x).1 < Y := fun x hx => by rw [← hY]; exact hOW.grid.lt x hx
  have hKR0 := hKR.kept (grown_of_below hb4) (Classical.em _)
  have hd0 := hdk.kept (grown_of_below hbw0) (fun g e => by cases e)
  go_upto_region 2 with fail
  rw [← HW0.out]
  have hnx := next_any dk 5 w0 hd0 (by omega) (by omega)
  clear hcp hOW hKR hS3 hw0 x0 x1 x2 x3 x4 x5 x6 hX1 hZ0 hb3 hb4 hY hlo hd0 hsw
  go_wp2_with fail
  refine hnx.mono ?_
  rintro e w5 ⟨x, hx0, hx1, rfl, hd5, hg5⟩
  have hF5 : Fr (fun b => b = dk) w0 w5 := (Fr.refl _ _).grown hg5 (fun b e => .inl (Option.some.inj e).symm)
  have hY5 := hF5.blk hY0 (by omega)
  have hZ5 := hF5.blk hZ3 (by omega)
  have hS5 := Stb.step (D1 := fun b => b = dk ∨ b = X + 1 ∨ b = Y) hS0 hF5 (fun b e => .inl (.inl e)) (fun b h => .inl h)
  have hgw5 : w.grownBy w5 (some dk) := grown_trans (grown_none (grown_of_below hbw0)) hg5
  clear hS0 hZ3 hY0 hnx
  by_cases hc0 : x = 0
  · subst hc0
    clear hx0 hx1
    have hI0 : CpI P P 0 (0, 0) := .inl ⟨rfl, hP8.1⟩
    have hlX := HX.out
    have hG5 : GW w5 lo (CpI P P 0) (CpA KB R) vs W.kn (fun _ => []) W.bx := GridA.kept hOW0.grid hg5 (fun x hx e => by have := hOW0.grid.low x hx; have e2 := Option.some.inj e; omega) (fun x hx b e q => by have := ((hOW0.grid.own x hx).lt b e).1; have e2 := Option.some.inj q; omega)
    have hout5 : ∀ r, r < P → w5.cell? ⟨BB, r, none⟩ = some (.slice (some ⟨R r, 0, none⟩) P (cR r)) := fun r hr => hF5.cell (hOW0.out r hr).1 (by have := hOW0.low; omega)
    have hln := hG.vld.len 0 hP8.1
    obtain ⟨aQ, cQ, eQ⟩ := owns_shape (GW.kn hG5 hI0)
    rw [hln] at eQ
    have cKB := hG5.cell (0, 0) hI0
    rw [eQ] at cKB
    change w5.cell? ⟨KB, 0, none⟩ = some (.slice aQ n cQ) at cKB
    have hPp : decide ((0 : Int) < (P : Int)) = true := by simp; omega
    have hP0 : (0 : Int) < P := by omega
    by_cases hn0 : n = 0
    · have hnn : decide ((0 : Int) < (n : Int)) = false := by simp; omega
      have hnn2 : decide (0 < n) = false := by simp; omega
      clear hn0 hln
      obtain ⟨y0, y1, y2, y3, y4, y5, y6⟩ := cells7 hY5
      obtain ⟨v0, v1, v2, v3, v4, v5, v6⟩ := cells7 hZ5
      obtain ⟨f0, f1, f2, f3, f4, f5, f6⟩ := frees7 hZ5
      obtain ⟨wF, hwF⟩ : ∃ V : World, V = (((((((w5.setCell ⟨X + 1, 0, none⟩ (.int .i64 (n : Int))).setCell ⟨X + 1, 1, none⟩ (.slice ae es.length ce)).setCell ⟨X + 1, 2, none⟩ (.int .i64 (P : Int))).setCell ⟨X + 1, 3, none⟩ (.slice ao n co)).setCell ⟨X + 1, 4, none⟩ (.slice ah hv.length ch)).setCell ⟨X + 1, 5, none⟩ (.slice (some ⟨KB, 0, none⟩) P cK)).setCell ⟨X + 1, 6, none⟩ (.slice (some ⟨BB, 0, none⟩) P cB)) := ⟨_, rfl⟩
      have hfin := set7all (d0 := .int .i64 (n : Int)) (d1 := .slice ae es.length ce) (d2 := .int .i64 (P : Int)) (d3 := .slice ao n co) (d4 := .slice ah hv.length ch) (d5 := .slice (some ⟨KB, 0, none⟩) P cK) (d6 := .slice (some ⟨BB, 0, none⟩) P cB) hZ5
      have hgF := set7_grown w5 (X + 1) (.int .i64 (n : Int)) (.slice ae es.length ce) (.int .i64 (P : Int)) (.slice ao n co) (.slice ah hv.length ch) (.slice (some ⟨KB, 0, none⟩) P cK) (.slice (some ⟨BB, 0, none⟩) P cB)
      rw [← hwF] at hfin hgF
      have HWF := Lib.hid hwF
      have hdF := (hd5).kept hgF (fun g e => by have e2 := Option.some.inj e; omega)
      have hgwF : w.grownBy wF (some dk) := grown_fin (hgw5) hgF (by rw [HX.out]; omega)
      have hres : Stb (fun b => b = dk) wF fun U => WldAt U (.agg #[.int .i64 (n : Int), .slice ae es.length ce, .int .i64 (P : Int), .slice ao n co, .slice ah hv.length ch, .slice (some ⟨KB, 0, none⟩) P cK, .slice (some ⟨BB, 0, none⟩) P cB]) (wdL n P es ow hv W) := Stb.step hS5 ((Fr.refl (fun b => b = X + 1) _).grown hgF (fun b e => .inl (Option.some.inj e).symm)) (fun b e => .inl (.inr (.inl e))) (fun b h => .inl (.inl h))
      obtain ⟨t0, t1, t2, t3, t4, t5, t6⟩ := cells7 hfin
      clear hwF hgF hfin
      go_wp2_with fail
      rw [← HWF.out]
      exact bodyPost_ret (v := .agg #[.int .i64 (n : Int), .slice ae es.length ce, .int .i64 (P : Int), .slice ao n co, .slice ah hv.length ch, .slice (some ⟨KB, 0, none⟩) P cK, .slice (some ⟨BB, 0, none⟩) P cB]) (by simp [results, Tryz.results16, go_sem, t0, t1, t2, t3, t4, t5, t6]) rfl ⟨_, _, rfl, hres, ⟨hG.few, hG.hhl, .inr ⟨n, P, ow, W, rfl, hG, by omega⟩⟩, hdF, hgwF⟩
    · have hnn : decide ((0 : Int) < (n : Int)) = true := by simp; omega
      have hn1 : (0 : Int) < n := by omega
      obtain ⟨gK, cG, eG, hgl, hcg, hgs, hgf, hgc⟩ := ownsI_at (show w5.ownsRow lo 3 1 (vs (0, 0)) n (intsV (W.kn 0)) by have h := GW.kn hG5 hI0; rw [hln] at h; exact h) (by omega)
      rw [eQ] at eG
      cases eG
      have cG0 := hgc 0 _ (get_of_getD (show 0 < (W.kn 0).length by omega))
      obtain ⟨z0, hz0⟩ : ∃ q, (W.kn 0).getD 0 0 = q := ⟨_, rfl⟩
      rw [hz0] at cG0
      have hgY := hvY (0, 0) hI0 gK (by rw [eQ]; rfl)
      clear hgc hz0
      obtain ⟨y0, y1, y2, y3, y4, y5, y6⟩ := cells7 hY5
      go_upto_region 5 with fail
      refine wp_region_heldK (k := 8) (S := fun b W => match b with | false => W.cell? ⟨Y, 5, none⟩ = some (.slice (some ⟨KB, 0, none⟩) P cK) ∧ W.cell? ⟨KB, 0, none⟩ = some (.slice (some ⟨gK, 0, none⟩) n cQ) ∧ W.cell? ⟨gK, 0, none⟩ = some (.int .i64 z0) | true => True) (by kernel_rfl) ?_
      have hS0 : w5.drew.cell? ⟨Y, 5, none⟩ = some (.slice (some ⟨KB, 0, none⟩) P cK) ∧ w5.drew.cell? ⟨KB, 0, none⟩ = some (.slice (some ⟨gK, 0, none⟩) n cQ) ∧ w5.drew.cell? ⟨gK, 0, none⟩ = some (.int .i64 z0) := ⟨y5, cKB, cG0⟩
      refine tkA 0 (.pointer (some ⟨Y, 5, none⟩)) true rfl (fun _ _ => trivial) false hS0 ?_
      refine tkA 1 (.slice (some ⟨KB, 0, none⟩) P cK) false rfl (fun _ _ => trivial) false hS0 ?_
      refine tkA 2 (.pointer (some ⟨KB, 0, none⟩)) true rfl (fun _ _ => trivial) false hS0 ?_
      refine tkA 3 (.slice (some ⟨gK, 0, none⟩) n cQ) false rfl (fun _ _ => trivial) false hS0 ?_
      refine tkA 4 (.pointer (some ⟨dk, 0, none⟩)) true rfl (fun _ _ => trivial) false hS0 ?_
      try simp only [Act.put, List.setIfInBounds_toArray, List.set_cons_zero, List.set_cons_succ]
      refine wpAnyK_one (i := 5) (by kernel_rfl) rfl (by rfl) (b := false) (by kernel_rfl) (fun K hK => ?_)
      go_simp
      go_at_call 23
      refine (next_any dk 12 w5.drew hd5.drew (by omega) (by omega)).mono ?_
      rintro e w6 ⟨yv, hyv0, hyv1, rfl, hd6, hg6'⟩
      have hwr : IntKind.i64.wrap (yv - 1) = yv - 1 := IntWalk.i64_in _ (by omega)
      have hg6 : w5.grownBy w6 (some dk) := grown_trans (grown_none (grown_of_below (Below.refl _ _).drew)) hg6'
      have hkb : KB ≠ dk := by have := hG5.low (0, 0) hI0; intro e; change lo ≤ KB at this; omega
      have hgd : gK ≠ dk := by intro e; omega
      have hYd : Y ≠ dk := by omega
      have hS6 : w6.cell? ⟨Y, 5, none⟩ = some (.slice (some ⟨KB, 0, none⟩) P cK) ∧ w6.cell? ⟨KB, 0, none⟩ = some (.slice (some ⟨gK, 0, none⟩) n cQ) ∧ w6.cell? ⟨gK, 0, none⟩ = some (.int .i64 z0) := ⟨hg6.cell y5 (fun e => hYd (Option.some.inj e)), hg6.cell cKB (fun e => hkb (Option.some.inj e)), hg6.cell cG0 (fun e => hgd (Option.some.inj e))⟩
      have f6 : w6.frozen? ⟨gK, 0, none⟩ = false := (heap_cell (hg6.block gK hgs (fun e => hgd (Option.some.inj e)))).2.trans (hgf 0)
      dsimp only
      refine hK.out _ _ hS6 ?_
      try simp only [Act.put, List.setIfInBounds_toArray, List.set_cons_zero, List.set_cons_succ]
      refine wpAnyK_one (i := 6) (by kernel_rfl) rfl (by rfl) (b := false) (by kernel_rfl) (fun K hK => ?_)
      go_simp
      refine hK.out _ _ hS6 ?_
      try simp only [Act.put, List.setIfInBounds_toArray, List.set_cons_zero, List.set_cons_succ]
      refine tkA 7 (.pointer (some ⟨gK, 0, none⟩)) true rfl (fun _ _ => trivial) false hS6 ?_
      try simp only [Act.put, List.setIfInBounds_toArray, List.set_cons_zero, List.set_cons_succ]
      refine wpAnyK_one (i := 8) (by kernel_rfl) rfl (by rfl) (b := true) (by kernel_rfl) (fun K hK => ?_)
      go_simp
      refine hK.out _ _ trivial (wpAnyK_done (by kernel_rfl) ?_ _)
      clear hS0 hS6 f6
      go_upto_region 15 with fail
      obtain ⟨w7, hw7⟩ : ∃ V : World, V = w6.setCell ⟨gK, 0, none⟩ (.int .i64 (yv - 1)) := ⟨_, rfl⟩
      have hwB : w6.grownBy w7 (some gK) := by rw [hw7]; exact grown_store
      have hfl : Fr (fun b => b = dk ∨ X ≤ b) w w7 := (((Fr.of_below hbw0).trans hF5 (fun b e => .inl (.inl e))).grown hg6 (fun b e => .inl (.inl (Option.some.inj e).symm))).grown hwB (fun b e => .inl (.inr (by have e2 := Option.some.inj e; omega)))
      have hown6 := (show w5.ownsRow lo 3 1 (.slice (some ⟨gK, 0, none⟩) n cQ) n (intsV (W.kn 0)) by have h := GW.kn hG5 hI0; rw [hln, eQ] at h; exact h).kept hg6 (.inr fun e => by have e2 : gK = dk := Option.some.inj e; omega)
      have hG6 : GW w6 lo (CpI P P 0) (CpA KB R) vs W.kn (fun _ => []) W.bx := GridA.kept hG5 hg6 (fun x hx e => by have := hG5.low x hx; have e2 := Option.some.inj e; omega) (fun x hx b e q => by have := ((hG5.own x hx).lt b e).1; have e2 := Option.some.inj q; omega)
      have hown7 : w7.ownsRow lo 3 1 (vs (0, 0)) ((W.kn 0).set 0 (yv - 1)).length (intsV ((W.kn 0).set 0 (yv - 1))) := by
        rw [hw7, List.length_set, hln, eQ]
        exact ownsI_set hown6 0 (yv - 1)
      have hG7 := GW.turnK hG6 hI0 (by rw [eQ]; exact hwB) hown7
      have hout7 : ∀ r, r < P → w7.cell? ⟨BB, r, none⟩ = some (.slice (some ⟨R r, 0, none⟩) P (cR r)) := fun r hr => hwB.cell (hg6.cell (hout5 r hr) (fun e => by have e2 : BB = dk := Option.some.inj e; have := hOW0.low; omega)) (fun e => by
        have e2 : BB = gK := Option.some.inj e
        exact hOW0.offV (0, 0) hI0 (by rw [eQ, e2]; rfl))
      have hOW7 : OwnW w7 lo P KB BB cK cB R cR vs (knW W (yv - 1)).kn (knW W (yv - 1)).bx := ⟨hG7, fun r hr => ⟨hout7 r hr, (hOW0.out r hr).2⟩, hOW0.cK, hOW0.cB, hOW0.low, hOW0.offA, hOW0.offV⟩
      have hY7 := grown_blk hwB (grown_blk hg6 hY5 (fun e => by have e2 := Option.some.inj e; omega)) (fun e => by have e2 : Y = gK := Option.some.inj e; omega)
      have hZ7 := grown_blk hwB (grown_blk hg6 hZ5 (fun e => by have e2 := Option.some.inj e; omega)) (fun e => by have e2 : X + 1 = gK := Option.some.inj e; omega)
      have hd7 := hd6.kept hwB (fun g e => by have e2 := Option.some.inj e; omega)
      have hgw7 := grown_fin (grown_trans hgw5 hg6) hwB (by omega)
      have hsw7 : ∀ {p : World → Prop}, Stb (fun b => b = dk) w p → Stb (fun b => b = dk ∨ b = X + 1 ∨ False) w7 p := fun h => Stb.step h hfl (fun b h => by
        have h2 : b = dk ∨ X ≤ b := h
        rcases h2 with h2 | h2
        · exact .inl h2
        · right; omega) (fun b h => by
        rcases h with h2 | h2 | h2
        · exact .inl h2
        · right; omega
        · exact h2.elim)
      have hS7 := OwnW.readS (D := fun b => b = dk ∨ b = X + 1 ∨ False) (ae := ae) (ao := ao) (ah := ah) (ce := ce) (co := co) (ch := ch) (n := n) (es := es) (ow := ow) (hv := hv) (W := knW W (yv - 1)) hOW7 (by omega) (fun j hj => by
        show (if j = 0 then (W.kn 0).set 0 (yv - 1) else W.kn j).length ≤ 1000000
        by_cases e : j = 0
        · rw [if_pos e, List.length_set]; omega
        · rw [if_neg e, hG.vld.len j hj]; omega) (fun r t hr ht => hG.bl r t hr ht) (hsw7 hSE) (hsw7 hSO) (hsw7 hSH) (fun b h => by
        rcases h with h2 | h2 | h2
        · omega
        · omega
        · exact h2.elim)
      have hok : BentOk (wdL n P es ow hv (knW W (yv - 1))) := ⟨hG.few.knW hP8.1, hG.hhl, by
        by_cases hyv : 0 ≤ yv - 1 ∧ yv - 1 ≤ n
        · have hG2 := hG.knW hyv.1 hyv.2
          refine .inr ⟨n, P, ow, knW W (yv - 1), rfl, hG2, ?_⟩
          have h1 := pot_le hn64 hP8.2 hG2.how hG2.vld
          have h2 : bxN P (knW W (yv - 1)) = bxN P W := rfl
          have h3 := bx_potle (n := n) (P := P) (ow := ow) (W := W)
          omega
        · exact .inl (knW_bad hP8.1 (by omega) hyv)⟩
      have HW7 := Lib.hid hw7
      clear hw7 hwB hOW7 hG7 hG6 hG5 hown7 hown6 hfl hsw7 y0 y1 y2 y3 y4 y5 y6 cG0 cKB hS5
      rw [← HW7.out]
      obtain ⟨y0, y1, y2, y3, y4, y5, y6⟩ := cells7 hY7
      obtain ⟨v0, v1, v2, v3, v4, v5, v6⟩ := cells7 hZ7
      obtain ⟨f0, f1, f2, f3, f4, f5, f6⟩ := frees7 hZ7
      obtain ⟨wF, hwF⟩ : ∃ V : World, V = (((((((w7.setCell ⟨X + 1, 0, none⟩ (.int .i64 (n : Int))).setCell ⟨X + 1, 1, none⟩ (.slice ae es.length ce)).setCell ⟨X + 1, 2, none⟩ (.int .i64 (P : Int))).setCell ⟨X + 1, 3, none⟩ (.slice ao n co)).setCell ⟨X + 1, 4, none⟩ (.slice ah hv.length ch)).setCell ⟨X + 1, 5, none⟩ (.slice (some ⟨KB, 0, none⟩) P cK)).setCell ⟨X + 1, 6, none⟩ (.slice (some ⟨BB, 0, none⟩) P cB)) := ⟨_, rfl⟩
      have hfin := set7all (d0 := .int .i64 (n : Int)) (d1 := .slice ae es.length ce) (d2 := .int .i64 (P : Int)) (d3 := .slice ao n co) (d4 := .slice ah hv.length ch) (d5 := .slice (some ⟨KB, 0, none⟩) P cK) (d6 := .slice (some ⟨BB, 0, none⟩) P cB) hZ7
      have hgF := set7_grown w7 (X + 1) (.int .i64 (n : Int)) (.slice ae es.length ce) (.int .i64 (P : Int)) (.slice ao n co) (.slice ah hv.length ch) (.slice (some ⟨KB, 0, none⟩) P cK) (.slice (some ⟨BB, 0, none⟩) P cB)
      rw [← hwF] at hfin hgF
      have HWF := Lib.hid hwF
      have hdF := (hd7).kept hgF (fun g e => by have e2 := Option.some.inj e; omega)
      have hgwF : w.grownBy wF (some dk) := grown_fin (hgw7) hgF (by rw [HX.out]; omega)
      have hres : Stb (fun b => b = dk) wF fun U => WldAt U (.agg #[.int .i64 (n : Int), .slice ae es.length ce, .int .i64 (P : Int), .slice ao n co, .slice ah hv.length ch, .slice (some ⟨KB, 0, none⟩) P cK, .slice (some ⟨BB, 0, none⟩) P cB]) (wdL n P es ow hv (knW W (yv - 1))) := Stb.step hS7 ((Fr.refl (fun b => b = X + 1) _).grown hgF (fun b e => .inl (Option.some.inj e).symm)) (fun b e => .inl (.inr (.inl e))) (fun b h => .inl (.inl h))
      obtain ⟨t0, t1, t2, t3, t4, t5, t6⟩ := cells7 hfin
      clear hwF hgF hfin
      go_wp2_with fail
      rw [← HWF.out]
      exact bodyPost_ret (v := .agg #[.int .i64 (n : Int), .slice ae es.length ce, .int .i64 (P : Int), .slice ao n co, .slice ah hv.length ch, .slice (some ⟨KB, 0, none⟩) P cK, .slice (some ⟨BB, 0, none⟩) P cB]) (by simp [results, Tryz.results16, go_sem, t0, t1, t2, t3, t4, t5, t6]) rfl ⟨_, _, rfl, hres, hok, hdF, hgwF⟩
  by_cases hc1 : x = 1
  · subst hc1
    clear hx0 hx1 hc0
    have hlX := HX.out
    have hP0 : (0 : Int) < P := by omega
    have hPp : decide ((0 : Int) < (P : Int)) = true := decide_eq_true hP0
    have hbl9 : ∀ a b, a < P → b < P → (W.bx a b).length ≤ 900000 := fun a b ha hb' => by
      have h1 := bx_pot (n := n) (ow := ow) (W := W) ha hb'
      omega
    obtain ⟨y0, y1, y2, y3, y4, y5, y6⟩ := cells7 hY5
    have hnx1 := next_any dk P w5 hd5 (by omega) (by omega)
    go_wp2_with fail
    refine hnx1.mono ?_
    rintro e w6 ⟨xi, hxi0, hxi1, rfl, hd6, hg6⟩
    obtain ⟨i, rfl⟩ := Int.eq_ofNat_of_zero_le hxi0
    have hi : i < P := by omega
    have hnx2 := next_any dk P w6 hd6 (by omega) (by omega)
    go_wp2_with fail
    refine hnx2.mono ?_
    rintro e w7 ⟨xk, hxk0, hxk1, rfl, hd7, hg7⟩
    obtain ⟨k, rfl⟩ := Int.eq_ofNat_of_zero_le hxk0
    have hk : k < P := by omega
    have hg57 : w5.grownBy w7 (some dk) := grown_trans hg6 hg7
    have hY7 := grown_blk hg57 hY5 (fun e => by have e2 : Y = dk := Option.some.inj e; omega)
    have hZ7 := grown_blk hg57 hZ5 (fun e => by have e2 : X + 1 = dk := Option.some.inj e; omega)
    have hgw7 := grown_trans hgw5 hg57
    have hg07 := grown_trans hg5 hg57
    have hG7 : GW w7 lo (CpI P P 0) (CpA KB R) vs W.kn (fun _ => []) W.bx := GridA.kept hOW0.grid hg07 (fun x hx e => by have := hOW0.grid.low x hx; have e2 := Option.some.inj e; omega) (fun x hx b e q => by have := ((hOW0.grid.own x hx).lt b e).1; have e2 := Option.some.inj q; omega)
    have hout7 : ∀ r, r < P → w7.cell? ⟨BB, r, none⟩ = some (.slice (some ⟨R r, 0, none⟩) P (cR r)) := fun r hr => hg07.cell (hOW0.out r hr).1 (fun e => by have e2 : BB = dk := Option.some.inj e; have := hOW0.low; omega)
    have hbi := cpI_box hi hk
    obtain ⟨av, cv, eV⟩ := owns_shape (GW.box hG7 hbi)
    have cM := hG7.cell _ hbi
    rw [eV] at cM
    change w7.cell? ⟨R i, k, none⟩ = some (.slice av (W.bx i k).length cv) at cM
    have cBi := hout7 i hi
    clear y0 y1 y2 y3 y4 y5 y6 hnx1 hnx2 hxi0 hxi1 hxk0 hxk1
    obtain ⟨y0, y1, y2, y3, y4, y5, y6⟩ := cells7 hY7
    have hi3 : (i : Int) < P := by omega
    have hk3 : (k : Int) < P := by omega
    have hkd : dk ≠ Y ∧ dk ≠ BB ∧ dk ≠ R i := ⟨by omega, by have := hOW0.low; omega, by have h1 := hG7.low _ hbi; change lo ≤ R i at h1; omega⟩
    obtain ⟨kY, kB, kR⟩ := hkd
    go_upto_region 10 with fail
    obtain ⟨BL, hBL⟩ : ∃ l, W.bx i k = l := ⟨_, rfl⟩
    have hBLl : BL.length ≤ 900000 := by rw [← hBL]; exact hbl9 i k hi hk
    rw [hBL] at cM eV
    refine wp_region_heldK (k := 25) (S := fun b W => (W.cell? ⟨Y, 6, none⟩ = some (.slice (some ⟨BB, 0, none⟩) P cB) ∧ W.cell? ⟨BB, i, none⟩ = some (.slice (some ⟨R i, 0, none⟩) P (cR i))) ∧ (match b with | false => W.cell? ⟨R i, k, none⟩ = some (.slice av BL.length cv) | true => True)) (by kernel_rfl) ?_
    have hS0 : (w7.drew.cell? ⟨Y, 6, none⟩ = some (.slice (some ⟨BB, 0, none⟩) P cB) ∧ w7.drew.cell? ⟨BB, i, none⟩ = some (.slice (some ⟨R i, 0, none⟩) P (cR i))) ∧ w7.drew.cell? ⟨R i, k, none⟩ = some (.slice av BL.length cv) := ⟨⟨y6, cBi⟩, cM⟩
    refine tkA 0 (.pointer (some ⟨Y, 6, none⟩)) true rfl (fun _ h => ⟨h.1, trivial⟩) false hS0 ?_
    refine tkA 1 (.slice (some ⟨BB, 0, none⟩) P cB) true rfl (fun _ h => ⟨h.1, trivial⟩) false hS0 ?_
    refine tkA 2 (.int .i64 (i : Int)) true rfl (fun _ h => ⟨h.1, trivial⟩) false hS0 ?_
    refine tkA 3 (.pointer (some ⟨BB, i, none⟩)) true rfl (fun _ h => ⟨h.1, trivial⟩) false hS0 ?_
    refine tkA 4 (.slice (some ⟨R i, 0, none⟩) P (cR i)) true rfl (fun _ h => ⟨h.1, trivial⟩) false hS0 ?_
    refine tkA 5 (.int .i64 (k : Int)) true rfl (fun _ h => ⟨h.1, trivial⟩) false hS0 ?_
    refine tkA 6 (.pointer (some ⟨Y, 6, none⟩)) true rfl (fun _ h => ⟨h.1, trivial⟩) false hS0 ?_
    refine tkA 7 (.slice (some ⟨BB, 0, none⟩) P cB) true rfl (fun _ h => ⟨h.1, trivial⟩) false hS0 ?_
    refine tkA 8 (.int .i64 (i : Int)) true rfl (fun _ h => ⟨h.1, trivial⟩) false hS0 ?_
    refine tkA 9 (.pointer (some ⟨BB, i, none⟩)) true rfl (fun _ h => ⟨h.1, trivial⟩) false hS0 ?_
    refine tkA 10 (.slice (some ⟨R i, 0, none⟩) P (cR i)) true rfl (fun _ h => ⟨h.1, trivial⟩) false hS0 ?_
    refine tkA 11 (.int .i64 (k : Int)) true rfl (fun _ h => ⟨h.1, trivial⟩) false hS0 ?_
    refine tkA 12 (.pointer (some ⟨R i, k, none⟩)) true rfl (fun _ h => ⟨h.1, trivial⟩) false hS0 ?_
    refine tkA 13 (.slice av BL.length cv) false rfl (fun _ h => ⟨h.1, trivial⟩) false hS0 ?_
    refine tkA 14 (.pointer (some ⟨dk, 0, none⟩)) true rfl (fun _ h => ⟨h.1, trivial⟩) false hS0 ?_
    refine tkA 16 (.pointer (some ⟨dk, 0, none⟩)) true rfl (fun _ h => ⟨h.1, trivial⟩) false hS0 ?_
    refine tkA 18 (.pointer (some ⟨dk, 0, none⟩)) true rfl (fun _ h => ⟨h.1, trivial⟩) false hS0 ?_
    try simp only [Act.put, List.setIfInBounds_toArray, List.set_cons_zero, List.set_cons_succ]
    refine wpAnyK_one (i := 15) (by kernel_rfl) rfl (by rfl) (b := false) (by kernel_rfl) (fun K hK => ?_)
    go_simp
    go_at_call 23
    refine (next_any dk 8 w7.drew (hd7.drew) (by omega) (by omega)).mono ?_
    rintro e w8 ⟨ma, hma0, hma1, rfl, hd8, hg8⟩
    have hS8 : (w8.cell? ⟨Y, 6, none⟩ = some (.slice (some ⟨BB, 0, none⟩) P cB) ∧ w8.cell? ⟨BB, i, none⟩ = some (.slice (some ⟨R i, 0, none⟩) P (cR i))) ∧ w8.cell? ⟨R i, k, none⟩ = some (.slice av BL.length cv) := ⟨⟨hg8.cell hS0.1.1 (fun e => kY (Option.some.inj e).symm), hg8.cell hS0.1.2 (fun e => kB (Option.some.inj e).symm)⟩, hg8.cell hS0.2 (fun e => kR (Option.some.inj e).symm)⟩
    dsimp only
    refine hK.out _ _ hS8 ?_
    try simp only [Act.put, List.setIfInBounds_toArray, List.set_cons_zero, List.set_cons_succ]
    refine wpAnyK_one (i := 17) (by kernel_rfl) rfl (by rfl) (b := false) (by kernel_rfl) (fun K hK => ?_)
    go_simp
    go_at_call 23
    refine (next_any dk 9 w8 (hd8) (by omega) (by omega)).mono ?_
    rintro e w9 ⟨mb, hmb0, hmb1, rfl, hd9, hg9⟩
    have hS9 : (w9.cell? ⟨Y, 6, none⟩ = some (.slice (some ⟨BB, 0, none⟩) P cB) ∧ w9.cell? ⟨BB, i, none⟩ = some (.slice (some ⟨R i, 0, none⟩) P (cR i))) ∧ w9.cell? ⟨R i, k, none⟩ = some (.slice av BL.length cv) := ⟨⟨hg9.cell hS8.1.1 (fun e => kY (Option.some.inj e).symm), hg9.cell hS8.1.2 (fun e => kB (Option.some.inj e).symm)⟩, hg9.cell hS8.2 (fun e => kR (Option.some.inj e).symm)⟩
    dsimp only
    refine hK.out _ _ hS9 ?_
    try simp only [Act.put, List.setIfInBounds_toArray, List.set_cons_zero, List.set_cons_succ]
    refine wpAnyK_one (i := 19) (by kernel_rfl) rfl (by rfl) (b := false) (by kernel_rfl) (fun K hK => ?_)
    go_simp
    go_at_call 23
    refine (next_any dk 5 w9 (hd9) (by omega) (by omega)).mono ?_
    rintro e wD ⟨mc, hmc0, hmc1, rfl, hdD, hgD⟩
    have hSD : (wD.cell? ⟨Y, 6, none⟩ = some (.slice (some ⟨BB, 0, none⟩) P cB) ∧ wD.cell? ⟨BB, i, none⟩ = some (.slice (some ⟨R i, 0, none⟩) P (cR i))) ∧ wD.cell? ⟨R i, k, none⟩ = some (.slice av BL.length cv) := ⟨⟨hgD.cell hS9.1.1 (fun e => kY (Option.some.inj e).symm), hgD.cell hS9.1.2 (fun e => kB (Option.some.inj e).symm)⟩, hgD.cell hS9.2 (fun e => kR (Option.some.inj e).symm)⟩
    dsimp only
    refine hK.out _ _ hSD ?_
    try simp only [Act.put, List.setIfInBounds_toArray, List.set_cons_zero, List.set_cons_succ]
    obtain ⟨b4, hb4⟩ : ∃ b, decide (mc = 4) = b := ⟨_, rfl⟩
    have hb4' : (mc == 4) = b4 := by rw [← hb4]; rfl
    refine wpAnyK_one (i := 20) (by kernel_rfl) rfl (by rfl) (b := false) (by kernel_rfl) (fun K hK => ?_)
    go_simp
    refine hK.out _ _ hSD ?_
    try simp only [Act.put, List.setIfInBounds_toArray, List.set_cons_zero, List.set_cons_succ]
    refine wpAnyK_one (i := 21) (by kernel_rfl) rfl (by rfl) (b := false) (by kernel_rfl) (fun K hK => ?_)
    go_simp
    refine hK.out _ _ hSD ?_
    try simp only [Act.put, List.setIfInBounds_toArray, List.set_cons_zero, List.set_cons_succ]
    refine wpAnyK_one (i := 22) (by kernel_rfl) rfl (by rfl) (b := false) (by kernel_rfl) (fun K hK => ?_)
    go_simp
    refine hK.out _ _ ⟨⟨cell_alloc hSD.1.1, cell_alloc hSD.1.2⟩, cell_alloc hSD.2⟩ ?_
    try simp only [Act.put, List.setIfInBounds_toArray, List.set_cons_zero, List.set_cons_succ]
    have hg7D : w7.grownBy wD (some dk) := grown_trans (grown_none (grown_of_below (Below.refl _ _).drew)) (grown_trans hg8 (grown_trans hg9 hgD))
    have hGD : GW wD lo (CpI P P 0) (CpA KB R) vs W.kn (fun _ => []) W.bx := GridA.kept hG7 hg7D (fun x hx e => by have := hG7.low x hx; have e2 := Option.some.inj e; omega) (fun x hx b e q => by have := ((hG7.own x hx).lt b e).1; have e2 := Option.some.inj q; omega)
    have hbE : Below wD.heap.size wD (wD.alloc (.cells #[.int .i64 ma, .int .i64 mb, .bool b4] 89)) := (Below.refl _ _).alloc (Nat.le_refl _) _
    have hGE := hGD.below hbE
    have hownE := GW.box hGE hbi
    rw [hBL, eV] at hownE
    have hlit := rows_lit1 (E := encM) wD (ma, mb, b4) 89 #[.int .i64 ma, .int .i64 mb, .bool b4] rfl
    have hlow : lo ≤ (wD.alloc (.cells #[.int .i64 ma, .int .i64 mb, .bool b4] 89)).heap.size := by have h1 := hG7.low _ hbi; have h2 := hG7.lt _ hbi; have h3 := hg7D.size; have h4 := hbE.size; omega
    refine wpAnyK_one (i := 23) (by kernel_rfl) rfl (by rfl) (b := false) (by kernel_rfl) (fun K hK => ?_)
    refine wp_app_rows_at msgT (.tmp 61) (.tmp 70) (by kernel_rfl) lo (.slice av BL.length cv) (.slice (some ⟨wD.heap.size, 0, none⟩) 1 1) BL [(ma, mb, b4)] (by kernel_rfl) (by exact hownE) (by kernel_rfl) (by exact hlit) (by rw [List.length_singleton]; omega) (by rw [List.length_singleton]; omega) hlow ?_
    intro vE wE hownN hgN hatN
    have hvo : (vs (i + 2, k)).ownBlock = (Value.slice av BL.length cv).ownBlock := by rw [eV]
    have hgN2 : (wD.alloc (.cells #[.int .i64 ma, .int .i64 mb, .bool b4] 89)).grownBy wE (vs (i + 2, k)).ownBlock := by rw [hvo]; exact hgN
    have nY : (vs (i + 2, k)).ownBlock ≠ some Y := fun e => by have := hvY _ hbi Y e; omega
    have nB : (vs (i + 2, k)).ownBlock ≠ some BB := hOW0.offV _ hbi
    have nR : (vs (i + 2, k)).ownBlock ≠ some (R i) := hG7.off _ _ hbi hbi
    have hSE2 : (wE.cell? ⟨Y, 6, none⟩ = some (.slice (some ⟨BB, 0, none⟩) P cB) ∧ wE.cell? ⟨BB, i, none⟩ = some (.slice (some ⟨R i, 0, none⟩) P (cR i))) ∧ wE.cell? ⟨R i, k, none⟩ = some (.slice av BL.length cv) := ⟨⟨hgN2.cell (cell_alloc hSD.1.1) (fun e => nY e.symm), hgN2.cell (cell_alloc hSD.1.2) (fun e => nB e.symm)⟩, hgN2.cell (cell_alloc hSD.2) (fun e => nR e.symm)⟩
    have fE : wE.frozen? ⟨R i, k, none⟩ = false := (heap_cell (hgN2.block (R i) (hGE.lt _ hbi) (fun e => nR e.symm))).2.trans (hGE.free _ hbi)
    have hat2 : ∀ b, vE.ownBlock = some b → (vs (i + 2, k)).ownBlock = some b ∨ (wD.alloc (.cells #[.int .i64 ma, .int .i64 mb, .bool b4] 89)).heap.size ≤ b := fun b e => by
      rcases hatN with h | h
      · left; rw [hvo, ← h]; exact e
      · right; rw [h] at e; have e2 := Option.some.inj e; omega
    have hGZ := GW.step (v := vE) hGE hbi hgN2 hownN hat2
    obtain ⟨aE, cE, hvE⟩ := owns_shape hownN
    rw [List.length_append, List.length_singleton] at hvE
    subst hvE
    refine hK.out _ _ hSE2 ?_
    try simp only [Act.put, List.setIfInBounds_toArray, List.set_cons_zero, List.set_cons_succ]
    refine tkA 24 (.pointer (some ⟨R i, k, none⟩)) true rfl (fun _ h => ⟨h.1, trivial⟩) false hSE2 ?_
    try simp only [Act.put, List.setIfInBounds_toArray, List.set_cons_zero, List.set_cons_succ]
    refine wpAnyK_one (i := 25) (by kernel_rfl) rfl (by rfl) (b := true) (by kernel_rfl) (fun K hK => ?_)
    go_simp
    have nYR : Y ≠ R i := by have h1 := haY _ hbi; change R i < Y at h1; omega
    have nBR : BB ≠ R i := fun e => hOW0.offA _ hbi e.symm
    have nn : ∀ z b o' q, b ≠ R i → wE.cell? ⟨b, o', none⟩ = some q → (wE.setCell ⟨R i, k, none⟩ z).cell? ⟨b, o', none⟩ = some q := fun z b o' q h1 h2 => (World.cell?_setCell_far _ _ _ _ (by first | exact fun e => h1 e | exact fun e => h1 e.symm)).trans h2
    refine hK.out _ _ ⟨⟨nn _ _ _ _ nYR hSE2.1.1, nn _ _ _ _ nBR hSE2.1.2⟩, trivial⟩ (wpAnyK_done (by kernel_rfl) ?_ _)
    go_upto_region 15 with fail
    obtain ⟨wZ, hwZ⟩ : ∃ V : World, V = wE.setCell ⟨R i, k, none⟩ (.slice aE (BL.length + 1) cE) := ⟨_, rfl⟩
    have hstZ : wE.grownBy wZ (some (R i)) := by rw [hwZ]; exact grown_store
    have hGZ2 : GW wZ lo (CpI P P 0) (CpA KB R) (updX vs (i + 2, k) (.slice aE (BL.length + 1) cE)) (bxW W i k (ma, mb, b4)).kn (fun _ => []) (bxW W i k (ma, mb, b4)).bx := by
      rw [hwZ]
      refine GW.boxes hGZ (fun r t _ => ?_)
      show (if r = i ∧ t = k then BL ++ [(ma, mb, b4)] else W.bx r t) = (if r = i ∧ t = k then W.bx i k ++ [(ma, mb, b4)] else W.bx r t)
      rw [hBL]
    have hgDE : wD.grownBy wE (vs (i + 2, k)).ownBlock := grown_trans (grown_none (grown_of_below hbE)) hgN2
    have hoZ : ∀ r, r < P → wZ.cell? ⟨BB, r, none⟩ = some (.slice (some ⟨R r, 0, none⟩) P (cR r)) := fun r hr => hstZ.cell (hgDE.cell (hg7D.cell (hout7 r hr) (fun e => kB (Option.some.inj e).symm)) (fun e => nB e.symm)) (fun e => nBR (Option.some.inj e))
    have hBBw : BB < wD.heap.size := cell_lt (hg7D.cell (hout7 i hi) (fun e => kB (Option.some.inj e).symm))
    have hOWZ : OwnW wZ lo P KB BB cK cB R cR (updX vs (i + 2, k) (.slice aE (BL.length + 1) cE)) (bxW W i k (ma, mb, b4)).kn (bxW W i k (ma, mb, b4)).bx := ⟨hGZ2, fun r hr => ⟨hoZ r hr, (hOW0.out r hr).2⟩, hOW0.cK, hOW0.cB, hOW0.low, hOW0.offA, fun x hx e => by
      unfold updX at e
      by_cases q : x = (i + 2, k)
      · rw [if_pos q] at e
        rcases hat2 BB e with h | h
        · exact nB h
        · have := hbE.size; omega
      · rw [if_neg q] at e; exact hOW0.offV x hx e⟩
    have hYZ := grown_blk hstZ (grown_blk hgDE (grown_blk hg7D hY7 (fun e => kY (Option.some.inj e).symm)) (fun e => nY e.symm)) (fun e => nYR (Option.some.inj e))
    have nZ : (vs (i + 2, k)).ownBlock ≠ some (X + 1) := fun e => by have := ((hG7.own _ hbi).lt _ e).1; omega
    have nZR : X + 1 ≠ R i := by have h1 := hG7.low _ hbi; change lo ≤ R i at h1; omega
    have hZZ := grown_blk hstZ (grown_blk hgDE (grown_blk hg7D hZ7 (fun e => by have e2 : X + 1 = dk := Option.some.inj e; omega)) (fun e => nZ e.symm)) (fun e => nZR (Option.some.inj e))
    have hown5 : ∀ b, (vs (i + 2, k)).ownBlock = some b → lo ≤ b := fun b e => ((hG7.own _ hbi).lt b e).1
    have hRlo : lo ≤ R i := hG7.low _ hbi
    have hdZ := ((hdD.kept (grown_of_below hbE) (fun g e => by cases e)).kept hgN2 (fun g e => by have := hown5 g e; omega)).kept hstZ (fun g e => by have e2 := Option.some.inj e; omega)
    have hfl : Fr (fun b => b = dk ∨ X ≤ b) w wZ := (((((Fr.of_below hbw0).trans hF5 (fun b e => .inl (.inl e))).grown hg57 (fun b e => .inl (.inl (Option.some.inj e).symm))).grown hg7D (fun b e => .inl (.inl (Option.some.inj e).symm))).grown hgDE (fun b e => .inl (.inr (by have := hown5 b e; omega)))).grown hstZ (fun b e => .inl (.inr (by have e2 := Option.some.inj e; omega)))
    have hgwZ : w.grownBy wZ (some dk) := ⟨hfl.os, hfl.tape, hfl.output, hfl.size, fun b hb hne => hfl.block b hb (fun e => by
      rcases e with e | e
      · exact hne (by rw [e])
      · omega)⟩
    have hswZ : ∀ {p : World → Prop}, Stb (fun b => b = dk) w p → Stb (fun b => b = dk ∨ b = X + 1 ∨ False) wZ p := fun h => Stb.step h hfl (fun b h => by
      have h2 : b = dk ∨ X ≤ b := h
      rcases h2 with h2 | h2
      · exact .inl h2
      · right; omega) (fun b h => by
      rcases h with h2 | h2 | h2
      · exact .inl h2
      · right; omega
      · exact h2.elim)
    have hSZ := OwnW.readS (D := fun b => b = dk ∨ b = X + 1 ∨ False) (ae := ae) (ao := ao) (ah := ah) (ce := ce) (co := co) (ch := ch) (n := n) (es := es) (ow := ow) (hv := hv) (W := bxW W i k (ma, mb, b4)) hOWZ (by omega) (fun j hj => by show (W.kn j).length ≤ 1000000; rw [hG.vld.len j hj]; omega) (fun r t hr ht => by have h1 := bxW_len W i k (ma, mb, b4) r t; have h2 := hbl9 r t hr ht; omega) (hswZ hSE) (hswZ hSO) (hswZ hSH) (fun b h => by
      rcases h with h2 | h2 | h2
      · omega
      · omega
      · exact h2.elim)
    have hokZ : BentOk (wdL n P es ow hv (bxW W i k (ma, mb, b4))) := ⟨hG.few.bxW hbl9, hG.hhl, by
      by_cases hm : i ≠ k ∧ 0 ≤ ma ∧ ma < n ∧ b4 = false ∧ 0 ≤ mb ∧ mb ≤ n
      · have hG2 := hG.bxW (m := (ma, mb, b4)) hbl9 hm.1 hm.2.1 hm.2.2.1 hm.2.2.2.1 hm.2.2.2.2.1 hm.2.2.2.2.2
        refine .inr ⟨n, P, ow, _, rfl, hG2, ?_⟩
        have h1 := pot_le hn64 hP8.2 hG2.how hG2.vld
        have h2 := bxW_sum (P := P) W i k (ma, mb, b4) hP8.2
        have h3 := bx_potle (n := n) (P := P) (ow := ow) (W := W)
        omega
      · exact .inl (bxW_bad hi hk hm)⟩
    have HWZ := Lib.hid hwZ
    clear hwZ hGZ hGZ2 hOWZ hstZ hgDE hoZ hownN hgN hgN2 hatN hat2 hSE2 hSD hS9 hS8 hS0 fE nn hlit hownE hGE hGD hG7 y0 y1 y2 y3 y4 y5 y6 cM cBi hS5 hb4 hb4'
    rw [← HWZ.out]
    obtain ⟨y0, y1, y2, y3, y4, y5, y6⟩ := cells7 hYZ
    obtain ⟨v0, v1, v2, v3, v4, v5, v6⟩ := cells7 hZZ
    obtain ⟨f0, f1, f2, f3, f4, f5, f6⟩ := frees7 hZZ
    obtain ⟨wF, hwF⟩ : ∃ V : World, V = (((((((wZ.setCell ⟨X + 1, 0, none⟩ (.int .i64 (n : Int))).setCell ⟨X + 1, 1, none⟩ (.slice ae es.length ce)).setCell ⟨X + 1, 2, none⟩ (.int .i64 (P : Int))).setCell ⟨X + 1, 3, none⟩ (.slice ao n co)).setCell ⟨X + 1, 4, none⟩ (.slice ah hv.length ch)).setCell ⟨X + 1, 5, none⟩ (.slice (some ⟨KB, 0, none⟩) P cK)).setCell ⟨X + 1, 6, none⟩ (.slice (some ⟨BB, 0, none⟩) P cB)) := ⟨_, rfl⟩
    have hfin := set7all (d0 := .int .i64 (n : Int)) (d1 := .slice ae es.length ce) (d2 := .int .i64 (P : Int)) (d3 := .slice ao n co) (d4 := .slice ah hv.length ch) (d5 := .slice (some ⟨KB, 0, none⟩) P cK) (d6 := .slice (some ⟨BB, 0, none⟩) P cB) hZZ
    have hgF := set7_grown wZ (X + 1) (.int .i64 (n : Int)) (.slice ae es.length ce) (.int .i64 (P : Int)) (.slice ao n co) (.slice ah hv.length ch) (.slice (some ⟨KB, 0, none⟩) P cK) (.slice (some ⟨BB, 0, none⟩) P cB)
    rw [← hwF] at hfin hgF
    have HWF := Lib.hid hwF
    have hdF := (hdZ).kept hgF (fun g e => by have e2 := Option.some.inj e; omega)
    have hgwF : w.grownBy wF (some dk) := grown_fin (hgwZ) hgF (by rw [HX.out]; omega)
    have hres : Stb (fun b => b = dk) wF fun U => WldAt U (.agg #[.int .i64 (n : Int), .slice ae es.length ce, .int .i64 (P : Int), .slice ao n co, .slice ah hv.length ch, .slice (some ⟨KB, 0, none⟩) P cK, .slice (some ⟨BB, 0, none⟩) P cB]) (wdL n P es ow hv (bxW W i k (ma, mb, b4))) := Stb.step hSZ ((Fr.refl (fun b => b = X + 1) _).grown hgF (fun b e => .inl (Option.some.inj e).symm)) (fun b e => .inl (.inr (.inl e))) (fun b h => .inl (.inl h))
    obtain ⟨t0, t1, t2, t3, t4, t5, t6⟩ := cells7 hfin
    clear hwF hgF hfin
    go_wp2_with fail
    rw [← HWF.out]
    exact bodyPost_ret (v := .agg #[.int .i64 (n : Int), .slice ae es.length ce, .int .i64 (P : Int), .slice ao n co, .slice ah hv.length ch, .slice (some ⟨KB, 0, none⟩) P cK, .slice (some ⟨BB, 0, none⟩) P cB]) (by simp [results, Tryz.results16, go_sem, t0, t1, t2, t3, t4, t5, t6]) rfl ⟨_, _, rfl, hres, hokZ, hdF, hgwF⟩
  by_cases hc2 : x = 2
  · subst hc2
    clear hx0 hx1 hc0 hc1
    have hlX := HX.out
    have hKBl : lo ≤ KB := hOW0.grid.low (0, 0) (.inl ⟨rfl, hP8.1⟩)
    have hKBY : KB < Y := haY (0, 0) (.inl ⟨rfl, hP8.1⟩)
    have hG5 : GW w5 lo (CpI P P 0) (CpA KB R) vs W.kn (fun _ => []) W.bx := GridA.kept hOW0.grid hg5 (fun x hx e => by have := hOW0.grid.low x hx; have e2 := Option.some.inj e; omega) (fun x hx b e q => by have := ((hOW0.grid.own x hx).lt b e).1; have e2 := Option.some.inj q; omega)
    have hout5 : ∀ r, r < P → w5.cell? ⟨BB, r, none⟩ = some (.slice (some ⟨R r, 0, none⟩) P (cR r)) := fun r hr => hF5.cell (hOW0.out r hr).1 (by have := hOW0.low; omega)
    have hKR5 := hKR0.kept hg5 (.inr fun e => by have e2 : KB = dk := Option.some.inj e; omega)
    have hkL : (knL vs W P).length = P := by simp [knL]
    obtain ⟨y0, y1, y2, y3, y4, y5, y6⟩ := cells7 hY5
    have f5 : w5.frozen? ⟨Y, 5, none⟩ = false := free_blk hY5
    have hb6 : Below w5.heap.size w5 (w5.alloc (.cells #[.slice none 0 0] 22)) := (Below.refl _ _).alloc (Nat.le_refl _) _
    have hKR6 := hKR5.kept (grown_of_below hb6) (Classical.em _)
    have hlit := rows_lit1 (E := encP (List Int)) w5 ((none, 0, 0), ([] : List Int)) 22 #[.slice none 0 0] rfl
    have hlow : lo ≤ (w5.alloc (.cells #[.slice none 0 0] 22)).heap.size := by have h1 := (hKR5.lt KB rfl).2; have h2 := hb6.size; omega
    go_upto_region 15 with (first
      | (at_builtin
         refine wpList_app_rows_at' (rrT (List Int)) rfl (.tmp 76) (.tmp 77) (by kernel_rfl) lo (.slice (some ⟨KB, 0, none⟩) P cK) (.slice (some ⟨w5.heap.size, 0, none⟩) 1 1) (knL vs W P) [((none, 0, 0), [])] (by kernel_rfl) (by exact hKR6) (by kernel_rfl) (by exact hlit) (by rw [hkL, List.length_singleton]; omega) (by rw [hkL, List.length_singleton]; omega) hlow ?_
         intro v9 w9 hown9 hg9 hat9
         have hY9 : w9.cell? ⟨Y, 5, none⟩ = some (.slice (some ⟨KB, 0, none⟩) P cK) := hg9.cell (cell_alloc y5) (fun e => by have e2 : Y = KB := Option.some.inj e; omega)
         have hYb9 := grown_blk hg9 (lit_next' hb6 hY5) (fun e => by have e2 : Y = KB := Option.some.inj e; omega)
         have f9 : w9.frozen? ⟨Y, 5, none⟩ = false := free_blk hYb9
         obtain ⟨a9, c9, hv9⟩ := owns_shape hown9
         rw [List.length_append, hkL, List.length_singleton] at hv9
         subst hv9))
    obtain ⟨w10, hw10⟩ : ∃ V : World, V = w9.setCell ⟨Y, 5, none⟩ (.slice a9 (P + 1) c9) := ⟨_, rfl⟩
    have hst : w9.grownBy w10 (some Y) := by rw [hw10]; exact grown_store
    have hg59 : w5.grownBy w9 (some KB) := grown_trans (grown_none (grown_of_below hb6)) hg9
    have hY10 : w10.heap[Y]? = some (.cells #[.int .i64 (n : Int), .slice ae es.length ce, .int .i64 (P : Int), .slice ao n co, .slice ah hv.length ch, .slice a9 (P + 1) c9, .slice (some ⟨BB, 0, none⟩) P cB] 36 (0, 0)) := by
      rw [hw10, heap_setCell_same _ _ _ _ _ _ hYb9]; rfl
    have hZ10 := grown_blk hst (grown_blk hg59 hZ5 (fun e => by have e2 : X + 1 = KB := Option.some.inj e; omega)) (fun e => by have e2 : X + 1 = Y := Option.some.inj e; omega)
    have hd10 := (hd5.kept hg59 (fun g e => by have e2 := Option.some.inj e; omega)).kept hst (fun g e => by have e2 := Option.some.inj e; omega)
    have hgw10 := grown_fin (grown_fin hgw5 hg59 (by omega)) hst (by omega)
    have hz6 : (w5.alloc (.cells #[.slice none 0 0] 22)).heap.size = w5.heap.size + 1 := by simp
    have hYl5 : Y < w5.heap.size := blk_lt hY5
    have hr9 : ∀ b, (Value.slice a9 (P + 1) c9).ownBlock = some b → b = KB ∨ Y < b := fun b e => by
      rcases hat9 with h | h
      · left; rw [h] at e; exact (Option.some.inj e).symm
      · right; rw [h] at e; have e2 := Option.some.inj e; omega
    have hFs : Fr (fun b => b = KB ∨ b = Y) w5 w10 := ((Fr.refl (fun b => b = KB ∨ b = Y) w5).grown hg59 (fun b e => .inl (.inl (Option.some.inj e).symm))).grown hst (fun b e => .inl (.inr (Option.some.inj e).symm))
    have hKBBB : KB ≠ BB := hOW0.offA (0, 0) (.inl ⟨rfl, hP8.1⟩)
    have hBBl := hOW0.low
    have hres10 : Stb (fun b => b = dk ∨ b = X + 1 ∨ False) w10 fun U => WldAt U (.agg #[.int .i64 (n : Int), .slice ae es.length ce, .int .i64 (P : Int), .slice ao n co, .slice ah hv.length ch, .slice a9 (P + 1) c9, .slice (some ⟨BB, 0, none⟩) P cB]) (voidW (wdL n P es ow hv W)) := fun U gU => by
      have hFU : Fr (fun b => b = KB ∨ b = Y ∨ b < lo) w5 U := (hFs.mono (fun b h => h.elim .inl (fun h2 => .inr (.inl h2)))).trans gU (fun b h => .inl (.inr (.inr (by
        rcases h with h2 | h2 | h2
        · omega
        · omega
        · exact h2.elim))))
      have hcU : ∀ b o' q, lo ≤ b → b ≠ KB → b ≠ Y → w5.cell? ⟨b, o', none⟩ = some q → U.cell? ⟨b, o', none⟩ = some q := fun b o' q h1 h2 h3 h4 => hFU.cell h4 (fun h => by
        rcases h with h | h | h
        · exact h2 h
        · exact h3 h
        · omega)
      have hoU : ∀ {T size k : Nat} {u : Value} {xs : List Value}, w5.ownsRow lo T size u k xs → (∀ b, u.ownBlock = some b → b ≠ KB ∧ b ≠ Y) → U.ownsRow lo T size u k xs := fun ho hn => owns_fr ho hFU (fun b e h => by
        rcases h with h | h | h
        · exact (hn b e).1 h
        · exact (hn b e).2 h
        · have := (ho.lt b e).1; omega)
      have hI0 : ∀ j, j < P → CpI P P 0 (0, j) := fun j hj => .inl ⟨rfl, hj⟩
      have hkj : ∀ j, j < P → IntsAt U (vs (0, j)) (W.kn j) := fun j hj => by
        obtain ⟨a', c', e, h', -⟩ := IntsAt.of_owns (hoU (GW.kn hG5 (hI0 j hj)) (fun b e => ⟨fun e2 => hG5.off (0, j) (0, j) (hI0 j hj) (hI0 j hj) (by rw [e, e2]; rfl), fun e2 => by have := hvY _ (hI0 j hj) b e; omega⟩)) (by rw [hG.vld.len j hj]; omega)
        rw [e]; exact h'
      have hrow : RowAt (encP (List Int)) U (.slice a9 (P + 1) c9) (knL vs W P ++ [((none, 0, 0), [])]) := by
        have h1 := hown9.kept hst (.inr fun e => by rcases hr9 Y e with h | h <;> omega)
        have h2 := owns_fr h1 gU (fun b e h => by
          rcases h with h3 | h3 | h3
          · rcases hr9 b e with h4 | h4 <;> omega
          · rcases hr9 b e with h4 | h4 <;> omega
          · exact h3.elim)
        obtain ⟨a', c', e, h', -⟩ := RowAt.of_owns (E := encP (List Int)) h2 (by rw [List.length_append, hkL, List.length_singleton]; omega)
        rw [e]; exact h'
      have hkn : KnA U (.slice a9 (P + 1) c9) ((List.range P).map W.kn ++ [[]]) := ⟨knL vs W P ++ [((none, 0, 0), [])], hrow, by simp [knL], fun p hp => by
        rcases List.mem_append.1 hp with h1 | h1
        · obtain ⟨j, hj, rfl⟩ := List.mem_map.1 h1
          show IntsAt U (slV (slOf (vs (0, j)))) (W.kn j)
          rw [slOf_owns (GW.kn hG5 (hI0 j (List.mem_range.1 hj)))]
          exact hkj j (List.mem_range.1 hj)
        · rw [List.mem_singleton] at h1
          subst h1
          exact ints_void U⟩
      have hbx : BoxA U (.slice (some ⟨BB, 0, none⟩) P cB) ((List.range P).map fun r => (List.range P).map (W.bx r)) := NestA.cells (R := BoxR) (fun r => .slice (some ⟨R r, 0, none⟩) P (cR r)) (fun r => (List.range P).map (W.bx r)) (by omega) hOW0.cB (fun r hr => hcU BB r _ hBBl (fun e => hKBBB e.symm) (by omega) (hout5 r hr)) (fun _ _ => rfl) (fun r hr =>
        NestA.cells (R := RowAt encM) (fun t => vs (r + 2, t)) (W.bx r) (by omega) (hOW0.out r hr).2 (fun t ht => by
          have hx := cpI_box hr ht
          have h1 := hG5.cell _ hx
          exact hcU (R r) t _ (hG5.low _ hx) (fun e => hG5.dist (r + 2, t) (0, t) hx (hI0 t ht) (ix1 (by omega)) (show CpA KB R (r + 2, t) = CpA KB R (0, t) from Prod.ext e rfl)) (fun e => by have h2 := haY _ hx; change R r < Y at h2; omega) h1) (fun t ht => slOf_owns (GW.box hG5 (cpI_box hr ht))) (fun t ht => by
          have hx := cpI_box hr ht
          obtain ⟨a', c', e, h', -⟩ := RowAt.of_owns (E := encM) (hoU (GW.box hG5 hx) (fun b e => ⟨fun e2 => hG5.off _ (0, t) hx (hI0 t ht) (by rw [e, e2]; rfl), fun e2 => by have := hvY _ hx b e; omega⟩)) (by have := hG.bl r t hr ht; omega)
          show RowAt encM U (vs (r + 2, t)) _
          rw [e]; exact h'))
      have hfl : Fr (fun b => b = dk ∨ X ≤ b) w w10 := ((Fr.of_below hbw0).trans hF5 (fun b e => .inl (.inl e))).trans hFs (fun b h => .inl (.inr (by rcases h with h | h <;> omega)))
      have hsw : ∀ {p : World → Prop}, Stb (fun b => b = dk) w p → p U := fun h => (Stb.step (D1 := fun b => b = dk ∨ b = X + 1 ∨ False) h hfl (fun b h => by
        have h2 : b = dk ∨ X ≤ b := h
        rcases h2 with h2 | h2
        · exact .inl h2
        · right; omega) (fun b h => by
        rcases h with h2 | h2 | h2
        · exact .inl h2
        · right; omega
        · exact h2.elim)) U gU
      have hl1 : (voidW (wdL n P es ow hv W)).kn.length = P + 1 := by simp [voidW, wdL]
      have hl2 : (voidW (wdL n P es ow hv W)).bx.length = P := by simp [voidW, wdL]
      have hl3 : (voidW (wdL n P es ow hv W)).ow.length = n := owI_length n ow
      refine ⟨ae, ao, ah, a9, some ⟨BB, 0, none⟩, ce, co, ch, c9, cB, by rw [hl1, hl2, hl3]; rfl, hsw hSE, by rw [hl3]; exact hsw hSO, hsw hSH, by rw [hl1]; exact hkn, by rw [hl2]; exact hbx⟩
    have HW10 := Lib.hid hw10
    clear hw10 hst hYb9 hown9 hg9 f9 hY9 hKR5 hKR6 hlit hb6 hG5 y0 y1 y2 y3 y4 y5 y6
    rw [← HW10.out]
    obtain ⟨y0, y1, y2, y3, y4, y5, y6⟩ := cells7 hY10
    obtain ⟨v0, v1, v2, v3, v4, v5, v6⟩ := cells7 hZ10
    obtain ⟨f0, f1, f2, f3, f4, f5, f6⟩ := frees7 hZ10
    obtain ⟨wF, hwF⟩ : ∃ V : World, V = (((((((w10.setCell ⟨X + 1, 0, none⟩ (.int .i64 (n : Int))).setCell ⟨X + 1, 1, none⟩ (.slice ae es.length ce)).setCell ⟨X + 1, 2, none⟩ (.int .i64 (P : Int))).setCell ⟨X + 1, 3, none⟩ (.slice ao n co)).setCell ⟨X + 1, 4, none⟩ (.slice ah hv.length ch)).setCell ⟨X + 1, 5, none⟩ (.slice a9 (P + 1) c9)).setCell ⟨X + 1, 6, none⟩ (.slice (some ⟨BB, 0, none⟩) P cB)) := ⟨_, rfl⟩
    have hfin := set7all (d0 := .int .i64 (n : Int)) (d1 := .slice ae es.length ce) (d2 := .int .i64 (P : Int)) (d3 := .slice ao n co) (d4 := .slice ah hv.length ch) (d5 := .slice a9 (P + 1) c9) (d6 := .slice (some ⟨BB, 0, none⟩) P cB) hZ10
    have hgF := set7_grown w10 (X + 1) (.int .i64 (n : Int)) (.slice ae es.length ce) (.int .i64 (P : Int)) (.slice ao n co) (.slice ah hv.length ch) (.slice a9 (P + 1) c9) (.slice (some ⟨BB, 0, none⟩) P cB)
    rw [← hwF] at hfin hgF
    have HWF := Lib.hid hwF
    have hdF := (hd10).kept hgF (fun g e => by have e2 := Option.some.inj e; omega)
    have hgwF : w.grownBy wF (some dk) := grown_fin (hgw10) hgF (by rw [HX.out]; omega)
    have hres : Stb (fun b => b = dk) wF fun U => WldAt U (.agg #[.int .i64 (n : Int), .slice ae es.length ce, .int .i64 (P : Int), .slice ao n co, .slice ah hv.length ch, .slice a9 (P + 1) c9, .slice (some ⟨BB, 0, none⟩) P cB]) (voidW (wdL n P es ow hv W)) := Stb.step hres10 ((Fr.refl (fun b => b = X + 1) _).grown hgF (fun b e => .inl (Option.some.inj e).symm)) (fun b e => .inl (.inr (.inl e))) (fun b h => .inl (.inl h))
    obtain ⟨t0, t1, t2, t3, t4, t5, t6⟩ := cells7 hfin
    clear hwF hgF hfin
    go_wp2_with fail
    rw [← HWF.out]
    exact bodyPost_ret (v := .agg #[.int .i64 (n : Int), .slice ae es.length ce, .int .i64 (P : Int), .slice ao n co, .slice ah hv.length ch, .slice a9 (P + 1) c9, .slice (some ⟨BB, 0, none⟩) P cB]) (by simp [results, Tryz.results16, go_sem, t0, t1, t2, t3, t4, t5, t6]) rfl ⟨_, _, rfl, hres, ⟨hG.few.void (by show ((List.range P).map W.kn).length ≤ 900; rw [List.length_map, List.length_range]; omega), hG.hhl, .inl (val_len (by show (((List.range P).map W.kn ++ [[]]).length : Int) ≠ (P : Int); rw [List.length_append, List.length_map, List.length_range, List.length_singleton]; omega))⟩, hdF, hgwF⟩
  by_cases hc3 : x = 3
  · subst hc3
    clear hx0 hx1 hc0 hc1 hc2
    obtain ⟨y0, y1, y2, y3, y4, y5, y6⟩ := cells7 hY5
    have f5 : w5.frozen? ⟨Y, 2, none⟩ = false := free_blk hY5
    go_upto_region 15 with fail
    obtain ⟨w6, hw6⟩ : ∃ V : World, V = w5.setCell ⟨Y, 2, none⟩ (.int .i64 ((P : Int) + 1)) := ⟨_, rfl⟩
    have hst : w5.grownBy w6 (some Y) := by rw [hw6]; exact grown_store
    have hY6 : w6.heap[Y]? = some (.cells #[.int .i64 (n : Int), .slice ae es.length ce, .int .i64 ((P : Int) + 1), .slice ao n co, .slice ah hv.length ch, .slice (some ⟨KB, 0, none⟩) P cK, .slice (some ⟨BB, 0, none⟩) P cB] 36 (0, 0)) := by
      rw [hw6]
      show (w5.setCell ⟨Y, 2, none⟩ (.int .i64 ((P : Int) + 1))).heap[Y]? = _
      rw [heap_setCell_same _ _ _ _ _ _ hY5]; rfl
    have hZ6 := grown_blk hst hZ5 (fun e => by have e2 := Option.some.inj e; omega)
    have hd6 := hd5.kept hst (fun g e => by have e2 := Option.some.inj e; omega)
    have hS6 : Stb (fun b => b = dk ∨ b = X + 1 ∨ b = Y) w6 fun U => WldAt U (.agg #[.int .i64 (n : Int), .slice ae es.length ce, .int .i64 ((P : Int) + 1), .slice ao n co, .slice ah hv.length ch, .slice (some ⟨KB, 0, none⟩) P cK, .slice (some ⟨BB, 0, none⟩) P cB]) (moreW (wdL n P es ow hv W)) := (Stb.step (D1 := fun b => b = dk ∨ b = X + 1 ∨ b = Y) hS5 ((Fr.refl (fun b => b = Y) w5).grown hst (fun b e => .inl (Option.some.inj e).symm)) (fun b e => .inl (.inr (.inr e))) (fun b h => .inl h)).imp fun U h => h.more
    have hgw6 := grown_fin hgw5 hst (by rw [HX.out]; omega)
    have HW6 := Lib.hid hw6
    clear hw6 hst hS5 hY5 hZ5 y0 y1 y2 y3 y4 y5 y6
    rw [← HW6.out]
    obtain ⟨y0, y1, y2, y3, y4, y5, y6⟩ := cells7 hY6
    obtain ⟨v0, v1, v2, v3, v4, v5, v6⟩ := cells7 hZ6
    obtain ⟨f0, f1, f2, f3, f4, f5, f6⟩ := frees7 hZ6
    obtain ⟨wF, hwF⟩ : ∃ V : World, V = (((((((w6.setCell ⟨X + 1, 0, none⟩ (.int .i64 (n : Int))).setCell ⟨X + 1, 1, none⟩ (.slice ae es.length ce)).setCell ⟨X + 1, 2, none⟩ (.int .i64 ((P : Int) + 1))).setCell ⟨X + 1, 3, none⟩ (.slice ao n co)).setCell ⟨X + 1, 4, none⟩ (.slice ah hv.length ch)).setCell ⟨X + 1, 5, none⟩ (.slice (some ⟨KB, 0, none⟩) P cK)).setCell ⟨X + 1, 6, none⟩ (.slice (some ⟨BB, 0, none⟩) P cB)) := ⟨_, rfl⟩
    have hfin := set7all (d0 := .int .i64 (n : Int)) (d1 := .slice ae es.length ce) (d2 := .int .i64 ((P : Int) + 1)) (d3 := .slice ao n co) (d4 := .slice ah hv.length ch) (d5 := .slice (some ⟨KB, 0, none⟩) P cK) (d6 := .slice (some ⟨BB, 0, none⟩) P cB) hZ6
    have hgF := set7_grown w6 (X + 1) (.int .i64 (n : Int)) (.slice ae es.length ce) (.int .i64 ((P : Int) + 1)) (.slice ao n co) (.slice ah hv.length ch) (.slice (some ⟨KB, 0, none⟩) P cK) (.slice (some ⟨BB, 0, none⟩) P cB)
    rw [← hwF] at hfin hgF
    have HWF := Lib.hid hwF
    have hdF := (hd6).kept hgF (fun g e => by have e2 := Option.some.inj e; omega)
    have hgwF : w.grownBy wF (some dk) := grown_fin (hgw6) hgF (by rw [HX.out]; omega)
    have hres : Stb (fun b => b = dk) wF fun U => WldAt U (.agg #[.int .i64 (n : Int), .slice ae es.length ce, .int .i64 ((P : Int) + 1), .slice ao n co, .slice ah hv.length ch, .slice (some ⟨KB, 0, none⟩) P cK, .slice (some ⟨BB, 0, none⟩) P cB]) (moreW (wdL n P es ow hv W)) := Stb.step hS6 ((Fr.refl (fun b => b = X + 1) _).grown hgF (fun b e => .inl (Option.some.inj e).symm)) (fun b e => .inl (.inr (.inl e))) (fun b h => .inl (.inl h))
    obtain ⟨t0, t1, t2, t3, t4, t5, t6⟩ := cells7 hfin
    clear hwF hgF hfin
    go_wp2_with fail
    rw [← HWF.out]
    exact bodyPost_ret (v := .agg #[.int .i64 (n : Int), .slice ae es.length ce, .int .i64 ((P : Int) + 1), .slice ao n co, .slice ah hv.length ch, .slice (some ⟨KB, 0, none⟩) P cK, .slice (some ⟨BB, 0, none⟩) P cB]) (by simp [results, Tryz.results16, go_sem, t0, t1, t2, t3, t4, t5, t6]) rfl ⟨_, _, rfl, hres, ⟨hG.few.more, hG.hhl, .inl (val_len (by show (((List.range P).map W.kn).length : Int) ≠ (P : Int) + 1; rw [List.length_map, List.length_range]; omega))⟩, hdF, hgwF⟩
  have hc4 : x = 4 := by omega
  subst hc4
  clear hx0 hx1 hc0 hc1 hc2 hc3
  obtain ⟨y0, y1, y2, y3, y4, y5, y6⟩ := cells7 hY5
  obtain ⟨v0, v1, v2, v3, v4, v5, v6⟩ := cells7 hZ5
  obtain ⟨f0, f1, f2, f3, f4, f5, f6⟩ := frees7 hZ5
  obtain ⟨wF, hwF⟩ : ∃ V : World, V = (((((((w5.setCell ⟨X + 1, 0, none⟩ (.int .i64 (n : Int))).setCell ⟨X + 1, 1, none⟩ (.slice ae es.length ce)).setCell ⟨X + 1, 2, none⟩ (.int .i64 (P : Int))).setCell ⟨X + 1, 3, none⟩ (.slice ao n co)).setCell ⟨X + 1, 4, none⟩ (.slice ah hv.length ch)).setCell ⟨X + 1, 5, none⟩ (.slice (some ⟨KB, 0, none⟩) P cK)).setCell ⟨X + 1, 6, none⟩ (.slice (some ⟨BB, 0, none⟩) P cB)) := ⟨_, rfl⟩
  have hfin := set7all (d0 := .int .i64 (n : Int)) (d1 := .slice ae es.length ce) (d2 := .int .i64 (P : Int)) (d3 := .slice ao n co) (d4 := .slice ah hv.length ch) (d5 := .slice (some ⟨KB, 0, none⟩) P cK) (d6 := .slice (some ⟨BB, 0, none⟩) P cB) hZ5
  have hgF := set7_grown w5 (X + 1) (.int .i64 (n : Int)) (.slice ae es.length ce) (.int .i64 (P : Int)) (.slice ao n co) (.slice ah hv.length ch) (.slice (some ⟨KB, 0, none⟩) P cK) (.slice (some ⟨BB, 0, none⟩) P cB)
  rw [← hwF] at hfin hgF
  have HWF := Lib.hid hwF
  have hdF := (hd5).kept hgF (fun g e => by have e2 := Option.some.inj e; omega)
  have hgwF : w.grownBy wF (some dk) := grown_fin (hgw5) hgF (by rw [HX.out]; omega)
  have hres : Stb (fun b => b = dk) wF fun U => WldAt U (.agg #[.int .i64 (n : Int), .slice ae es.length ce, .int .i64 (P : Int), .slice ao n co, .slice ah hv.length ch, .slice (some ⟨KB, 0, none⟩) P cK, .slice (some ⟨BB, 0, none⟩) P cB]) (wdL n P es ow hv W) := Stb.step hS5 ((Fr.refl (fun b => b = X + 1) _).grown hgF (fun b e => .inl (Option.some.inj e).symm)) (fun b e => .inl (.inr (.inl e))) (fun b h => .inl (.inl h))
  obtain ⟨t0, t1, t2, t3, t4, t5, t6⟩ := cells7 hfin
  clear hwF hgF hfin
  go_wp2_with fail
  rw [← HWF.out]
  exact bodyPost_ret (v := .agg #[.int .i64 (n : Int), .slice ae es.length ce, .int .i64 (P : Int), .slice ao n co, .slice ah hv.length ch, .slice (some ⟨KB, 0, none⟩) P cK, .slice (some ⟨BB, 0, none⟩) P cB]) (by simp [results, Tryz.results16, go_sem, t0, t1, t2, t3, t4, t5, t6]) rfl ⟨_, _, rfl, hres, ⟨hG.few, hG.hhl, .inr ⟨n, P, ow, W, rfl, hG, by omega⟩⟩, hdF, hgwF⟩
end Go.Proofs.YtdkmdcdoiaelfaaGreat
