/- The walk of the law RoundsFalls (printed by wip/mkfalls.py). -/
import Derived.Test.YtdkmdcdoiaelfaaRdDel
import Derived.BigQuiet
namespace Go.Proofs.Ytdkmdcdoiaelfaa
open Go.RowKit Go.BigFrame

theorem ext_cell {W : World} {b o : Nat} {v : Value} (h : W.cell? ⟨b, o, none⟩ = some v) : ∀ e : Ext W.heap.size W, e.world.cell? ⟨b, o, none⟩ = some v := fun e => (e.below.cell (p := ⟨b, o, none⟩) (cell_lt h)).trans h
theorem dlv_le {n P : Nat} {es : List E2} {ow : Nat → Nat} {W : WdP} {i j : Nat} {m : Msg} {r : List Msg} (hb : W.bx i j = m :: r) (t v : Nat) : ((dlvP es n P ow W i j).kn t).getD v 0 ≤ (W.kn t).getD v 0 := by
  rw [dlv_kn hb]
  split
  · rename_i e; rw [e]; exact lrn_le _ _ _
  · exact Int.le_refl _
theorem dlv_old {n P : Nat} {es : List E2} {ow : Nat → Nat} {W : WdP} {i j : Nat} {m : Msg} {r : List Msg} (hb : W.bx i j = m :: r) (hI : RInv es n P ow W) (hj : j < P) (h : (W.kn j).getD m.1.toNat 0 ≤ m.2.1) (t v : Nat) : ((dlvP es n P ow W i j).kn t).getD v 0 = (W.kn t).getD v 0 := by
  rw [dlv_kn hb]
  split
  · rename_i e; rw [lrn_old (hI.fix j hj) h, e]
  · rfl
theorem rdy_len {P : Nat} (hP : P ≤ 8) (V : WdP) : (rdyW P V).length ≤ 8 * 64 := by
  have h1 := rdyR_len (bxL P V) (fun r hr => by
    obtain ⟨t, ht, rfl⟩ := List.mem_map.1 hr
    simp; omega) (bxL P V).length (Nat.le_refl _)
  rw [bxL_len] at h1
  show (rdyR _ (bxL P V).length).length ≤ _
  rw [bxL_len]
  have h2 : P * 64 ≤ 8 * 64 := Nat.mul_le_mul_right _ hP
  omega

set_option linter.unusedSimpArgs false in
set_option maxRecDepth 100000 in
set_option maxHeartbeats 6400000 in
theorem rdfalls_law (a : Option Addr) (len cap : Nat) (aS : Option Addr) (lenS cS : Nat) (xs : List Int) (w : World) (hl : ListAt w a len) (hxs0 : lenS ≤ 100000 → IntsAt w (.slice aS xs.length cS) xs ∧ xs.length = lenS) :
    Calls Try.prog 10 #[.slice a len cap, .slice aS lenS cS] w fun e w' => e = .returned (.bool true) ∧ Below w.heap.size w w' := by
  by_cases hfew : len ≤ 500
  case neg =>
    have hd : decide (len ≤ 500) = false := by simpa using hfew
    go_enter Try.func10, Try.ntmps10
    go_wp2_with (first
      | (go_at_call 14; refine (few_any _ _ _ _).mono ?_; rintro e w' ⟨rfl, rfl⟩)
      | (go_at_call 29; refine (rdawake_any _).mono ?_; rintro e w' ⟨rfl, hb⟩))
    go_ret
    exact ⟨rfl, hb⟩
  case pos =>
  have hd : decide (len ≤ 500) = true := by simpa using hfew
  by_cases hxl : lenS ≤ 60
  case neg =>
    have hx3 : (60 : Int) < lenS := by omega
    go_enter Try.func10, Try.ntmps10
    go_wp2_with (first
      | (go_at_call 14; refine (few_any _ _ _ _).mono ?_; rintro e w' ⟨rfl, rfl⟩)
      | (go_at_call 29; refine (rdawake_any _).mono ?_; rintro e w' ⟨rfl, hb⟩))
    go_ret
    exact ⟨rfl, hb⟩
  case pos =>
  obtain ⟨hxs, hxe⟩ := hxs0 (by omega)
  subst hxe
  have hx300 : decide ((60 : Int) < (xs.length : Int)) = false := decide_eq_false (by omega)
  have hdk := deck_new (cap := cap) hl
  have hb1 : Below w.heap.size w (w.alloc (.cells #[.slice a len cap, .int .i64 0] 92)) := (Below.refl _ _).alloc (Nat.le_refl _) _
  go_enter Try.func10, Try.ntmps10
  go_upto_region 5 with (first
    | (go_at_call 14; refine (few_any _ _ _ _).mono ?_; rintro e w' ⟨rfl, rfl⟩)
    | (go_at_call 17; refine (new_any _ _ _ _).mono ?_; rintro e w' ⟨rfl, rfl⟩)
    | (go_at_call 16; refine (mkgraph_any w.heap.size 7 _ hdk (by omega) (by omega)).mono ?_; rintro e w2 ⟨n0, es, a2, cap2, rfl, he2, hv, hn9, hd2, hg2, ho2⟩))
  have hb2 : Below w.heap.size w w2 := below_deck hb1 hg2 (Nat.le_refl _) hb1.size
  obtain ⟨n, rfl⟩ := Int.eq_ofNat_of_zero_le hv.1
  have hn8 : n ≤ 7 := by omega
  have hes := hv.length_le
  have hck := (valid_iff n es).2 hv
  obtain ⟨hG0, hb3⟩ := boxG_new w2 #[.int .i64 (n : Int), .slice a2 es.length cap2] 27
  obtain ⟨w3, hw3⟩ : ∃ W : World, W = w2.alloc (.cells #[.int .i64 (n : Int), .slice a2 es.length cap2] 27) := ⟨_, rfl⟩
  rw [← hw3] at hG0 hb3
  have he3 := he2.below hb3
  have hd3 := hd2.kept (grown_of_below hb3) (fun g e => by cases e)
  have hdb : w.heap.size < w2.heap.size := hd2.lt
  obtain ⟨Bg, hBg⟩ : ∃ B, w2.heap.size = B := ⟨_, rfl⟩
  rw [hBg] at hG0 hdb ⊢
  have hb03 := hb2.trans (hb3.mono hb2.size)
  have ho3 : ∀ n' c' p, Value.slice a2 es.length cap2 = .slice (some p) n' c' → ¬ p.block = w.heap.size := fun n' c' p e => by
    have h1 := ho2 p (Value.slice.inj e).1
    simp at h1
    omega
  have hgl : Bg < w3.heap.size := blk_lt hG0
  obtain ⟨x0, x1⟩ := cells2R hG0
  have HW3 := Lib.hid hw3
  clear hw3 hdk hb1 hg2 hd2 he2 hb3 ho2
  rw [← HW3.out]
  go_cut [7, 8] from 35 to 42 (fun p c wx => ∃ (Bw P : Nat) (ow : Nat → Nat) (hv2 : List Int), p = .pointer (some ⟨Bw, 0, none⟩) ∧ c = .int .i64 0 ∧ 1 ≤ P ∧ P ≤ 4 ∧ (∀ v, v < n → ow v < P) ∧ validZ none hv2 n = true ∧ hv2.length ≤ 1000000 ∧ WldB Bw n P es ow hv2 (staP es n P ow) wx ∧ Fr (fun b => b = w.heap.size) w3 wx ∧ w3.heap.size ≤ Bw)
  case first =>
    refine wp_region_heldK (k := 10) (S := fun b W => match b with | false => (W.cell? ⟨Bg, 0, none⟩ = some (.int .i64 (n : Int)) ∧ W.cell? ⟨Bg, 1, none⟩ = some (.slice a2 es.length cap2)) | true => True) (by kernel_rfl) ?_
    have hS0 : (w3.drew.cell? ⟨Bg, 0, none⟩ = some (.int .i64 (n : Int)) ∧ w3.drew.cell? ⟨Bg, 1, none⟩ = some (.slice a2 es.length cap2)) := ⟨x0, x1⟩
    refine wpAnyK_take (i := 0) (v := .agg #[.int .i64 (n : Int), .slice a2 es.length cap2]) false rfl (by kernel_rfl) (by kernel_rfl) (by kernel_rfl) (by kernel_rfl) (by kernel_rfl) (fun _ _ _ h => h) (fun _ _ => trivial) (Or.inl ⟨by rfl, by intro w hSw; (try dsimp only at hSw); go_simp⟩) (b := false) (by kernel_rfl) hS0 ?_
    try simp only [Act.put, List.setIfInBounds_toArray, List.set_cons_zero, List.set_cons_succ]
    refine wpAnyK_take (i := 1) (v := .pointer (some ⟨w.heap.size, 0, none⟩)) false rfl (by kernel_rfl) (by kernel_rfl) (by kernel_rfl) (by kernel_rfl) (by kernel_rfl) (fun _ _ _ h => h) (fun _ _ => trivial) (Or.inl ⟨by rfl, by intro w hSw; (try dsimp only at hSw); go_simp⟩) (b := false) (by kernel_rfl) hS0 ?_
    try simp only [Act.put, List.setIfInBounds_toArray, List.set_cons_zero, List.set_cons_succ]
    refine wpAnyK_take (i := 2) (v := .pointer (some ⟨Bg, 0, none⟩)) false rfl (by kernel_rfl) (by kernel_rfl) (by kernel_rfl) (by kernel_rfl) (by kernel_rfl) (fun _ _ _ h => h) (fun _ _ => trivial) (Or.inl ⟨by rfl, by intro w hSw; (try dsimp only at hSw); go_simp⟩) (b := false) (by kernel_rfl) hS0 ?_
    try simp only [Act.put, List.setIfInBounds_toArray, List.set_cons_zero, List.set_cons_succ]
    refine wpAnyK_take (i := 3) (v := .int .i64 (n : Int)) false rfl (by kernel_rfl) (by kernel_rfl) (by kernel_rfl) (by kernel_rfl) (by kernel_rfl) (fun _ _ _ h => h) (fun _ _ => trivial) (Or.inl ⟨by rfl, by intro w hSw; (try dsimp only at hSw); go_simp⟩) (b := false) (by kernel_rfl) hS0 ?_
    try simp only [Act.put, List.setIfInBounds_toArray, List.set_cons_zero, List.set_cons_succ]
    refine wpAnyK_two (i := 4) (j := 9) (by kernel_rfl) rfl rfl (by rfl) (by rfl) (b := false) (b2 := false) (by kernel_rfl) (by kernel_rfl) (fun K hK => ?_) (fun K hK => ?_)
    · go_simp
      go_at_call 30
      refine (fplan_any w.heap.size n _ (hd3.drew) (by omega)).mono ?_
      rintro e w4 ⟨P, ow, hv2, ao, ah, co, ch, rfl, hP1, hP4, how, hhv, hhl, hO4, hH4, hMO, -, -, hg4⟩
      have hF4 : Fr (fun b => b = w.heap.size) w3 w4 := ((Fr.refl _ w3).trans (Fr.of_below (D := fun _ => False) (Below.refl w3.heap.size w3).drew) (fun b h => h.elim)).grown hg4 (fun b e => .inl (Option.some.inj e).symm)
      have he4 := hF4.edges he3 ho3
      have hG4 := hF4.blk hG0 (by omega)
      have hs4 := hF4.size
      have hS4 : (w4.cell? ⟨Bg, 0, none⟩ = some (.int .i64 (n : Int)) ∧ w4.cell? ⟨Bg, 1, none⟩ = some (.slice a2 es.length cap2)) := ⟨cell_blk (hF4.blk hG0 (by omega)), cell_blk (hF4.blk hG0 (by omega))⟩
      dsimp only
      refine hK.out _ _ hS4 ?_
      try simp only [Act.put, List.setIfInBounds_toArray, List.set_cons_zero, List.set_cons_succ]
      refine wpAnyK_two (i := 5) (j := 9) (by kernel_rfl) rfl rfl (by rfl) (by rfl) (b := false) (b2 := false) (by kernel_rfl) (by kernel_rfl) (fun K hK => ?_) (fun K hK => ?_)
      · go_simp
        go_at_call 31
        refine (rdstartS_any n P es ow hv2 a2 ao ah cap2 co ch _ hv ⟨hP1, by omega⟩ how hhv (by omega) (he4) (hO4) (hH4) (fun n' c' p e => (hMO n' c' p e).2)).mono ?_
        rintro e w6 ⟨v6, rfl, hw6, hb6⟩
        have hF6 : Fr (fun b => b = w.heap.size) w3 w6 := (hF4).trans (Fr.of_below (D := fun _ => False) hb6) (fun b h => h.elim)
        have hG6 := hF6.blk hG0 (by omega)
        have hz6 := hb6.size
        have hS6 : (w6.cell? ⟨Bg, 0, none⟩ = some (.int .i64 (n : Int)) ∧ w6.cell? ⟨Bg, 1, none⟩ = some (.slice a2 es.length cap2)) := ⟨cell_blk hG6, cell_blk hG6⟩
        obtain ⟨ae, ao1, ah1, ak, ab, ce, co1, ch1, ck, cb, ev, -⟩ := hw6.now.shapeD
        subst ev
        dsimp only
        refine hK.out _ _ hS6 ?_
        try simp only [Act.put, List.setIfInBounds_toArray, List.set_cons_zero, List.set_cons_succ]
        refine wpAnyK_take (i := 6) (v := .tuple #[.agg #[.int .i64 (n : Int), .slice ae es.length ce, .int .i64 (P : Int), .slice ao1 n co1, .slice ah1 hv2.length ch1, .slice ak P ck, .slice ab P cb], .int .i64 0]) false rfl (by kernel_rfl) (by kernel_rfl) (by kernel_rfl) (by kernel_rfl) (by kernel_rfl) (fun _ _ _ h => h) (fun _ _ => trivial) (Or.inl ⟨by rfl, by intro w hSw; (try dsimp only at hSw); go_simp⟩) (b := false) (by kernel_rfl) hS6 ?_
        try simp only [Act.put, List.setIfInBounds_toArray, List.set_cons_zero, List.set_cons_succ]
        refine wpAnyK_take (i := 7) (v := .agg #[.int .i64 (n : Int), .slice ae es.length ce, .int .i64 (P : Int), .slice ao1 n co1, .slice ah1 hv2.length ch1, .slice ak P ck, .slice ab P cb]) false rfl (by kernel_rfl) (by kernel_rfl) (by kernel_rfl) (by kernel_rfl) (by kernel_rfl) (fun _ _ _ h => h) (fun _ _ => trivial) (Or.inl ⟨by rfl, by intro w hSw; (try dsimp only at hSw); go_simp⟩) (b := false) (by kernel_rfl) hS6 ?_
        try simp only [Act.put, List.setIfInBounds_toArray, List.set_cons_zero, List.set_cons_succ]
        refine wpAnyK_take (i := 8) (v := .int .i64 0) true rfl (by kernel_rfl) (by kernel_rfl) (by kernel_rfl) (by kernel_rfl) (by kernel_rfl) (fun _ _ _ h => h) (fun _ _ => trivial) (Or.inl ⟨by rfl, by intro w hSw; (try dsimp only at hSw); go_simp⟩) (b := false) (by kernel_rfl) hS6 ?_
        try simp only [Act.put, List.setIfInBounds_toArray, List.set_cons_zero, List.set_cons_succ]
        refine wpAnyK_one (i := 9) (by kernel_rfl) rfl (by rfl) (b := false) (by kernel_rfl) (fun K hK => ?_)
        go_simp
        refine hK.out _ _ (show ((w6.alloc (.cells #[.int .i64 0, .slice none 0 0, .int .i64 0, .slice none 0 0, .slice none 0 0, .slice none 0 0, .slice none 0 0] 59)).cell? ⟨Bg, 0, none⟩ = some (.int .i64 (n : Int)) ∧ (w6.alloc (.cells #[.int .i64 0, .slice none 0 0, .int .i64 0, .slice none 0 0, .slice none 0 0, .slice none 0 0, .slice none 0 0] 59)).cell? ⟨Bg, 1, none⟩ = some (.slice a2 es.length cap2)) from ⟨cell_alloc hS6.1, cell_alloc hS6.2⟩) ?_
        try simp only [Act.put, List.setIfInBounds_toArray, List.set_cons_zero, List.set_cons_succ]
        refine wpAnyK_one (i := 10) (by kernel_rfl) rfl (by rfl) (b := true) (by kernel_rfl) (fun K hK => ?_)
        go_simp
        refine hK.out _ _ trivial ?_
        try simp only [Act.put, List.setIfInBounds_toArray, List.set_cons_zero, List.set_cons_succ]
        refine wpAnyK_one (i := 11) (by kernel_rfl) rfl (by rfl) (b := true) (by kernel_rfl) (fun K hK => ?_)
        go_simp
        refine hK.out _ _ trivial (wpAnyK_done (by kernel_rfl) ?_ _)
        have hWB := WldB.new hw6 rfl
        have hbB : Below w6.heap.size w6 (w6.alloc (.cells #[.int .i64 (n : Int), .slice ae es.length ce, .int .i64 (P : Int), .slice ao1 n co1, .slice ah1 hv2.length ch1, .slice ak P ck, .slice ab P cb] 59)) := (Below.refl _ _).alloc (Nat.le_refl _) _
        go_wp2_with fail
        go_meet
        exact ⟨w6.heap.size, P, ow, hv2, rfl, rfl, hP1, hP4, how, hhv, by omega, hWB, hF6.trans (Fr.of_below (D := fun _ => False) hbB) (fun b h => h.elim), by have := hF6.size; omega⟩
      · go_simp
        have hbA : Below w4.heap.size w4 (w4.alloc (.cells #[.int .i64 0, .slice none 0 0, .int .i64 0, .slice none 0 0, .slice none 0 0, .slice none 0 0, .slice none 0 0] 59)) := (Below.refl _ _).alloc (Nat.le_refl _) _
        have hC4 := heap_alloc_new w4 (.cells #[.int .i64 0, .slice none 0 0, .int .i64 0, .slice none 0 0, .slice none 0 0, .slice none 0 0, .slice none 0 0] 59)
        have hFA : Fr (fun b => b = w.heap.size) w3 (w4.alloc (.cells #[.int .i64 0, .slice none 0 0, .int .i64 0, .slice none 0 0, .slice none 0 0, .slice none 0 0, .slice none 0 0] 59)) := hF4.trans (Fr.of_below (D := fun _ => False) hbA) (fun b h => h.elim)
        refine hK.out _ _ (show ((w4.alloc (.cells #[.int .i64 0, .slice none 0 0, .int .i64 0, .slice none 0 0, .slice none 0 0, .slice none 0 0, .slice none 0 0] 59)).cell? ⟨Bg, 0, none⟩ = some (.int .i64 (n : Int)) ∧ (w4.alloc (.cells #[.int .i64 0, .slice none 0 0, .int .i64 0, .slice none 0 0, .slice none 0 0, .slice none 0 0, .slice none 0 0] 59)).cell? ⟨Bg, 1, none⟩ = some (.slice a2 es.length cap2)) from ⟨cell_alloc hS4.1, cell_alloc hS4.2⟩) ?_
        try simp only [Act.put, List.setIfInBounds_toArray, List.set_cons_zero, List.set_cons_succ]
        refine wpAnyK_one (i := 5) (by kernel_rfl) rfl (by rfl) (b := false) (by kernel_rfl) (fun K hK => ?_)
        go_simp
        go_at_call 31
        refine (rdstartS_any n P es ow hv2 a2 ao ah cap2 co ch _ hv ⟨hP1, by omega⟩ how hhv (by omega) (he4.below hbA) (hO4.below hbA) (hH4.below hbA) (fun n' c' p e => by have h1 := (hMO n' c' p e).2; have h2 := hbA.size; omega)).mono ?_
        rintro e w6 ⟨v6, rfl, hw6, hb6⟩
        have hF6 : Fr (fun b => b = w.heap.size) w3 w6 := (hFA).trans (Fr.of_below (D := fun _ => False) hb6) (fun b h => h.elim)
        have hG6 := hF6.blk hG0 (by omega)
        have hz6 := hb6.size
        have hS6 : (w6.cell? ⟨Bg, 0, none⟩ = some (.int .i64 (n : Int)) ∧ w6.cell? ⟨Bg, 1, none⟩ = some (.slice a2 es.length cap2)) := ⟨cell_blk hG6, cell_blk hG6⟩
        obtain ⟨ae, ao1, ah1, ak, ab, ce, co1, ch1, ck, cb, ev, -⟩ := hw6.now.shapeD
        subst ev
        have hC6 : w6.heap[w4.heap.size]? = _ := lit_next' hb6 hC4
        dsimp only
        refine hK.out _ _ hS6 ?_
        try simp only [Act.put, List.setIfInBounds_toArray, List.set_cons_zero, List.set_cons_succ]
        refine wpAnyK_take (i := 6) (v := .tuple #[.agg #[.int .i64 (n : Int), .slice ae es.length ce, .int .i64 (P : Int), .slice ao1 n co1, .slice ah1 hv2.length ch1, .slice ak P ck, .slice ab P cb], .int .i64 0]) false rfl (by kernel_rfl) (by kernel_rfl) (by kernel_rfl) (by kernel_rfl) (by kernel_rfl) (fun _ _ _ h => h) (fun _ _ => trivial) (Or.inl ⟨by rfl, by intro w hSw; (try dsimp only at hSw); go_simp⟩) (b := false) (by kernel_rfl) hS6 ?_
        try simp only [Act.put, List.setIfInBounds_toArray, List.set_cons_zero, List.set_cons_succ]
        refine wpAnyK_take (i := 7) (v := .agg #[.int .i64 (n : Int), .slice ae es.length ce, .int .i64 (P : Int), .slice ao1 n co1, .slice ah1 hv2.length ch1, .slice ak P ck, .slice ab P cb]) false rfl (by kernel_rfl) (by kernel_rfl) (by kernel_rfl) (by kernel_rfl) (by kernel_rfl) (fun _ _ _ h => h) (fun _ _ => trivial) (Or.inl ⟨by rfl, by intro w hSw; (try dsimp only at hSw); go_simp⟩) (b := false) (by kernel_rfl) hS6 ?_
        try simp only [Act.put, List.setIfInBounds_toArray, List.set_cons_zero, List.set_cons_succ]
        refine wpAnyK_take (i := 8) (v := .int .i64 0) true rfl (by kernel_rfl) (by kernel_rfl) (by kernel_rfl) (by kernel_rfl) (by kernel_rfl) (fun _ _ _ h => h) (fun _ _ => trivial) (Or.inl ⟨by rfl, by intro w hSw; (try dsimp only at hSw); go_simp⟩) (b := false) (by kernel_rfl) hS6 ?_
        try simp only [Act.put, List.setIfInBounds_toArray, List.set_cons_zero, List.set_cons_succ]
        obtain ⟨k0, k1, k2, k3, k4, k5, k6⟩ := cells7 hC6
        obtain ⟨f0, f1, f2, f3, f4, f5, f6⟩ := frees7 hC6
        refine wpAnyK_one (i := 10) (by kernel_rfl) rfl (by rfl) (b := true) (by kernel_rfl) (fun K hK => ?_)
        go_simp
        refine hK.out _ _ trivial ?_
        try simp only [Act.put, List.setIfInBounds_toArray, List.set_cons_zero, List.set_cons_succ]
        refine wpAnyK_one (i := 11) (by kernel_rfl) rfl (by rfl) (b := true) (by kernel_rfl) (fun K hK => ?_)
        go_simp
        refine hK.out _ _ trivial (wpAnyK_done (by kernel_rfl) ?_ _)
        have hWB := WldB.put hw6 hC6 rfl (by first | (simp; done) | exact blk_lt hC4)
        go_wp2_with fail
        go_meet
        exact ⟨w4.heap.size, P, ow, hv2, rfl, rfl, hP1, hP4, how, hhv, by omega, hWB, hF6.trans (set7_fr w6 w4.heap.size _ _ _ _ _ _ _) (fun b e => .inr (by omega)), by omega⟩
    · go_simp
      have hbA : Below w3.heap.size w3 (w3.drew.alloc (.cells #[.int .i64 0, .slice none 0 0, .int .i64 0, .slice none 0 0, .slice none 0 0, .slice none 0 0, .slice none 0 0] 59)) := ((Below.refl w3.heap.size w3).drew).alloc (Nat.le_refl _) _
      have hC3 := heap_alloc_new w3.drew (.cells #[.int .i64 0, .slice none 0 0, .int .i64 0, .slice none 0 0, .slice none 0 0, .slice none 0 0, .slice none 0 0] 59)
      have hFA : Fr (fun b => b = w.heap.size) w3 (w3.drew.alloc (.cells #[.int .i64 0, .slice none 0 0, .int .i64 0, .slice none 0 0, .slice none 0 0, .slice none 0 0, .slice none 0 0] 59)) := (Fr.refl _ w3).trans (Fr.of_below (D := fun _ => False) hbA) (fun b h => h.elim)
      refine hK.out _ _ (show ((w3.drew.alloc (.cells #[.int .i64 0, .slice none 0 0, .int .i64 0, .slice none 0 0, .slice none 0 0, .slice none 0 0, .slice none 0 0] 59)).cell? ⟨Bg, 0, none⟩ = some (.int .i64 (n : Int)) ∧ (w3.drew.alloc (.cells #[.int .i64 0, .slice none 0 0, .int .i64 0, .slice none 0 0, .slice none 0 0, .slice none 0 0, .slice none 0 0] 59)).cell? ⟨Bg, 1, none⟩ = some (.slice a2 es.length cap2)) from ⟨cell_alloc hS0.1, cell_alloc hS0.2⟩) ?_
      try simp only [Act.put, List.setIfInBounds_toArray, List.set_cons_zero, List.set_cons_succ]
      refine wpAnyK_one (i := 4) (by kernel_rfl) rfl (by rfl) (b := false) (by kernel_rfl) (fun K hK => ?_)
      go_simp
      go_at_call 30
      refine (fplan_any w.heap.size n _ (hd3.kept (grown_of_below hbA) (fun g e => by cases e)) (by omega)).mono ?_
      rintro e w4 ⟨P, ow, hv2, ao, ah, co, ch, rfl, hP1, hP4, how, hhv, hhl, hO4, hH4, hMO, -, -, hg4⟩
      have hF4 : Fr (fun b => b = w.heap.size) w3 w4 := (hFA).grown hg4 (fun b e => .inl (Option.some.inj e).symm)
      have he4 := hF4.edges he3 ho3
      have hG4 := hF4.blk hG0 (by omega)
      have hs4 := hF4.size
      have hS4 : (w4.cell? ⟨Bg, 0, none⟩ = some (.int .i64 (n : Int)) ∧ w4.cell? ⟨Bg, 1, none⟩ = some (.slice a2 es.length cap2)) := ⟨cell_blk (hF4.blk hG0 (by omega)), cell_blk (hF4.blk hG0 (by omega))⟩
      have hC4 := grown_blk hg4 hC3 (fun e => by have e1 : w3.heap.size = w.heap.size := Option.some.inj e; omega)
      dsimp only
      refine hK.out _ _ hS4 ?_
      try simp only [Act.put, List.setIfInBounds_toArray, List.set_cons_zero, List.set_cons_succ]
      refine wpAnyK_one (i := 5) (by kernel_rfl) rfl (by rfl) (b := false) (by kernel_rfl) (fun K hK => ?_)
      go_simp
      go_at_call 31
      refine (rdstartS_any n P es ow hv2 a2 ao ah cap2 co ch _ hv ⟨hP1, by omega⟩ how hhv (by omega) (he4) (hO4) (hH4) (fun n' c' p e => (hMO n' c' p e).2)).mono ?_
      rintro e w6 ⟨v6, rfl, hw6, hb6⟩
      have hF6 : Fr (fun b => b = w.heap.size) w3 w6 := (hF4).trans (Fr.of_below (D := fun _ => False) hb6) (fun b h => h.elim)
      have hG6 := hF6.blk hG0 (by omega)
      have hz6 := hb6.size
      have hS6 : (w6.cell? ⟨Bg, 0, none⟩ = some (.int .i64 (n : Int)) ∧ w6.cell? ⟨Bg, 1, none⟩ = some (.slice a2 es.length cap2)) := ⟨cell_blk hG6, cell_blk hG6⟩
      obtain ⟨ae, ao1, ah1, ak, ab, ce, co1, ch1, ck, cb, ev, -⟩ := hw6.now.shapeD
      subst ev
      have hC6 : w6.heap[w3.heap.size]? = _ := lit_next' hb6 hC4
      dsimp only
      refine hK.out _ _ hS6 ?_
      try simp only [Act.put, List.setIfInBounds_toArray, List.set_cons_zero, List.set_cons_succ]
      refine wpAnyK_take (i := 6) (v := .tuple #[.agg #[.int .i64 (n : Int), .slice ae es.length ce, .int .i64 (P : Int), .slice ao1 n co1, .slice ah1 hv2.length ch1, .slice ak P ck, .slice ab P cb], .int .i64 0]) false rfl (by kernel_rfl) (by kernel_rfl) (by kernel_rfl) (by kernel_rfl) (by kernel_rfl) (fun _ _ _ h => h) (fun _ _ => trivial) (Or.inl ⟨by rfl, by intro w hSw; (try dsimp only at hSw); go_simp⟩) (b := false) (by kernel_rfl) hS6 ?_
      try simp only [Act.put, List.setIfInBounds_toArray, List.set_cons_zero, List.set_cons_succ]
      refine wpAnyK_take (i := 7) (v := .agg #[.int .i64 (n : Int), .slice ae es.length ce, .int .i64 (P : Int), .slice ao1 n co1, .slice ah1 hv2.length ch1, .slice ak P ck, .slice ab P cb]) false rfl (by kernel_rfl) (by kernel_rfl) (by kernel_rfl) (by kernel_rfl) (by kernel_rfl) (fun _ _ _ h => h) (fun _ _ => trivial) (Or.inl ⟨by rfl, by intro w hSw; (try dsimp only at hSw); go_simp⟩) (b := false) (by kernel_rfl) hS6 ?_
      try simp only [Act.put, List.setIfInBounds_toArray, List.set_cons_zero, List.set_cons_succ]
      refine wpAnyK_take (i := 8) (v := .int .i64 0) true rfl (by kernel_rfl) (by kernel_rfl) (by kernel_rfl) (by kernel_rfl) (by kernel_rfl) (fun _ _ _ h => h) (fun _ _ => trivial) (Or.inl ⟨by rfl, by intro w hSw; (try dsimp only at hSw); go_simp⟩) (b := false) (by kernel_rfl) hS6 ?_
      try simp only [Act.put, List.setIfInBounds_toArray, List.set_cons_zero, List.set_cons_succ]
      obtain ⟨k0, k1, k2, k3, k4, k5, k6⟩ := cells7 hC6
      obtain ⟨f0, f1, f2, f3, f4, f5, f6⟩ := frees7 hC6
      refine wpAnyK_one (i := 10) (by kernel_rfl) rfl (by rfl) (b := true) (by kernel_rfl) (fun K hK => ?_)
      go_simp
      refine hK.out _ _ trivial ?_
      try simp only [Act.put, List.setIfInBounds_toArray, List.set_cons_zero, List.set_cons_succ]
      refine wpAnyK_one (i := 11) (by kernel_rfl) rfl (by rfl) (b := true) (by kernel_rfl) (fun K hK => ?_)
      go_simp
      refine hK.out _ _ trivial (wpAnyK_done (by kernel_rfl) ?_ _)
      have hWB := WldB.put hw6 hC6 rfl (by first | (simp; done) | exact blk_lt hC4)
      go_wp2_with fail
      go_meet
      exact ⟨w3.heap.size, P, ow, hv2, rfl, rfl, hP1, hP4, how, hhv, by omega, hWB, hF6.trans (set7_fr w6 w3.heap.size _ _ _ _ _ _ _) (fun b e => .inr (by omega)), by omega⟩
  case rest =>
    obtain ⟨Bw, P, ow, hv2, rfl, rfl, hP1, hP4, how, hhv, hhl, hW0, hFc, hBl⟩ := hcut
    have h03 := hb03.size
    have hbc : Below w.heap.size w wc := hb03.trans (hFc.below (fun b e => by omega) (by omega))
    have hxc := hxs.below hbc
    have hec := hFc.edges he3 ho3
    have hGc := hFc.blk hG0 (by omega)
    have hgw := GoodW.start (ow := ow) hv ⟨hP1, (by omega : P ≤ 8)⟩ how hhv hhl
    have hI0 := sta_inv (ow := ow) (P := P) hv how
    have hpot := sta_potle (ow := ow) (P := P) hv how (by omega) (by omega)
    obtain ⟨SW, hSW⟩ : ∃ S, staP es n P ow = S := ⟨_, rfl⟩
    rw [hSW] at hW0 hgw hI0 hpot
    obtain ⟨sae, sao, sah, sak, sab, sce, sco, sch, sck, scb, hB0, hS0⟩ := hW0
    have hbwl := blk_lt hB0
    clear hSW x0 x1
    have hcor : corX n es = (corT es n, 0) := by unfold corX; rw [if_neg (by rw [hck]; simp), Int.toNat_natCast]
    have hnu := rnumbers10_any n a2 cap2 es wc hec
    rw [hcor] at hnu
    unfold TPost at hnu
    dsimp only at hnu
    rw [corT_length] at hnu
    obtain ⟨x0, x1⟩ := cells2R hGc
    go_wp2_with fail
    refine hnu.mono ?_
    rintro e w4 ⟨a9, c9, rfl, hi4, ho4, hb4⟩
    have hb04 := hbc.trans (hb4.mono hbc.size)
    have hF4 := hFc.trans (Fr.of_below (D := fun _ => False) hb4) (fun b h => h.elim)
    have hWB4 : WldB Bw n P es ow hv2 SW w4 := WldB.below ⟨sae, sao, sah, sak, sab, sce, sco, sch, sck, scb, hB0, hS0⟩ hb4
    have hcl : (corT es n).length = n := corT_length _ _
    have hbw4 : Bw < w4.heap.size := Nat.lt_of_lt_of_le hbwl hb4.size
    have h04 := hb04.size
    clear hnu hcor x0 x1 hFc hS0 hB0 hGc hec hxc
    go_upto_region 8 with fail
    go_loopw [50] (fun vi wr => ∃ (k : Nat) (V : WdP), k ≤ xs.length ∧ vi = .int .i64 (k : Int) ∧ WldB Bw n P es ow hv2 V wr ∧ GoodW n P es ow hv2 V ∧ RInv es n P ow V ∧ potN n P ow V ≤ 800000 ∧ Fr (fun b => b = Bw) w4 wr) (fun vi _ => xs.length - (intOf vi).toNat)
    case atStart => exact ⟨0, SW, Nat.zero_le _, rfl, hWB4, hgw, hI0, hpot, Fr.refl _ _⟩
    case round =>
      clear hgw hI0 hpot hWB4
      obtain ⟨k, V, hk, rfl, hWB, hgv, hIv, hpv, hFr⟩ := hrel
      have hb0r : Below w.heap.size w wr := hb04.trans (hFr.below (fun b e => by omega) h04)
      have hrs := hFr.size
      by_cases hlt : k < xs.length
      case neg =>
        obtain rfl : k = xs.length := by omega
        go_wp2_with fail
        refine (rdawake_any _).mono ?_
        rintro e w16 ⟨rfl, hb16⟩
        go_wp2_with fail
        go_ret
        exact ⟨rfl, hb0r.trans (hb16.mono hb0r.size)⟩
      case pos =>
      have hlt3 : (k : Int) < xs.length := by omega
      obtain ⟨bs, os, rfl, cs⟩ := IntsAt.atn (hxs.below hb0r) rfl k hlt
      obtain ⟨sv, hsv⟩ : ∃ s, xs.getD k 0 = s := ⟨_, rfl⟩
      rw [hsv] at cs
      obtain ⟨yae, yao, yah, yak, yab, yce, yco, ych, yck, ycb, hB0, hS0⟩ := hWB
      have hA0 := hS0.now
      obtain ⟨ae0, ao0, ah0, ak0, ab0, ce0, co0, ch0, ck0, cb0, ez, -, -, hK0, hX0⟩ := hA0.shapeD
      cases ez
      obtain ⟨t0, t1, t2, t3, t4, t5, t6⟩ := cells7 hB0
      have hrr := rdReady_any n P es ow hv2 V _ wr hgv hA0
      have hLl := rdy_len (by omega : P ≤ 8) V
      have hLm := fun c (h : c ∈ rdyW P V) => rdyW_mem.1 h
      obtain ⟨L, hL⟩ : ∃ L, rdyW P V = L := ⟨_, rfl⟩
      rw [hL] at hrr hLl hLm
      go_wp2_with fail
      refine hrr.mono ?_
      rintro e w5 ⟨a5, c5, rfl, hR5, hb5⟩
      have hb05 := hb0r.trans (hb5.mono hb0r.size)
      by_cases hLn : L = []
      case pos =>
        subst hLn
        go_wp2_with fail
        refine (rdawake_any _).mono ?_
        rintro e w16 ⟨rfl, hb16⟩
        go_wp2_with fail
        go_ret
        exact ⟨rfl, hb05.trans (hb16.mono hb05.size)⟩
      case neg =>
      have hLp : 0 < L.length := List.length_pos_iff.2 hLn
      have hLz : ¬ (L.length : Int) = 0 := by omega
      have hLz2 : ¬ L.length = 0 := by omega
      have hmd := mod_any sv (L.length : Int) w5 (by omega) (by omega)
      obtain ⟨hm1, hm2⟩ := modS_bd sv (L.length : Int) (by omega)
      obtain ⟨p, hp⟩ := Int.eq_ofNat_of_zero_le hm1
      rw [hp] at hmd hm2
      have hpl : p < L.length := by omega
      obtain ⟨b8, o8, x, rfl, hx, hcap8, hc⟩ := hR5.elem p hpl
      obtain ⟨i, j, hi, hj, hbn, rfl⟩ := hLm x (List.mem_of_getElem? hx)
      obtain ⟨m, r, hb⟩ : ∃ m r, V.bx i j = m :: r := by
        cases hq : V.bx i j with
        | nil => exact absurd hq hbn
        | cons m r => exact ⟨m, r, rfl⟩
      have d0 := hc 0 _ rfl
      have d1 := hc 1 _ rfl
      have hk2 : encC.k = 2 := rfl
      rw [hk2, Nat.add_zero] at d0
      rw [hk2] at d1
      have hB5 := lit_next' hb5 hB0
      clear hc hx hbn hrr hR5 hL hLm hsv cs t0 t1 t2 t3 t4 t5 t6 hm1
      go_wp2_with fail
      refine hmd.mono ?_
      rintro e w' ⟨rfl, rfl⟩
      go_upto_region 13 with fail
      obtain ⟨hC6, hb6⟩ := boxG_new w5 #[.int .i64 (i : Int), .int .i64 (j : Int)] 37
      obtain ⟨w6, hw6⟩ : ∃ W : World, W = w5.alloc (.cells #[.int .i64 (i : Int), .int .i64 (j : Int)] 37) := ⟨_, rfl⟩
      rw [← hw6] at hC6 hb6 ⊢
      have hr5 := hb5.size
      have hr6 : Below wr.heap.size wr w6 := hb5.trans (hb6.mono hr5)
      have hB6 := lit_next' hb6 hB5
      have hA6 := hA0.below hr6
      obtain ⟨Ba, hBa⟩ : ∃ B, w5.heap.size = B := ⟨_, rfl⟩
      rw [hBa] at hC6 hr5 ⊢
      have a0 : w6.cell? ⟨Ba, 0, none⟩ = some (.int .i64 (i : Int)) := cell_blk hC6
      have a1 : w6.cell? ⟨Ba, 1, none⟩ = some (.int .i64 (j : Int)) := cell_blk hC6
      obtain ⟨t0, t1, t2, t3, t4, t5, t6⟩ := cells7 hB6
      have hdl := rddelS_any n P es ow hv2 V i j m r _ w6 hgv hA6 hi hj hb hpv
      clear hw6 hb6 hb5 d0 d1 hB5
      go_wp2_with fail
      refine hdl.mono ?_
      rintro e w7 ⟨v7, rfl, hW7, hb7⟩
      obtain ⟨pae, pao, pah, pak, pab, pce, pco, pch, pck, pcb, ev, hE7, -, hK7, -⟩ := hW7.now.shapeD
      subst ev
      have hvx := dlv_vld (es := es) how hgv.vld hi hj hb
      have hIx := dlv_inv hv hIv hi hj hb
      have hpx : potN n P ow (dlvP es n P ow V i j) ≤ 800000 := by have := dlv_potV (es := es) how hgv.vld hi hj hb; omega
      have hgx : GoodW n P es ow hv2 (dlvP es n P ow V i j) := ⟨hgv.hg, hgv.hP, hgv.how, hgv.hh, hgv.hhl, hvx, fun a b ha hb2 => by have := bx_pot (n := n) (ow := ow) (W := dlvP es n P ow V i j) ha hb2; omega⟩
      have hle := fun t v => dlv_le (es := es) (n := n) (P := P) (ow := ow) hb t v
      have hold := dlv_old hb hIv hj
      obtain ⟨VX, hVX⟩ : ∃ V2, dlvP es n P ow V i j = V2 := ⟨_, rfl⟩
      rw [hVX] at hW7 hK7 hIx hpx hgx hle hold
      clear hVX hvx hdl t0 t1 t2 t3 t4 t5 t6 a0 a1
      obtain ⟨hD8, hb8⟩ := boxG_new w7 #[.int .i64 (n : Int), .slice pae es.length pce, .int .i64 (P : Int), .slice pao n pco, .slice pah hv2.length pch, .slice pak P pck, .slice pab P pcb] 59
      obtain ⟨w8, hw8⟩ : ∃ W : World, W = w7.alloc (.cells #[.int .i64 (n : Int), .slice pae es.length pce, .int .i64 (P : Int), .slice pao n pco, .slice pah hv2.length pch, .slice pak P pck, .slice pab P pcb] 59) := ⟨_, rfl⟩
      rw [← hw8] at hD8 hb8
      have hAx8 := hW7.now.below hb8
      have hWS8 := hW7.below hb8
      have hE8 := hE7.below hb8
      have hK8 := hK7.below hb8
      have hr7 : Below wr.heap.size wr w7 := hr6.trans (hb7.mono hr6.size)
      have hr78 := hr7.size
      have hr8 : Below wr.heap.size wr w8 := hr7.trans (hb8.mono hr7.size)
      have hB8 := lit_next' hr8 hB0
      have hC8 := lit_next' (hb7.trans (hb8.mono hb7.size)) hC6
      have hA8 := hA0.below hr8
      obtain ⟨Bx, hBx⟩ : ∃ B, w7.heap.size = B := ⟨_, rfl⟩
      rw [hBx] at hD8 hr78
      have HW8 := Lib.hid hw8
      have hr68 := hr6
      clear hW7 hw8 hb8 hb7 hr7 hC6 hA6 hB6 hr6 hE7 hK7
      have hF8 : Fr (fun b => b = w.heap.size) w3 w8 := (hF4.trans hFr (fun b e => .inr (by omega))).trans (Fr.of_below (D := fun _ => False) hr8) (fun b h => h.elim)
      have hG8 := hF8.blk hG0 (by omega)
      have he8 := hF8.edges he3 ho3
      have hv1 := fun W (h : Below w8.heap.size w8 W) => valid38_any (wdL n P es ow hv2 V) _ W (hA8.below h) hgv.box
      have hv2x := fun W (h : Below w8.heap.size w8 W) => valid38_any (wdL n P es ow hv2 VX) _ W (hAx8.below h) hgx.box
      rw [hgv.val] at hv1
      rw [hgx.val] at hv2x
      have hgs := fun W (h : Below w8.heap.size w8 W) => gsame_same n pae a2 pce cap2 es W (hE8.below h) (he8.below h) (by omega)
      obtain ⟨-, -, b6, o6, sl, rfl, hc0, hR0⟩ := (hX0.below hr8).at i _ (bxL_row P V i hi)
      obtain ⟨sa, sn, sc⟩ := sl
      have hR3 : BoxR w8 (.slice sa sn sc) ((List.range P).map (V.bx i)) := hR0
      have hsn : P = sn := by have h1 := (NestA.len hR3).1; simp at h1; exact h1.symm
      subst hsn
      have hbk : ((List.range P).map (V.bx i))[j]? = some (V.bx i j) := by rw [List.getElem?_map, List.getElem?_range hj]; rfl
      obtain ⟨-, -, b7, o7, sl, rfl, hc2, hi2⟩ := hR3.at j _ hbk
      obtain ⟨sa2, sn2, sc2⟩ := sl
      have hsn2 : sn2 = (V.bx i j).length := RowAt.lenE hi2
      change w8.cell? _ = some (Value.slice (some ⟨b7, o7, none⟩) P sc) at hc0
      change w8.cell? _ = some (Value.slice sa2 sn2 sc2) at hc2
      obtain ⟨b9, o9, mm, e9, hmm, hcap9, hm9⟩ := (hsn2 ▸ hi2 : RowAt encM w8 (.slice sa2 (V.bx i j).length sc2) (V.bx i j)).elem 0 (by rw [hb]; simp)
      cases e9
      have hmm2 : mm = m := by rw [hb] at hmm; exact (Option.some.inj hmm).symm
      subst hmm2
      obtain ⟨u, hun, hui, hij, hmu, hmf, hml, hmn⟩ := hIv.msg i j hi hj mm (by rw [hb]; exact List.mem_cons_self)
      obtain ⟨m1, m2, m3⟩ := mm
      dsimp only at hmu hmf hml hmn
      subst hmu hmf
      have q0 : w8.cell? ⟨b9, o9, none⟩ = some (.int .i64 (u : Int)) := hm9 0 _ rfl
      have q1 : w8.cell? ⟨b9, o9 + 1, none⟩ = some (.int .i64 m2) := hm9 1 _ rfl
      have q2 : w8.cell? ⟨b9, o9 + 2, none⟩ = some (.bool false) := hm9 2 _ rfl
      have hsp : 0 < sn2 := by rw [hsn2, hb]; simp
      have hsp2 : ¬ (sn2 : Int) = 0 := by omega
      have hsp3 : ¬ sn2 = 0 := by omega
      have hi3 : (i : Int) < P := by omega
      have hj3 : (j : Int) < P := by omega
      have hi4n : ¬ (P : Int) ≤ i := by omega
      have hj4n : ¬ (P : Int) ≤ j := by omega
      have hi0 : ¬ (i : Int) < 0 := by omega
      have hj0 : ¬ (j : Int) < 0 := by omega
      have g1 : decide ((i : Int) < 0) = false := by simp
      have g2 : decide ((j : Int) < 0) = false := by simp
      have g3 : decide ((P : Int) ≤ i) = false := by simp; omega
      have g4 : decide ((P : Int) ≤ j) = false := by simp; omega
      have g3n : decide (P ≤ i) = false := by simp; omega
      have g4n : decide (P ≤ j) = false := by simp; omega
      have g5 : decide ((sn2 : Int) = 0) = false := by simp; omega
      have g6 : decide (sn2 = 0) = false := by simp; omega
      have g7 : ((sn2 : Int) == 0) = false := by simp; omega
      have g8 : (sn2 == 0) = false := by simp; omega
      clear hsn2 hi2 hR3 hbk hcap9 hm9 hmm hR0
      go_upto_region 14 with fail
      rw [← HW8.out]
      obtain ⟨t0', t1', t2', t3', t4', t5', t6'⟩ := cells7 hB8
      obtain ⟨y0', y1', y2', y3', y4', y5', y6'⟩ := cells7 hD8
      obtain ⟨x0', x1'⟩ := cells2R hG8
      have a0' : w8.cell? ⟨Ba, 0, none⟩ = some (.int .i64 (i : Int)) := cell_blk hC8
      have a1' : w8.cell? ⟨Ba, 1, none⟩ = some (.int .i64 (j : Int)) := cell_blk hC8
      have t0 := ext_cell t0'
      have t1 := ext_cell t1'
      have t2 := ext_cell t2'
      have t3 := ext_cell t3'
      have t4 := ext_cell t4'
      have t5 := ext_cell t5'
      have t6 := ext_cell t6'
      have y0 := ext_cell y0'
      have y1 := ext_cell y1'
      have y2 := ext_cell y2'
      have y3 := ext_cell y3'
      have y4 := ext_cell y4'
      have y5 := ext_cell y5'
      have y6 := ext_cell y6'
      have x0 := ext_cell x0'
      have x1 := ext_cell x1'
      have a0 := ext_cell a0'
      have a1 := ext_cell a1'
      have z0 := ext_cell hc0
      have z1 := ext_cell hc2
      clear t0' t1' t2' t3' t4' t5' t6' y0' y1' y2' y3' y4' y5' y6' x0' x1' a0' a1'
      refine wp_region_ext w8.heap.size w8 (by kernel_rfl) (by kernel_rfl) (Below.refl _ _) ?_
      try simp only [List.append_eq, List.cons_append, List.nil_append]
      repeat (go_big_quiet_step (first
        | (go_at_call 47; first
          | with_reducible exact Calls.ext_of (Nat.le_refl _) (hv1 _ (Ext.below _))
          | with_reducible exact Calls.ext_of (Nat.le_refl _) (hv2x _ (Ext.below _)))
        | (go_at_call 48; with_reducible exact Calls.ext_of (Nat.le_refl _) (hgs _ (Ext.below _)))))
      refine wpQuiet_nil ?_
      rintro wq ⟨⟨wq', hq⟩, hqq⟩
      obtain rfl : wq = wq' := hqq
      clear t0 t1 t2 t3 t4 t5 t6 y0 y1 y2 y3 y4 y5 y6 x0 x1 a0 a1 z0 z1 hv1 hv2x hgs
      go_upto_region 16 with fail
      have hrq := hr8.trans (hq.mono hr8.size)
      have hDq := lit_next' hq hD8
      have hBq := lit_next' hq hB8
      have hCq := lit_next' hq hC8
      have hc0q := (hq.cell (p := ⟨b6, o6 + i, none⟩) (cell_lt hc0)).trans hc0
      have hc2q := (hq.cell (p := ⟨b7, o7 + j, none⟩) (cell_lt hc2)).trans hc2
      have q0q := (hq.cell (p := ⟨b9, o9, none⟩) (cell_lt q0)).trans q0
      have q1q := (hq.cell (p := ⟨b9, o9 + 1, none⟩) (cell_lt q1)).trans q1
      have q2q := (hq.cell (p := ⟨b9, o9 + 2, none⟩) (cell_lt q2)).trans q2
      go_cut [17] from 143 to 154 (fun mv wx => ∃ Bm, mv = .pointer (some ⟨Bm, 0, none⟩) ∧ wx.heap[Bm]? = some (.cells #[.int .i64 (u : Int), .int .i64 m2, .bool false] 85 (0, 0)) ∧ Below wq.heap.size wq wx)
      case first =>
        refine wp_region_heldK (k := 13) (S := fun b W => match b with | false => (W.cell? ⟨Bw, 6, none⟩ = some (.slice (some ⟨b6, o6, none⟩) P ycb) ∧ W.cell? ⟨Ba, 0, none⟩ = some (.int .i64 (i : Int)) ∧ W.cell? ⟨Ba, 1, none⟩ = some (.int .i64 (j : Int)) ∧ W.cell? ⟨b6, o6 + i, none⟩ = some (.slice (some ⟨b7, o7, none⟩) P sc) ∧ W.cell? ⟨b7, o7 + j, none⟩ = some (.slice (some ⟨b9, o9, none⟩) sn2 sc2) ∧ W.cell? ⟨b9, o9, none⟩ = some (.int .i64 (u : Int)) ∧ W.cell? ⟨b9, o9 + 1, none⟩ = some (.int .i64 m2) ∧ W.cell? ⟨b9, o9 + 2, none⟩ = some (.bool false)) | true => True) (by kernel_rfl) ?_
        have hSq : (wq.drew.cell? ⟨Bw, 6, none⟩ = some (.slice (some ⟨b6, o6, none⟩) P ycb) ∧ wq.drew.cell? ⟨Ba, 0, none⟩ = some (.int .i64 (i : Int)) ∧ wq.drew.cell? ⟨Ba, 1, none⟩ = some (.int .i64 (j : Int)) ∧ wq.drew.cell? ⟨b6, o6 + i, none⟩ = some (.slice (some ⟨b7, o7, none⟩) P sc) ∧ wq.drew.cell? ⟨b7, o7 + j, none⟩ = some (.slice (some ⟨b9, o9, none⟩) sn2 sc2) ∧ wq.drew.cell? ⟨b9, o9, none⟩ = some (.int .i64 (u : Int)) ∧ wq.drew.cell? ⟨b9, o9 + 1, none⟩ = some (.int .i64 m2) ∧ wq.drew.cell? ⟨b9, o9 + 2, none⟩ = some (.bool false)) := ⟨cell_blk hBq, cell_blk hCq, cell_blk hCq, hc0q, hc2q, q0q, q1q, q2q⟩
        refine wpAnyK_take (i := 0) (v := .pointer (some ⟨Bw, 6, none⟩)) false rfl (by kernel_rfl) (by kernel_rfl) (by kernel_rfl) (by kernel_rfl) (by kernel_rfl) (fun _ _ _ h => h) (fun _ _ => trivial) (Or.inl ⟨by rfl, by intro w hSw; (try dsimp only at hSw); go_simp⟩) (b := false) (by kernel_rfl) hSq ?_
        try simp only [Act.put, List.setIfInBounds_toArray, List.set_cons_zero, List.set_cons_succ]
        refine wpAnyK_take (i := 1) (v := .slice (some ⟨b6, o6, none⟩) P ycb) false rfl (by kernel_rfl) (by kernel_rfl) (by kernel_rfl) (by kernel_rfl) (by kernel_rfl) (fun _ _ _ h => h) (fun _ _ => trivial) (Or.inl ⟨by rfl, by intro w hSw; (try dsimp only at hSw); go_simp⟩) (b := false) (by kernel_rfl) hSq ?_
        try simp only [Act.put, List.setIfInBounds_toArray, List.set_cons_zero, List.set_cons_succ]
        refine wpAnyK_take (i := 2) (v := .pointer (some ⟨Ba, 0, none⟩)) false rfl (by kernel_rfl) (by kernel_rfl) (by kernel_rfl) (by kernel_rfl) (by kernel_rfl) (fun _ _ _ h => h) (fun _ _ => trivial) (Or.inl ⟨by rfl, by intro w hSw; (try dsimp only at hSw); go_simp⟩) (b := false) (by kernel_rfl) hSq ?_
        try simp only [Act.put, List.setIfInBounds_toArray, List.set_cons_zero, List.set_cons_succ]
        refine wpAnyK_take (i := 3) (v := .int .i64 (i : Int)) false rfl (by kernel_rfl) (by kernel_rfl) (by kernel_rfl) (by kernel_rfl) (by kernel_rfl) (fun _ _ _ h => h) (fun _ _ => trivial) (Or.inl ⟨by rfl, by intro w hSw; (try dsimp only at hSw); go_simp⟩) (b := false) (by kernel_rfl) hSq ?_
        try simp only [Act.put, List.setIfInBounds_toArray, List.set_cons_zero, List.set_cons_succ]
        refine wpAnyK_take (i := 4) (v := .pointer (some ⟨b6, o6 + i, none⟩)) false rfl (by kernel_rfl) (by kernel_rfl) (by kernel_rfl) (by kernel_rfl) (by kernel_rfl) (fun _ _ _ h => h) (fun _ _ => trivial) (Or.inl ⟨by rfl, by intro w hSw; (try dsimp only at hSw); go_simp⟩) (b := false) (by kernel_rfl) hSq ?_
        try simp only [Act.put, List.setIfInBounds_toArray, List.set_cons_zero, List.set_cons_succ]
        refine wpAnyK_take (i := 5) (v := .slice (some ⟨b7, o7, none⟩) P sc) false rfl (by kernel_rfl) (by kernel_rfl) (by kernel_rfl) (by kernel_rfl) (by kernel_rfl) (fun _ _ _ h => h) (fun _ _ => trivial) (Or.inl ⟨by rfl, by intro w hSw; (try dsimp only at hSw); go_simp⟩) (b := false) (by kernel_rfl) hSq ?_
        try simp only [Act.put, List.setIfInBounds_toArray, List.set_cons_zero, List.set_cons_succ]
        refine wpAnyK_take (i := 6) (v := .pointer (some ⟨Ba, 1, none⟩)) false rfl (by kernel_rfl) (by kernel_rfl) (by kernel_rfl) (by kernel_rfl) (by kernel_rfl) (fun _ _ _ h => h) (fun _ _ => trivial) (Or.inl ⟨by rfl, by intro w hSw; (try dsimp only at hSw); go_simp⟩) (b := false) (by kernel_rfl) hSq ?_
        try simp only [Act.put, List.setIfInBounds_toArray, List.set_cons_zero, List.set_cons_succ]
        refine wpAnyK_take (i := 7) (v := .int .i64 (j : Int)) false rfl (by kernel_rfl) (by kernel_rfl) (by kernel_rfl) (by kernel_rfl) (by kernel_rfl) (fun _ _ _ h => h) (fun _ _ => trivial) (Or.inl ⟨by rfl, by intro w hSw; (try dsimp only at hSw); go_simp⟩) (b := false) (by kernel_rfl) hSq ?_
        try simp only [Act.put, List.setIfInBounds_toArray, List.set_cons_zero, List.set_cons_succ]
        refine wpAnyK_take (i := 8) (v := .pointer (some ⟨b7, o7 + j, none⟩)) false rfl (by kernel_rfl) (by kernel_rfl) (by kernel_rfl) (by kernel_rfl) (by kernel_rfl) (fun _ _ _ h => h) (fun _ _ => trivial) (Or.inl ⟨by rfl, by intro w hSw; (try dsimp only at hSw); go_simp⟩) (b := false) (by kernel_rfl) hSq ?_
        try simp only [Act.put, List.setIfInBounds_toArray, List.set_cons_zero, List.set_cons_succ]
        refine wpAnyK_take (i := 9) (v := .slice (some ⟨b9, o9, none⟩) sn2 sc2) false rfl (by kernel_rfl) (by kernel_rfl) (by kernel_rfl) (by kernel_rfl) (by kernel_rfl) (fun _ _ _ h => h) (fun _ _ => trivial) (Or.inl ⟨by rfl, by intro w hSw; (try dsimp only at hSw); go_simp⟩) (b := false) (by kernel_rfl) hSq ?_
        try simp only [Act.put, List.setIfInBounds_toArray, List.set_cons_zero, List.set_cons_succ]
        refine wpAnyK_take (i := 10) (v := .pointer (some ⟨b9, o9, none⟩)) false rfl (by kernel_rfl) (by kernel_rfl) (by kernel_rfl) (by kernel_rfl) (by kernel_rfl) (fun _ _ _ h => h) (fun _ _ => trivial) (Or.inl ⟨by rfl, by intro w hSw; (try dsimp only at hSw); go_simp⟩) (b := false) (by kernel_rfl) hSq ?_
        try simp only [Act.put, List.setIfInBounds_toArray, List.set_cons_zero, List.set_cons_succ]
        refine wpAnyK_take (i := 11) (v := .agg #[.int .i64 (u : Int), .int .i64 m2, .bool false]) false rfl (by kernel_rfl) (by kernel_rfl) (by kernel_rfl) (by kernel_rfl) (by kernel_rfl) (fun _ _ _ h => h) (fun _ _ => trivial) (Or.inl ⟨by rfl, by intro w hSw; (try dsimp only at hSw); go_simp⟩) (b := false) (by kernel_rfl) hSq ?_
        try simp only [Act.put, List.setIfInBounds_toArray, List.set_cons_zero, List.set_cons_succ]
        refine wpAnyK_one (i := 12) (by kernel_rfl) rfl (by rfl) (b := false) (by kernel_rfl) (fun K hK => ?_)
        go_simp
        refine hK.out _ _ (show ((wq.drew.alloc (.cells #[.int .i64 0, .int .i64 0, .bool false] 85)).cell? ⟨Bw, 6, none⟩ = some (.slice (some ⟨b6, o6, none⟩) P ycb) ∧ (wq.drew.alloc (.cells #[.int .i64 0, .int .i64 0, .bool false] 85)).cell? ⟨Ba, 0, none⟩ = some (.int .i64 (i : Int)) ∧ (wq.drew.alloc (.cells #[.int .i64 0, .int .i64 0, .bool false] 85)).cell? ⟨Ba, 1, none⟩ = some (.int .i64 (j : Int)) ∧ (wq.drew.alloc (.cells #[.int .i64 0, .int .i64 0, .bool false] 85)).cell? ⟨b6, o6 + i, none⟩ = some (.slice (some ⟨b7, o7, none⟩) P sc) ∧ (wq.drew.alloc (.cells #[.int .i64 0, .int .i64 0, .bool false] 85)).cell? ⟨b7, o7 + j, none⟩ = some (.slice (some ⟨b9, o9, none⟩) sn2 sc2) ∧ (wq.drew.alloc (.cells #[.int .i64 0, .int .i64 0, .bool false] 85)).cell? ⟨b9, o9, none⟩ = some (.int .i64 (u : Int)) ∧ (wq.drew.alloc (.cells #[.int .i64 0, .int .i64 0, .bool false] 85)).cell? ⟨b9, o9 + 1, none⟩ = some (.int .i64 m2) ∧ (wq.drew.alloc (.cells #[.int .i64 0, .int .i64 0, .bool false] 85)).cell? ⟨b9, o9 + 2, none⟩ = some (.bool false)) from ⟨cell_alloc hSq.1, cell_alloc hSq.2.1, cell_alloc hSq.2.2.1, cell_alloc hSq.2.2.2.1, cell_alloc hSq.2.2.2.2.1, cell_alloc hSq.2.2.2.2.2.1, cell_alloc hSq.2.2.2.2.2.2.1, cell_alloc hSq.2.2.2.2.2.2.2⟩) ?_
        try simp only [Act.put, List.setIfInBounds_toArray, List.set_cons_zero, List.set_cons_succ]
        refine wpAnyK_one (i := 13) (by kernel_rfl) rfl (by rfl) (b := true) (by kernel_rfl) (fun K hK => ?_)
        go_simp
        refine hK.out _ _ trivial (wpAnyK_done (by kernel_rfl) ?_ _)
        have hM := heap_alloc_new wq.drew (.cells #[.int .i64 (u : Int), .int .i64 m2, .bool false] 85)
        have hbM : Below wq.heap.size wq (wq.drew.alloc (.cells #[.int .i64 (u : Int), .int .i64 m2, .bool false] 85)) := ((Below.refl wq.heap.size wq).drew).alloc (Nat.le_refl _) _
        go_wp2_with fail
        go_meet
        exact ⟨wq.heap.size, rfl, hM, hbM⟩
      case rest =>
      obtain ⟨Bm, rfl, hMc, hbM⟩ := hcut
      have hrc := hrq.trans (hbM.mono hrq.size)
      have hb8c := hq.trans (hbM.mono hq.size)
      have hBc := lit_next' hbM hBq
      have hCc := lit_next' hbM hCq
      have m0 : wc.cell? ⟨Bm, 0, none⟩ = some (.int .i64 (u : Int)) := cell_blk hMc
      have m1 : wc.cell? ⟨Bm, 1, none⟩ = some (.int .i64 m2) := cell_blk hMc
      have a1 : wc.cell? ⟨Ba, 1, none⟩ = some (.int .i64 (j : Int)) := cell_blk hCc
      have t5 : wc.cell? ⟨Bw, 5, none⟩ = some (.slice yak P yck) := cell_blk hBc
      obtain ⟨bk, ok, sk, skc, rfl, kc0, kR0⟩ := (hK0.below hrc).row j hj
      have hlr := hIv.len j hj
      rw [hlr] at kc0 kR0
      obtain ⟨bv, ov, rfl, kv⟩ := IntsAt.atn kR0 hlr u hun
      have hun3 : (u : Int) < n := by omega
      have hold2 : ∀ B, decide ((V.kn j).getD u 0 ≤ m2) = B → B = true → ∀ t v, (VX.kn t).getD v 0 = (V.kn t).getD v 0 := fun B e e2 => hold (by subst e2; simpa using e)
      obtain ⟨Kv, hKv⟩ : ∃ K, (V.kn j).getD u 0 = K := ⟨_, rfl⟩
      rw [hKv] at kv hold2
      obtain ⟨B, hB⟩ : ∃ B, decide (Kv ≤ m2) = B := ⟨_, rfl⟩
      have hold3 := hold2 B hB
      clear hold hold2 hKv hlr hc0q hc2q q0q q1q q2q g1 g2 g3 g4 g3n g4n g5 g6 g7 g8 hc0 hc2 q0 q1 q2 hsp hsp2 hsp3 hi4n hj4n hi0 hj0
      go_upto_region 17 with fail
      go_quiet (fail)
      obtain ⟨wm, hwm⟩ : ∃ W : World, W = wc.drewN nq := ⟨_, rfl⟩
      have hbm : Below wc.heap.size wc wm := by rw [hwm]; exact (Below.refl _ _).drewN nq
      have hrm := hrc.trans (hbm.mono hrc.size)
      have hb8m := hb8c.trans (hbm.mono hb8c.size)
      have hKm := hK0.below hrm
      have hKx := hK8.below hb8m
      have him : IntsAt wm (.slice a9 n c9) (corT es n) := (hFr.ints hi4 (fun n' c' p e => by have := ho4 p (Value.slice.inj e).1; omega)).below hrm
      have hBm := lit_next' hrm hB0
      have hDm := lit_next' hb8m hD8
      rw [← hwm]
      clear hwm m0 m1 a1 t5 kc0 kR0 kv hMc
      have t5 : wm.cell? ⟨Bw, 5, none⟩ = some (.slice (some ⟨bk, ok, none⟩) P yck) := cell_blk hBm
      have y5 : wm.cell? ⟨Bx, 5, none⟩ = some (.slice pak P pck) := cell_blk hDm
      go_wp2_with fail
      clear t5 y5
      go_loopw [171] (fun vi wd => ∃ t : Nat, t ≤ P ∧ vi = .int .i64 (t : Int) ∧ Below wm.heap.size wm wd) (fun vi _ => P - (intOf vi).toNat)
      case atStart => exact ⟨0, Nat.zero_le _, rfl, Below.refl _ _⟩
      case round =>
        as_aux_lemma =>
          obtain ⟨t, htP, rfl, hbt⟩ := hrel
          by_cases htl : t < P
          case neg =>
            obtain rfl : P = t := by omega
            have hbtt := hb8m.trans (hbt.mono hb8m.size)
            have hrt := hrm.trans (hbt.mono hrm.size)
            have hBt := lit_next' hbt hBm
            have hDt := lit_next' hbt hDm
            obtain ⟨y0, y1, y2, y3, y4, y5, y6⟩ := cells7 hDt
            obtain ⟨t0, t1, t2, t3, t4, t5, t6⟩ := cells7 hBt
            obtain ⟨f0, f1, f2, f3, f4, f5, f6⟩ := frees7 hBt
            have hWSt := hWS8.below hbtt
            have hrz := hr68.size
            have hWBt := WldB.put hWSt hBt rfl (by omega)
            have hFt := (hFr.trans (Fr.of_below (D := fun _ => False) hrt) (fun b h => h.elim)).trans (set7_fr wr Bw (.int .i64 (n : Int)) (.slice pae es.length pce) (.int .i64 (P : Int)) (.slice pao n pco) (.slice pah hv2.length pch) (.slice pak P pck) (.slice pab P pcb)) (fun b e => .inl e)
            go_wp2_with fail
            go_roundw
            case rel => exact ⟨k + 1, VX, by omega, by go_num, hWBt, hgx, hIx, hpx, hFt⟩
            case measure => simp [intOf]; omega
          case pos =>
          have htl3 : (t : Int) < P := by omega
          have t5 : wr.cell? ⟨Bw, 5, none⟩ = some (.slice (some ⟨bk, ok, none⟩) P yck) := cell_blk (lit_next' hbt hBm)
          have y5 : wr.cell? ⟨Bx, 5, none⟩ = some (.slice pak P pck) := cell_blk (lit_next' hbt hDm)
          obtain ⟨_, _, sA, cA, eA, hcA, hRA⟩ := hKm.row t htl
          cases eA
          obtain ⟨bX, oX, sX, cX, rfl, hcX, hRX⟩ := hKx.row t htl
          have hlA := hIv.len t htl
          have hlX := hIx.len t htl
          rw [hlA] at hcA hRA
          rw [hlX] at hcX hRX
          have hcX1 := (hbt.cell (p := ⟨bX, oX + t, none⟩) (cell_lt hcX)).trans hcX
          go_wp2_with fail
          clear t5 y5 hcX1
          go_loopw [180] (fun vv wd => ∃ v : Nat, v ≤ n ∧ vv = .int .i64 (v : Int) ∧ Below wm.heap.size wm wd) (fun vv _ => n - (intOf vv).toNat)
          case atStart => exact ⟨0, Nat.zero_le _, rfl, hbt⟩
          case round =>
            as_aux_lemma =>
              clear hbt
              obtain ⟨v, hvn, rfl, hbv⟩ := hrel
              by_cases hltv : v < n
              case neg =>
                obtain rfl : n = v := by omega
                go_wp2_with fail
                go_roundw
                case rel => exact ⟨t + 1, by omega, by go_num, hbv⟩
                case measure => simp [intOf]; omega
              case pos =>
              have hltv3 : (v : Int) < n := by omega
              have t5 : wr.cell? ⟨Bw, 5, none⟩ = some (.slice (some ⟨bk, ok, none⟩) P yck) := cell_blk (lit_next' hbv hBm)
              have y5 : wr.cell? ⟨Bx, 5, none⟩ = some (.slice (some ⟨bX, oX, none⟩) P pck) := cell_blk (lit_next' hbv hDm)
              have hcX1 := (hbv.cell (p := ⟨bX, oX + t, none⟩) (cell_lt hcX)).trans hcX
              have hcA1 := (hbv.cell (p := ⟨bk, ok + t, none⟩) (cell_lt hcA)).trans hcA
              obtain ⟨b1, o1, rfl, c1⟩ := IntsAt.atn (hRA.below hbv) hlA v hltv
              obtain ⟨b2, o2, rfl, c2⟩ := IntsAt.atn (hRX.below hbv) hlX v hltv
              obtain ⟨b3, o3, rfl, c3⟩ := IntsAt.atn (him.below hbv) hcl v hltv
              rw [corT_atD hltv] at c3
              have r1 := hle t v
              have r2 := hIx.ge t htl v hltv
              have r3 := fun e => hold3 e t v
              obtain ⟨Y, hY⟩ : ∃ Y, (V.kn t).getD v 0 = Y := ⟨_, rfl⟩
              obtain ⟨X, hX⟩ : ∃ Y, (VX.kn t).getD v 0 = Y := ⟨_, rfl⟩
              obtain ⟨Z, hZ⟩ : ∃ Y, corF es n v = Y := ⟨_, rfl⟩
              rw [hY] at c1 r1 r3
              rw [hX] at c2 r1 r2 r3
              rw [hZ] at c3 r2
              have q1 : decide (Y < X) = false := by simp; omega
              have q2 : decide (X < Z) = false := by simp; omega
              clear hX hY hZ r1 r2
              cases B with
              | true =>
                obtain rfl := r3 rfl
                go_wp2_with fail
                go_quiet (fail)
                have hbv2 := hbv.drewN nq
                go_wp2_with fail
                go_roundw
                case rel => exact ⟨v + 1, by omega, by go_num, hbv2⟩
                case measure => simp [intOf]; omega
              | false =>
                clear r3
                go_wp2_with fail
                go_quiet (fail)
                have hbv2 := hbv.drewN nq
                go_wp2_with fail
                go_roundw
                case rel => exact ⟨v + 1, by omega, by go_num, hbv2⟩
                case measure => simp [intOf]; omega
end Go.Proofs.Ytdkmdcdoiaelfaa
