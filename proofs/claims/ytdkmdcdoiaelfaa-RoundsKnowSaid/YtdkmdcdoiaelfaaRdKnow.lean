/- The walk of the law RoundsKnow (printed by wip/mkknow.py). -/
import Derived.Test.YtdkmdcdoiaelfaaRdKey
import Derived.BigQuiet
namespace Go.Proofs.Ytdkmdcdoiaelfaa
open Go.RowKit Go.BigFrame

set_option linter.unusedSimpArgs false in
set_option maxRecDepth 100000 in
set_option maxHeartbeats 6400000 in
theorem rdknow_law (a : Option Addr) (len cap : Nat) (aS : Option Addr) (lenS cS : Nat) (xs : List Int) (aT : Option Addr) (lenT cT : Nat) (ys : List Int) (w : World) (hl : ListAt w a len) (hxs0 : lenS ≤ 100000 → IntsAt w (.slice aS xs.length cS) xs ∧ xs.length = lenS) (hys0 : lenT ≤ 100000 → IntsAt w (.slice aT ys.length cT) ys ∧ ys.length = lenT) :
    Calls Try.prog 13 #[.slice a len cap, .slice aS lenS cS, .slice aT lenT cT] w fun e w' => e = .returned (.bool true) ∧ Below w.heap.size w w' := by
  by_cases hfew : len ≤ 500
  case neg =>
    have hd : decide (len ≤ 500) = false := by simpa using hfew
    go_enter Try.func13, Try.ntmps13
    go_wp2_with (first
      | (go_at_call 14; refine (few_any _ _ _ _).mono ?_; rintro e w' ⟨rfl, rfl⟩)
      | (go_at_call 29; refine (rdawake_any _).mono ?_; rintro e w' ⟨rfl, hb⟩))
    go_ret
    exact ⟨rfl, hb⟩
  case pos =>
  have hd : decide (len ≤ 500) = true := by simpa using hfew
  by_cases hxl : lenS ≤ 100
  case neg =>
    have hx3 : (100 : Int) < lenS := by omega
    go_enter Try.func13, Try.ntmps13
    go_wp2_with (first
      | (go_at_call 14; refine (few_any _ _ _ _).mono ?_; rintro e w' ⟨rfl, rfl⟩)
      | (go_at_call 29; refine (rdawake_any _).mono ?_; rintro e w' ⟨rfl, hb⟩))
    go_ret
    exact ⟨rfl, hb⟩
  case pos =>
  have hx300 : decide ((100 : Int) < (lenS : Int)) = false := decide_eq_false (by omega)
  by_cases hyl : lenT ≤ 100
  case neg =>
    have hy3 : (100 : Int) < lenT := by omega
    go_enter Try.func13, Try.ntmps13
    go_wp2_with (first
      | (go_at_call 14; refine (few_any _ _ _ _).mono ?_; rintro e w' ⟨rfl, rfl⟩)
      | (go_at_call 29; refine (rdawake_any _).mono ?_; rintro e w' ⟨rfl, hb⟩))
    go_ret
    exact ⟨rfl, hb⟩
  case pos =>
  have hy300 : decide ((100 : Int) < (lenT : Int)) = false := decide_eq_false (by omega)
  obtain ⟨hxs, hxe⟩ := hxs0 (by omega)
  obtain ⟨hys, hye⟩ := hys0 (by omega)
  subst hxe
  subst hye
  have hdk := deck_new (cap := cap) hl
  have hb1 : Below w.heap.size w (w.alloc (.cells #[.slice a len cap, .int .i64 0] 92)) := (Below.refl _ _).alloc (Nat.le_refl _) _
  go_enter Try.func13, Try.ntmps13
  go_upto_region 5 with (first
    | (go_at_call 14; refine (few_any _ _ _ _).mono ?_; rintro e w' ⟨rfl, rfl⟩)
    | (go_at_call 17; refine (new_any _ _ _ _).mono ?_; rintro e w' ⟨rfl, rfl⟩)
    | (go_at_call 16; refine (mkgraph_any w.heap.size 8 _ hdk (by omega) (by omega)).mono ?_; rintro e w2 ⟨n0, es, a2, cap2, rfl, he2, hv, hn9, hd2, hg2, ho2⟩))
  have hb2 : Below w.heap.size w w2 := below_deck hb1 hg2 (Nat.le_refl _) hb1.size
  obtain ⟨n, rfl⟩ := Int.eq_ofNat_of_zero_le hv.1
  have hn8 : n ≤ 8 := by omega
  have hes := hv.length_le
  have hck := (valid_iff n es).2 hv
  obtain ⟨hG0, hb3⟩ := boxG_new w2 #[.int .i64 (n : Int), .slice a2 es.length cap2] 27
  obtain ⟨w3, hw3⟩ : ∃ W : World, W = w2.alloc (.cells #[.int .i64 (n : Int), .slice a2 es.length cap2] 27) := ⟨_, rfl⟩
  rw [← hw3] at hG0 hb3
  have he3 := he2.below hb3
  have hd3 := hd2.kept (grown_of_below hb3) (fun g e => by cases e)
  have hdb : w.heap.size < w2.heap.size := hd2.lt
  obtain ⟨Bg, hBg⟩ : ∃ B, w2.heap.size = B := ⟨_, rfl⟩
  rw [hBg] at hG0 hdb ⊢
  have hb03 := hb2.trans (hb3.mono hb2.size)
  have ho3 : ∀ n' c' p, Value.slice a2 es.length cap2 = .slice (some p) n' c' → ¬ p.block = w.heap.size := fun n' c' p e => by
    have h1 := ho2 p (Value.slice.inj e).1
    simp at h1
    omega
  have hgl : Bg < w3.heap.size := blk_lt hG0
  obtain ⟨x0, x1⟩ := cells2R hG0
  have HW3 := Lib.hid hw3
  clear hw3 hdk hb1 hg2 hd2 he2 hb3 ho2
  rw [← HW3.out]
  go_cut [9, 10] from 41 to 48 (fun p c wx => ∃ (Bw P : Nat) (ow : Nat → Nat) (hv2 : List Int), p = .pointer (some ⟨Bw, 0, none⟩) ∧ c = .int .i64 0 ∧ 1 ≤ P ∧ P ≤ 4 ∧ (∀ v, v < n → ow v < P) ∧ validZ none hv2 n = true ∧ hv2.length ≤ 1000000 ∧ WldB Bw n P es ow hv2 (staP es n P ow) wx ∧ Fr (fun b => b = w.heap.size) w3 wx ∧ w3.heap.size ≤ Bw)
  case first =>
    refine wp_region_heldK (k := 10) (S := fun b W => match b with | false => (W.cell? ⟨Bg, 0, none⟩ = some (.int .i64 (n : Int)) ∧ W.cell? ⟨Bg, 1, none⟩ = some (.slice a2 es.length cap2)) | true => True) (by kernel_rfl) ?_
    have hS0 : (w3.drew.cell? ⟨Bg, 0, none⟩ = some (.int .i64 (n : Int)) ∧ w3.drew.cell? ⟨Bg, 1, none⟩ = some (.slice a2 es.length cap2)) := ⟨x0, x1⟩
    refine wpAnyK_take (i := 0) (v := .agg #[.int .i64 (n : Int), .slice a2 es.length cap2]) false rfl (by kernel_rfl) (by kernel_rfl) (by kernel_rfl) (by kernel_rfl) (by kernel_rfl) (fun _ _ _ h => h) (fun _ _ => trivial) (Or.inl ⟨by rfl, by intro w hSw; (try dsimp only at hSw); go_simp⟩) (b := false) (by kernel_rfl) hS0 ?_
    try simp only [Act.put, List.setIfInBounds_toArray, List.set_cons_zero, List.set_cons_succ]
    refine wpAnyK_take (i := 1) (v := .pointer (some ⟨w.heap.size, 0, none⟩)) false rfl (by kernel_rfl) (by kernel_rfl) (by kernel_rfl) (by kernel_rfl) (by kernel_rfl) (fun _ _ _ h => h) (fun _ _ => trivial) (Or.inl ⟨by rfl, by intro w hSw; (try dsimp only at hSw); go_simp⟩) (b := false) (by kernel_rfl) hS0 ?_
    try simp only [Act.put, List.setIfInBounds_toArray, List.set_cons_zero, List.set_cons_succ]
    refine wpAnyK_take (i := 2) (v := .pointer (some ⟨Bg, 0, none⟩)) false rfl (by kernel_rfl) (by kernel_rfl) (by kernel_rfl) (by kernel_rfl) (by kernel_rfl) (fun _ _ _ h => h) (fun _ _ => trivial) (Or.inl ⟨by rfl, by intro w hSw; (try dsimp only at hSw); go_simp⟩) (b := false) (by kernel_rfl) hS0 ?_
    try simp only [Act.put, List.setIfInBounds_toArray, List.set_cons_zero, List.set_cons_succ]
    refine wpAnyK_take (i := 3) (v := .int .i64 (n : Int)) false rfl (by kernel_rfl) (by kernel_rfl) (by kernel_rfl) (by kernel_rfl) (by kernel_rfl) (fun _ _ _ h => h) (fun _ _ => trivial) (Or.inl ⟨by rfl, by intro w hSw; (try dsimp only at hSw); go_simp⟩) (b := false) (by kernel_rfl) hS0 ?_
    try simp only [Act.put, List.setIfInBounds_toArray, List.set_cons_zero, List.set_cons_succ]
    refine wpAnyK_two (i := 4) (j := 9) (by kernel_rfl) rfl rfl (by rfl) (by rfl) (b := false) (b2 := false) (by kernel_rfl) (by kernel_rfl) (fun K hK => ?_) (fun K hK => ?_)
    · go_simp
      go_at_call 30
      refine (fplan_any w.heap.size n _ (hd3.drew) (by omega)).mono ?_
      rintro e w4 ⟨P, ow, hv2, ao, ah, co, ch, rfl, hP1, hP4, how, hhv, hhl, hO4, hH4, hMO, -, -, hg4⟩
      have hF4 : Fr (fun b => b = w.heap.size) w3 w4 := ((Fr.refl _ w3).trans (Fr.of_below (D := fun _ => False) (Below.refl w3.heap.size w3).drew) (fun b h => h.elim)).grown hg4 (fun b e => .inl (Option.some.inj e).symm)
      have he4 := hF4.edges he3 ho3
      have hG4 := hF4.blk hG0 (by omega)
      have hs4 := hF4.size
      have hS4 : (w4.cell? ⟨Bg, 0, none⟩ = some (.int .i64 (n : Int)) ∧ w4.cell? ⟨Bg, 1, none⟩ = some (.slice a2 es.length cap2)) := ⟨cell_blk (hF4.blk hG0 (by omega)), cell_blk (hF4.blk hG0 (by omega))⟩
      dsimp only
      refine hK.out _ _ hS4 ?_
      try simp only [Act.put, List.setIfInBounds_toArray, List.set_cons_zero, List.set_cons_succ]
      refine wpAnyK_two (i := 5) (j := 9) (by kernel_rfl) rfl rfl (by rfl) (by rfl) (b := false) (b2 := false) (by kernel_rfl) (by kernel_rfl) (fun K hK => ?_) (fun K hK => ?_)
      · go_simp
        go_at_call 31
        refine (rdstartS_any n P es ow hv2 a2 ao ah cap2 co ch _ hv ⟨hP1, by omega⟩ how hhv (by omega) (he4) (hO4) (hH4) (fun n' c' p e => (hMO n' c' p e).2)).mono ?_
        rintro e w6 ⟨v6, rfl, hw6, hb6⟩
        have hF6 : Fr (fun b => b = w.heap.size) w3 w6 := (hF4).trans (Fr.of_below (D := fun _ => False) hb6) (fun b h => h.elim)
        have hG6 := hF6.blk hG0 (by omega)
        have hz6 := hb6.size
        have hS6 : (w6.cell? ⟨Bg, 0, none⟩ = some (.int .i64 (n : Int)) ∧ w6.cell? ⟨Bg, 1, none⟩ = some (.slice a2 es.length cap2)) := ⟨cell_blk hG6, cell_blk hG6⟩
        obtain ⟨ae, ao1, ah1, ak, ab, ce, co1, ch1, ck, cb, ev, -⟩ := hw6.now.shapeD
        subst ev
        dsimp only
        refine hK.out _ _ hS6 ?_
        try simp only [Act.put, List.setIfInBounds_toArray, List.set_cons_zero, List.set_cons_succ]
        refine wpAnyK_take (i := 6) (v := .tuple #[.agg #[.int .i64 (n : Int), .slice ae es.length ce, .int .i64 (P : Int), .slice ao1 n co1, .slice ah1 hv2.length ch1, .slice ak P ck, .slice ab P cb], .int .i64 0]) false rfl (by kernel_rfl) (by kernel_rfl) (by kernel_rfl) (by kernel_rfl) (by kernel_rfl) (fun _ _ _ h => h) (fun _ _ => trivial) (Or.inl ⟨by rfl, by intro w hSw; (try dsimp only at hSw); go_simp⟩) (b := false) (by kernel_rfl) hS6 ?_
        try simp only [Act.put, List.setIfInBounds_toArray, List.set_cons_zero, List.set_cons_succ]
        refine wpAnyK_take (i := 7) (v := .agg #[.int .i64 (n : Int), .slice ae es.length ce, .int .i64 (P : Int), .slice ao1 n co1, .slice ah1 hv2.length ch1, .slice ak P ck, .slice ab P cb]) false rfl (by kernel_rfl) (by kernel_rfl) (by kernel_rfl) (by kernel_rfl) (by kernel_rfl) (fun _ _ _ h => h) (fun _ _ => trivial) (Or.inl ⟨by rfl, by intro w hSw; (try dsimp only at hSw); go_simp⟩) (b := false) (by kernel_rfl) hS6 ?_
        try simp only [Act.put, List.setIfInBounds_toArray, List.set_cons_zero, List.set_cons_succ]
        refine wpAnyK_take (i := 8) (v := .int .i64 0) true rfl (by kernel_rfl) (by kernel_rfl) (by kernel_rfl) (by kernel_rfl) (by kernel_rfl) (fun _ _ _ h => h) (fun _ _ => trivial) (Or.inl ⟨by rfl, by intro w hSw; (try dsimp only at hSw); go_simp⟩) (b := false) (by kernel_rfl) hS6 ?_
        try simp only [Act.put, List.setIfInBounds_toArray, List.set_cons_zero, List.set_cons_succ]
        refine wpAnyK_one (i := 9) (by kernel_rfl) rfl (by rfl) (b := false) (by kernel_rfl) (fun K hK => ?_)
        go_simp
        refine hK.out _ _ (show ((w6.alloc (.cells #[.int .i64 0, .slice none 0 0, .int .i64 0, .slice none 0 0, .slice none 0 0, .slice none 0 0, .slice none 0 0] 59)).cell? ⟨Bg, 0, none⟩ = some (.int .i64 (n : Int)) ∧ (w6.alloc (.cells #[.int .i64 0, .slice none 0 0, .int .i64 0, .slice none 0 0, .slice none 0 0, .slice none 0 0, .slice none 0 0] 59)).cell? ⟨Bg, 1, none⟩ = some (.slice a2 es.length cap2)) from ⟨cell_alloc hS6.1, cell_alloc hS6.2⟩) ?_
        try simp only [Act.put, List.setIfInBounds_toArray, List.set_cons_zero, List.set_cons_succ]
        refine wpAnyK_one (i := 10) (by kernel_rfl) rfl (by rfl) (b := true) (by kernel_rfl) (fun K hK => ?_)
        go_simp
        refine hK.out _ _ trivial ?_
        try simp only [Act.put, List.setIfInBounds_toArray, List.set_cons_zero, List.set_cons_succ]
        refine wpAnyK_one (i := 11) (by kernel_rfl) rfl (by rfl) (b := true) (by kernel_rfl) (fun K hK => ?_)
        go_simp
        refine hK.out _ _ trivial (wpAnyK_done (by kernel_rfl) ?_ _)
        have hWB := WldB.new hw6 rfl
        have hbB : Below w6.heap.size w6 (w6.alloc (.cells #[.int .i64 (n : Int), .slice ae es.length ce, .int .i64 (P : Int), .slice ao1 n co1, .slice ah1 hv2.length ch1, .slice ak P ck, .slice ab P cb] 59)) := (Below.refl _ _).alloc (Nat.le_refl _) _
        go_wp2_with fail
        go_meet
        exact ⟨w6.heap.size, P, ow, hv2, rfl, rfl, hP1, hP4, how, hhv, by omega, hWB, hF6.trans (Fr.of_below (D := fun _ => False) hbB) (fun b h => h.elim), by have := hF6.size; omega⟩
      · go_simp
        have hbA : Below w4.heap.size w4 (w4.alloc (.cells #[.int .i64 0, .slice none 0 0, .int .i64 0, .slice none 0 0, .slice none 0 0, .slice none 0 0, .slice none 0 0] 59)) := (Below.refl _ _).alloc (Nat.le_refl _) _
        have hC4 := heap_alloc_new w4 (.cells #[.int .i64 0, .slice none 0 0, .int .i64 0, .slice none 0 0, .slice none 0 0, .slice none 0 0, .slice none 0 0] 59)
        have hFA : Fr (fun b => b = w.heap.size) w3 (w4.alloc (.cells #[.int .i64 0, .slice none 0 0, .int .i64 0, .slice none 0 0, .slice none 0 0, .slice none 0 0, .slice none 0 0] 59)) := hF4.trans (Fr.of_below (D := fun _ => False) hbA) (fun b h => h.elim)
        refine hK.out _ _ (show ((w4.alloc (.cells #[.int .i64 0, .slice none 0 0, .int .i64 0, .slice none 0 0, .slice none 0 0, .slice none 0 0, .slice none 0 0] 59)).cell? ⟨Bg, 0, none⟩ = some (.int .i64 (n : Int)) ∧ (w4.alloc (.cells #[.int .i64 0, .slice none 0 0, .int .i64 0, .slice none 0 0, .slice none 0 0, .slice none 0 0, .slice none 0 0] 59)).cell? ⟨Bg, 1, none⟩ = some (.slice a2 es.length cap2)) from ⟨cell_alloc hS4.1, cell_alloc hS4.2⟩) ?_
        try simp only [Act.put, List.setIfInBounds_toArray, List.set_cons_zero, List.set_cons_succ]
        refine wpAnyK_one (i := 5) (by kernel_rfl) rfl (by rfl) (b := false) (by kernel_rfl) (fun K hK => ?_)
        go_simp
        go_at_call 31
        refine (rdstartS_any n P es ow hv2 a2 ao ah cap2 co ch _ hv ⟨hP1, by omega⟩ how hhv (by omega) (he4.below hbA) (hO4.below hbA) (hH4.below hbA) (fun n' c' p e => by have h1 := (hMO n' c' p e).2; have h2 := hbA.size; omega)).mono ?_
        rintro e w6 ⟨v6, rfl, hw6, hb6⟩
        have hF6 : Fr (fun b => b = w.heap.size) w3 w6 := (hFA).trans (Fr.of_below (D := fun _ => False) hb6) (fun b h => h.elim)
        have hG6 := hF6.blk hG0 (by omega)
        have hz6 := hb6.size
        have hS6 : (w6.cell? ⟨Bg, 0, none⟩ = some (.int .i64 (n : Int)) ∧ w6.cell? ⟨Bg, 1, none⟩ = some (.slice a2 es.length cap2)) := ⟨cell_blk hG6, cell_blk hG6⟩
        obtain ⟨ae, ao1, ah1, ak, ab, ce, co1, ch1, ck, cb, ev, -⟩ := hw6.now.shapeD
        subst ev
        have hC6 : w6.heap[w4.heap.size]? = _ := lit_next' hb6 hC4
        dsimp only
        refine hK.out _ _ hS6 ?_
        try simp only [Act.put, List.setIfInBounds_toArray, List.set_cons_zero, List.set_cons_succ]
        refine wpAnyK_take (i := 6) (v := .tuple #[.agg #[.int .i64 (n : Int), .slice ae es.length ce, .int .i64 (P : Int), .slice ao1 n co1, .slice ah1 hv2.length ch1, .slice ak P ck, .slice ab P cb], .int .i64 0]) false rfl (by kernel_rfl) (by kernel_rfl) (by kernel_rfl) (by kernel_rfl) (by kernel_rfl) (fun _ _ _ h => h) (fun _ _ => trivial) (Or.inl ⟨by rfl, by intro w hSw; (try dsimp only at hSw); go_simp⟩) (b := false) (by kernel_rfl) hS6 ?_
        try simp only [Act.put, List.setIfInBounds_toArray, List.set_cons_zero, List.set_cons_succ]
        refine wpAnyK_take (i := 7) (v := .agg #[.int .i64 (n : Int), .slice ae es.length ce, .int .i64 (P : Int), .slice ao1 n co1, .slice ah1 hv2.length ch1, .slice ak P ck, .slice ab P cb]) false rfl (by kernel_rfl) (by kernel_rfl) (by kernel_rfl) (by kernel_rfl) (by kernel_rfl) (fun _ _ _ h => h) (fun _ _ => trivial) (Or.inl ⟨by rfl, by intro w hSw; (try dsimp only at hSw); go_simp⟩) (b := false) (by kernel_rfl) hS6 ?_
        try simp only [Act.put, List.setIfInBounds_toArray, List.set_cons_zero, List.set_cons_succ]
        refine wpAnyK_take (i := 8) (v := .int .i64 0) true rfl (by kernel_rfl) (by kernel_rfl) (by kernel_rfl) (by kernel_rfl) (by kernel_rfl) (fun _ _ _ h => h) (fun _ _ => trivial) (Or.inl ⟨by rfl, by intro w hSw; (try dsimp only at hSw); go_simp⟩) (b := false) (by kernel_rfl) hS6 ?_
        try simp only [Act.put, List.setIfInBounds_toArray, List.set_cons_zero, List.set_cons_succ]
        obtain ⟨k0, k1, k2, k3, k4, k5, k6⟩ := cells7 hC6
        obtain ⟨f0, f1, f2, f3, f4, f5, f6⟩ := frees7 hC6
        refine wpAnyK_one (i := 10) (by kernel_rfl) rfl (by rfl) (b := true) (by kernel_rfl) (fun K hK => ?_)
        go_simp
        refine hK.out _ _ trivial ?_
        try simp only [Act.put, List.setIfInBounds_toArray, List.set_cons_zero, List.set_cons_succ]
        refine wpAnyK_one (i := 11) (by kernel_rfl) rfl (by rfl) (b := true) (by kernel_rfl) (fun K hK => ?_)
        go_simp
        refine hK.out _ _ trivial (wpAnyK_done (by kernel_rfl) ?_ _)
        have hWB := WldB.put hw6 hC6 rfl (by first | (simp; done) | exact blk_lt hC4)
        go_wp2_with fail
        go_meet
        exact ⟨w4.heap.size, P, ow, hv2, rfl, rfl, hP1, hP4, how, hhv, by omega, hWB, hF6.trans (set7_fr w6 w4.heap.size _ _ _ _ _ _ _) (fun b e => .inr (by omega)), by omega⟩
    · go_simp
      have hbA : Below w3.heap.size w3 (w3.drew.alloc (.cells #[.int .i64 0, .slice none 0 0, .int .i64 0, .slice none 0 0, .slice none 0 0, .slice none 0 0, .slice none 0 0] 59)) := ((Below.refl w3.heap.size w3).drew).alloc (Nat.le_refl _) _
      have hC3 := heap_alloc_new w3.drew (.cells #[.int .i64 0, .slice none 0 0, .int .i64 0, .slice none 0 0, .slice none 0 0, .slice none 0 0, .slice none 0 0] 59)
      have hFA : Fr (fun b => b = w.heap.size) w3 (w3.drew.alloc (.cells #[.int .i64 0, .slice none 0 0, .int .i64 0, .slice none 0 0, .slice none 0 0, .slice none 0 0, .slice none 0 0] 59)) := (Fr.refl _ w3).trans (Fr.of_below (D := fun _ => False) hbA) (fun b h => h.elim)
      refine hK.out _ _ (show ((w3.drew.alloc (.cells #[.int .i64 0, .slice none 0 0, .int .i64 0, .slice none 0 0, .slice none 0 0, .slice none 0 0, .slice none 0 0] 59)).cell? ⟨Bg, 0, none⟩ = some (.int .i64 (n : Int)) ∧ (w3.drew.alloc (.cells #[.int .i64 0, .slice none 0 0, .int .i64 0, .slice none 0 0, .slice none 0 0, .slice none 0 0, .slice none 0 0] 59)).cell? ⟨Bg, 1, none⟩ = some (.slice a2 es.length cap2)) from ⟨cell_alloc hS0.1, cell_alloc hS0.2⟩) ?_
      try simp only [Act.put, List.setIfInBounds_toArray, List.set_cons_zero, List.set_cons_succ]
      refine wpAnyK_one (i := 4) (by kernel_rfl) rfl (by rfl) (b := false) (by kernel_rfl) (fun K hK => ?_)
      go_simp
      go_at_call 30
      refine (fplan_any w.heap.size n _ (hd3.kept (grown_of_below hbA) (fun g e => by cases e)) (by omega)).mono ?_
      rintro e w4 ⟨P, ow, hv2, ao, ah, co, ch, rfl, hP1, hP4, how, hhv, hhl, hO4, hH4, hMO, -, -, hg4⟩
      have hF4 : Fr (fun b => b = w.heap.size) w3 w4 := (hFA).grown hg4 (fun b e => .inl (Option.some.inj e).symm)
      have he4 := hF4.edges he3 ho3
      have hG4 := hF4.blk hG0 (by omega)
      have hs4 := hF4.size
      have hS4 : (w4.cell? ⟨Bg, 0, none⟩ = some (.int .i64 (n : Int)) ∧ w4.cell? ⟨Bg, 1, none⟩ = some (.slice a2 es.length cap2)) := ⟨cell_blk (hF4.blk hG0 (by omega)), cell_blk (hF4.blk hG0 (by omega))⟩
      have hC4 := grown_blk hg4 hC3 (fun e => by have e1 : w3.heap.size = w.heap.size := Option.some.inj e; omega)
      dsimp only
      refine hK.out _ _ hS4 ?_
      try simp only [Act.put, List.setIfInBounds_toArray, List.set_cons_zero, List.set_cons_succ]
      refine wpAnyK_one (i := 5) (by kernel_rfl) rfl (by rfl) (b := false) (by kernel_rfl) (fun K hK => ?_)
      go_simp
      go_at_call 31
      refine (rdstartS_any n P es ow hv2 a2 ao ah cap2 co ch _ hv ⟨hP1, by omega⟩ how hhv (by omega) (he4) (hO4) (hH4) (fun n' c' p e => (hMO n' c' p e).2)).mono ?_
      rintro e w6 ⟨v6, rfl, hw6, hb6⟩
      have hF6 : Fr (fun b => b = w.heap.size) w3 w6 := (hF4).trans (Fr.of_below (D := fun _ => False) hb6) (fun b h => h.elim)
      have hG6 := hF6.blk hG0 (by omega)
      have hz6 := hb6.size
      have hS6 : (w6.cell? ⟨Bg, 0, none⟩ = some (.int .i64 (n : Int)) ∧ w6.cell? ⟨Bg, 1, none⟩ = some (.slice a2 es.length cap2)) := ⟨cell_blk hG6, cell_blk hG6⟩
      obtain ⟨ae, ao1, ah1, ak, ab, ce, co1, ch1, ck, cb, ev, -⟩ := hw6.now.shapeD
      subst ev
      have hC6 : w6.heap[w3.heap.size]? = _ := lit_next' hb6 hC4
      dsimp only
      refine hK.out _ _ hS6 ?_
      try simp only [Act.put, List.setIfInBounds_toArray, List.set_cons_zero, List.set_cons_succ]
      refine wpAnyK_take (i := 6) (v := .tuple #[.agg #[.int .i64 (n : Int), .slice ae es.length ce, .int .i64 (P : Int), .slice ao1 n co1, .slice ah1 hv2.length ch1, .slice ak P ck, .slice ab P cb], .int .i64 0]) false rfl (by kernel_rfl) (by kernel_rfl) (by kernel_rfl) (by kernel_rfl) (by kernel_rfl) (fun _ _ _ h => h) (fun _ _ => trivial) (Or.inl ⟨by rfl, by intro w hSw; (try dsimp only at hSw); go_simp⟩) (b := false) (by kernel_rfl) hS6 ?_
      try simp only [Act.put, List.setIfInBounds_toArray, List.set_cons_zero, List.set_cons_succ]
      refine wpAnyK_take (i := 7) (v := .agg #[.int .i64 (n : Int), .slice ae es.length ce, .int .i64 (P : Int), .slice ao1 n co1, .slice ah1 hv2.length ch1, .slice ak P ck, .slice ab P cb]) false rfl (by kernel_rfl) (by kernel_rfl) (by kernel_rfl) (by kernel_rfl) (by kernel_rfl) (fun _ _ _ h => h) (fun _ _ => trivial) (Or.inl ⟨by rfl, by intro w hSw; (try dsimp only at hSw); go_simp⟩) (b := false) (by kernel_rfl) hS6 ?_
      try simp only [Act.put, List.setIfInBounds_toArray, List.set_cons_zero, List.set_cons_succ]
      refine wpAnyK_take (i := 8) (v := .int .i64 0) true rfl (by kernel_rfl) (by kernel_rfl) (by kernel_rfl) (by kernel_rfl) (by kernel_rfl) (fun _ _ _ h => h) (fun _ _ => trivial) (Or.inl ⟨by rfl, by intro w hSw; (try dsimp only at hSw); go_simp⟩) (b := false) (by kernel_rfl) hS6 ?_
      try simp only [Act.put, List.setIfInBounds_toArray, List.set_cons_zero, List.set_cons_succ]
      obtain ⟨k0, k1, k2, k3, k4, k5, k6⟩ := cells7 hC6
      obtain ⟨f0, f1, f2, f3, f4, f5, f6⟩ := frees7 hC6
      refine wpAnyK_one (i := 10) (by kernel_rfl) rfl (by rfl) (b := true) (by kernel_rfl) (fun K hK => ?_)
      go_simp
      refine hK.out _ _ trivial ?_
      try simp only [Act.put, List.setIfInBounds_toArray, List.set_cons_zero, List.set_cons_succ]
      refine wpAnyK_one (i := 11) (by kernel_rfl) rfl (by rfl) (b := true) (by kernel_rfl) (fun K hK => ?_)
      go_simp
      refine hK.out _ _ trivial (wpAnyK_done (by kernel_rfl) ?_ _)
      have hWB := WldB.put hw6 hC6 rfl (by first | (simp; done) | exact blk_lt hC4)
      go_wp2_with fail
      go_meet
      exact ⟨w3.heap.size, P, ow, hv2, rfl, rfl, hP1, hP4, how, hhv, by omega, hWB, hF6.trans (set7_fr w6 w3.heap.size _ _ _ _ _ _ _) (fun b e => .inr (by omega)), by omega⟩
  case rest =>
    obtain ⟨Bw, P, ow, hv2, rfl, rfl, hP1, hP4, how, hhv, hhl, hW0, hFc, hBl⟩ := hcut
    have h03 := hb03.size
    have hbc : Below w.heap.size w wc := hb03.trans (hFc.below (fun b e => by omega) (by omega))
    have hxc := hxs.below hbc
    have hec := hFc.edges he3 ho3
    have hGc := hFc.blk hG0 (by omega)
    have hgw := GoodW.start (ow := ow) hv ⟨hP1, (by omega : P ≤ 8)⟩ how hhv hhl
    have hI0 := sta_inv (ow := ow) (P := P) hv how
    have hpot := sta_potle (ow := ow) (P := P) hv how (by omega) (by omega)
    obtain ⟨SW, hSW⟩ : ∃ S, staP es n P ow = S := ⟨_, rfl⟩
    rw [hSW] at hW0 hgw hI0 hpot
    obtain ⟨sae, sao, sah, sak, sab, sce, sco, sch, sck, scb, hB0, hS0⟩ := hW0
    have hbwl := blk_lt hB0
    clear hSW x0 x1
    have hyc := hys.below hbc
    have hcor : corX n es = (corT es n, 0) := by unfold corX; rw [if_neg (by rw [hck]; simp), Int.toNat_natCast]
    have hnu := rnumbers10_any n a2 cap2 es wc hec
    rw [hcor] at hnu
    unfold TPost at hnu
    dsimp only at hnu
    rw [corT_length] at hnu
    obtain ⟨x0, x1⟩ := cells2R hGc
    go_wp2_with fail
    refine hnu.mono ?_
    rintro e w4 ⟨a9, c9, rfl, hi4, -, hb4⟩
    have hb04 := hbc.trans (hb4.mono hbc.size)
    have hG4 := lit_next' hb4 hGc
    have hB4 := lit_next' hb4 hB0
    have he4 := hec.below hb4
    have hA4 := hS0.now.below hb4
    have hx4 := hxc.below hb4
    have hy4 := hyc.below hb4
    clear hnu hcor x0 x1 hFc hG0 he3 ho3 hS0 hB0 hGc hec hxc hyc
    go_upto_region 8 with fail
    obtain ⟨hS5, hb5⟩ := boxG_new w4 #[.slice aS xs.length cS, .slice aT ys.length cT] 22
    obtain ⟨w5, hw5⟩ : ∃ W : World, W = w4.alloc (.cells #[.slice aS xs.length cS, .slice aT ys.length cT] 22) := ⟨_, rfl⟩
    rw [← hw5] at hS5 hb5
    have hb05 := hb04.trans (hb5.mono hb04.size)
    have hG5 := lit_next' hb5 hG4
    have hB5 := lit_next' hb5 hB4
    have he5 := he4.below hb5
    have hA5 := hA4.below hb5
    have hi5 := hi4.below hb5
    have hx5 := hx4.below hb5
    have hy5 := hy4.below hb5
    obtain ⟨Bs, hBs⟩ : ∃ B, w4.heap.size = B := ⟨_, rfl⟩
    rw [hBs] at hS5 ⊢
    have hcl : (corT es n).length = n := corT_length _ _
    have hpick : ∀ i, i < 2 → ∃ (aZ : Option Addr) (cZ : Nat) (zs : List Int), IntsAt w5 (.slice aZ zs.length cZ) zs ∧ w5.cell? ⟨Bs, i, none⟩ = some (.slice aZ zs.length cZ) := fun i hi => by
      match i, hi with
      | 0, _ => exact ⟨aS, cS, xs, hx5, cell_blk hS5⟩
      | 1, _ => exact ⟨aT, cT, ys, hy5, cell_blk hS5⟩
    have HW5 := Lib.hid hw5
    clear hw5 hG4 hB4 he4 hA4 hi4 hx4 hy4 hx5 hy5 hS5
    rw [← HW5.out]
    go_loopw [58] (fun vi wr => ∃ i : Nat, i ≤ 2 ∧ vi = .int .i64 (i : Int) ∧ Below w5.heap.size w5 wr) (fun vi _ => 2 - (intOf vi).toNat)
    case atStart => exact ⟨0, Nat.zero_le _, rfl, Below.refl _ _⟩
    case round =>
      obtain ⟨i, hi2, rfl, hbr⟩ := hrel
      by_cases hlt : i < 2
      case neg =>
        have hlt3 : (i : Int) = 2 := by omega
        have hbe := hb05.trans (hbr.mono hb05.size)
        go_wp2_with fail
        refine (rdawake_any _).mono ?_
        rintro e w16 ⟨rfl, hb16⟩
        go_wp2_with fail
        go_ret
        exact ⟨rfl, hbe.trans (hb16.mono hbe.size)⟩
      case pos =>
      have hlt3 : (i : Int) < 2 := by omega
      obtain ⟨aZ, cZ, zs, hz5, hc5⟩ := hpick i hlt
      have hcz := (hbr.cell (p := ⟨Bs, i, none⟩) (cell_lt hc5)).trans hc5
      have hBr := lit_next' hbr hB5
      have hAr := hA5.below hbr
      have hzr := hz5.below hbr
      have hir := hi5.below hbr
      have hGr := lit_next' hbr hG5
      have her := he5.below hbr
      clear hc5 hz5
      obtain ⟨t0, t1, t2, t3, t4, t5, t6⟩ := cells7 hBr
      have hpl := rdplayS_any n P es ow hv2 SW _ aZ cZ zs wr hgw hAr hzr hpot
      obtain ⟨SC, hSC⟩ : ∃ f : Nat → Int, (fun i => zs.getD i 0) = f := ⟨_, rfl⟩
      rw [hSC] at hpl
      go_wp2_with fail
      refine hpl.mono ?_
      rintro e w6 ⟨v5, k, rfl, hW6, -, -, -, hb6⟩
      obtain ⟨pae, pao, pah, pak, pab, pce, pco, pch, pck, pcb, ev, -⟩ := hW6.now.shapeD
      subst ev
      have hgk := hgw.ply hpot SC k
      have hIk := ply_inv hv hI0 SC k
      have hpk := ply_potle2 (es := es) how hgw.vld SC k hpot
      obtain ⟨VW, hVW⟩ : ∃ V, plyK es n P ow SW SC k = V := ⟨_, rfl⟩
      rw [hVW] at hW6 hgk hIk hpk
      clear t0 t1 t2 t3 t4 t5 t6 hpl hSC hVW hcz hBr hAr
      go_upto_region 11 with fail
      have hWB := WldB.new hW6 rfl
      have hb7 : Below w6.heap.size w6 (w6.alloc (.cells #[.int .i64 (n : Int), .slice pae es.length pce, .int .i64 (P : Int), .slice pao n pco, .slice pah hv2.length pch, .slice pak P pck, .slice pab P pcb] 59)) := (Below.refl _ _).alloc (Nat.le_refl _) _
      obtain ⟨w7, hw7⟩ : ∃ W : World, W = w6.alloc (.cells #[.int .i64 (n : Int), .slice pae es.length pce, .int .i64 (P : Int), .slice pao n pco, .slice pah hv2.length pch, .slice pak P pck, .slice pab P pcb] 59) := ⟨_, rfl⟩
      rw [← hw7] at hWB hb7 ⊢
      have hr6 := hb6.size
      have hb67 := hb6.trans (hb7.mono hb6.size)
      obtain ⟨Bx, hBx⟩ : ∃ B, w6.heap.size = B := ⟨_, rfl⟩
      rw [hBx] at hWB hr6 ⊢
      obtain ⟨qae, qao, qah, qak, qab, qce, qco, qch, qck, qcb, hB7, hS7⟩ := hWB
      clear hw7 hb6 hb7 hW6
      obtain ⟨t0, t1, t2, t3, t4, t5, t6⟩ := cells7 hB7
      have hva := rdvalid_any (wdL n P es ow hv2 VW) _ w7 hS7.now hgk.box
      rw [hgk.val] at hva
      go_wp2_with fail
      refine hva.mono ?_
      rintro e w8 ⟨rfl, hb8⟩
      have hB8 := lit_next' hb8 hB7
      have hA8 := hS7.now.below hb8
      have hb68 := hb67.trans (hb8.mono hb67.size)
      clear t0 t1 t2 t3 t4 t5 t6 hva hb67 hb8 hS7 hB7
      obtain ⟨t0, t1, t2, t3, t4, t5, t6⟩ := cells7 hB8
      have hfi := rdfinishS_any n P es ow hv2 VW _ w8 hgk hA8 hpk
      go_wp2_with fail
      refine hfi.mono ?_
      rintro e w9 ⟨v7, k2, rfl, hW9, -, hrdy, hb9⟩
      obtain ⟨rae, rao, rah, rak, rab, rce, rco, rch, rck, rcb, ev, -⟩ := hW9.now.shapeD
      subst ev
      have hB9 := lit_next' hb9 hB8
      have hbx8 := blk_lt hB8
      have hb69 := hb68.trans (hb9.mono hb68.size)
      have hgx := hgk.ply hpk (fun _ => 0) k2
      have hIx := ply_inv hv hIk (fun _ => 0) k2
      obtain ⟨VX, hVX⟩ : ∃ V, plyK es n P ow VW (fun _ => 0) k2 = V := ⟨_, rfl⟩
      rw [hVX] at hW9 hgx hIx hrdy
      obtain ⟨hE1, hE2⟩ := end_core hv how hIx (rdyW_nil hrdy)
      clear t0 t1 t2 t3 t4 t5 t6 hfi hVX hgk hIk hpk hA8 hB8 hb68
      obtain ⟨t0, t1, t2, t3, t4, t5, t6⟩ := cells7 hB9
      obtain ⟨f0, f1, f2, f3, f4, f5, f6⟩ := frees7 hB9
      go_upto_region 14 with fail
      have hWB := WldB.put hW9 hB9 rfl hbx8
      have hF := set7_fr w9 Bx (.int .i64 (n : Int)) (.slice rae es.length rce) (.int .i64 (P : Int)) (.slice rao n rco) (.slice rah hv2.length rch) (.slice rak P rck) (.slice rab P rcb)
      obtain ⟨w10, hw10⟩ : ∃ W : World, W = ((((((w9.setCell ⟨Bx, 0, none⟩ (.int .i64 (n : Int))).setCell ⟨Bx, 1, none⟩ (.slice rae es.length rce)).setCell ⟨Bx, 2, none⟩ (.int .i64 (P : Int))).setCell ⟨Bx, 3, none⟩ (.slice rao n rco)).setCell ⟨Bx, 4, none⟩ (.slice rah hv2.length rch)).setCell ⟨Bx, 5, none⟩ (.slice rak P rck)).setCell ⟨Bx, 6, none⟩ (.slice rab P rcb) := ⟨_, rfl⟩
      rw [← hw10] at hWB hF ⊢
      have hb10 : Below wr.heap.size wr w10 := hb69.trans (hF.below (fun b e => by omega) hb69.size)
      clear hw10 hF hB9 hW9 t0 t1 t2 t3 t4 t5 t6 f0 f1 f2 f3 f4 f5 f6 hb69
      obtain ⟨zae, zao, zah, zak, zab, zce, zco, zch, zck, zcb, hB10, hS10⟩ := hWB
      obtain ⟨ae0, ao0, ah0, ak0, ab0, ce0, co0, ch0, ck0, cb0, ez, hEz, hOz, hKz, -⟩ := hS10.now.shapeD
      have hA10 := hS10.now
      cases ez
      clear hS10
      obtain ⟨t0, t1, t2, t3, t4, t5, t6⟩ := cells7 hB10
      have hva := rdvalid_any (wdL n P es ow hv2 VX) _ w10 hA10 hgx.box
      rw [hgx.val] at hva
      go_wp2_with fail
      refine hva.mono ?_
      rintro e w11 ⟨rfl, hb11⟩
      have hB11 := lit_next' hb11 hB10
      have hA11 := hA10.below hb11
      clear t0 t1 t2 t3 t4 t5 t6 hva
      obtain ⟨t0, t1, t2, t3, t4, t5, t6⟩ := cells7 hB11
      have hva := valid38_any (wdL n P es ow hv2 VX) _ w11 hA11 hgx.box
      rw [hgx.val] at hva
      go_wp2_with fail
      refine hva.mono ?_
      rintro e w12 ⟨rfl, hb12⟩
      have hb1012 := hb11.trans (hb12.mono hb11.size)
      have hB12 := lit_next' hb12 hB11
      have hbr12 := hb10.trans (hb1012.mono hb10.size)
      have hG12 := lit_next' hbr12 hGr
      have hgs := gsame_same n zae a2 zce cap2 es w12 (hEz.below hb1012) (her.below hbr12) (by omega)
      clear t0 t1 t2 t3 t4 t5 t6 hva
      obtain ⟨t0, t1, t2, t3, t4, t5, t6⟩ := cells7 hB12
      obtain ⟨x0, x1⟩ := cells2R hG12
      go_wp2_with fail
      refine hgs.mono ?_
      rintro e w13 ⟨rfl, hb13⟩
      have hb1013 := hb1012.trans (hb13.mono hb1012.size)
      have hbr13 := hb10.trans (hb1013.mono hb10.size)
      have hb513 := hbr.trans (hbr13.mono hbr.size)
      have hG13 := lit_next' hb13 hG12
      have hB13 := lit_next' hb13 hB12
      have he13 := her.below hbr13
      have hi13 := hir.below hbr13
      have hO13 := hOz.below hb1013
      have hK13 := hKz.below hb1013
      clear t0 t1 t2 t3 t4 t5 t6 x0 x1 hgs hEz hOz hKz hA10 hA11 hB10 hB11 hB12 hG12 hGr her hir hzr
      go_upto_region 17 with fail
      go_loopw [18] (fun vv wd => ∃ v : Nat, v ≤ n ∧ vv = .int .i64 (v : Int) ∧ Below w13.heap.size w13 wd) (fun vv _ => n - (intOf vv).toNat)
      case atStart => exact ⟨0, Nat.zero_le _, rfl, Below.refl _ _⟩
      case round =>
        obtain ⟨v, hvn, rfl, hbd⟩ := hrel
        have hGd := lit_next' hbd hG13
        have hed := he13.below hbd
        obtain ⟨x0, x1⟩ := cells2R hGd
        by_cases hltv : v < n
        case neg =>
          obtain rfl : v = n := by omega
          have hbe := hb513.trans (hbd.mono hb513.size)
          go_wp2_with fail
          go_roundw
          case rel => exact ⟨i + 1, by omega, by go_num, hbe⟩
          case measure => simp [intOf]; omega
        case pos =>
        have hltv3 : (v : Int) < n := by omega
        have hlo := how v hltv
        have hlo3 : ((ow v : Nat) : Int) < P := by omega
        have hBd := lit_next' hbd hB13
        have t3 : wr.cell? ⟨Bx, 3, none⟩ = some (.slice zao n zco) := cell_blk hBd
        have t5 : wr.cell? ⟨Bx, 5, none⟩ = some (.slice zak P zck) := cell_blk hBd
        clear hBd
        obtain ⟨bo, oo, rfl, y0⟩ := IntsAt.atn (hO13.below hbd) (owI_length n ow) v hltv
        rw [getD_of (owI_get n ow v hltv)] at y0
        obtain ⟨b, off, sa, sc, rfl, hc0, hR0⟩ := hK13.row (ow v) hlo
        have hlr := hIx.len (ow v) hlo
        rw [hlr] at hc0 hR0
        have hc1 := (hbd.cell (p := ⟨b, off + ow v, none⟩) (cell_lt hc0)).trans hc0
        obtain ⟨b1, o1, rfl, y1⟩ := IntsAt.atn (hR0.below hbd) hlr v hltv
        rw [hE1 v hltv] at y1
        obtain ⟨b2, o2, rfl, z0⟩ := IntsAt.atn (hi13.below hbd) hcl v hltv
        rw [corT_atD hltv] at z0
        obtain ⟨Z, hZ⟩ : ∃ Y, corF es n v = Y := ⟨_, rfl⟩
        rw [hZ] at y1 z0
        clear hZ
        have hne := fun nq => neigh_any n a2 cap2 es v (wr.drewN nq) (hed.below (Below.refl _ _ |>.drewN nq)) hv
        rw [neigh_eq hv] at hne
        obtain ⟨L, hL⟩ : ∃ L, (nbL es n v).length = L := ⟨_, rfl⟩
        have hLn : ((nbL es n v).map fun (i : Nat) => (i : Int)).length = L := by rw [List.length_map, hL]
        have hL8 : L ≤ 64 := by have := nb_lt hv v hltv; omega
        unfold IntsPost at hne
        rw [hLn] at hne
        have HL := Lib.hid hL
        clear hL
        go_wp2_with fail
        go_quiet (fail)
        have hbd2 := hbd.drewN nq
        go_wp2_with fail
        refine (hne nq).mono ?_
        rintro e w15 ⟨a15, c15, rfl, hN15, hb15⟩
        have hbd15 := hbd2.trans (hb15.mono hbd2.size)
        clear hne x0 x1 y0 y1 z0 hc1 t3 t5
        go_wp2_with fail
        go_loopw [129] (fun vk wq => ∃ k : Nat, k ≤ L ∧ vk = .int .i64 (k : Int) ∧ Below w15.heap.size w15 wq) (fun vk _ => L - (intOf vk).toNat)
        case atStart => exact ⟨0, Nat.zero_le _, rfl, Below.refl _ _⟩
        case round =>
          obtain ⟨k, hkL, rfl, hbk⟩ := hrel
          have hbdk := hbd15.trans (hbk.mono hbd15.size)
          by_cases hltk : k < L
          · have hlk3 : (k : Int) < L := by omega
            have hNk : IntsAt wr (.slice a15 ((nbL es n v).map fun (i : Nat) => (i : Int)).length c15) ((nbL es n v).map fun (i : Nat) => (i : Int)) := by rw [hLn]; exact hN15.below hbk
            obtain ⟨bN, oN, y, rfl, hy, -, -, cN⟩ := hNk.at k (by omega)
            have hku : k < (nbL es n v).length := by rw [HL.out]; exact hltk
            obtain ⟨u, hu⟩ : ∃ u, (nbL es n v)[k]? = some u := ⟨_, List.getElem?_eq_getElem hku⟩
            rw [List.getElem?_map, hu] at hy
            obtain rfl := (Option.some.inj hy).symm
            have hmem := List.mem_filter.1 (List.mem_of_getElem? hu)
            have hun : u < n := List.mem_range.1 hmem.1
            have hadj : adjB es v u = true := hmem.2
            have hun3 : (u : Int) < n := by omega
            have hBd := lit_next' hbdk hB13
            have t5 : wr.cell? ⟨Bx, 5, none⟩ = some (.slice (some ⟨b, off, none⟩) P zck) := cell_blk hBd
            have hc1 := (hbdk.cell (p := ⟨b, off + ow v, none⟩) (cell_lt hc0)).trans hc0
            obtain ⟨_, _, e1, y1⟩ := IntsAt.atn (hR0.below hbdk) hlr u hun
            cases e1
            rw [hE2 v hltv u hun hadj] at y1
            obtain ⟨_, _, e2, z0⟩ := IntsAt.atn (hi13.below hbdk) hcl u hun
            cases e2
            rw [corT_atD hun] at z0
            obtain ⟨Z2, hZ⟩ : ∃ Y, corF es n u = Y := ⟨_, rfl⟩
            rw [hZ] at y1 z0
            clear hZ hNk hBd hu hmem hadj
            go_wp2_with fail
            go_quiet (fail)
            have hbk2 := hbk.drewN nq
            go_wp2_with fail
            go_roundw
            case rel => exact ⟨k + 1, by omega, by go_num, hbk2⟩
            case measure => simp [intOf]; omega
          · obtain rfl : k = L := by omega
            go_wp2_with fail
            go_roundw
            case rel => exact ⟨v + 1, by omega, by go_num, hbdk⟩
            case measure => simp [intOf]; omega
end Go.Proofs.Ytdkmdcdoiaelfaa
