/- The walk of the law RoundsEnds (printed by wip/mkends.py). -/
import Derived.Test.YtdkmdcdoiaelfaaRdKey
import Derived.BigQuiet
namespace Go.Proofs.Ytdkmdcdoiaelfaa
open Go.RowKit Go.BigFrame

set_option linter.unusedSimpArgs false in
set_option maxRecDepth 100000 in
set_option maxHeartbeats 6400000 in
theorem rdends_law (a : Option Addr) (len cap : Nat) (aS : Option Addr) (lenS cS : Nat) (xs : List Int) (w : World) (hl : ListAt w a len) (hxs0 : lenS ≤ 100000 → IntsAt w (.slice aS xs.length cS) xs ∧ xs.length = lenS) :
    Calls Try.prog 12 #[.slice a len cap, .slice aS lenS cS] w fun e w' => e = .returned (.bool true) ∧ Below w.heap.size w w' := by
  by_cases hfew : len ≤ 500
  case neg =>
    have hd : decide (len ≤ 500) = false := by simpa using hfew
    go_enter Try.func12, Try.ntmps12
    go_wp2_with (first
      | (go_at_call 14; refine (few_any _ _ _ _).mono ?_; rintro e w' ⟨rfl, rfl⟩)
      | (go_at_call 29; refine (rdawake_any _).mono ?_; rintro e w' ⟨rfl, hb⟩))
    go_ret
    exact ⟨rfl, hb⟩
  case pos =>
  have hd : decide (len ≤ 500) = true := by simpa using hfew
  by_cases hxl : lenS ≤ 200
  case neg =>
    have hx3 : (200 : Int) < lenS := by omega
    go_enter Try.func12, Try.ntmps12
    go_wp2_with (first
      | (go_at_call 14; refine (few_any _ _ _ _).mono ?_; rintro e w' ⟨rfl, rfl⟩)
      | (go_at_call 29; refine (rdawake_any _).mono ?_; rintro e w' ⟨rfl, hb⟩))
    go_ret
    exact ⟨rfl, hb⟩
  case pos =>
  obtain ⟨hxs, hxe⟩ := hxs0 (by omega)
  subst hxe
  have hx300 : decide ((200 : Int) < (xs.length : Int)) = false := decide_eq_false (by omega)
  have hdk := deck_new (cap := cap) hl
  have hb1 : Below w.heap.size w (w.alloc (.cells #[.slice a len cap, .int .i64 0] 92)) := (Below.refl _ _).alloc (Nat.le_refl _) _
  go_enter Try.func12, Try.ntmps12
  go_upto_region 5 with (first
    | (go_at_call 14; refine (few_any _ _ _ _).mono ?_; rintro e w' ⟨rfl, rfl⟩)
    | (go_at_call 17; refine (new_any _ _ _ _).mono ?_; rintro e w' ⟨rfl, rfl⟩)
    | (go_at_call 16; refine (mkgraph_any w.heap.size 8 _ hdk (by omega) (by omega)).mono ?_; rintro e w2 ⟨n0, es, a2, cap2, rfl, he2, hv, hn9, hd2, hg2, ho2⟩))
  have hb2 : Below w.heap.size w w2 := below_deck hb1 hg2 (Nat.le_refl _) hb1.size
  obtain ⟨n, rfl⟩ := Int.eq_ofNat_of_zero_le hv.1
  have hn8 : n ≤ 8 := by omega
  have hes := hv.length_le
  have hck := (valid_iff n es).2 hv
  obtain ⟨hG0, hb3⟩ := boxG_new w2 #[.int .i64 (n : Int), .slice a2 es.length cap2] 27
  obtain ⟨w3, hw3⟩ : ∃ W : World, W = w2.alloc (.cells #[.int .i64 (n : Int), .slice a2 es.length cap2] 27) := ⟨_, rfl⟩
  rw [← hw3] at hG0 hb3
  have he3 := he2.below hb3
  have hd3 := hd2.kept (grown_of_below hb3) (fun g e => by cases e)
  have hdb : w.heap.size < w2.heap.size := hd2.lt
  obtain ⟨Bg, hBg⟩ : ∃ B, w2.heap.size = B := ⟨_, rfl⟩
  rw [hBg] at hG0 hdb ⊢
  have hb03 := hb2.trans (hb3.mono hb2.size)
  have ho3 : ∀ n' c' p, Value.slice a2 es.length cap2 = .slice (some p) n' c' → ¬ p.block = w.heap.size := fun n' c' p e => by
    have h1 := ho2 p (Value.slice.inj e).1
    simp at h1
    omega
  have hgl : Bg < w3.heap.size := blk_lt hG0
  obtain ⟨x0, x1⟩ := cells2R hG0
  have HW3 := Lib.hid hw3
  clear hw3 hdk hb1 hg2 hd2 he2 hb3 ho2
  rw [← HW3.out]
  go_cut [7, 8] from 31 to 38 (fun p c wx => ∃ (Bw P : Nat) (ow : Nat → Nat) (hv2 : List Int), p = .pointer (some ⟨Bw, 0, none⟩) ∧ c = .int .i64 0 ∧ 1 ≤ P ∧ P ≤ 4 ∧ (∀ v, v < n → ow v < P) ∧ validZ none hv2 n = true ∧ hv2.length ≤ 1000000 ∧ WldB Bw n P es ow hv2 (staP es n P ow) wx ∧ Fr (fun b => b = w.heap.size) w3 wx ∧ w3.heap.size ≤ Bw)
  case first =>
    refine wp_region_heldK (k := 10) (S := fun b W => match b with | false => (W.cell? ⟨Bg, 0, none⟩ = some (.int .i64 (n : Int)) ∧ W.cell? ⟨Bg, 1, none⟩ = some (.slice a2 es.length cap2)) | true => True) (by kernel_rfl) ?_
    have hS0 : (w3.drew.cell? ⟨Bg, 0, none⟩ = some (.int .i64 (n : Int)) ∧ w3.drew.cell? ⟨Bg, 1, none⟩ = some (.slice a2 es.length cap2)) := ⟨x0, x1⟩
    refine wpAnyK_take (i := 0) (v := .agg #[.int .i64 (n : Int), .slice a2 es.length cap2]) false rfl (by kernel_rfl) (by kernel_rfl) (by kernel_rfl) (by kernel_rfl) (by kernel_rfl) (fun _ _ _ h => h) (fun _ _ => trivial) (Or.inl ⟨by rfl, by intro w hSw; (try dsimp only at hSw); go_simp⟩) (b := false) (by kernel_rfl) hS0 ?_
    try simp only [Act.put, List.setIfInBounds_toArray, List.set_cons_zero, List.set_cons_succ]
    refine wpAnyK_take (i := 1) (v := .pointer (some ⟨w.heap.size, 0, none⟩)) false rfl (by kernel_rfl) (by kernel_rfl) (by kernel_rfl) (by kernel_rfl) (by kernel_rfl) (fun _ _ _ h => h) (fun _ _ => trivial) (Or.inl ⟨by rfl, by intro w hSw; (try dsimp only at hSw); go_simp⟩) (b := false) (by kernel_rfl) hS0 ?_
    try simp only [Act.put, List.setIfInBounds_toArray, List.set_cons_zero, List.set_cons_succ]
    refine wpAnyK_take (i := 2) (v := .pointer (some ⟨Bg, 0, none⟩)) false rfl (by kernel_rfl) (by kernel_rfl) (by kernel_rfl) (by kernel_rfl) (by kernel_rfl) (fun _ _ _ h => h) (fun _ _ => trivial) (Or.inl ⟨by rfl, by intro w hSw; (try dsimp only at hSw); go_simp⟩) (b := false) (by kernel_rfl) hS0 ?_
    try simp only [Act.put, List.setIfInBounds_toArray, List.set_cons_zero, List.set_cons_succ]
    refine wpAnyK_take (i := 3) (v := .int .i64 (n : Int)) false rfl (by kernel_rfl) (by kernel_rfl) (by kernel_rfl) (by kernel_rfl) (by kernel_rfl) (fun _ _ _ h => h) (fun _ _ => trivial) (Or.inl ⟨by rfl, by intro w hSw; (try dsimp only at hSw); go_simp⟩) (b := false) (by kernel_rfl) hS0 ?_
    try simp only [Act.put, List.setIfInBounds_toArray, List.set_cons_zero, List.set_cons_succ]
    refine wpAnyK_two (i := 4) (j := 9) (by kernel_rfl) rfl rfl (by rfl) (by rfl) (b := false) (b2 := false) (by kernel_rfl) (by kernel_rfl) (fun K hK => ?_) (fun K hK => ?_)
    · go_simp
      go_at_call 30
      refine (fplan_any w.heap.size n _ (hd3.drew) (by omega)).mono ?_
      rintro e w4 ⟨P, ow, hv2, ao, ah, co, ch, rfl, hP1, hP4, how, hhv, hhl, hO4, hH4, hMO, -, -, hg4⟩
      have hF4 : Fr (fun b => b = w.heap.size) w3 w4 := ((Fr.refl _ w3).trans (Fr.of_below (D := fun _ => False) (Below.refl w3.heap.size w3).drew) (fun b h => h.elim)).grown hg4 (fun b e => .inl (Option.some.inj e).symm)
      have he4 := hF4.edges he3 ho3
      have hG4 := hF4.blk hG0 (by omega)
      have hs4 := hF4.size
      have hS4 : (w4.cell? ⟨Bg, 0, none⟩ = some (.int .i64 (n : Int)) ∧ w4.cell? ⟨Bg, 1, none⟩ = some (.slice a2 es.length cap2)) := ⟨cell_blk (hF4.blk hG0 (by omega)), cell_blk (hF4.blk hG0 (by omega))⟩
      dsimp only
      refine hK.out _ _ hS4 ?_
      try simp only [Act.put, List.setIfInBounds_toArray, List.set_cons_zero, List.set_cons_succ]
      refine wpAnyK_two (i := 5) (j := 9) (by kernel_rfl) rfl rfl (by rfl) (by rfl) (b := false) (b2 := false) (by kernel_rfl) (by kernel_rfl) (fun K hK => ?_) (fun K hK => ?_)
      · go_simp
        go_at_call 31
        refine (rdstartS_any n P es ow hv2 a2 ao ah cap2 co ch _ hv ⟨hP1, by omega⟩ how hhv (by omega) (he4) (hO4) (hH4) (fun n' c' p e => (hMO n' c' p e).2)).mono ?_
        rintro e w6 ⟨v6, rfl, hw6, hb6⟩
        have hF6 : Fr (fun b => b = w.heap.size) w3 w6 := (hF4).trans (Fr.of_below (D := fun _ => False) hb6) (fun b h => h.elim)
        have hG6 := hF6.blk hG0 (by omega)
        have hz6 := hb6.size
        have hS6 : (w6.cell? ⟨Bg, 0, none⟩ = some (.int .i64 (n : Int)) ∧ w6.cell? ⟨Bg, 1, none⟩ = some (.slice a2 es.length cap2)) := ⟨cell_blk hG6, cell_blk hG6⟩
        obtain ⟨ae, ao1, ah1, ak, ab, ce, co1, ch1, ck, cb, ev, -⟩ := hw6.now.shapeD
        subst ev
        dsimp only
        refine hK.out _ _ hS6 ?_
        try simp only [Act.put, List.setIfInBounds_toArray, List.set_cons_zero, List.set_cons_succ]
        refine wpAnyK_take (i := 6) (v := .tuple #[.agg #[.int .i64 (n : Int), .slice ae es.length ce, .int .i64 (P : Int), .slice ao1 n co1, .slice ah1 hv2.length ch1, .slice ak P ck, .slice ab P cb], .int .i64 0]) false rfl (by kernel_rfl) (by kernel_rfl) (by kernel_rfl) (by kernel_rfl) (by kernel_rfl) (fun _ _ _ h => h) (fun _ _ => trivial) (Or.inl ⟨by rfl, by intro w hSw; (try dsimp only at hSw); go_simp⟩) (b := false) (by kernel_rfl) hS6 ?_
        try simp only [Act.put, List.setIfInBounds_toArray, List.set_cons_zero, List.set_cons_succ]
        refine wpAnyK_take (i := 7) (v := .agg #[.int .i64 (n : Int), .slice ae es.length ce, .int .i64 (P : Int), .slice ao1 n co1, .slice ah1 hv2.length ch1, .slice ak P ck, .slice ab P cb]) false rfl (by kernel_rfl) (by kernel_rfl) (by kernel_rfl) (by kernel_rfl) (by kernel_rfl) (fun _ _ _ h => h) (fun _ _ => trivial) (Or.inl ⟨by rfl, by intro w hSw; (try dsimp only at hSw); go_simp⟩) (b := false) (by kernel_rfl) hS6 ?_
        try simp only [Act.put, List.setIfInBounds_toArray, List.set_cons_zero, List.set_cons_succ]
        refine wpAnyK_take (i := 8) (v := .int .i64 0) true rfl (by kernel_rfl) (by kernel_rfl) (by kernel_rfl) (by kernel_rfl) (by kernel_rfl) (fun _ _ _ h => h) (fun _ _ => trivial) (Or.inl ⟨by rfl, by intro w hSw; (try dsimp only at hSw); go_simp⟩) (b := false) (by kernel_rfl) hS6 ?_
        try simp only [Act.put, List.setIfInBounds_toArray, List.set_cons_zero, List.set_cons_succ]
        refine wpAnyK_one (i := 9) (by kernel_rfl) rfl (by rfl) (b := false) (by kernel_rfl) (fun K hK => ?_)
        go_simp
        refine hK.out _ _ (show ((w6.alloc (.cells #[.int .i64 0, .slice none 0 0, .int .i64 0, .slice none 0 0, .slice none 0 0, .slice none 0 0, .slice none 0 0] 59)).cell? ⟨Bg, 0, none⟩ = some (.int .i64 (n : Int)) ∧ (w6.alloc (.cells #[.int .i64 0, .slice none 0 0, .int .i64 0, .slice none 0 0, .slice none 0 0, .slice none 0 0, .slice none 0 0] 59)).cell? ⟨Bg, 1, none⟩ = some (.slice a2 es.length cap2)) from ⟨cell_alloc hS6.1, cell_alloc hS6.2⟩) ?_
        try simp only [Act.put, List.setIfInBounds_toArray, List.set_cons_zero, List.set_cons_succ]
        refine wpAnyK_one (i := 10) (by kernel_rfl) rfl (by rfl) (b := true) (by kernel_rfl) (fun K hK => ?_)
        go_simp
        refine hK.out _ _ trivial ?_
        try simp only [Act.put, List.setIfInBounds_toArray, List.set_cons_zero, List.set_cons_succ]
        refine wpAnyK_one (i := 11) (by kernel_rfl) rfl (by rfl) (b := true) (by kernel_rfl) (fun K hK => ?_)
        go_simp
        refine hK.out _ _ trivial (wpAnyK_done (by kernel_rfl) ?_ _)
        have hWB := WldB.new hw6 rfl
        have hbB : Below w6.heap.size w6 (w6.alloc (.cells #[.int .i64 (n : Int), .slice ae es.length ce, .int .i64 (P : Int), .slice ao1 n co1, .slice ah1 hv2.length ch1, .slice ak P ck, .slice ab P cb] 59)) := (Below.refl _ _).alloc (Nat.le_refl _) _
        go_wp2_with fail
        go_meet
        exact ⟨w6.heap.size, P, ow, hv2, rfl, rfl, hP1, hP4, how, hhv, by omega, hWB, hF6.trans (Fr.of_below (D := fun _ => False) hbB) (fun b h => h.elim), by have := hF6.size; omega⟩
      · go_simp
        have hbA : Below w4.heap.size w4 (w4.alloc (.cells #[.int .i64 0, .slice none 0 0, .int .i64 0, .slice none 0 0, .slice none 0 0, .slice none 0 0, .slice none 0 0] 59)) := (Below.refl _ _).alloc (Nat.le_refl _) _
        have hC4 := heap_alloc_new w4 (.cells #[.int .i64 0, .slice none 0 0, .int .i64 0, .slice none 0 0, .slice none 0 0, .slice none 0 0, .slice none 0 0] 59)
        have hFA : Fr (fun b => b = w.heap.size) w3 (w4.alloc (.cells #[.int .i64 0, .slice none 0 0, .int .i64 0, .slice none 0 0, .slice none 0 0, .slice none 0 0, .slice none 0 0] 59)) := hF4.trans (Fr.of_below (D := fun _ => False) hbA) (fun b h => h.elim)
        refine hK.out _ _ (show ((w4.alloc (.cells #[.int .i64 0, .slice none 0 0, .int .i64 0, .slice none 0 0, .slice none 0 0, .slice none 0 0, .slice none 0 0] 59)).cell? ⟨Bg, 0, none⟩ = some (.int .i64 (n : Int)) ∧ (w4.alloc (.cells #[.int .i64 0, .slice none 0 0, .int .i64 0, .slice none 0 0, .slice none 0 0, .slice none 0 0, .slice none 0 0] 59)).cell? ⟨Bg, 1, none⟩ = some (.slice a2 es.length cap2)) from ⟨cell_alloc hS4.1, cell_alloc hS4.2⟩) ?_
        try simp only [Act.put, List.setIfInBounds_toArray, List.set_cons_zero, List.set_cons_succ]
        refine wpAnyK_one (i := 5) (by kernel_rfl) rfl (by rfl) (b := false) (by kernel_rfl) (fun K hK => ?_)
        go_simp
        go_at_call 31
        refine (rdstartS_any n P es ow hv2 a2 ao ah cap2 co ch _ hv ⟨hP1, by omega⟩ how hhv (by omega) (he4.below hbA) (hO4.below hbA) (hH4.below hbA) (fun n' c' p e => by have h1 := (hMO n' c' p e).2; have h2 := hbA.size; omega)).mono ?_
        rintro e w6 ⟨v6, rfl, hw6, hb6⟩
        have hF6 : Fr (fun b => b = w.heap.size) w3 w6 := (hFA).trans (Fr.of_below (D := fun _ => False) hb6) (fun b h => h.elim)
        have hG6 := hF6.blk hG0 (by omega)
        have hz6 := hb6.size
        have hS6 : (w6.cell? ⟨Bg, 0, none⟩ = some (.int .i64 (n : Int)) ∧ w6.cell? ⟨Bg, 1, none⟩ = some (.slice a2 es.length cap2)) := ⟨cell_blk hG6, cell_blk hG6⟩
        obtain ⟨ae, ao1, ah1, ak, ab, ce, co1, ch1, ck, cb, ev, -⟩ := hw6.now.shapeD
        subst ev
        have hC6 : w6.heap[w4.heap.size]? = _ := lit_next' hb6 hC4
        dsimp only
        refine hK.out _ _ hS6 ?_
        try simp only [Act.put, List.setIfInBounds_toArray, List.set_cons_zero, List.set_cons_succ]
        refine wpAnyK_take (i := 6) (v := .tuple #[.agg #[.int .i64 (n : Int), .slice ae es.length ce, .int .i64 (P : Int), .slice ao1 n co1, .slice ah1 hv2.length ch1, .slice ak P ck, .slice ab P cb], .int .i64 0]) false rfl (by kernel_rfl) (by kernel_rfl) (by kernel_rfl) (by kernel_rfl) (by kernel_rfl) (fun _ _ _ h => h) (fun _ _ => trivial) (Or.inl ⟨by rfl, by intro w hSw; (try dsimp only at hSw); go_simp⟩) (b := false) (by kernel_rfl) hS6 ?_
        try simp only [Act.put, List.setIfInBounds_toArray, List.set_cons_zero, List.set_cons_succ]
        refine wpAnyK_take (i := 7) (v := .agg #[.int .i64 (n : Int), .slice ae es.length ce, .int .i64 (P : Int), .slice ao1 n co1, .slice ah1 hv2.length ch1, .slice ak P ck, .slice ab P cb]) false rfl (by kernel_rfl) (by kernel_rfl) (by kernel_rfl) (by kernel_rfl) (by kernel_rfl) (fun _ _ _ h => h) (fun _ _ => trivial) (Or.inl ⟨by rfl, by intro w hSw; (try dsimp only at hSw); go_simp⟩) (b := false) (by kernel_rfl) hS6 ?_
        try simp only [Act.put, List.setIfInBounds_toArray, List.set_cons_zero, List.set_cons_succ]
        refine wpAnyK_take (i := 8) (v := .int .i64 0) true rfl (by kernel_rfl) (by kernel_rfl) (by kernel_rfl) (by kernel_rfl) (by kernel_rfl) (fun _ _ _ h => h) (fun _ _ => trivial) (Or.inl ⟨by rfl, by intro w hSw; (try dsimp only at hSw); go_simp⟩) (b := false) (by kernel_rfl) hS6 ?_
        try simp only [Act.put, List.setIfInBounds_toArray, List.set_cons_zero, List.set_cons_succ]
        obtain ⟨k0, k1, k2, k3, k4, k5, k6⟩ := cells7 hC6
        obtain ⟨f0, f1, f2, f3, f4, f5, f6⟩ := frees7 hC6
        refine wpAnyK_one (i := 10) (by kernel_rfl) rfl (by rfl) (b := true) (by kernel_rfl) (fun K hK => ?_)
        go_simp
        refine hK.out _ _ trivial ?_
        try simp only [Act.put, List.setIfInBounds_toArray, List.set_cons_zero, List.set_cons_succ]
        refine wpAnyK_one (i := 11) (by kernel_rfl) rfl (by rfl) (b := true) (by kernel_rfl) (fun K hK => ?_)
        go_simp
        refine hK.out _ _ trivial (wpAnyK_done (by kernel_rfl) ?_ _)
        have hWB := WldB.put hw6 hC6 rfl (by first | (simp; done) | exact blk_lt hC4)
        go_wp2_with fail
        go_meet
        exact ⟨w4.heap.size, P, ow, hv2, rfl, rfl, hP1, hP4, how, hhv, by omega, hWB, hF6.trans (set7_fr w6 w4.heap.size _ _ _ _ _ _ _) (fun b e => .inr (by omega)), by omega⟩
    · go_simp
      have hbA : Below w3.heap.size w3 (w3.drew.alloc (.cells #[.int .i64 0, .slice none 0 0, .int .i64 0, .slice none 0 0, .slice none 0 0, .slice none 0 0, .slice none 0 0] 59)) := ((Below.refl w3.heap.size w3).drew).alloc (Nat.le_refl _) _
      have hC3 := heap_alloc_new w3.drew (.cells #[.int .i64 0, .slice none 0 0, .int .i64 0, .slice none 0 0, .slice none 0 0, .slice none 0 0, .slice none 0 0] 59)
      have hFA : Fr (fun b => b = w.heap.size) w3 (w3.drew.alloc (.cells #[.int .i64 0, .slice none 0 0, .int .i64 0, .slice none 0 0, .slice none 0 0, .slice none 0 0, .slice none 0 0] 59)) := (Fr.refl _ w3).trans (Fr.of_below (D := fun _ => False) hbA) (fun b h => h.elim)
      refine hK.out _ _ (show ((w3.drew.alloc (.cells #[.int .i64 0, .slice none 0 0, .int .i64 0, .slice none 0 0, .slice none 0 0, .slice none 0 0, .slice none 0 0] 59)).cell? ⟨Bg, 0, none⟩ = some (.int .i64 (n : Int)) ∧ (w3.drew.alloc (.cells #[.int .i64 0, .slice none 0 0, .int .i64 0, .slice none 0 0, .slice none 0 0, .slice none 0 0, .slice none 0 0] 59)).cell? ⟨Bg, 1, none⟩ = some (.slice a2 es.length cap2)) from ⟨cell_alloc hS0.1, cell_alloc hS0.2⟩) ?_
      try simp only [Act.put, List.setIfInBounds_toArray, List.set_cons_zero, List.set_cons_succ]
      refine wpAnyK_one (i := 4) (by kernel_rfl) rfl (by rfl) (b := false) (by kernel_rfl) (fun K hK => ?_)
      go_simp
      go_at_call 30
      refine (fplan_any w.heap.size n _ (hd3.kept (grown_of_below hbA) (fun g e => by cases e)) (by omega)).mono ?_
      rintro e w4 ⟨P, ow, hv2, ao, ah, co, ch, rfl, hP1, hP4, how, hhv, hhl, hO4, hH4, hMO, -, -, hg4⟩
      have hF4 : Fr (fun b => b = w.heap.size) w3 w4 := (hFA).grown hg4 (fun b e => .inl (Option.some.inj e).symm)
      have he4 := hF4.edges he3 ho3
      have hG4 := hF4.blk hG0 (by omega)
      have hs4 := hF4.size
      have hS4 : (w4.cell? ⟨Bg, 0, none⟩ = some (.int .i64 (n : Int)) ∧ w4.cell? ⟨Bg, 1, none⟩ = some (.slice a2 es.length cap2)) := ⟨cell_blk (hF4.blk hG0 (by omega)), cell_blk (hF4.blk hG0 (by omega))⟩
      have hC4 := grown_blk hg4 hC3 (fun e => by have e1 : w3.heap.size = w.heap.size := Option.some.inj e; omega)
      dsimp only
      refine hK.out _ _ hS4 ?_
      try simp only [Act.put, List.setIfInBounds_toArray, List.set_cons_zero, List.set_cons_succ]
      refine wpAnyK_one (i := 5) (by kernel_rfl) rfl (by rfl) (b := false) (by kernel_rfl) (fun K hK => ?_)
      go_simp
      go_at_call 31
      refine (rdstartS_any n P es ow hv2 a2 ao ah cap2 co ch _ hv ⟨hP1, by omega⟩ how hhv (by omega) (he4) (hO4) (hH4) (fun n' c' p e => (hMO n' c' p e).2)).mono ?_
      rintro e w6 ⟨v6, rfl, hw6, hb6⟩
      have hF6 : Fr (fun b => b = w.heap.size) w3 w6 := (hF4).trans (Fr.of_below (D := fun _ => False) hb6) (fun b h => h.elim)
      have hG6 := hF6.blk hG0 (by omega)
      have hz6 := hb6.size
      have hS6 : (w6.cell? ⟨Bg, 0, none⟩ = some (.int .i64 (n : Int)) ∧ w6.cell? ⟨Bg, 1, none⟩ = some (.slice a2 es.length cap2)) := ⟨cell_blk hG6, cell_blk hG6⟩
      obtain ⟨ae, ao1, ah1, ak, ab, ce, co1, ch1, ck, cb, ev, -⟩ := hw6.now.shapeD
      subst ev
      have hC6 : w6.heap[w3.heap.size]? = _ := lit_next' hb6 hC4
      dsimp only
      refine hK.out _ _ hS6 ?_
      try simp only [Act.put, List.setIfInBounds_toArray, List.set_cons_zero, List.set_cons_succ]
      refine wpAnyK_take (i := 6) (v := .tuple #[.agg #[.int .i64 (n : Int), .slice ae es.length ce, .int .i64 (P : Int), .slice ao1 n co1, .slice ah1 hv2.length ch1, .slice ak P ck, .slice ab P cb], .int .i64 0]) false rfl (by kernel_rfl) (by kernel_rfl) (by kernel_rfl) (by kernel_rfl) (by kernel_rfl) (fun _ _ _ h => h) (fun _ _ => trivial) (Or.inl ⟨by rfl, by intro w hSw; (try dsimp only at hSw); go_simp⟩) (b := false) (by kernel_rfl) hS6 ?_
      try simp only [Act.put, List.setIfInBounds_toArray, List.set_cons_zero, List.set_cons_succ]
      refine wpAnyK_take (i := 7) (v := .agg #[.int .i64 (n : Int), .slice ae es.length ce, .int .i64 (P : Int), .slice ao1 n co1, .slice ah1 hv2.length ch1, .slice ak P ck, .slice ab P cb]) false rfl (by kernel_rfl) (by kernel_rfl) (by kernel_rfl) (by kernel_rfl) (by kernel_rfl) (fun _ _ _ h => h) (fun _ _ => trivial) (Or.inl ⟨by rfl, by intro w hSw; (try dsimp only at hSw); go_simp⟩) (b := false) (by kernel_rfl) hS6 ?_
      try simp only [Act.put, List.setIfInBounds_toArray, List.set_cons_zero, List.set_cons_succ]
      refine wpAnyK_take (i := 8) (v := .int .i64 0) true rfl (by kernel_rfl) (by kernel_rfl) (by kernel_rfl) (by kernel_rfl) (by kernel_rfl) (fun _ _ _ h => h) (fun _ _ => trivial) (Or.inl ⟨by rfl, by intro w hSw; (try dsimp only at hSw); go_simp⟩) (b := false) (by kernel_rfl) hS6 ?_
      try simp only [Act.put, List.setIfInBounds_toArray, List.set_cons_zero, List.set_cons_succ]
      obtain ⟨k0, k1, k2, k3, k4, k5, k6⟩ := cells7 hC6
      obtain ⟨f0, f1, f2, f3, f4, f5, f6⟩ := frees7 hC6
      refine wpAnyK_one (i := 10) (by kernel_rfl) rfl (by rfl) (b := true) (by kernel_rfl) (fun K hK => ?_)
      go_simp
      refine hK.out _ _ trivial ?_
      try simp only [Act.put, List.setIfInBounds_toArray, List.set_cons_zero, List.set_cons_succ]
      refine wpAnyK_one (i := 11) (by kernel_rfl) rfl (by rfl) (b := true) (by kernel_rfl) (fun K hK => ?_)
      go_simp
      refine hK.out _ _ trivial (wpAnyK_done (by kernel_rfl) ?_ _)
      have hWB := WldB.put hw6 hC6 rfl (by first | (simp; done) | exact blk_lt hC4)
      go_wp2_with fail
      go_meet
      exact ⟨w3.heap.size, P, ow, hv2, rfl, rfl, hP1, hP4, how, hhv, by omega, hWB, hF6.trans (set7_fr w6 w3.heap.size _ _ _ _ _ _ _) (fun b e => .inr (by omega)), by omega⟩
  case rest =>
    obtain ⟨Bw, P, ow, hv2, rfl, rfl, hP1, hP4, how, hhv, hhl, hW0, hFc, hBl⟩ := hcut
    have h03 := hb03.size
    have hbc : Below w.heap.size w wc := hb03.trans (hFc.below (fun b e => by omega) (by omega))
    have hxc := hxs.below hbc
    have hec := hFc.edges he3 ho3
    have hGc := hFc.blk hG0 (by omega)
    have hgw := GoodW.start (ow := ow) hv ⟨hP1, (by omega : P ≤ 8)⟩ how hhv hhl
    have hI0 := sta_inv (ow := ow) (P := P) hv how
    have hpot := sta_potle (ow := ow) (P := P) hv how (by omega) (by omega)
    obtain ⟨SW, hSW⟩ : ∃ S, staP es n P ow = S := ⟨_, rfl⟩
    rw [hSW] at hW0 hgw hI0 hpot
    obtain ⟨sae, sao, sah, sak, sab, sce, sco, sch, sck, scb, hB0, hS0⟩ := hW0
    have hbwl := blk_lt hB0
    clear hSW x0 x1
    obtain ⟨t0, t1, t2, t3, t4, t5, t6⟩ := cells7 hB0
    have hpl := rdplayS_any n P es ow hv2 SW _ aS cS xs wc hgw hS0.now hxc hpot
    obtain ⟨SC, hSC⟩ : ∃ f : Nat → Int, (fun i => xs.getD i 0) = f := ⟨_, rfl⟩
    rw [hSC] at hpl
    go_wp2_with fail
    refine hpl.mono ?_
    rintro e w5 ⟨v5, k, rfl, hW5, -, -, -, hb5⟩
    obtain ⟨pae, pao, pah, pak, pab, pce, pco, pch, pck, pcb, ev, -⟩ := hW5.now.shapeD
    subst ev
    have hB5 := lit_next' hb5 hB0
    have hF5 := hFc.trans (Fr.of_below (D := fun _ => False) hb5) (fun b h => h.elim)
    have hgk := hgw.ply hpot SC k
    have hIk := ply_inv hv hI0 SC k
    have hpk := ply_potle2 (es := es) how hgw.vld SC k hpot
    obtain ⟨VW, hVW⟩ : ∃ V, plyK es n P ow SW SC k = V := ⟨_, rfl⟩
    rw [hVW] at hW5 hgk hIk hpk
    clear t0 t1 t2 t3 t4 t5 t6 hpl hSC hVW hgw hI0 hS0 hB0 hGc hec hxc hFc
    obtain ⟨t0, t1, t2, t3, t4, t5, t6⟩ := cells7 hB5
    obtain ⟨f0, f1, f2, f3, f4, f5, f6⟩ := frees7 hB5
    go_upto_region 7 with fail
    have hWB := WldB.put hW5 hB5 rfl hbwl
    have hF := set7_fr w5 Bw (.int .i64 (n : Int)) (.slice pae es.length pce) (.int .i64 (P : Int)) (.slice pao n pco) (.slice pah hv2.length pch) (.slice pak P pck) (.slice pab P pcb)
    obtain ⟨w6, hw6⟩ : ∃ W : World, W = ((((((w5.setCell ⟨Bw, 0, none⟩ (.int .i64 (n : Int))).setCell ⟨Bw, 1, none⟩ (.slice pae es.length pce)).setCell ⟨Bw, 2, none⟩ (.int .i64 (P : Int))).setCell ⟨Bw, 3, none⟩ (.slice pao n pco)).setCell ⟨Bw, 4, none⟩ (.slice pah hv2.length pch)).setCell ⟨Bw, 5, none⟩ (.slice pak P pck)).setCell ⟨Bw, 6, none⟩ (.slice pab P pcb) := ⟨_, rfl⟩
    rw [← hw6] at hWB hF ⊢
    have hF6 := hF5.trans hF (fun b e => .inr (by omega))
    obtain ⟨qae, qao, qah, qak, qab, qce, qco, qch, qck, qcb, hB6, hS6⟩ := hWB
    clear hw6 hF hF5 hB5 hW5 t0 t1 t2 t3 t4 t5 t6 f0 f1 f2 f3 f4 f5 f6
    obtain ⟨t0, t1, t2, t3, t4, t5, t6⟩ := cells7 hB6
    have hfi := rdfinishS_any n P es ow hv2 VW _ w6 hgk hS6.now hpk
    go_wp2_with fail
    refine hfi.mono ?_
    rintro e w7 ⟨v7, k2, rfl, hW7, -, hrdy, hb7⟩
    obtain ⟨rae, rao, rah, rak, rab, rce, rco, rch, rck, rcb, ev, -⟩ := hW7.now.shapeD
    subst ev
    have hB7 := lit_next' hb7 hB6
    have hbw6 := blk_lt hB6
    have hF7 := hF6.trans (Fr.of_below (D := fun _ => False) hb7) (fun b h => h.elim)
    have hgx := hgk.ply hpk (fun _ => 0) k2
    have hIx := ply_inv hv hIk (fun _ => 0) k2
    have hnu0 := num_end hv how hIx hrdy
    obtain ⟨VX, hVX⟩ : ∃ V, plyK es n P ow VW (fun _ => 0) k2 = V := ⟨_, rfl⟩
    rw [hVX] at hW7 hgx hIx hnu0 hrdy
    clear t0 t1 t2 t3 t4 t5 t6 hfi hVX hgk hIk hpk hS6 hB6 hF6
    obtain ⟨t0, t1, t2, t3, t4, t5, t6⟩ := cells7 hB7
    obtain ⟨f0, f1, f2, f3, f4, f5, f6⟩ := frees7 hB7
    go_upto_region 8 with fail
    have hWB := WldB.put hW7 hB7 rfl hbw6
    have hF := set7_fr w7 Bw (.int .i64 (n : Int)) (.slice rae es.length rce) (.int .i64 (P : Int)) (.slice rao n rco) (.slice rah hv2.length rch) (.slice rak P rck) (.slice rab P rcb)
    obtain ⟨w8, hw8⟩ : ∃ W : World, W = ((((((w7.setCell ⟨Bw, 0, none⟩ (.int .i64 (n : Int))).setCell ⟨Bw, 1, none⟩ (.slice rae es.length rce)).setCell ⟨Bw, 2, none⟩ (.int .i64 (P : Int))).setCell ⟨Bw, 3, none⟩ (.slice rao n rco)).setCell ⟨Bw, 4, none⟩ (.slice rah hv2.length rch)).setCell ⟨Bw, 5, none⟩ (.slice rak P rck)).setCell ⟨Bw, 6, none⟩ (.slice rab P rcb) := ⟨_, rfl⟩
    rw [← hw8] at hWB hF ⊢
    have hF8 := hF7.trans hF (fun b e => .inr (by omega))
    have hG8 := hF8.blk hG0 (by omega)
    have he8 := hF8.edges he3 ho3
    have hb08 : Below w.heap.size w w8 := hb03.trans (hF8.below (fun b e => by omega) (by omega))
    clear hw8 hF hF7 hF8 hB7 hW7 t0 t1 t2 t3 t4 t5 t6 f0 f1 f2 f3 f4 f5 f6
    obtain ⟨x0, x1⟩ := cells2R hG8
    have hcor : corX n es = (corT es n, 0) := by unfold corX; rw [if_neg (by rw [hck]; simp), Int.toNat_natCast]
    have hnu := rnumbers10_any n a2 cap2 es w8 he8
    rw [hcor] at hnu
    unfold TPost at hnu
    dsimp only at hnu
    rw [corT_length] at hnu
    go_wp2_with fail
    refine hnu.mono ?_
    rintro e w9 ⟨a9, c9, rfl, hi9, -, hb9⟩
    have hWB9 := hWB.below hb9
    have hG9 := lit_next' hb9 hG8
    have he9 := he8.below hb9
    have hb09 := hb08.trans (hb9.mono hb08.size)
    obtain ⟨zae, zao, zah, zak, zab, zce, zco, zch, zck, zcb, hB9, hS9⟩ := hWB9
    obtain ⟨ae0, ao0, ah0, ak0, ab0, ce0, co0, ch0, ck0, cb0, ez, hEz, hOz, hKz, -⟩ := hS9.now.shapeD
    have hA9 := hS9.now
    cases ez
    clear hWB hS9 hnu hcor x0 x1
    obtain ⟨x0, x1⟩ := cells2R hG9
    obtain ⟨t0, t1, t2, t3, t4, t5, t6⟩ := cells7 hB9
    have hva := valid38_any (wdL n P es ow hv2 VX) _ w9 hA9 hgx.box
    rw [hgx.val] at hva
    go_wp2_with fail
    refine hva.mono ?_
    rintro e w10 ⟨rfl, hb10⟩
    have hb910 := hb10
    have hgs := gsame_same n zae a2 zce cap2 es w10 (hEz.below hb10) (he9.below hb10) (by omega)
    clear hva t0 t1 t2 t3 t4 t5 t6 x0 x1
    have hB10 := lit_next' hb10 hB9
    have hG10 := lit_next' hb10 hG9
    have hA10 := hA9.below hb10
    obtain ⟨x0, x1⟩ := cells2R hG10
    obtain ⟨t0, t1, t2, t3, t4, t5, t6⟩ := cells7 hB10
    go_wp2_with fail
    refine hgs.mono ?_
    rintro e w11 ⟨rfl, hb11⟩
    have hb911 := hb10.trans (hb11.mono hb10.size)
    have hB11 := lit_next' hb11 hB10
    have hA11 := hA10.below hb11
    clear t0 t1 t2 t3 t4 t5 t6 x0 x1
    obtain ⟨t0, t1, t2, t3, t4, t5, t6⟩ := cells7 hB11
    have hrr := rdReady_any n P es ow hv2 VX _ w11 hgx hA11
    rw [hrdy] at hrr
    go_wp2_with fail
    refine hrr.mono ?_
    rintro e w12 ⟨a12, c12, rfl, -, hb12⟩
    have hb912 := hb911.trans (hb12.mono hb911.size)
    have hB12 := lit_next' hb12 hB11
    have hA12 := hA11.below hb12
    clear t0 t1 t2 t3 t4 t5 t6 hrr
    obtain ⟨t0, t1, t2, t3, t4, t5, t6⟩ := cells7 hB12
    have hnn := rdNumbers_any n P es ow hv2 VX _ w12 hgx hA12
    rw [hnu0] at hnn
    go_wp2_with fail
    refine hnn.mono ?_
    rintro e w13 ⟨g, rfl, hgl2, hgb, hb13⟩
    have hb913 := hb912.trans (hb13.mono hb912.size)
    have hi13 := hi9.below hb913
    have hcl : (corT es n).length = n := corT_length _ _
    have hown13 := ownsI_blk (lo := w12.heap.size) hgb hgl2 (by omega)
    obtain ⟨_, _, eg, hig, -⟩ := IntsAt.of_owns hown13 (by omega)
    cases eg
    have hcm := icmp_same (some ⟨g, 0, none⟩) a9 (corT es n).length c9 (corT es n) w13 hig (by rw [hcl]; exact hi13)
    rw [hcl] at hcm
    clear t0 t1 t2 t3 t4 t5 t6 hnn hgb hown13 hig
    go_wp2_with fail
    refine hcm.mono ?_
    rintro e w14 ⟨rfl, hb14⟩
    have hb914 := hb913.trans (hb14.mono hb913.size)
    have hb014 := hb09.trans (hb914.mono hb09.size)
    have hB14 := lit_next' hb914 hB9
    have hi14 := hi9.below hb914
    have hK14 := hKz.below hb914
    obtain ⟨t0, t1, t2, t3, t4, t5, t6⟩ := cells7 hB14
    clear t0 t1 t2 t3 t4 t5 t6
    have t5 : w14.cell? ⟨Bw, 5, none⟩ = some (.slice zak P zck) := cell_blk hB14
    go_wp2_with fail
    go_loopw [94] (fun vi wr => ∃ i : Nat, i ≤ P ∧ vi = .int .i64 (i : Int) ∧ Below w14.heap.size w14 wr) (fun vi _ => P - (intOf vi).toNat)
    case atStart => exact ⟨0, Nat.zero_le _, rfl, Below.refl _ _⟩
    case round =>
      obtain ⟨i, hiP, rfl, hbr⟩ := hrel
      by_cases hlt : i < P
      · have hlt3 : (i : Int) < P := by omega
        obtain ⟨b, off, sa, sc, rfl, hc0, hR0⟩ := hK14.row i hlt
        have hlr := hIx.len i hlt
        rw [hlr] at hc0 hR0
        have hc1 := (hbr.cell (p := ⟨b, off + i, none⟩) (cell_lt hc0)).trans hc0
        clear hc0
        go_wp2_with fail
        go_loopw [100] (fun vv wd => ∃ v : Nat, v ≤ n ∧ vv = .int .i64 (v : Int) ∧ Below w14.heap.size w14 wd) (fun vv _ => n - (intOf vv).toNat)
        case atStart => exact ⟨0, Nat.zero_le _, rfl, hbr⟩
        case round =>
          clear hbr hc1
          obtain ⟨v, hvn, rfl, hbd⟩ := hrel
          by_cases hltv : v < n
          · have hltv3 : (v : Int) < n := by omega
            obtain ⟨b1, o1, rfl, y0⟩ := IntsAt.atn (hR0.below hbd) hlr v hltv
            obtain ⟨b2, o2, rfl, z0⟩ := IntsAt.atn (hi14.below hbd) hcl v hltv
            rw [corT_atD hltv] at z0
            have r1 := hIx.ge i hlt v hltv
            obtain ⟨Y, hY⟩ : ∃ Y, (VX.kn i).getD v 0 = Y := ⟨_, rfl⟩
            obtain ⟨Z, hZ⟩ : ∃ Y, corF es n v = Y := ⟨_, rfl⟩
            rw [hY] at y0 r1
            rw [hZ] at z0 r1
            have q1 : decide (Y < Z) = false := by simp; omega
            clear hY hZ r1
            go_wp2_with fail
            go_quiet (fail)
            have hbd2 := hbd.drewN nq
            go_wp2_with fail
            go_roundw
            case rel => exact ⟨v + 1, by omega, by go_num, hbd2⟩
            case measure => simp [intOf]; omega
          · obtain rfl : v = n := by omega
            go_wp2_with fail
            go_roundw
            case rel => exact ⟨i + 1, by omega, by go_num, hbd⟩
            case measure => simp [intOf]; omega
      · obtain rfl : i = P := by omega
        have hbe := hb014.trans (hbr.mono hb014.size)
        go_wp2_with fail
        refine (rdawake_any _).mono ?_
        rintro e w16 ⟨rfl, hb16⟩
        go_wp2_with fail
        go_ret
        exact ⟨rfl, hbe.trans (hb16.mono hbe.size)⟩
end Go.Proofs.Ytdkmdcdoiaelfaa
