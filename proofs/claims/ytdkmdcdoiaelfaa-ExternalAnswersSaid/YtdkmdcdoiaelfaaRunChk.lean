/- The contracts of the program's checks of runs: compare, block, record, Check, and the search for a record. Printed by wip/mkrunchk.py. -/
import Derived.Test.YtdkmdcdoiaelfaaRunP
import Derived.Test.YtdkmdcdoiaelfaaGraphCheck
import Derived.Test.YtdkmdcdoiaelfaaGrFind
import Derived.Test.YtdkmdcdoiaelfaaNumFn
import Derived.Deep.RegionHeld3
import Derived.Deep.DeepCutAuto
import Derived.BigQuiet
import Derived.Lib.Hide
namespace Go.Proofs.Ytdkmdcdoiaelfaa
open Go.RowKit Go.BigFrame

set_option maxRecDepth 100000 in
set_option maxHeartbeats 800000 in
theorem compare_any (u v x y : Int) (w : World) :
    Calls Try.prog 101 #[.agg #[.int .i64 u, .int .i64 v], .agg #[.int .i64 x, .int .i64 y]] w fun e w' => e = .returned (.int .i64 (orderS (u, v) (x, y))) ∧ Below w.heap.size w w' := by
  have h0 := (cell_alloc (o := .cells #[.int .i64 x, .int .i64 y] 37) (cell_fresh w #[.int .i64 u, .int .i64 v] 37 0 _ rfl))
  have h1 := (cell_alloc (o := .cells #[.int .i64 x, .int .i64 y] 37) (cell_fresh w #[.int .i64 u, .int .i64 v] 37 1 _ rfl))
  have hz : (w.alloc (.cells #[.int .i64 u, .int .i64 v] 37)).heap.size = w.heap.size + 1 := by simp
  have h2 := cell_fresh (w.alloc (.cells #[.int .i64 u, .int .i64 v] 37)) #[.int .i64 x, .int .i64 y] 37 0 _ rfl
  have h3 := cell_fresh (w.alloc (.cells #[.int .i64 u, .int .i64 v] 37)) #[.int .i64 x, .int .i64 y] 37 1 _ rfl
  rw [hz] at h2 h3
  have hb2 := ((Below.refl w.heap.size w).alloc (Nat.le_refl _) (.cells #[.int .i64 u, .int .i64 v] 37)).alloc (by simp) (.cells #[.int .i64 x, .int .i64 y] 37)
  have H0 := Lib.hid h0
  have H1 := Lib.hid h1
  have H2 := Lib.hid h2
  have H3 := Lib.hid h3
  clear h0 h1 h2 h3 hz
  go_enter Try.func101, Try.ntmps101
  go_wp2_with fail
  go_region_held3 (fun w' => w'.cell? ⟨w.heap.size, 0, none⟩ = some (.int .i64 u) ∧ w'.cell? ⟨w.heap.size, 1, none⟩ = some (.int .i64 v) ∧ w'.cell? ⟨w.heap.size + 1, 0, none⟩ = some (.int .i64 x) ∧ w'.cell? ⟨w.heap.size + 1, 1, none⟩ = some (.int .i64 y))
    (first | exact ⟨H0.out, H1.out, H2.out, H3.out⟩ | exact ⟨cell_alloc H0.out, cell_alloc H1.out, cell_alloc H2.out, cell_alloc H3.out⟩)
    (first
      | (go_at_call 134; refine (cmp_any _ _ _).mono ?_; rintro e w' ⟨rfl, rfl⟩)
      | (go_at_call 133; refine (or_any _ _ [cmpS u x, cmpS v y] _ (by exact ints_lit2 _ _ (by simp) _ _ _)).mono ?_; rintro e w' ⟨rfl, rfl⟩))
  go_wp2
  go_ret
  exact ⟨rfl, (hb2.alloc (by simp; omega) _).drew⟩

theorem order_zero (a b : E2) : orderS a b = 0 ↔ a = b := by
  obtain ⟨a1, a2⟩ := a
  obtain ⟨b1, b2⟩ := b
  rw [Prod.mk.injEq]
  unfold orderS orS orS orS cmpS
  dsimp only
  split <;> split <;> (try split) <;> (try split) <;> constructor <;> intro h <;> first | omega | (exfalso; omega)
set_option maxRecDepth 100000 in
set_option maxHeartbeats 3200000 in
theorem rbsearch_any (es : List E2) (t : E2) (a : Option Addr) (cap : Nat) (w : World) (he : EdgesAt w (.slice a es.length cap) es) (hs : es.Pairwise fun a b => beforeB a b = true) (hl : es.length ≤ 100000) :
    Calls Try.prog 100 #[.slice a es.length cap, .agg #[.int .i64 t.1, .int .i64 t.2], .func (.func 101) #[] #[]] w fun e w' => ∃ (i : Nat) (b : Bool), e = .returned (.tuple #[.int .i64 i, .bool b]) ∧ i ≤ es.length ∧ BsI es t i i ∧ b = decide (t ∈ es) ∧ Below w.heap.size w w' := by
  obtain ⟨tu, tv⟩ := t
  dsimp only
  have hb1 : Below w.heap.size w (w.alloc (.cells #[.int .i64 tu, .int .i64 tv] 37)) := (Below.refl _ _).alloc (Nat.le_refl _) _
  have hT := heap_alloc_new w (.cells #[.int .i64 tu, .int .i64 tv] 37)
  have he1 := he.below hb1
  have hz1 := blk_lt hT
  go_enter Try.func100, Try.ntmps100
  go_wp2_with fail
  generalize w.alloc (.cells #[.int .i64 tu, .int .i64 tv] 37) = w1 at *
  go_loopw [9, 10] (fun vi vj wr => ∃ i j : Nat, vi = .int .i64 i ∧ vj = .int .i64 j ∧ i ≤ j ∧ j ≤ es.length ∧ Hid (BsI es (tu, tv) i j) ∧ Below w1.heap.size w1 wr) (fun vi vj _ => (intOf vj).toNat - (intOf vi).toNat)
  case atStart => exact ⟨0, es.length, rfl, rfl, Nat.zero_le _, Nat.le_refl _, (show _ from ⟨fun k e hk => by omega, fun k e hk hx => by have := (List.getElem?_eq_some_iff.1 hx).1; omega⟩), Below.refl _ _⟩
  case round =>
    obtain ⟨i, j, rfl, rfl, hij, hjl, HI, hb⟩ := hrel
    have hTr := lit_next' hb hT
    have her := he1.below hb
    have hget : ∀ m, m < es.length → ∃ b off x y, a = some ⟨b, off, none⟩ ∧ es[m]? = some (x, y) ∧ wr.cell? ⟨b, off + m * 2, none⟩ = some (.int .i64 x) ∧ wr.cell? ⟨b, off + m * 2 + 1, none⟩ = some (.int .i64 y) := fun m hm => by
      obtain ⟨a', cap', hv, _, _, _, hcell⟩ := her
      obtain ⟨b, off, ha, c0, c1⟩ := hcell m _ (List.getElem?_eq_getElem hm)
      obtain ⟨h1, _, _⟩ := Value.slice.inj hv
      exact ⟨b, off, es[m].1, es[m].2, h1.trans ha, List.getElem?_eq_getElem hm, c0, c1⟩
    have t0 : wr.cell? ⟨w.heap.size, 0, none⟩ = some (.int .i64 tu) := by rw [cell_blk hTr]; rfl
    have t1 : wr.cell? ⟨w.heap.size, 1, none⟩ = some (.int .i64 tv) := by rw [cell_blk hTr]; rfl
    have hzr := blk_lt hTr
    by_cases hlt : i < j
    · obtain ⟨m, hm⟩ : ∃ m : Nat, ((i : Int) + (j : Int)) / 2 = (m : Int) := ⟨(i + j) / 2, by omega⟩
      have hmb : i ≤ m ∧ m < j := by omega
      obtain ⟨b, off, x, y, rfl, hx, c0, c1⟩ := hget m (by omega)
      have HX := Lib.hid hx
      clear hget hx
      have e0 : ∀ z : Ext wr.heap.size wr, z.world.cell? ⟨w.heap.size, 0, none⟩ = some (.int .i64 tu) := fun z => (z.below.cell (p := ⟨w.heap.size, 0, none⟩) hzr).trans t0
      have e1 : ∀ z : Ext wr.heap.size wr, z.world.cell? ⟨w.heap.size, 1, none⟩ = some (.int .i64 tv) := fun z => (z.below.cell (p := ⟨w.heap.size, 1, none⟩) hzr).trans t1
      have e2 : ∀ z : Ext wr.heap.size wr, z.world.cell? ⟨b, off + m * 2, none⟩ = some (.int .i64 x) := fun z => (z.below.cell (p := ⟨b, off + m * 2, none⟩) (cell_lt c0)).trans c0
      have e3 : ∀ z : Ext wr.heap.size wr, z.world.cell? ⟨b, off + m * 2 + 1, none⟩ = some (.int .i64 y) := fun z => (z.below.cell (p := ⟨b, off + m * 2 + 1, none⟩) (cell_lt c1)).trans c1
      have hml : m < es.length := by omega
      obtain ⟨D, hD⟩ : ∃ D, beforeB (x, y) (tu, tv) = D := ⟨_, rfl⟩
      have d1 : decide (orderS (x, y) (tu, tv) < 0) = D := by
        cases D with
        | true => simpa using order_neg _ _ hD
        | false => have := order_pos _ _ hD; simp; omega
      have HD := Lib.hid hD
      clear hD
      cases D
      all_goals
        go_wp2_with fail
        refine wp_region_ext wr.heap.size wr (by kernel_rfl) (by kernel_rfl) (Below.refl _ _) ?_
        try simp only [List.append_eq, List.cons_append, List.nil_append]
        repeat (go_big_quiet_step ((go_at_call 101; exact Calls.ext_of (Nat.le_refl _) (compare_any x y tu tv _))))
        refine wpQuiet_nil ?_
        rintro _ ⟨⟨wq, hq⟩, rfl⟩
        clear e0 e1 e2 e3
        go_wp2_with fail
        go_roundw
        case rel => first
          | exact ⟨i, m, rfl, rfl, hmb.1, by omega, HI.out.down hs HX.out HD.out, hb.trans (hq.mono hb.size)⟩
          | exact ⟨m + 1, j, by go_num, rfl, by omega, hjl, HI.out.up hs HX.out HD.out, hb.trans (hq.mono hb.size)⟩
        case measure => simp [intOf]; omega
    · obtain rfl : i = j := by omega
      by_cases hil : i < es.length
      · obtain ⟨b, off, x, y, rfl, hx, c0, c1⟩ := hget i hil
        have hD : Hid ((orderS (x, y) (tu, tv) == 0) = decide ((tu, tv) ∈ es)) := (show _ = _ by rw [Bool.eq_iff_iff, decide_eq_true_eq, HI.out.mem hs, hx, beq_iff_eq, order_zero, Option.some.injEq])
        clear hget hx
        have e0 : ∀ z : Ext wr.heap.size wr, z.world.cell? ⟨w.heap.size, 0, none⟩ = some (.int .i64 tu) := fun z => (z.below.cell (p := ⟨w.heap.size, 0, none⟩) hzr).trans t0
        have e1 : ∀ z : Ext wr.heap.size wr, z.world.cell? ⟨w.heap.size, 1, none⟩ = some (.int .i64 tv) := fun z => (z.below.cell (p := ⟨w.heap.size, 1, none⟩) hzr).trans t1
        have e2 : ∀ z : Ext wr.heap.size wr, z.world.cell? ⟨b, off + i * 2, none⟩ = some (.int .i64 x) := fun z => (z.below.cell (p := ⟨b, off + i * 2, none⟩) (cell_lt c0)).trans c0
        have e3 : ∀ z : Ext wr.heap.size wr, z.world.cell? ⟨b, off + i * 2 + 1, none⟩ = some (.int .i64 y) := fun z => (z.below.cell (p := ⟨b, off + i * 2 + 1, none⟩) (cell_lt c1)).trans c1
        have d2 : decide (i < es.length) = true := by simpa using hil
        have d3 : decide ((i : Int) < (es.length : Int)) = true := by simp; omega
        go_wp2_with fail
        refine wp_region_ext wr.heap.size wr (by kernel_rfl) (by kernel_rfl) (Below.refl _ _) ?_
        try simp only [List.append_eq, List.cons_append, List.nil_append]
        repeat (go_big_quiet_step ((go_at_call 101; exact Calls.ext_of (Nat.le_refl _) (compare_any x y tu tv _))))
        refine wpQuiet_nil ?_
        rintro _ ⟨⟨wq, hq⟩, rfl⟩
        clear e0 e1 e2 e3
        go_wp2_with fail
        go_ret2
        exact ⟨i, _, rfl, hjl, HI.out, hD.out, (hb1.trans (hb.mono hb1.size)).trans (hq.mono (Nat.le_trans hb1.size hb.size))⟩
      · have d2 : decide (i < es.length) = false := by simp; omega
        have d3 : decide ((i : Int) < (es.length : Int)) = false := by simp; omega
        clear hget
        go_wp2_with fail
        refine wp_region_ext wr.heap.size wr (by kernel_rfl) (by kernel_rfl) (Below.refl _ _) ?_
        try simp only [List.append_eq, List.cons_append, List.nil_append]
        repeat (go_big_quiet_step (fail))
        refine wpQuiet_nil ?_
        rintro _ ⟨⟨wq, hq⟩, rfl⟩
        go_wp2_with fail
        go_ret2
        exact ⟨i, _, rfl, hjl, HI.out, (by symm; rw [decide_eq_false_iff_not, HI.out.mem hs, List.getElem?_eq_none (by omega)]; simp), (hb1.trans (hb.mono hb1.size)).trans (hq.mono (Nat.le_trans hb1.size hb.size))⟩

theorem box_pair (w : World) (x y : Int) (T : TypeId) : (w.alloc (.cells #[.int .i64 x, .int .i64 y] T)).heap[w.heap.size]? = some (.cells #[.int .i64 x, .int .i64 y] T (0, 0)) ∧ Below w.heap.size w (w.alloc (.cells #[.int .i64 x, .int .i64 y] T)) := ⟨heap_alloc_new _ _, (Below.refl _ _).alloc (Nat.le_refl _) _⟩
theorem block_any (n : Int) (w : World) : Calls Try.prog 130 #[.int .i64 n] w fun e w' => e = .returned (.bool (decide (1 ≤ n) && decide (n ≤ 1024))) ∧ w = w' := by
  obtain ⟨B1, h1⟩ : ∃ B, decide (1 ≤ n) = B := ⟨_, rfl⟩
  obtain ⟨B2, h2⟩ : ∃ B, decide (n ≤ 1024) = B := ⟨_, rfl⟩
  rw [h1, h2]
  cases B1 <;> cases B2
  all_goals
    go_enter Try.func130, Try.ntmps130
    go_wp2
    go_ret
    exact ⟨rfl, rfl⟩
theorem record_any (x y : Int) (w : World) : Calls Try.prog 131 #[.agg #[.int .i64 x, .int .i64 y]] w fun e w' => e = .returned (.bool (recOk (x, y))) ∧ Below w.heap.size w w' := by
  have hb := (Below.refl w.heap.size w).alloc (Nat.le_refl _) (.cells #[.int .i64 x, .int .i64 y] 37)
  obtain ⟨B1, h1⟩ : ∃ B, decide (0 ≤ min x y) = B := ⟨_, rfl⟩
  obtain ⟨B2, h2⟩ : ∃ B, decide (max x y < 64) = B := ⟨_, rfl⟩
  obtain ⟨B3, h3⟩ : ∃ B, (x != y) = B := ⟨_, rfl⟩
  have hr : recOk (x, y) = (B1 && B2 && B3) := by
    rw [← h1, ← h2, ← h3, Bool.eq_iff_iff, recOk_iff]
    simp only [Bool.and_eq_true, decide_eq_true_eq, bne_iff_ne, ne_eq]
    omega
  rw [hr]
  clear hr
  cases B1 <;> cases B2 <;> cases B3
  all_goals
    go_enter Try.func131, Try.ntmps131
    go_wp2
    go_ret
    exact ⟨rfl, hb⟩
theorem chkRec_drop (p : Option E2) (es : List E2) (k : Nat) (e : E2) (hk : es[k]? = some e) :
    chkRec p (es.drop k) = if recOk e = false then 6 else if p.any (fun p => !beforeB p e) then 5 else chkRec (some e) (es.drop (k + 1)) := by
  obtain ⟨hlt, he⟩ := List.getElem?_eq_some_iff.1 hk
  rw [List.drop_eq_getElem_cons hlt, chkRec, he]
set_option maxRecDepth 100000 in
set_option maxHeartbeats 3200000 in
theorem rncheck_any (size : Int) (a : Option Addr) (cap : Nat) (rs : List E2) (w : World) (he : EdgesAt w (.slice a rs.length cap) rs) :
    Calls Try.prog 97 #[.agg #[.int .i64 size, .slice a rs.length cap]] w fun e w' => e = .returned (.int .i64 (chkR size rs)) ∧ Below w.heap.size w w' := by
  have hl : rs.length ≤ 70368744177664 := by obtain ⟨_, _, _, _, _, h, _⟩ := he; exact h
  have hb0 : Below w.heap.size w (w.alloc (.cells #[.int .i64 size, .slice a rs.length cap] 33)) := (Below.refl _ _).alloc (Nat.le_refl _) _
  have hG0 := heap_alloc_new w (.cells #[.int .i64 size, .slice a rs.length cap] 33)
  obtain ⟨wA, hwA⟩ : ∃ W : World, W = w.alloc (.cells #[.int .i64 size, .slice a rs.length cap] 33) := ⟨_, rfl⟩
  rw [← hwA] at hb0 hG0
  have HWA := Lib.hid hwA
  clear hwA
  have hblk := fun W => block_any size W
  unfold chkR
  obtain ⟨B, hB⟩ : ∃ B, (decide (1 ≤ size) && decide (size ≤ 1024)) = B := ⟨_, rfl⟩
  rw [hB] at hblk
  have g0 := cell_blk (j := 0) hG0
  have g1 := cell_blk (j := 1) hG0
  cases B
  · rw [if_pos (by simp only [Bool.and_eq_false_iff, decide_eq_false_iff_not] at hB; omega)]
    clear hB
    go_enter Try.func97, Try.ntmps97
    go_wp2_with (rw [← HWA.out])
    refine (hblk _).mono ?_
    rintro e w1 ⟨rfl, rfl⟩
    go_wp2_with fail
    go_ret
    exact ⟨rfl, hb0⟩
  rw [if_neg (by simp only [Bool.and_eq_true, decide_eq_true_eq] at hB; omega)]
  clear hB
  obtain ⟨C, hC⟩ : ∃ C, chkRec none rs = C := ⟨_, rfl⟩
  rw [hC]
  have HC := Lib.hid hC
  clear hC
  have he1 := he.below hb0
  go_enter Try.func97, Try.ntmps97
  go_wp2_with (rw [← HWA.out])
  refine (hblk _).mono ?_
  rintro e w1 ⟨rfl, rfl⟩
  go_wp2_with fail
  go_loopw [12] (fun i wr => ∃ k : Nat, k ≤ rs.length ∧ i = .int .i64 k ∧ Hid (chkRec (prevE rs k) (rs.drop k) = C) ∧ Below wA.heap.size wA wr) (fun i _ => rs.length - (intOf i).toNat)
  case atStart => exact ⟨0, Nat.zero_le _, rfl, (show _ = _ by rw [← HC.out]; rfl), Below.refl _ _⟩
  case round =>
    clear g0 g1
    obtain ⟨k, hk, rfl, HR, hb⟩ := hrel
    have hbw := hb0.trans (hb.mono hb0.size)
    have hGr := lit_next' hb hG0
    by_cases hlt : k < rs.length
    · have hlt3 : (k : Int) < rs.length := by omega
      have her := he1.below hb
      obtain ⟨b, off, x, y, ha, hxy, -, -, c0, c1⟩ := her.at k hlt
      have hcd := chkRec_drop (prevE rs k) rs k (x, y) hxy
      rw [HR.out] at hcd
      have HCD := Lib.hid hcd
      have HP : Hid (prevE rs (k + 1) = some (x, y)) := (show _ = _ by simp only [prevE]; rw [if_neg (by omega)]; simpa using hxy)
      have hrec := fun W => record_any x y W
      obtain ⟨hTT, hTb⟩ := box_pair wr x y 37
      obtain ⟨wX, hwX⟩ : ∃ W : World, W = wr.alloc (.cells #[.int .i64 x, .int .i64 y] 37) := ⟨_, rfl⟩
      obtain ⟨X, hX⟩ : ∃ X, wr.heap.size = X := ⟨_, rfl⟩
      rw [← hwX] at hTT hTb
      rw [hX] at hTT
      have HWX := Lib.hid hwX
      have HX := Lib.hid hX
      have hbX := hb.trans (hTb.mono hb.size)
      subst ha
      obtain ⟨RK, hRK⟩ : ∃ R, recOk (x, y) = R := ⟨_, rfl⟩
      rw [hRK] at hrec
      cases RK
      · have HF : Hid (C = 6) := (show _ = _ by rw [HCD.out, hRK]; rfl)
        have t0 := cell_blk (j := 0) hTT
        have t1 := cell_blk (j := 1) hTT
        clear hwX hX hcd hxy hRK
        go_upto_region 6 with fail
        rw [← HWX.out, HX.out]
        go_wp2_with fail
        refine (hrec _).mono ?_
        rintro e w2 ⟨rfl, hb2⟩
        go_wp2_with fail
        go_ret
        rw [HF.out]
        exact ⟨rfl, (hb0.trans (hbX.mono hb0.size)).trans (hb2.mono (by have := hb0.size; have := hbX.size; omega))⟩
      · have HF : Hid (C = if (prevE rs k).any (fun p => !beforeB p (x, y)) then 5 else chkRec (some (x, y)) (rs.drop (k + 1))) := (show _ = _ by rw [HCD.out, hRK]; rfl)
        have t0 := cell_blk (j := 0) hTT
        have t1 := cell_blk (j := 1) hTT
        clear hwX hX hcd hxy hRK
        go_upto_region 6 with fail
        rw [← HWX.out, HX.out]
        go_wp2_with fail
        refine (hrec _).mono ?_
        rintro e w2 ⟨rfl, hb2⟩
        have hb02 := hbX.trans (hb2.mono hbX.size)
        have hT2 := lit_next' hb2 hTT
        have hG2 := lit_next' hb02 hG0
        have he2 := he1.below hb02
        clear hrec t0 t1 hTT hbX hb2 hTb
        by_cases hk0 : k = 0
        · have HF2 : Hid (chkRec (prevE rs (k + 1)) (rs.drop (k + 1)) = C) := (show _ = _ by rw [HF.out, HP.out]; subst hk0; rfl)
          have p1 : decide (0 < (k : Int)) = false := by simp [hk0]
          have p2 : decide (0 < k) = false := by simp [hk0]
          clear hk0
          go_wp2_with fail
          refine wp_region_ext w2.heap.size w2 (by kernel_rfl) (by kernel_rfl) (Below.refl _ _) ?_
          try simp only [List.append_eq, List.cons_append, List.nil_append]
          repeat (go_big_quiet_step (fail))
          refine wpQuiet_nil ?_
          rintro _ ⟨⟨wq, hq⟩, rfl⟩
          go_wp2_with fail
          go_roundw
          case rel => exact ⟨k + 1, by omega, by go_num, HF2, hb02.trans (hq.mono hb02.size)⟩
          case measure => simp [intOf]; omega
        · have p1 : decide (0 < (k : Int)) = true := by simp; omega
          have p2 : decide (0 < k) = true := by simp; omega
          obtain ⟨b', off', px, py, hbo, hpe, -, -, d0, d1⟩ := he2.at (k - 1) (by omega)
          cases hbo
          have HPP : Hid (prevE rs k = some (px, py)) := (show _ = _ by simp only [prevE]; rw [if_neg hk0]; exact hpe)
          have e1 : IntKind.i64.wrap ((k : Int) - 1) = ((k - 1 : Nat) : Int) := by rw [IntWalk.i64_in _ (by omega)]; omega
          have e2 : ((k - 1 : Nat) : Int) < rs.length := by omega
          have hor := fun W => compare_any px py x y W
          obtain ⟨O, hO⟩ : ∃ O, orderS (px, py) (x, y) = O := ⟨_, rfl⟩
          rw [hO] at hor
          have hO1 : decide (0 ≤ O) = !beforeB (px, py) (x, y) := by
            cases hbb : beforeB (px, py) (x, y) with
            | true => have := order_neg _ _ hbb; rw [hO] at this; simp; omega
            | false => have := order_pos _ _ hbb; rw [hO] at this; simp; omega
          obtain ⟨BB, hBB⟩ : ∃ B, beforeB (px, py) (x, y) = B := ⟨_, rfl⟩
          rw [hBB] at hO1
          have HBB := Lib.hid hBB
          have hbd : Below w2.heap.size w2 w2.drew := (Below.refl _ _).drew
          have hSS : ∀ W : World, Below w2.heap.size w2 W → W.cell? ⟨X, 0, none⟩ = some (.int .i64 x) ∧ W.cell? ⟨X, 1, none⟩ = some (.int .i64 y) ∧ W.cell? ⟨w.heap.size, 0, none⟩ = some (.int .i64 size) ∧ W.cell? ⟨w.heap.size, 1, none⟩ = some (.slice (some ⟨b, off, none⟩) rs.length cap) ∧ W.cell? ⟨b, off + (k - 1) * 2, none⟩ = some (.int .i64 px) ∧ W.cell? ⟨b, off + (k - 1) * 2 + 1, none⟩ = some (.int .i64 py) := fun W h =>
            ⟨cell_blk (lit_next' h hT2), cell_blk (lit_next' h hT2), cell_blk (lit_next' h hG2), cell_blk (lit_next' h hG2), (h.cell (p := ⟨b, off + (k - 1) * 2, none⟩) (cell_lt d0)).trans d0, (h.cell (p := ⟨b, off + (k - 1) * 2 + 1, none⟩) (cell_lt d1)).trans d1⟩
          clear hO hpe hBB hk0 HR HCD
          cases BB
          · have HF2 : Hid (C = 5) := (show _ = _ by rw [HF.out, HPP.out]; simp [HBB.out])
            go_wp2_with fail
            go_region_held3 (fun w' => w'.cell? ⟨X, 0, none⟩ = some (.int .i64 x) ∧ w'.cell? ⟨X, 1, none⟩ = some (.int .i64 y) ∧ w'.cell? ⟨w.heap.size, 0, none⟩ = some (.int .i64 size) ∧ w'.cell? ⟨w.heap.size, 1, none⟩ = some (.slice (some ⟨b, off, none⟩) rs.length cap) ∧ w'.cell? ⟨b, off + (k - 1) * 2, none⟩ = some (.int .i64 px) ∧ w'.cell? ⟨b, off + (k - 1) * 2 + 1, none⟩ = some (.int .i64 py))
              (first | with_reducible exact hSS _ hbd | with_reducible exact hSS _ hb3)
              (first | (go_at_call 101; (with_reducible refine (hor _).mono ?_); rintro e w3 ⟨rfl, hb3'⟩; have hb3 := hbd.trans (hb3'.mono hbd.size)))
            go_wp2_with fail
            go_ret
            rw [HF2.out]
            exact ⟨rfl, (hb0.trans (hb02.mono hb0.size)).trans (hb3.mono (by have := hb0.size; have := hb02.size; omega))⟩
          · have HF2 : Hid (chkRec (prevE rs (k + 1)) (rs.drop (k + 1)) = C) := (show _ = _ by rw [HF.out, HP.out, HPP.out]; simp [HBB.out])
            go_wp2_with fail
            go_region_held3 (fun w' => w'.cell? ⟨X, 0, none⟩ = some (.int .i64 x) ∧ w'.cell? ⟨X, 1, none⟩ = some (.int .i64 y) ∧ w'.cell? ⟨w.heap.size, 0, none⟩ = some (.int .i64 size) ∧ w'.cell? ⟨w.heap.size, 1, none⟩ = some (.slice (some ⟨b, off, none⟩) rs.length cap) ∧ w'.cell? ⟨b, off + (k - 1) * 2, none⟩ = some (.int .i64 px) ∧ w'.cell? ⟨b, off + (k - 1) * 2 + 1, none⟩ = some (.int .i64 py))
              (first | with_reducible exact hSS _ hbd | with_reducible exact hSS _ hb3)
              (first | (go_at_call 101; (with_reducible refine (hor _).mono ?_); rintro e w3 ⟨rfl, hb3'⟩; have hb3 := hbd.trans (hb3'.mono hbd.size)))
            go_wp2_with fail
            go_roundw
            case rel => exact ⟨k + 1, by omega, by go_num, HF2, hb02.trans (hb3.mono hb02.size)⟩
            case measure => simp [intOf]; omega
    · have HF : Hid (C = 0) := (show _ = _ by rw [← HR.out, show k = rs.length by omega, List.drop_length]; rfl)
      go_wp2_with fail
      go_ret
      rw [HF.out]
      exact ⟨rfl, hbw⟩
end Go.Proofs.Ytdkmdcdoiaelfaa
