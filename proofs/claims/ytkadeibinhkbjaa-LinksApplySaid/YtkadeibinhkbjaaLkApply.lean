/- The contracts of applying an event, and events. -/
import Derived.Test.YtkadeibinhkbjaaLkStep
import Derived.Test.YtkadeibinhkbjaaAppAt
namespace Go.Proofs.Ytkadeibinhkbjaa
open Go.RowKit Go.BigFrame

theorem VSt.valid {n : Int} {ls : List Lk} (h : VSt n ls) : Valid n (ls.map fun l => (l.u, l.v)) := by
  refine ⟨h.1, h.2.1, fun e he => ?_, ?_⟩
  · obtain ⟨l, hl, rfl⟩ := List.mem_map.1 he
    have := h.2.2.1 l hl
    exact ⟨this.1, this.2.1, this.2.2.1⟩
  · rw [List.pairwise_map]
    exact h.2.2.2
theorem VSt.length_le {n : Int} {ls : List Lk} (h : VSt n ls) : ls.length ≤ 4096 := by
  have := h.valid.length_le
  rw [List.length_map] at this
  exact this
theorem setL_len (x : Lk) : ∀ ls : List Lk, (setL x ls).length ≤ ls.length + 1 := by
  intro ls
  induction ls with
  | nil => simp [setL]
  | cons l ls ih =>
    unfold setL
    split
    · simp
    · split
      · simp
      · simp only [List.length_cons]; omega
theorem stepL_len (e : Ev) (ls : List Lk) : (stepL e ls).length ≤ ls.length + 1 := by
  unfold stepL
  split
  · exact setL_len _ _
  · exact Nat.le_succ_of_le (List.length_filter_le _ _)
def AppPost (w : World) (r : (Int × List Lk) × List Ev × Int) (e : Ending) (w' : World) : Prop :=
  ∃ a1 c1 a2 c2, e = .returned (.tuple #[.agg #[.int .i64 r.1.1, .slice a1 r.1.2.length c1], .slice a2 r.2.1.length c2, .int .i64 r.2.2]) ∧ RowAt encLk w' (.slice a1 r.1.2.length c1) r.1.2 ∧ RowAt encEv w' (.slice a2 r.2.1.length c2) r.2.1 ∧ (∀ p, a1 = some p → w.heap.size ≤ p.block) ∧ (∀ p, a2 = some p → w.heap.size ≤ p.block) ∧ Below w.heap.size w w'
set_option maxRecDepth 100000 in
set_option maxHeartbeats 3200000 in
theorem lapply_any (n : Int) (e : Ev) (ls : List Lk) (a : Option Addr) (cap : Nat) (w : World) (hl : RowAt encLk w (.slice a ls.length cap) ls) :
    Calls Try.prog 15 #[.agg #[.int .i64 n, .slice a ls.length cap], .agg e.cells] w (AppPost w (appX n ls e)) := by
  have hW := StW.start w n (.slice a ls.length cap) e
  have hck := fun W h => lcheck_any n a cap ls W h
  have hft := fun W => lfits_any n e W
  have hstp := fun W h hs hln => lstep_any n e ls a cap W h hs hln
  have hl0 := hl.below hW.be
  have hzw := hW.be.size
  unfold AppPost appX
  have hLn := stepL_len e ls
  obtain ⟨L, hL⟩ : ∃ L, stepL e ls = L := ⟨_, rfl⟩
  rw [hL] at hLn
  obtain ⟨C, hC⟩ : ∃ L, stepC e ls = L := ⟨_, rfl⟩
  obtain ⟨F, hF⟩ : ∃ L, fitS n e = L := ⟨_, rfl⟩
  rw [hL, hC] at hstp
  rw [hF] at hft
  rw [hL, hC, hF]
  clear hL hC hF
  obtain ⟨k, t, u, v, wt, lb, sg⟩ := e
  have hee : (⟨k, t, u, v, wt, lb, sg⟩ : Ev).cells = #[.int .i64 k, .int .i64 t, .int .i64 u, .int .i64 v, .int .i64 wt, .int .i64 lb, .int .i64 sg] := rfl
  rw [hee] at hft hstp hW hl0 hzw ⊢
  have hW2 := hW
  by_cases hS : stS n ls = 0
  case neg =>
    rw [if_pos hS]
    obtain ⟨Z, hZ⟩ : ∃ Z, stS n ls = Z := ⟨_, rfl⟩
    rw [hZ] at hck hS ⊢
    have d1 : (Z == 0) = false := by simpa using hS
    have d2 : (Z != 0) = true := by simpa using hS
    have s0 := cell_blk (j := 0) hW.s
    have s1 := cell_blk (j := 1) hW.s
    have hck2 := hck _ hl0
    clear hft hstp hS hZ hck
    dsimp only
    go_enter Try.func15, Try.ntmps15
    go_wp2_with fail
    refine hck2.mono ?_
    rintro _ w1 ⟨rfl, hb1⟩
    have hW1 := hW.next hb1
    have r0 := cell_blk (j := 0) hW1.r
    have r1 := cell_blk (j := 1) hW1.r
    have g0 := free_blk (j := 0) hW1.r
    have g1 := free_blk (j := 1) hW1.r
    go_wp2_with fail
    have hfin := set_two (u := .int .i64 0) (v := .slice none 0 0) hW1.r
    have t0 := cell_blk (j := 0) hfin
    have t1 := cell_blk (j := 1) hfin
    exact bodyPost_ret (v := .tuple #[.agg #[.int .i64 0, .slice none 0 0], .slice none 0 0, .int .i64 Z]) (by simp [results, Try.results15, go_sem, t0, t1]) rfl ⟨none, 0, none, 0, rfl, RowAt.nil _, RowAt.nil _, (fun p h => by cases h), (fun p h => by cases h), hW1.be.grown (grown_trans grown_lk grown_lk) hW1.be.size (fun k e => by cases e; omega)⟩
  rw [if_neg (by rw [hS]; simp)]
  have hv := (stS_iff n ls).1 hS
  have hln := hv.length_le
  rw [hS] at hck
  by_cases hF0 : F = 0
  case neg =>
    rw [if_pos hF0]
    have d1 : (F == 0) = false := by simpa using hF0
    have d2 : (F != 0) = true := by simpa using hF0
    have s0 := cell_blk (j := 0) hW.s
    have s1 := cell_blk (j := 1) hW.s
    have hck2 := hck _ hl0
    clear hstp hck hF0 hS
    dsimp only
    go_enter Try.func15, Try.ntmps15
    go_wp2_with fail
    refine hck2.mono ?_
    rintro _ w1 ⟨rfl, hb1⟩
    have hW1 := hW.next hb1
    have z0 := cell_blk (j := 0) hW1.s
    have hev : EvBlk _ _ _ := hW1.e
    unfold EvBlk at hev
    rw [hee] at hev
    obtain ⟨e0, e1, e2, e3, e4, e5, e6⟩ := lk_cells7 hev
    go_wp2_with fail
    refine (hft _).mono ?_
    rintro _ w2 ⟨rfl, hb2⟩
    have hW2 := hW1.next hb2
    have r0 := cell_blk (j := 0) hW2.r
    have r1 := cell_blk (j := 1) hW2.r
    have g0 := free_blk (j := 0) hW2.r
    have g1 := free_blk (j := 1) hW2.r
    go_wp2_with fail
    have hfin := set_two (u := .int .i64 0) (v := .slice none 0 0) hW2.r
    have t0 := cell_blk (j := 0) hfin
    have t1 := cell_blk (j := 1) hfin
    exact bodyPost_ret (v := .tuple #[.agg #[.int .i64 0, .slice none 0 0], .slice none 0 0, .int .i64 F]) (by simp [results, Try.results15, go_sem, t0, t1]) rfl ⟨none, 0, none, 0, rfl, RowAt.nil _, RowAt.nil _, (fun p h => by cases h), (fun p h => by cases h), hW2.be.grown (grown_trans grown_lk grown_lk) hW2.be.size (fun k e => by cases e; omega)⟩
  rw [if_neg (by rw [hF0]; simp)]
  subst hF0
  have s0 := cell_blk (j := 0) hW.s
  have s1 := cell_blk (j := 1) hW.s
  have hck2 := hck _ hl0
  have hstp2 := fun W h => hstp W h hv.2.2.2 hln
  clear hck hS hstp hv
  dsimp only
  go_enter Try.func15, Try.ntmps15
  go_wp2_with fail
  refine hck2.mono ?_
  rintro _ w1 ⟨rfl, hb1⟩
  have hW1 := hW.next hb1
  have hl1 := hl0.below hb1
  have hev : EvBlk _ _ _ := hW1.e
  unfold EvBlk at hev
  rw [hee] at hev
  obtain ⟨e0, e1, e2, e3, e4, e5, e6⟩ := lk_cells7 hev
  clear s0 s1 hl hl0 hck2 hb1 hev
  have s0 := cell_blk (j := 0) hW1.s
  go_wp2_with fail
  refine (hft _).mono ?_
  rintro _ w2 ⟨rfl, hb2⟩
  have hW2 := hW1.next hb2
  have hl2 := hl1.below hb2
  have hev : EvBlk _ _ _ := hW2.e
  unfold EvBlk at hev
  rw [hee] at hev
  clear s0 e0 e1 e2 e3 e4 e5 e6 hl1 hft hb2
  obtain ⟨e0, e1, e2, e3, e4, e5, e6⟩ := lk_cells7 hev
  have s0 := cell_blk (j := 0) hW2.s
  have s1 := cell_blk (j := 1) hW2.s
  have hst := hstp2 _ hl2
  unfold StepPost at hst
  clear hstp2 hl2 hev
  go_wp2_with fail
  refine hst.mono ?_
  rintro _ w3 ⟨a1, c1, a2, c2, rfl, hr1, hr2, hn1, hn2, hb3⟩
  have hW3 := hW2.next hb3
  have hoC : ∀ p, a2 = some p → 0 < C.length → p.block < w3.heap.size := fun p hp h0 => by
    obtain ⟨b, off, x, ha, _, _, c0, _⟩ := ev_at hr2 0 h0
    rw [hp] at ha
    cases ha
    exact cell_lt c0
  have hbn := (Below.refl w3.heap.size w3).alloc (Nat.le_refl _) (.cells #[.int .i64 n, .slice a1 L.length c1] 24)
  have hX4 := heap_alloc_new w3 (.cells #[.int .i64 n, .slice a1 L.length c1] 24)
  have hW4 := hW3.next hbn
  have hr14 := hr1.below hbn
  have hr24 := hr2.below hbn
  have x1 := cell_blk (j := 1) hX4
  have hz2 := hW2.be.size
  have hz2r := blk_lt hW2.r
  have hz3 := hb3.size
  clear hW hW2 hW1 s0 s1 e0 e1 e2 e3 e4 e5 e6 hst hr1 hr2 hb3 hn1
  go_wp2_with fail
  refine (lkclone_any _ L _ hr14 (by omega)).mono ?_
  rintro _ w5 ⟨x6, rfl, hown6, hb5⟩
  obtain ⟨a5, c5, hx6⟩ := owns_shape hown6
  subst hx6
  obtain ⟨_, _, hv', hr5, hp5⟩ := RowAt.of_owns hown6 (by omega)
  obtain ⟨rfl, -, rfl⟩ := Value.slice.inj hv'
  have hW5 := hW4.next hb5
  have hX5 := lk_next hb5 hX4
  have hr25 := hr24.below hb5
  have hz4 : w3.heap.size + 1 ≤ w5.heap.size := blk_lt hX5
  obtain ⟨X, hXX⟩ : ∃ X, w3.heap.size = X := ⟨_, rfl⟩
  rw [hXX] at hX5
  have y0 := cell_blk (j := 0) hX5
  have y1 := cell_blk (j := 1) hX5
  have yf := free_blk (j := 1) hX5
  have r0 := cell_blk (j := 0) hW5.r
  have r1 := cell_blk (j := 1) hW5.r
  have g0 := free_blk (j := 0) hW5.r
  have g1 := free_blk (j := 1) hW5.r
  have hRX : w.heap.size + 2 < X := by have := blk_lt hW3.r; omega
  have hR6 := (Below.heap_setCell w5 ⟨X, 1, none⟩ (.slice a5 L.length c5) (w.heap.size + 2) (by show w.heap.size + 2 ≠ X; omega)).trans hW5.r
  have HR := Lib.hid hR6
  have hbe5 := hW5.be
  have hsz : (w3.alloc (.cells #[.int .i64 n, .slice a1 L.length c1] 24)).heap.size = w3.heap.size + 1 := by simp
  have hp5' : ∀ p, a5 = some p → X < p.block := fun p hp => by have h1 := hp5 p hp; omega
  have hzl3 : w.heap.size + 3 ≤ w3.heap.size := blk_lt hW3.r
  clear hbn hX4 hr14 hr24 x1 hown6 hv' hb5 hR6 hp5 hsz
  go_wp2_with fail
  have hfin := set_two (u := .int .i64 n) (v := .slice a5 L.length c5) HR.out
  have t0 := cell_blk (j := 0) hfin
  have t1 := cell_blk (j := 1) hfin
  have hg1 : w5.grownBy (w5.setCell ⟨X, 1, none⟩ (.slice a5 L.length c5)) (some X) := grown_lk
  have hg2 : (w5.setCell ⟨X, 1, none⟩ (.slice a5 L.length c5)).grownBy (((w5.setCell ⟨X, 1, none⟩ (.slice a5 L.length c5)).setCell ⟨w.heap.size + 2, 0, none⟩ (.int .i64 n)).setCell ⟨w.heap.size + 2, 1, none⟩ (.slice a5 L.length c5)) (some (w.heap.size + 2)) := grown_trans grown_lk grown_lk
  have hoff2 : ∀ p, a2 = some p → p.block ≠ w.heap.size + 2 ∧ w.heap.size ≤ p.block ∧ (0 < C.length → p.block ≠ X) := fun p hp => by
    have h1 := hn2 p hp
    refine ⟨by omega, by omega, fun h0 => ?_⟩
    have := hoC p hp h0
    omega
  exact bodyPost_ret (v := .tuple #[.agg #[.int .i64 n, .slice a5 L.length c5], .slice a2 C.length c2, .int .i64 0]) (by simp [results, Try.results15, go_sem, t0, t1]) rfl ⟨a5, c5, a2, c2, rfl, (hr5.grown hg1 (fun g e n c p hp => by cases e; have := hp5' p (Value.slice.inj hp).1; omega)).grown hg2 (fun g e n c p hp => by cases e; have := hp5' p (Value.slice.inj hp).1; omega), (hr25.grown' hg1 (fun g e h0 n c p hp => by cases e; exact (hoff2 p (Value.slice.inj hp).1).2.2 h0)).grown hg2 (fun g e n c p hp => by cases e; exact (hoff2 p (Value.slice.inj hp).1).1), (fun p hp => by have := hp5' p hp; omega), (fun p hp => (hoff2 p hp).2.1), (hbe5.grown hg1 hbe5.size (fun k e => by cases e; omega)).grown hg2 (by have := hbe5.size; simpa using this) (fun k e => by cases e; omega)⟩
end Go.Proofs.Ytkadeibinhkbjaa
