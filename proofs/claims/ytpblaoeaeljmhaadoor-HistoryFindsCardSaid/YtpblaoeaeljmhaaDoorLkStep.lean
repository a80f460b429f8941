/- The contract of a step: a valid state behind an event. -/
import Derived.Test.YtpblaoeaeljmhaaDoorLkCut
namespace Go.Proofs.YtpblaoeaeljmhaaDoor
open Go.RowKit Go.BigFrame

def StepPost (w : World) (a : Option Addr) (m : Nat) (n : Int) (ls' : List Lk) (ch : List Ev) (e : Ending) (w' : World) : Prop :=
  ∃ a1 c1 a2 c2, e = .returned (.tuple #[.agg #[.int .i64 n, .slice a1 ls'.length c1], .slice a2 ch.length c2]) ∧ RowAt encLk w' (.slice a1 ls'.length c1) ls' ∧ RowAt encEv w' (.slice a2 ch.length c2) ch ∧ (∀ p, a1 = some p → w.heap.size ≤ p.block ∨ (a = some p ∧ p.block < w.heap.size ∧ 0 < m)) ∧ (∀ p, a2 = some p → w.heap.size ≤ p.block) ∧ Below w.heap.size w w'
theorem stepL_cut (e : Ev) (ls : List Lk) (h : e.kind ≠ 1) : stepL e ls = keepL e ls ∧ stepC e ls = goneC e ls := by
  unfold stepL stepC keepL goneC
  rw [if_neg h, if_neg h]
  exact ⟨rfl, rfl⟩
/-- the boxes of a step -/
structure StW (w wr : World) (n : Int) (v : Value) (e : Ev) : Prop where
  s : wr.heap[w.heap.size]? = some (.cells #[.int .i64 n, v] 53 (0, 0))
  e : EvBlk wr (w.heap.size + 1) e
  r : wr.heap[w.heap.size + 2]? = some (.cells #[.int .i64 0, .slice none 0 0] 53 (0, 0))
  be : Below w.heap.size w wr
theorem StW.next {w wr w' : World} {n : Int} {v : Value} {e : Ev} (h : StW w wr n v e) (hb : Below wr.heap.size wr w') : StW w w' n v e :=
  ⟨lk_next hb h.s, h.e.next hb, lk_next hb h.r, h.be.trans (hb.mono h.be.size)⟩
theorem StW.start (w : World) (n : Int) (v : Value) (e : Ev) : StW w (((w.alloc (.cells #[.int .i64 n, v] 53)).alloc (.cells e.cells 41)).alloc (.cells #[.int .i64 0, .slice none 0 0] 53)) n v e := by
  have hb1 := (Below.refl w.heap.size w).alloc (Nat.le_refl _) (.cells #[.int .i64 n, v] 53)
  have hb2 := (Below.refl _ (w.alloc (.cells #[.int .i64 n, v] 53))).alloc (Nat.le_refl _) (.cells e.cells 41)
  have hb3 := (Below.refl _ ((w.alloc (.cells #[.int .i64 n, v] 53)).alloc (.cells e.cells 41))).alloc (Nat.le_refl _) (.cells #[.int .i64 0, .slice none 0 0] 53)
  have hz1 : (w.alloc (.cells #[.int .i64 n, v] 53)).heap.size = w.heap.size + 1 := by simp
  have hz2 : ((w.alloc (.cells #[.int .i64 n, v] 53)).alloc (.cells e.cells 41)).heap.size = w.heap.size + 2 := by simp
  have h1 := heap_alloc_new w (.cells #[.int .i64 n, v] 53)
  have h2 := heap_alloc_new (w.alloc (.cells #[.int .i64 n, v] 53)) (.cells e.cells 41)
  have h3 := heap_alloc_new ((w.alloc (.cells #[.int .i64 n, v] 53)).alloc (.cells e.cells 41)) (.cells #[.int .i64 0, .slice none 0 0] 53)
  rw [hz1] at h2
  rw [hz2] at h3
  exact ⟨lk_next hb3 (lk_next hb2 h1), lk_next hb3 h2, h3, (hb1.trans (hb2.mono hb1.size)).trans (hb3.mono (by omega))⟩
set_option maxRecDepth 100000 in
set_option maxHeartbeats 3200000 in
theorem lstep_any (n : Int) (e : Ev) (ls : List Lk) (a : Option Addr) (cap : Nat) (w : World) (hl : RowAt encLk w (.slice a ls.length cap) ls) (hs : ls.Pairwise fun a b => lkB a b = true) (hln : ls.length ≤ 4096) :
    Calls Tryd.prog 34 #[.agg #[.int .i64 n, .slice a ls.length cap], .agg e.cells] w (StepPost w a ls.length n (stepL e ls) (stepC e ls)) := by
  have hW := StW.start w n (.slice a ls.length cap) e
  have hset := fun W h hk => lset_any e ls a cap W h hs hln hk
  have hc1 := fun E W h hE hk => lcut1_any e ls a cap E W h hE hk hln
  have hc2 := fun E W h hE hk => lcut2_any e ls a cap E W h hE hk hln
  have hcut := stepL_cut e ls
  obtain ⟨L, hL⟩ : ∃ L, stepL e ls = L := ⟨_, rfl⟩
  obtain ⟨C, hC⟩ : ∃ L, stepC e ls = L := ⟨_, rfl⟩
  rw [hL, hC] at hset hcut ⊢
  clear hL hC
  unfold SetPost at hset
  unfold CutPost at hc1 hc2
  obtain ⟨k, t, u, v, wt, lb, sg⟩ := e
  have hee : (⟨k, t, u, v, wt, lb, sg⟩ : Ev).cells = #[.int .i64 k, .int .i64 t, .int .i64 u, .int .i64 v, .int .i64 wt, .int .i64 lb, .int .i64 sg] := rfl
  rw [hee] at hset hW ⊢
  dsimp only at hset hc1 hc2 hcut
  have hl0 := hl.below hW.be
  by_cases hk1 : k = 1
  · subst hk1
    have hst := hset _ hl0 rfl
    obtain ⟨E, hEE⟩ : ∃ E : Ev, (⟨1, t, u, v, wt, lb, sg⟩ : Ev) = E := ⟨_, rfl⟩
    rw [hEE] at hW
    have HEE := Lib.hid hEE
    have hev : EvBlk _ _ _ := hW.e
    unfold EvBlk at hev
    rw [← hEE] at hev
    unfold Ev.cells at hev
    dsimp only at hev
    obtain ⟨e0, e1, e2, e3, e4, e5, e6⟩ := lk_cells7 hev
    have s0 := cell_blk (j := 0) hW.s
    have s1 := cell_blk (j := 1) hW.s
    have hal : ∀ p, a = some p → ls.length = 0 ∨ p.block < w.heap.size := fun p hp => by
      by_cases h0 : ls.length = 0
      · exact .inl h0
      · right
        obtain ⟨b, off, x, ha, _, _, c0, _⟩ := lk_at hl 0 (by omega)
        rw [hp] at ha
        cases ha
        exact cell_lt c0
    clear hset hc1 hc2 hcut hl hs hev hee hEE
    go_enter Tryd.func34, Tryd.ntmps34
    go_wp2_with fail
    refine hst.mono ?_
    rintro _ w4 ⟨a1, c1, a2, c2, rfl, hr1, hr2, hn1, hn2, hb4⟩
    have hW4 := hW.next hb4
    have s0 := cell_blk (j := 0) hW4.s
    have s1 := cell_blk (j := 1) hW4.s
    have f1 := free_blk (j := 1) hW4.s
    have r0 := cell_blk (j := 0) hW4.r
    have r1 := cell_blk (j := 1) hW4.r
    have g0 := free_blk (j := 0) hW4.r
    have g1 := free_blk (j := 1) hW4.r
    have hz := hW.be.size
    have hRl := blk_lt hW.r
    have hbe4 := hW4.be
    have hR4 := (Below.heap_setCell w4 ⟨w.heap.size, 1, none⟩ (.slice a1 L.length c1) (w.heap.size + 2) (by show w.heap.size + 2 ≠ w.heap.size; omega)).trans hW4.r
    have HR := Lib.hid hR4
    clear hb4 hW hR4
    go_wp2_with fail
    have hfin := set_two (u := .int .i64 n) (v := .slice a1 L.length c1) HR.out
    have t0 := cell_blk (j := 0) hfin
    have t1 := cell_blk (j := 1) hfin
    have hg1 : w4.grownBy (w4.setCell ⟨w.heap.size, 1, none⟩ (.slice a1 L.length c1)) (some w.heap.size) := grown_lk
    have hg2 : (w4.setCell ⟨w.heap.size, 1, none⟩ (.slice a1 L.length c1)).grownBy (((w4.setCell ⟨w.heap.size, 1, none⟩ (.slice a1 L.length c1)).setCell ⟨w.heap.size + 2, 0, none⟩ (.int .i64 n)).setCell ⟨w.heap.size + 2, 1, none⟩ (.slice a1 L.length c1)) (some (w.heap.size + 2)) := grown_trans grown_lk grown_lk
    have hoff1 : ∀ p, a1 = some p → p.block ≠ w.heap.size ∧ p.block ≠ w.heap.size + 2 := fun p hp => by
      rcases hn1 p hp with h | ⟨h, h0⟩
      · omega
      · have := hal p h; omega
    have hoff2 : ∀ p, a2 = some p → p.block ≠ w.heap.size ∧ p.block ≠ w.heap.size + 2 := fun p hp => by have := hn2 p hp; omega
    exact bodyPost_ret (v := .tuple #[.agg #[.int .i64 n, .slice a1 L.length c1], .slice a2 C.length c2]) (by simp [results, Tryd.results34, go_sem, t0, t1]) rfl ⟨a1, c1, a2, c2, rfl, (hr1.grown hg1 (fun g e n c p hp => by cases e; exact (hoff1 p (Value.slice.inj hp).1).1)).grown hg2 (fun g e n c p hp => by cases e; exact (hoff1 p (Value.slice.inj hp).1).2), (hr2.grown hg1 (fun g e n c p hp => by cases e; exact (hoff2 p (Value.slice.inj hp).1).1)).grown hg2 (fun g e n c p hp => by cases e; exact (hoff2 p (Value.slice.inj hp).1).2), fun p hp => by
      rcases hn1 p hp with h | ⟨h, h0⟩
      · left; omega
      · exact .inr ⟨h, by have := hal p h; omega, h0⟩, fun p hp => by have := hn2 p hp; omega, (hbe4.grown hg1 hbe4.size (fun k e => by cases e; exact Nat.le_refl _)).grown hg2 (by have := hbe4.size; simpa using this) (fun k e => by cases e; omega)⟩
  · have hst0 := hcut hk1
    have d1 : (k == 1) = false := by simpa using hk1
    obtain ⟨hL1, hC1⟩ := hst0
    rw [← hL1, ← hC1] at hc1 hc2
    by_cases hk2 : k = 2
    · have d2 : (k == 2) = true := by simp [hk2]
      have hst := hc1 (w.heap.size + 1) _ hl0 hW.e hk2
      obtain ⟨E, hEE⟩ : ∃ E : Ev, (⟨k, t, u, v, wt, lb, sg⟩ : Ev) = E := ⟨_, rfl⟩
      have hev : EvBlk _ _ _ := hW.e
      unfold EvBlk Ev.cells at hev
      dsimp only at hev
      obtain ⟨e0, e1, e2, e3, e4, e5, e6⟩ := lk_cells7 hev
      have s0 := cell_blk (j := 0) hW.s
      have s1 := cell_blk (j := 1) hW.s
      clear hset hc1 hc2 hcut hl hs hev hee hEE hk1 hk2 hL1 hC1
      go_enter Tryd.func34, Tryd.ntmps34
      go_wp2_with fail
      refine hst.mono ?_
      rintro _ w4 ⟨a1, c1, a2, c2, rfl, hr1, hr2, hn1, hn2, hb4⟩
      have hW4 := hW.next hb4
      have s0 := cell_blk (j := 0) hW4.s
      have s1 := cell_blk (j := 1) hW4.s
      have f1 := free_blk (j := 1) hW4.s
      have r0 := cell_blk (j := 0) hW4.r
      have r1 := cell_blk (j := 1) hW4.r
      have g0 := free_blk (j := 0) hW4.r
      have g1 := free_blk (j := 1) hW4.r
      have hz := hW.be.size
      have hRl := blk_lt hW.r
      have hbe4 := hW4.be
      have hR4 := (Below.heap_setCell w4 ⟨w.heap.size, 1, none⟩ (.slice a1 L.length c1) (w.heap.size + 2) (by show w.heap.size + 2 ≠ w.heap.size; omega)).trans hW4.r
      have HR := Lib.hid hR4
      clear hb4 hW hR4
      go_wp2_with fail
      have hfin := set_two (u := .int .i64 n) (v := .slice a1 L.length c1) HR.out
      have t0 := cell_blk (j := 0) hfin
      have t1 := cell_blk (j := 1) hfin
      have hg1 : w4.grownBy (w4.setCell ⟨w.heap.size, 1, none⟩ (.slice a1 L.length c1)) (some w.heap.size) := grown_lk
      have hg2 : (w4.setCell ⟨w.heap.size, 1, none⟩ (.slice a1 L.length c1)).grownBy (((w4.setCell ⟨w.heap.size, 1, none⟩ (.slice a1 L.length c1)).setCell ⟨w.heap.size + 2, 0, none⟩ (.int .i64 n)).setCell ⟨w.heap.size + 2, 1, none⟩ (.slice a1 L.length c1)) (some (w.heap.size + 2)) := grown_trans grown_lk grown_lk
      have hoff1 : ∀ p, a1 = some p → p.block ≠ w.heap.size ∧ p.block ≠ w.heap.size + 2 := fun p hp => by
        have := hn1 p hp; omega
      have hoff2 : ∀ p, a2 = some p → p.block ≠ w.heap.size ∧ p.block ≠ w.heap.size + 2 := fun p hp => by have := hn2 p hp; omega
      exact bodyPost_ret (v := .tuple #[.agg #[.int .i64 n, .slice a1 L.length c1], .slice a2 C.length c2]) (by simp [results, Tryd.results34, go_sem, t0, t1]) rfl ⟨a1, c1, a2, c2, rfl, (hr1.grown hg1 (fun g e n c p hp => by cases e; exact (hoff1 p (Value.slice.inj hp).1).1)).grown hg2 (fun g e n c p hp => by cases e; exact (hoff1 p (Value.slice.inj hp).1).2), (hr2.grown hg1 (fun g e n c p hp => by cases e; exact (hoff2 p (Value.slice.inj hp).1).1)).grown hg2 (fun g e n c p hp => by cases e; exact (hoff2 p (Value.slice.inj hp).1).2), fun p hp => .inl (by have := hn1 p hp; omega), fun p hp => by have := hn2 p hp; omega, (hbe4.grown hg1 hbe4.size (fun k e => by cases e; exact Nat.le_refl _)).grown hg2 (by have := hbe4.size; simpa using this) (fun k e => by cases e; omega)⟩
    · have d2 : (k == 2) = false := by simpa using hk2
      have hst := hc2 (w.heap.size + 1) _ hl0 hW.e hk2
      obtain ⟨E, hEE⟩ : ∃ E : Ev, (⟨k, t, u, v, wt, lb, sg⟩ : Ev) = E := ⟨_, rfl⟩
      have hev : EvBlk _ _ _ := hW.e
      unfold EvBlk Ev.cells at hev
      dsimp only at hev
      obtain ⟨e0, e1, e2, e3, e4, e5, e6⟩ := lk_cells7 hev
      have s0 := cell_blk (j := 0) hW.s
      have s1 := cell_blk (j := 1) hW.s
      clear hset hc1 hc2 hcut hl hs hev hee hEE hk1 hk2 hL1 hC1
      go_enter Tryd.func34, Tryd.ntmps34
      go_wp2_with fail
      refine hst.mono ?_
      rintro _ w4 ⟨a1, c1, a2, c2, rfl, hr1, hr2, hn1, hn2, hb4⟩
      have hW4 := hW.next hb4
      have s0 := cell_blk (j := 0) hW4.s
      have s1 := cell_blk (j := 1) hW4.s
      have f1 := free_blk (j := 1) hW4.s
      have r0 := cell_blk (j := 0) hW4.r
      have r1 := cell_blk (j := 1) hW4.r
      have g0 := free_blk (j := 0) hW4.r
      have g1 := free_blk (j := 1) hW4.r
      have hz := hW.be.size
      have hRl := blk_lt hW.r
      have hbe4 := hW4.be
      have hR4 := (Below.heap_setCell w4 ⟨w.heap.size, 1, none⟩ (.slice a1 L.length c1) (w.heap.size + 2) (by show w.heap.size + 2 ≠ w.heap.size; omega)).trans hW4.r
      have HR := Lib.hid hR4
      clear hb4 hW hR4
      go_wp2_with fail
      have hfin := set_two (u := .int .i64 n) (v := .slice a1 L.length c1) HR.out
      have t0 := cell_blk (j := 0) hfin
      have t1 := cell_blk (j := 1) hfin
      have hg1 : w4.grownBy (w4.setCell ⟨w.heap.size, 1, none⟩ (.slice a1 L.length c1)) (some w.heap.size) := grown_lk
      have hg2 : (w4.setCell ⟨w.heap.size, 1, none⟩ (.slice a1 L.length c1)).grownBy (((w4.setCell ⟨w.heap.size, 1, none⟩ (.slice a1 L.length c1)).setCell ⟨w.heap.size + 2, 0, none⟩ (.int .i64 n)).setCell ⟨w.heap.size + 2, 1, none⟩ (.slice a1 L.length c1)) (some (w.heap.size + 2)) := grown_trans grown_lk grown_lk
      have hoff1 : ∀ p, a1 = some p → p.block ≠ w.heap.size ∧ p.block ≠ w.heap.size + 2 := fun p hp => by
        have := hn1 p hp; omega
      have hoff2 : ∀ p, a2 = some p → p.block ≠ w.heap.size ∧ p.block ≠ w.heap.size + 2 := fun p hp => by have := hn2 p hp; omega
      exact bodyPost_ret (v := .tuple #[.agg #[.int .i64 n, .slice a1 L.length c1], .slice a2 C.length c2]) (by simp [results, Tryd.results34, go_sem, t0, t1]) rfl ⟨a1, c1, a2, c2, rfl, (hr1.grown hg1 (fun g e n c p hp => by cases e; exact (hoff1 p (Value.slice.inj hp).1).1)).grown hg2 (fun g e n c p hp => by cases e; exact (hoff1 p (Value.slice.inj hp).1).2), (hr2.grown hg1 (fun g e n c p hp => by cases e; exact (hoff2 p (Value.slice.inj hp).1).1)).grown hg2 (fun g e n c p hp => by cases e; exact (hoff2 p (Value.slice.inj hp).1).2), fun p hp => .inl (by have := hn1 p hp; omega), fun p hp => by have := hn2 p hp; omega, (hbe4.grown hg1 hbe4.size (fun k e => by cases e; exact Nat.le_refl _)).grown hg2 (by have := hbe4.size; simpa using this) (fun k e => by cases e; omega)⟩
end Go.Proofs.YtpblaoeaeljmhaaDoor
