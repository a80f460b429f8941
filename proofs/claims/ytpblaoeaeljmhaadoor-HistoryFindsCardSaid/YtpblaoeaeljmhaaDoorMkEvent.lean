/- The contracts of made events. -/
import Derived.Test.YtpblaoeaeljmhaaDoorReoPlain
import Derived.Test.YtpblaoeaeljmhaaDoorMk
import Derived.Deep.RegionWith
import Derived.Deep.RegionHeld3
import Derived.IntWalk
namespace Go.Proofs.YtpblaoeaeljmhaaDoor
open Go.RowKit Go.BigFrame

def EvPost (b : Nat) (n t : Int) (w : World) (x : Ending) (w' : World) : Prop := ∃ e : Ev, x = .returned (.agg e.cells) ∧ evS e = 0 ∧ e.time = t ∧ 0 ≤ e.u ∧ e.u < n ∧ 0 ≤ e.v ∧ e.v < n ∧ DeckAt w' b ∧ w.grownBy w' (some b)
theorem set_seven {w : World} {g T : Nat} {x y z u p q r x' y' z' u' p' q' r' : Value} (h : w.heap[g]? = some (.cells #[x, y, z, u, p, q, r] T (0, 0))) :
    (((((((w.setCell ⟨g, 0, none⟩ x').setCell ⟨g, 1, none⟩ y').setCell ⟨g, 2, none⟩ z').setCell ⟨g, 3, none⟩ u').setCell ⟨g, 4, none⟩ p').setCell ⟨g, 5, none⟩ q').setCell ⟨g, 6, none⟩ r').heap[g]? = some (.cells #[x', y', z', u', p', q', r'] T (0, 0)) := by
  rw [heap_setCell_same _ _ _ _ _ _ (heap_setCell_same _ _ _ _ _ _ (heap_setCell_same _ _ _ _ _ _ (heap_setCell_same _ _ _ _ _ _ (heap_setCell_same _ _ _ _ _ _ (heap_setCell_same _ _ _ _ _ _ (heap_setCell_same _ _ _ _ _ _ h))))))]
  rfl
theorem cells7' {w : World} {g T : Nat} {x y z u v p q : Value} (h : w.heap[g]? = some (.cells #[x, y, z, u, v, p, q] T (0, 0))) : w.cell? ⟨g, 0, none⟩ = some x ∧ w.cell? ⟨g, 1, none⟩ = some y ∧ w.cell? ⟨g, 2, none⟩ = some z ∧ w.cell? ⟨g, 3, none⟩ = some u ∧ w.cell? ⟨g, 4, none⟩ = some v ∧ w.cell? ⟨g, 5, none⟩ = some p ∧ w.cell? ⟨g, 6, none⟩ = some q :=
  ⟨by rw [cell_blk h]; rfl, by rw [cell_blk h]; rfl, by rw [cell_blk h]; rfl, by rw [cell_blk h]; rfl, by rw [cell_blk h]; rfl, by rw [cell_blk h]; rfl, by rw [cell_blk h]; rfl⟩
theorem grown_seven {w : World} {g : Nat} {x y z u p q r : Value} : w.grownBy (((((((w.setCell ⟨g, 0, none⟩ x).setCell ⟨g, 1, none⟩ y).setCell ⟨g, 2, none⟩ z).setCell ⟨g, 3, none⟩ u).setCell ⟨g, 4, none⟩ p).setCell ⟨g, 5, none⟩ q).setCell ⟨g, 6, none⟩ r) (some g) :=
  grown_trans (grown_trans (grown_trans (grown_trans (grown_trans (grown_trans grown_store grown_store) grown_store) grown_store) grown_store) grown_store) grown_store
/-- the state of the call: the result's block R, the event's block E, the deck -/
structure EvW (w wr : World) (b R E : Nat) (rc ec : Array Value) : Prop where
  dk : DeckAt wr b
  gr : w.grownBy wr (some b)
  r : wr.heap[R]? = some (.cells rc 41 (0, 0))
  e : wr.heap[E]? = some (.cells ec 41 (0, 0))
  hR : w.heap.size ≤ R
  hE : R < E
theorem EvW.next {w wr w' : World} {b R E : Nat} {rc ec : Array Value} (h : EvW w wr b R E rc ec) (hb : b < w.heap.size) (hd : DeckAt w' b) (hg : wr.grownBy w' (some b)) : EvW w w' b R E rc ec :=
  ⟨hd, grown_trans h.gr hg, grown_blk hg h.r (by have := h.hR; intro e; cases e; omega), grown_blk hg h.e (by have := h.hR; have := h.hE; intro e; cases e; omega), h.hR, h.hE⟩
theorem EvW.set3 {w wr : World} {b R E : Nat} {rc : Array Value} {x y z u p q r : Value} (v : Value) (hb : b < w.heap.size) (h : EvW w wr b R E rc #[x, y, z, u, p, q, r]) : EvW w (wr.setCell ⟨E, 3, none⟩ v) b R E rc #[x, y, z, v, p, q, r] := by
  have hg : wr.grownBy (wr.setCell ⟨E, 3, none⟩ v) (some E) := grown_store
  refine ⟨h.dk.kept hg (fun g e => by cases e; have := h.hR; have := h.hE; omega), grown_new h.gr hg (fun g e => by cases e; right; have := h.hR; have := h.hE; omega), grown_blk hg h.r (by have := h.hE; intro e; cases e; omega), ?_, h.hR, h.hE⟩
  rw [heap_setCell_same _ _ _ _ _ _ h.e]; rfl
theorem other_mod (u x n : Int) (h0 : 0 ≤ u) (h1 : u < n) (h2 : 0 ≤ x) (h3 : x < n - 1) : 0 ≤ (u + 1 + x) % n ∧ (u + 1 + x) % n < n ∧ (u + 1 + x) % n ≠ u := by
  by_cases h : u + 1 + x < n
  · rw [Int.emod_eq_of_lt (by omega) h]; omega
  · have e : (u + 1 + x) % n = (u + 1 + x - n + 1 * n) % n := by congr 1; omega
    rw [e, Int.add_mul_emod_self_right, Int.emod_eq_of_lt (by omega) (by omega)]; omega
set_option maxRecDepth 100000 in
set_option maxHeartbeats 3200000 in
theorem event_any (b : Nat) (n t : Int) (w : World) (hd : DeckAt w b) (h2 : 2 ≤ n) (h64 : n ≤ 64) (ht0 : 0 ≤ t) (ht1 : t ≤ 1048576) :
    Calls Tryd.prog 19 #[.pointer (some ⟨b, 0, none⟩), .int .i64 n, .int .i64 t] w (EvPost b n t w) := by
  have hbw := hd.lt
  go_enter Tryd.func19, Tryd.ntmps19
  go_wp2_with fail
  refine (next_any b n _ (hd.alloc _) (by omega) (by omega)).mono ?_
  rintro e w1 ⟨u, hu0, hu1, rfl, hd1, hg1⟩
  have hR1 := grown_blk hg1 (heap_alloc_new w (.cells #[.int .i64 0, .int .i64 0, .int .i64 0, .int .i64 0, .int .i64 0, .int .i64 0, .int .i64 0] 41)) (by intro e; cases e; omega)
  have hW : EvW w (w1.alloc (.cells #[.int .i64 1, .int .i64 t, .int .i64 u, .int .i64 0, .int .i64 0, .int .i64 0, .int .i64 0] 41)) b w.heap.size w1.heap.size #[.int .i64 0, .int .i64 0, .int .i64 0, .int .i64 0, .int .i64 0, .int .i64 0, .int .i64 0] #[.int .i64 1, .int .i64 t, .int .i64 u, .int .i64 0, .int .i64 0, .int .i64 0, .int .i64 0] :=
    ⟨hd1.alloc _, grown_trans (grown_trans (World.grownBy_alloc w _ (some b)) hg1) (World.grownBy_alloc w1 _ (some b)), (Below.heap_alloc _ _ _ (blk_lt hR1)).trans hR1, heap_alloc_new _ _, Nat.le_refl _, blk_lt hR1⟩
  clear hd hR1 hg1 hd1
  go_wp2_with fail
  have hWd : EvW w (w1.alloc (.cells #[.int .i64 1, .int .i64 t, .int .i64 u, .int .i64 0, .int .i64 0, .int .i64 0, .int .i64 0] 41)).drew b w.heap.size w1.heap.size #[.int .i64 0, .int .i64 0, .int .i64 0, .int .i64 0, .int .i64 0, .int .i64 0, .int .i64 0] #[.int .i64 1, .int .i64 t, .int .i64 u, .int .i64 0, .int .i64 0, .int .i64 0, .int .i64 0] := ⟨hW.dk, ⟨hW.gr.os, hW.gr.tape, hW.gr.output, hW.gr.size, hW.gr.block⟩, hW.r, hW.e, hW.hR, hW.hE⟩
  have v1 : IntKind.i64.wrap (n - 1) = n - 1 := IntWalk.i64_in _ (by omega)
  have v2 : IntKind.i64.wrap (u + 1) = u + 1 := IntWalk.i64_in _ (by omega)
  have hnx := next_any b (n - 1) _ hWd.dk (by omega) (by omega)
  go_region_law (go_simp; go_at_call 6; (with_reducible refine hnx.mono ?_); rintro e w2 ⟨x, hx0, hx1, rfl, hd2, hg2⟩; have hW2 := hWd.next hbw hd2 hg2; have c2 := cell_blk (j := 2) hW2.e; have c3 := cell_blk (j := 3) hW2.e; have f3 : ∀ j, w2.frozen? ⟨w1.heap.size, j, none⟩ = false := (fun j => free_blk hW2.e); have v3 : IntKind.i64.wrap (u + 1 + x) = u + 1 + x := IntWalk.i64_in _ (by omega); have hnz : ¬ n = 0 := (by omega))
  all_goals
    go_wp2_with fail
    have hV := other_mod u x n hu0 hu1 hx0 hx1
    have hW3 := EvW.set3 (.int .i64 ((u + 1 + x) % n)) hbw hW2
    generalize (u + 1 + x) % n = V at *
    refine (next_any b 10 _ hW3.dk (by omega) (by omega)).mono ?_
    rintro e w4 ⟨k, hk0, hk1, rfl, hd4, hg4⟩
    have hW4 := hW3.next hbw hd4 hg4
    clear hW hWd hW2 hW3 hd2 hg2 hd4 hg4 c2 c3 f3 hnx
    obtain ⟨q0, q1, q2, q3, q4, q5, q6⟩ := cells7' hW4.e
    obtain ⟨r0, r1, r2, r3, r4, r5, r6⟩ := cells7' hW4.r
    have fr : ∀ j, w4.frozen? ⟨w.heap.size, j, none⟩ = false := fun j => free_blk hW4.r
    by_cases h8 : 8 ≤ k
    · go_wp2_with fail
      have hfin := set_seven (x' := .int .i64 3) (y' := .int .i64 t) (z' := .int .i64 u) (u' := .int .i64 0) (p' := .int .i64 0) (q' := .int .i64 0) (r' := .int .i64 0) hW4.r
      obtain ⟨t0, t1, t2, t3, t4, t5, t6⟩ := cells7' hfin
      refine bodyPost_ret (v := .agg #[.int .i64 3, .int .i64 t, .int .i64 u, .int .i64 0, .int .i64 0, .int .i64 0, .int .i64 0]) (by simp [results, Tryd.results19, go_sem, t0, t1, t2, t3, t4, t5, t6]) rfl ⟨⟨3, t, u, 0, 0, 0, 0⟩, rfl, ?_, rfl, hu0, hu1, by show (0 : Int) ≤ 0; omega, by show (0 : Int) < n; omega, ?_, ?_⟩
      · simp [evS, evEnds, nodeB]; omega
      · exact (hW4.dk.kept grown_seven (fun g e => by cases e; have := hW4.hR; omega))
      · exact grown_new hW4.gr grown_seven (fun g e => by cases e; right; exact hW4.hR)
    · by_cases h5 : 5 ≤ k
      · go_wp2_with fail
        have hfin := set_seven (x' := .int .i64 2) (y' := .int .i64 t) (z' := .int .i64 u) (u' := .int .i64 V) (p' := .int .i64 0) (q' := .int .i64 0) (r' := .int .i64 0) hW4.r
        obtain ⟨t0, t1, t2, t3, t4, t5, t6⟩ := cells7' hfin
        refine bodyPost_ret (v := .agg #[.int .i64 2, .int .i64 t, .int .i64 u, .int .i64 V, .int .i64 0, .int .i64 0, .int .i64 0]) (by simp [results, Tryd.results19, go_sem, t0, t1, t2, t3, t4, t5, t6]) rfl ⟨⟨2, t, u, V, 0, 0, 0⟩, rfl, ?_, rfl, hu0, hu1, hV.1, hV.2.1, ?_, ?_⟩
        · simp [evS, evEnds, nodeB]; omega
        · exact (hW4.dk.kept grown_seven (fun g e => by cases e; have := hW4.hR; omega))
        · exact grown_new hW4.gr grown_seven (fun g e => by cases e; right; exact hW4.hR)
      · clear q0 q1 q2 q3 q4 q5 q6 r0 r1 r2 r3 r4 r5 r6 fr
        go_wp2_with fail
        refine (next_any b 6 _ hW4.dk (by omega) (by omega)).mono ?_
        rintro e w5 ⟨x6, h60, h61, rfl, hd5, hg5⟩
        have hW5 := hW4.next hbw hd5 hg5
        clear hW4 hd5 hg5
        go_wp2_with fail
        refine (next_any b 4 _ hW5.dk (by omega) (by omega)).mono ?_
        rintro e w6 ⟨x4, h40, h41, rfl, hd6, hg6⟩
        have hW6 := hW5.next hbw hd6 hg6
        clear hW5 hd6 hg6
        go_wp2_with fail
        refine (next_any b 2 _ hW6.dk (by omega) (by omega)).mono ?_
        rintro e w7 ⟨x2, h20, h21, rfl, hd7, hg7⟩
        have hW7 := hW6.next hbw hd7 hg7
        clear hW6 hd7 hg7
        obtain ⟨q0, q1, q2, q3, q4, q5, q6⟩ := cells7' hW7.e
        obtain ⟨r0, r1, r2, r3, r4, r5, r6⟩ := cells7' hW7.r
        have fr : ∀ j, w7.frozen? ⟨w.heap.size, j, none⟩ = false := fun j => free_blk hW7.r
        have fe : ∀ j, w7.frozen? ⟨w1.heap.size, j, none⟩ = false := fun j => free_blk hW7.e
        have hRE := hW7.hE
        go_wp2_with fail
        have hg8 : w7.grownBy (((w7.setCell ⟨w1.heap.size, 4, none⟩ (.int .i64 (1 + x6))).setCell ⟨w1.heap.size, 5, none⟩ (.int .i64 x4)).setCell ⟨w1.heap.size, 6, none⟩ (.int .i64 (1 - 2 * x2))) (some w1.heap.size) := grown_trans (grown_trans grown_store grown_store) grown_store
        have hR8 := grown_blk hg8 hW7.r (by intro e; have := Option.some.inj e; omega)
        have hfin := set_seven (x' := .int .i64 1) (y' := .int .i64 t) (z' := .int .i64 u) (u' := .int .i64 V) (p' := .int .i64 (1 + x6)) (q' := .int .i64 x4) (r' := .int .i64 (1 - 2 * x2)) hR8
        obtain ⟨t0, t1, t2, t3, t4, t5, t6⟩ := cells7' hfin
        refine bodyPost_ret (v := .agg #[.int .i64 1, .int .i64 t, .int .i64 u, .int .i64 V, .int .i64 (1 + x6), .int .i64 x4, .int .i64 (1 - 2 * x2)]) (by simp [results, Tryd.results19, go_sem, t0, t1, t2, t3, t4, t5, t6]) rfl ⟨⟨1, t, u, V, 1 + x6, x4, 1 - 2 * x2⟩, rfl, ?_, rfl, hu0, hu1, hV.1, hV.2.1, ?_, ?_⟩
        · have hx2 : x2 = 0 ∨ x2 = 1 := by omega
          have e1 : attS (1 + x6) x4 (1 - 2 * x2) = true := by
            simp only [attS, Bool.and_eq_true, Bool.or_eq_true, decide_eq_true_eq]; omega
          have e2 : evEnds ⟨1, t, u, V, 1 + x6, x4, 1 - 2 * x2⟩ = true := by
            simp only [evEnds, nodeB, show ¬ ((1 : Int) = 3) by decide, if_false, Bool.and_eq_true, decide_eq_true_eq]; omega
          unfold evS
          rw [if_neg (by dsimp only; omega), if_neg (by dsimp only; omega), e2, if_neg (by simp), if_pos rfl, e1, if_pos rfl]
        · exact (hW7.dk.kept hg8 (fun g e => by cases e; omega)).kept grown_seven (fun g e => by cases e; omega)
        · exact grown_new (grown_new hW7.gr hg8 (fun g e => by cases e; right; omega)) grown_seven (fun g e => by cases e; right; exact Nat.le_refl _)
end Go.Proofs.YtpblaoeaeljmhaaDoor
