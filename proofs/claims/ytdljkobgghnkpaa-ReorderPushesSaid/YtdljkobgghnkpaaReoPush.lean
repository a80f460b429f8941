/- The contracts of a push into a buffer, the program's and the reference's. -/
import Derived.Test.YtdljkobgghnkpaaReoRel
namespace Go.Proofs.Ytdljkobgghnkpaa
open Go.RowKit Go.BigFrame

/-- a buffer, events and an error are handed back -/
def PushPost (w : World) (r : Buf × List Ev × Int) (e : Ending) (w' : World) : Prop := ∃ a1 c1 a2 c2, e = .returned (.tuple #[BufV r.1 a1 c1, .slice a2 r.2.1.length c2, .int .i64 r.2.2]) ∧ RowAt encEv w' (.slice a1 r.1.wait.length c1) r.1.wait ∧ RowAt encEv w' (.slice a2 r.2.1.length c2) r.2.1 ∧ Below w.heap.size w w' ∧ (∀ p, a1 = some p → w.heap.size ≤ p.block) ∧ ∀ p, a2 = some p → w.heap.size ≤ p.block
theorem posS_step (t : Int) (xs : List Ev) (k : Nat) (x : Ev) (hx : xs[k]? = some x) : posS t xs (k + 1) = if t < x.time then posS t xs k else k + 1 := by
  show (if t < (xs.getD k ⟨0, 0, 0, 0, 0, 0, 0⟩).time then posS t xs k else k + 1) = _
  rw [List.getD_eq_getElem?_getD, hx]; rfl
/-- the three boxes of a push -/
structure PushW (w wr : World) (b e r : Array Value) : Prop where
  bel : Below w.heap.size w wr
  b0 : wr.heap[w.heap.size]? = some (.cells b 24 (0, 0))
  b1 : wr.heap[w.heap.size + 1]? = some (.cells e 26 (0, 0))
  b2 : wr.heap[w.heap.size + 2]? = some (.cells r 24 (0, 0))
theorem PushW.next {w wr w' : World} {b e r : Array Value} (h : PushW w wr b e r) (hb : Below wr.heap.size wr w') : PushW w w' b e r :=
  ⟨h.bel.trans (hb.mono h.bel.size), (hb.block _ (blk_lt h.b0)).trans h.b0, (hb.block _ (blk_lt h.b1)).trans h.b1, (hb.block _ (blk_lt h.b2)).trans h.b2⟩
theorem PushW.start (w : World) (b e r : Array Value) : PushW w (((w.alloc (.cells b 24)).alloc (.cells e 26)).alloc (.cells r 24)) b e r := by
  have e1 : (w.alloc (.cells b 24)).heap.size = w.heap.size + 1 := by simp
  have e2 : ((w.alloc (.cells b 24)).alloc (.cells e 26)).heap.size = w.heap.size + 2 := by simp
  refine ⟨(((Below.refl _ _).alloc (Nat.le_refl _) _).alloc (by omega) _).alloc (by omega) _, ?_, ?_, ?_⟩
  · exact (Below.heap_alloc _ _ _ (by omega)).trans ((Below.heap_alloc _ _ _ (by omega)).trans (heap_alloc_new _ _))
  · refine (Below.heap_alloc _ _ _ (by omega)).trans ?_
    have h := heap_alloc_new (w.alloc (.cells b 24)) (.cells e 26)
    rw [e1] at h; exact h
  · have h := heap_alloc_new ((w.alloc (.cells b 24)).alloc (.cells e 26)) (.cells r 24)
    rw [e2] at h; exact h
theorem lit_next {w w' : World} {g : Nat} {o : Obj} (hb : Below w.heap.size w w') (h : w.heap[g]? = some o) : w'.heap[g]? = some o := (hb.block g (blk_lt h)).trans h
theorem cells7 {w : World} {g T : Nat} {x y z u v p q : Value} (h : w.heap[g]? = some (.cells #[x, y, z, u, v, p, q] T (0, 0))) : w.cell? ⟨g, 0, none⟩ = some x ∧ w.cell? ⟨g, 1, none⟩ = some y ∧ w.cell? ⟨g, 2, none⟩ = some z ∧ w.cell? ⟨g, 3, none⟩ = some u ∧ w.cell? ⟨g, 4, none⟩ = some v ∧ w.cell? ⟨g, 5, none⟩ = some p ∧ w.cell? ⟨g, 6, none⟩ = some q :=
  ⟨by rw [cell_blk h]; rfl, by rw [cell_blk h]; rfl, by rw [cell_blk h]; rfl, by rw [cell_blk h]; rfl, by rw [cell_blk h]; rfl, by rw [cell_blk h]; rfl, by rw [cell_blk h]; rfl⟩
set_option maxRecDepth 100000 in
set_option maxHeartbeats 6400000 in
theorem push_any (b : Buf) (e : Ev) (a : Option Addr) (cap : Nat) (w : World) (hr : RowAt encEv w (.slice a b.wait.length cap) b.wait) (hn : b.wait.length ≤ 100000) :
    Calls Try.prog 17 #[BufV b a cap, .agg e.cells] w (PushPost w (pushS b e)) := by
  have hW := PushW.start w #[.int .i64 b.bound, .int .i64 b.latest, .int .i64 b.mark, .slice a b.wait.length cap] e.cells #[.int .i64 0, .int .i64 0, .int .i64 0, .slice none 0 0]
  have hv := fun w h => valid_any b a cap w h
  have hc := fun w => evcheck_any e w
  have hcp := fun w h => copied_any b a cap w h (by omega)
  unfold PushPost pushS
  obtain ⟨B, hB⟩ : ∃ B, bufB b = B := ⟨_, rfl⟩
  obtain ⟨R, hR⟩ : ∃ R, evS e = R := ⟨_, rfl⟩
  rw [hB] at hv ⊢
  rw [hR] at hc ⊢
  have HB := Lib.hid hB
  have HR := Lib.hid hR
  clear hB hR
  obtain ⟨k0, t0, u0, v0, wt0, l0, s0⟩ := e
  obtain ⟨bound, latest, mark, xs⟩ := b
  unfold BufV CopPost at *
  unfold Ev.cells at *
  dsimp only at *
  have herr : ∀ code, ((B = false ∧ code = 4) ∨ (B = true ∧ R ≠ 0 ∧ code = R) ∨ (B = true ∧ R = 0 ∧ t0 ≤ mark ∧ code = 10) ∨ (B = true ∧ R = 0 ∧ mark < t0 ∧ xs.length = 4096 ∧ code = 3)) →
      Calls Try.prog 17 #[.agg #[.int .i64 bound, .int .i64 latest, .int .i64 mark, .slice a xs.length cap], .agg #[.int .i64 k0, .int .i64 t0, .int .i64 u0, .int .i64 v0, .int .i64 wt0, .int .i64 l0, .int .i64 s0]] w
        (fun e w' => ∃ a1 c1 a2 c2, e = .returned (.tuple #[.agg #[.int .i64 bound, .int .i64 latest, .int .i64 mark, .slice a1 xs.length c1], .slice a2 ([] : List Ev).length c2, .int .i64 code]) ∧ RowAt encEv w' (.slice a1 xs.length c1) xs ∧ RowAt encEv w' (.slice a2 ([] : List Ev).length c2) [] ∧ Below w.heap.size w w' ∧ (∀ p, a1 = some p → w.heap.size ≤ p.block) ∧ ∀ p, a2 = some p → w.heap.size ≤ p.block) := by
    intro code hcode
    clear HB HR
    rcases hcode with ⟨rfl, rfl⟩ | ⟨rfl, h1, rfl⟩ | ⟨rfl, rfl, h1, rfl⟩ | ⟨rfl, rfl, h1, h2, rfl⟩
    case' inr.inl =>
      have d1 : (code == 0) = false := by simpa using h1
      have d2 : (code != 0) = true := by simpa using h1
      clear h1
    case' inr.inr.inr =>
      have d1 : ((xs.length : Int) == 4096) = true := by simp [h2]
      have d2 : decide (t0 ≤ mark) = false := by simp; omega
      clear h2
    all_goals
      go_enter Try.func17, Try.ntmps17
      obtain ⟨p0, p1, p2, p3, p4, p5, p6⟩ := cells7 hW.b1
      go_wp2_with fail
      refine (hc _).mono ?_
      rintro e w2 ⟨rfl, hb2⟩
      have hW2 := hW.next hb2
      clear hb2 hW p0 p1 p2 p3 p4 p5 p6
      obtain ⟨g0, g1, g2, g3⟩ := cells4 hW2.b0
      go_wp2_with fail
      refine (hv _ (hr.below hW2.bel)).mono ?_
      rintro e w3 ⟨rfl, hb3⟩
      have hW3 := hW2.next hb3
      clear hb3 hW2 g0 g1 g2 g3
      obtain ⟨g0, g1, g2, g3⟩ := cells4 hW3.b0
      obtain ⟨p0, p1, p2, p3, p4, p5, p6⟩ := cells7 hW3.b1
      go_wp2_with fail
      refine (hcp _ (hr.below hW3.bel)).mono ?_
      rintro e w4 ⟨a1, c1, rfl, hr4, hb4, hn4⟩
      have hW4 := hW3.next hb4
      have hz3 := blk_lt hW3.b2
      clear hb4 hW3 g0 g1 g2 g3 p0 p1 p2 p3 p4 p5 p6
      unfold BufV
      dsimp only
      obtain ⟨g0, g1, g2, g3⟩ := cells4 hW4.b2
      have f2 : ∀ j, w4.frozen? ⟨w.heap.size + 2, j, none⟩ = false := fun j => free_blk hW4.b2
      have hz := blk_lt hW4.b2
      go_wp2_with fail
      have hfin := set_four (x' := .int .i64 bound) (y' := .int .i64 latest) (z' := .int .i64 mark) (u' := .slice a1 xs.length c1) hW4.b2
      obtain ⟨q1, q2, q3, q4⟩ := cells4 hfin
      refine bodyPost_ret (v := .tuple #[.agg #[.int .i64 bound, .int .i64 latest, .int .i64 mark, .slice a1 xs.length c1], .slice none 0 0, .int .i64 _]) (by simp [results, Try.results17, go_sem, q1, q2, q3, q4]) rfl ⟨a1, c1, none, 0, rfl, ?_, RowAt.nil _, ?_, fun p hp => by have := hn4 p hp; omega, fun p hp => by cases hp⟩
      · have o2 : 0 < xs.length → Off (w.heap.size + 2) (.slice a1 xs.length c1) := fun _ n c p e => by cases e; have := hn4 p rfl; omega
        exact (((hr4.set_off o2).set_off o2).set_off o2).set_off o2
      · exact (((hW4.bel.setCell (p := ⟨_, 0, none⟩) (by show _ ≤ w.heap.size + 2; omega) _).setCell (p := ⟨_, 1, none⟩) (by show _ ≤ w.heap.size + 2; omega) _).setCell (p := ⟨_, 2, none⟩) (by show _ ≤ w.heap.size + 2; omega) _).setCell (p := ⟨_, 3, none⟩) (by show _ ≤ w.heap.size + 2; omega) _
  cases B with
  | false => exact (herr 4 (.inl ⟨rfl, rfl⟩)).mono fun e w' h => by rw [if_pos rfl]; exact h
  | true =>
  rw [if_neg (by simp)]
  by_cases hR0 : R = 0
  case neg => exact (herr R (.inr (.inl ⟨rfl, hR0, rfl⟩))).mono fun e w' h => by rw [if_pos hR0]; exact h
  subst hR0
  rw [if_neg (by simp)]
  by_cases ht : t0 ≤ mark
  case pos => exact (herr 10 (.inr (.inr (.inl ⟨rfl, rfl, ht, rfl⟩)))).mono fun e w' h => by rw [if_pos ht]; exact h
  rw [if_neg ht]
  have hbB := HB.out
  have hbb := hbB
  unfold bufB at hbb
  rw [Bool.and_eq_true] at hbb
  obtain ⟨hbH, hbV⟩ := hbb
  simp only [bufH, Bool.and_eq_true, decide_eq_true_eq] at hbH
  obtain ⟨m1, m2, m3, m4, m5, m6⟩ := hbH
  by_cases hf : 4096 ≤ xs.length
  case pos => exact (herr 3 (.inr (.inr (.inr ⟨rfl, rfl, by omega, by omega, rfl⟩)))).mono fun e w' h => by rw [if_pos hf]; exact h
  rw [if_neg hf]
  have hup := (vld_up _ _ _ hbV).1
  have het := evS_time HR.out
  dsimp only at het
  have hmid := push_mid hbB HR.out (by dsimp only; omega) (by dsimp only; omega)
  dsimp only at hmid
  have HM := Lib.hid hmid
  have HU := Lib.hid (ins_up (e := ⟨k0, t0, u0, v0, wt0, l0, s0⟩) hup)
  have HV := Lib.hid hbV
  have hil := insS_length ⟨k0, t0, u0, v0, wt0, l0, s0⟩ xs
  have hyl : (insS ⟨k0, t0, u0, v0, wt0, l0, s0⟩ xs).length ≤ 4096 := by omega
  clear hil
  have HI : Hid (insS ⟨k0, t0, u0, v0, wt0, l0, s0⟩ xs = xs.take (posS t0 xs xs.length) ++ ⟨k0, t0, u0, v0, wt0, l0, s0⟩ :: xs.drop (posS t0 xs xs.length)) := rfl
  have d1 : ((xs.length : Int) == 4096) = false := by simp; omega
  have d2 : decide (t0 ≤ mark) = false := by simpa using ht
  clear herr hbB hbV hmid hcp HB HR hup
  generalize insS ⟨k0, t0, u0, v0, wt0, l0, s0⟩ xs = ys at *
  go_enter Try.func17, Try.ntmps17
  obtain ⟨p0, p1, p2, p3, p4, p5, p6⟩ := cells7 hW.b1
  go_wp2_with fail
  refine (hc _).mono ?_
  rintro e w2 ⟨rfl, hb2⟩
  have hW2 := hW.next hb2
  clear hb2 hW p0 p1 p2 p3 p4 p5 p6
  obtain ⟨g0, g1, g2, g3⟩ := cells4 hW2.b0
  go_wp2_with fail
  refine (hv _ (hr.below hW2.bel)).mono ?_
  rintro e w3 ⟨rfl, hb3⟩
  have hW3 := hW2.next hb3
  clear hb3 hW2 g0 g1 g2 g3 hc hv
  obtain ⟨g0, g1, g2, g3⟩ := cells4 hW3.b0
  obtain ⟨p0, p1, p2, p3, p4, p5, p6⟩ := cells7 hW3.b1
  go_wp2_with fail
  go_loopw [8] (fun i wr => ∃ k : Nat, k ≤ xs.length ∧ i = .int .i64 k ∧ Hid (posS t0 xs xs.length = posS t0 xs k) ∧ PushW w wr #[.int .i64 bound, .int .i64 latest, .int .i64 mark, .slice a xs.length cap] #[.int .i64 k0, .int .i64 t0, .int .i64 u0, .int .i64 v0, .int .i64 wt0, .int .i64 l0, .int .i64 s0] #[.int .i64 0, .int .i64 0, .int .i64 0, .slice none 0 0]) (fun i _ => (intOf i).toNat)
  case atStart => exact ⟨xs.length, Nat.le_refl _, rfl, rfl, hW3⟩
  case round =>
    clear hW3 g0 g1 g2 g3 p0 p1 p2 p3 p4 p5 p6
    obtain ⟨k, hk, rfl, HP, hW⟩ := hrel
    obtain ⟨g0, g1, g2, g3⟩ := cells4 hW.b0
    obtain ⟨p0, p1, p2, p3, p4, p5, p6⟩ := cells7 hW.b1
    have hrr := hr.below hW.bel
    by_cases hk0 : 0 < k
    · obtain ⟨bb, off, ⟨k9, t9, u9, v9, w9, l9, s9⟩, rfl, hx, hcap, c0, c1, c2, c3, c4, c5, c6⟩ := ev_at hrr (k - 1) (by omega)
      dsimp only at c0 c1 c2 c3 c4 c5 c6
      have hst := posS_step t0 xs (k - 1) _ hx
      rw [show k - 1 + 1 = k by omega, ← HP.out] at hst
      dsimp only at hst
      have HS := Lib.hid hst
      clear hst hx HP
      have v1 : IntKind.i64.wrap ((k : Int) - 1) = (k : Int) - 1 := IntWalk.i64_in _ (by omega)
      have v2 : ((k : Int) - 1).toNat = k - 1 := by omega
      have v3 : (0 : Int) ≤ (k : Int) - 1 := by omega
      have v4 : (k : Int) - 1 < (xs.length : Int) := by omega
      have v5 : decide ((0 : Int) < (k : Int)) = true := by simp; omega
      have v6 : decide (0 < k) = true := by simpa using hk0
      by_cases h9 : t0 < t9
      · have d9 : decide (t0 < t9) = true := by simpa using h9
        go_wp2_with fail
        go_quiet (fail)
        go_wp2_with fail
        go_roundw
        case rel => exact ⟨k - 1, by omega, by rw [show ((k - 1 : Nat) : Int) = (k : Int) - 1 from (by omega)], by show _ = _; rw [HS.out, if_pos h9], hW.next ((Below.refl _ _).drewN _)⟩
        case measure => simp [intOf]; omega
      · have d9 : decide (t0 < t9) = false := by simpa using h9
        have hp : posS t0 xs xs.length = k := by rw [HS.out, if_neg h9]
        go_wp2_with fail
        go_quiet (fail)
        go_wp2_with fail
        have hWd := hW.next ((Below.refl _ wr).drewN nq)
        clear hW hrr g0 g1 g2 g3 p0 p1 p2 p3 p4 p5 p6 c0 c1 c2 c3 c4 c5 c6
        generalize wr.drewN nq = w5 at *
        have hr5 := hr.below hWd.bel
        have hr5d : RowAt encEv w5.drew (.slice (some ⟨bb, off, none⟩) xs.length cap) xs := hr5.below (Below.refl _ _).drew
        have hr5e : RowAt encEv (w5.alloc (.cells #[.int .i64 k0, .int .i64 t0, .int .i64 u0, .int .i64 v0, .int .i64 wt0, .int .i64 l0, .int .i64 s0] 26)).drew (.slice (some ⟨bb, off, none⟩) xs.length cap) xs := hr5.below ((Below.refl _ _).alloc (Nat.le_refl _) _).drew
        have hWd1 := hWd.next (Below.refl _ w5).drew
        have hWd2 := hWd.next ((Below.refl _ w5).alloc (Nat.le_refl _) (.cells #[.int .i64 k0, .int .i64 t0, .int .i64 u0, .int .i64 v0, .int .i64 wt0, .int .i64 l0, .int .i64 s0] 26)).drew
        have hL2 : (w5.alloc (.cells #[.int .i64 k0, .int .i64 t0, .int .i64 u0, .int .i64 v0, .int .i64 wt0, .int .i64 l0, .int .i64 s0] 26)).drew.heap[w5.heap.size]? = some (.cells #[.int .i64 k0, .int .i64 t0, .int .i64 u0, .int .i64 v0, .int .i64 wt0, .int .i64 l0, .int .i64 s0] 26 (0, 0)) := heap_alloc_new _ _
        obtain ⟨g0, g1, g2, g3⟩ := cells4 hWd.b0
        obtain ⟨p0, p1, p2, p3, p4, p5, p6⟩ := cells7 hWd.b1
        have hz5 := blk_lt hWd.b2
        have HYS := Lib.hid (show xs.take k ++ ⟨k0, t0, u0, v0, wt0, l0, s0⟩ :: xs.drop k = ys by rw [HI.out, hp])
        clear hp
        have hWd3 := hWd.next ((Below.refl _ w5).alloc (Nat.le_refl _) (.cells #[.int .i64 k0, .int .i64 t0, .int .i64 u0, .int .i64 v0, .int .i64 wt0, .int .i64 l0, .int .i64 s0] 26))
        obtain ⟨n0, n1, n2, n3⟩ := cells4 hWd3.b0
        have hlt5 : w.heap.size < w5.heap.size := by omega
        have hlt6 : w.heap.size + 1 < w5.heap.size := by omega
        clear hWd3
        have tokA : True := trivial
        go_region_law (first
          | (have _t := tokA; go_simp; go_at_call 30; refine (evclone_any _ xs _ (by assumption) (by omega)).mono ?_; rintro e w6 ⟨x6, rfl, hown6, hb6⟩; have hW6 := PushW.next (by assumption) hb6; have q0 := cell_blk (j := 0) hW6.b1; have q1 := cell_blk (j := 1) hW6.b1; have q2 := cell_blk (j := 2) hW6.b1; have q3 := cell_blk (j := 3) hW6.b1; have q4 := cell_blk (j := 4) hW6.b1; have q5 := cell_blk (j := 5) hW6.b1; have q6 := cell_blk (j := 6) hW6.b1; have hz6 := blk_lt hW6.b2; clear tokA)
          | (go_simp; go_at_call 29; have hq := evinsert_any _ k xs ⟨k0, t0, u0, v0, wt0, l0, s0⟩ x6 w6.heap.size 26 #[.int .i64 k0, .int .i64 t0, .int .i64 u0, .int .i64 v0, .int .i64 wt0, .int .i64 l0, .int .i64 s0] (w6.alloc (.cells #[.int .i64 k0, .int .i64 t0, .int .i64 u0, .int .i64 v0, .int .i64 wt0, .int .i64 l0, .int .i64 s0] 26)) (hown6.alloc _) (heap_alloc_new _ _) rfl (fun e => by have := hown6.lt _ e; omega) (by have := hb6.size; simp at this ⊢; omega) hk (by omega); (with_reducible refine hq.mono ?_); clear hq; rintro e w8 ⟨x8, rfl, hown8, hg8⟩; have hb58 : Below w5.heap.size w5 w8 := (((Below.refl w5.heap.size w5).drew.trans hb6).alloc hb6.size _).grown hg8 (by have := hb6.size; simp at this ⊢; omega) (fun g e => (hown6.lt g e).1); have hW8 := hWd.next hb58; have s3 := cell_blk (j := 3) hW8.b0; have f3 : w8.frozen? ⟨w.heap.size, 3, none⟩ = false := free_blk hW8.b0; have hz8 := blk_lt hW8.b2; rw [HYS.out] at hown8; obtain ⟨a8, cap8, hv8, hr8, p8⟩ := RowAt.of_owns hown8 (by omega); subst hv8; have p8' : ∀ p, a8 = some p → w5.heap.size ≤ p.block := (fun p h => by have := p8 p h; simp at this; omega); clear p8)
          | (go_simp; go_at_call 29; have hl6 := lit_next (by with_reducible exact hb6) hL2; have hq := evinsert_any _ k xs ⟨k0, t0, u0, v0, wt0, l0, s0⟩ x6 w5.heap.size 26 #[.int .i64 k0, .int .i64 t0, .int .i64 u0, .int .i64 v0, .int .i64 wt0, .int .i64 l0, .int .i64 s0] w6 hown6 hl6 rfl (fun e => by have := hown6.lt _ e; simp at this; omega) hb6.size hk (by omega); (with_reducible refine hq.mono ?_); clear hq; rintro e w8 ⟨x8, rfl, hown8, hg8⟩; have hb58 : Below w5.heap.size w5 w8 := (((Below.refl w5.heap.size w5).alloc (Nat.le_refl _) _).drew.trans (hb6.mono (by simp))).grown hg8 (by have := hb6.size; simp at this ⊢; omega) (fun g e => by have := (hown6.lt g e).1; simp at this; omega); have hW8 := hWd.next hb58; have s3 := cell_blk (j := 3) hW8.b0; have f3 : w8.frozen? ⟨w.heap.size, 3, none⟩ = false := free_blk hW8.b0; have hz8 := blk_lt hW8.b2; rw [HYS.out] at hown8; obtain ⟨a8, cap8, hv8, hr8, p8⟩ := RowAt.of_owns hown8 (by omega); subst hv8; have p8' : ∀ p, a8 = some p → w5.heap.size ≤ p.block := (fun p h => by have := p8 p h; simp at this; omega); clear p8))
        all_goals
          clear n0 n1 n2 n3
          clear s3 f3
          have hsz8 := hb58.size
          obtain ⟨s0', s1', s2', s3'⟩ := cells4 hW8.b0
          obtain ⟨p0, p1, p2, p3, p4, p5, p6⟩ := cells7 hW8.b1
          have f0 : ∀ j, w8.frozen? ⟨w.heap.size, j, none⟩ = false := fun j => free_blk hW8.b0
          obtain ⟨M, hM⟩ : ∃ M, max latest t0 = M := ⟨_, rfl⟩
          have hMb : latest ≤ M ∧ t0 ≤ M ∧ M ≤ 1048576 ∧ -1 ≤ M := by omega
          have hrel := fun W h => release_any ⟨bound, M, mark, ys⟩ (M - bound - 1) a8 cap8 W h HU.out (by dsimp only; omega)
          unfold BufV at hrel
          dsimp only at hrel
          have hrow : RowAt encEv ((w8.setCell ⟨w.heap.size, 3, none⟩ (.slice a8 ys.length cap8)).setCell ⟨w.heap.size, 1, none⟩ (.int .i64 M)) (.slice a8 ys.length cap8) ys := by
            have o1 : 0 < ys.length → Off w.heap.size (.slice a8 ys.length cap8) := fun _ n c p e => by cases e; have := p8' p rfl; omega
            exact (hr8.set_off o1).set_off o1
          have hB10 : Below w.heap.size w ((w8.setCell ⟨w.heap.size, 3, none⟩ (.slice a8 ys.length cap8)).setCell ⟨w.heap.size, 1, none⟩ (.int .i64 M)) := (hW8.bel.setCell (p := ⟨_, 3, none⟩) (Nat.le_refl _) _).setCell (p := ⟨_, 1, none⟩) (Nat.le_refl _) _
          have hO10 : ((w8.setCell ⟨w.heap.size, 3, none⟩ (.slice a8 ys.length cap8)).setCell ⟨w.heap.size, 1, none⟩ (.int .i64 M)).heap[w.heap.size + 2]? = some (.cells #[.int .i64 0, .int .i64 0, .int .i64 0, .slice none 0 0] 24 (0, 0)) := (Below.heap_setCell _ _ _ _ (by show w.heap.size + 2 ≠ w.heap.size; omega)).trans ((Below.heap_setCell _ _ _ _ (by show w.heap.size + 2 ≠ w.heap.size; omega)).trans hW8.b2)
          have hs10 : ((w8.setCell ⟨w.heap.size, 3, none⟩ (.slice a8 ys.length cap8)).setCell ⟨w.heap.size, 1, none⟩ (.int .i64 M)).heap.size = w8.heap.size := by simp [World.setCell]
          have HM2 := Lib.hid hM
          go_wp2_with fail
          refine (hrel _ hrow).mono ?_
          rintro e w11 ⟨a1, c1, a2, c2, rfl, hr1, hr2, hb11, hn1, hn2⟩
          unfold relS at hr1 hr2 ⊢
          unfold BufV
          dsimp only at hr1 hr2 ⊢
          have hO11 := lit_next hb11 hO10
          have hB11 := hB10.trans (hb11.mono hB10.size)
          have hsz11 := hb11.size
          rw [hs10] at hn1 hn2 hsz11
          clear hrow hB10 hO10 hb11 hrel s0' s1' s2' s3' p0 p1 p2 p3 p4 p5 p6 f0 hW8 hr8 hown8 hg8 hs10
          obtain ⟨m', hm'⟩ : ∃ m', M - bound - 1 = m' := ⟨_, rfl⟩
          rw [hm'] at hr1 hr2 ⊢
          obtain ⟨D1, hD1⟩ : ∃ D, (restS m' ys).length = D := ⟨_, rfl⟩
          obtain ⟨D2, hD2⟩ : ∃ D, (outS m' ys).length = D := ⟨_, rfl⟩
          rw [hD1] at hr1 ⊢
          rw [hD2] at hr2 ⊢
          obtain ⟨q0', q1', q2', q3'⟩ := cells4 hO11
          have f2 : ∀ j, w11.frozen? ⟨w.heap.size + 2, j, none⟩ = false := fun j => free_blk hO11
          have hz11 := blk_lt hO11
          have hfin0 := set_four (x' := .int .i64 bound) (y' := .int .i64 M) (z' := .int .i64 (max mark m')) (u' := .slice a1 D1 c1) hO11
          have hfin := (Below.heap_alloc _ (.cells #[.int .i64 bound, .int .i64 M, .int .i64 (max mark m'), .slice a1 D1 c1] 24) _ (blk_lt hfin0)).trans hfin0
          obtain ⟨t1, t2, t3, t4⟩ := cells4 hfin
          have o21 : 0 < (restS m' ys).length → Off (w.heap.size + 2) (.slice a1 D1 c1) := fun _ n c p e => by cases e; have := hn1 p rfl; omega
          have o22 : 0 < (outS m' ys).length → Off (w.heap.size + 2) (.slice a2 D2 c2) := fun _ n c p e => by
            cases e
            rcases hn2 p rfl with h | h
            · omega
            · have := p8' p h; omega
          have hr1' := ((((hr1.set_off (j := 0) (u := .int .i64 bound) o21).set_off (j := 1) (u := .int .i64 M) o21).set_off (j := 2) (u := .int .i64 (max mark m')) o21).set_off (j := 3) (u := .slice a1 D1 c1) o21).below ((Below.refl _ _).alloc (Nat.le_refl _) (.cells #[.int .i64 bound, .int .i64 M, .int .i64 (max mark m'), .slice a1 D1 c1] 24))
          have hr2' := ((((hr2.set_off (j := 0) (u := .int .i64 bound) o22).set_off (j := 1) (u := .int .i64 M) o22).set_off (j := 2) (u := .int .i64 (max mark m')) o22).set_off (j := 3) (u := .slice a1 D1 c1) o22).below ((Below.refl _ _).alloc (Nat.le_refl _) (.cells #[.int .i64 bound, .int .i64 M, .int .i64 (max mark m'), .slice a1 D1 c1] 24))
          have hB11' := (((hB11.setCell (p := ⟨w.heap.size + 2, 0, none⟩) (by show _ ≤ w.heap.size + 2; omega) (.int .i64 bound)).setCell (p := ⟨w.heap.size + 2, 1, none⟩) (by show _ ≤ w.heap.size + 2; omega) (.int .i64 M)).setCell (p := ⟨w.heap.size + 2, 2, none⟩) (by show _ ≤ w.heap.size + 2; omega) (.int .i64 (max mark m'))).setCell (p := ⟨w.heap.size + 2, 3, none⟩) (by show _ ≤ w.heap.size + 2; omega) (.slice a1 D1 c1)
          have hB12 := hB11'.alloc hB11'.size (.cells #[.int .i64 bound, .int .i64 M, .int .i64 (max mark m'), .slice a1 D1 c1] 24)
          clear hfin0 hB11'
          have HD1 := Lib.hid hD1
          have HD2 := Lib.hid hD2
          have HMM := Lib.hid hm'
          have HR1 := Lib.hid hr1'
          have HR2 := Lib.hid hr2'
          clear hD1 hD2 hm' hr1 hr2 hr1' hr2' hO11 hfin hM
          go_wp2_with fail
          refine bodyPost_ret (v := .tuple #[.agg #[.int .i64 bound, .int .i64 M, .int .i64 (max mark m'), .slice a1 D1 c1], .slice a2 D2 c2, .int .i64 0]) (by simp [results, Try.results17, go_sem, t1, t2, t3, t4]) rfl ⟨a1, c1, a2, c2, ?_, ?_, ?_, ?_, fun p hp => by have := hn1 p hp; omega, fun p hp => (hn2 p hp).elim (fun h => by omega) (fun h => by have := p8' p h; omega)⟩
          · unfold relS
            dsimp only
            rw [HM2.out, HMM.out, HD1.out, HD2.out]
          · unfold relS
            dsimp only
            rw [HM2.out, HMM.out, HD1.out]
            with_reducible exact HR1.out
          · unfold relS
            dsimp only
            rw [HM2.out, HMM.out, HD2.out]
            with_reducible exact HR2.out
          · with_reducible exact hB12
    · have v5 : decide ((0 : Int) < (k : Int)) = false := by simp; omega
      have v6 : decide (0 < k) = false := by simpa using hk0
      have hp : posS t0 xs xs.length = k := by rw [HP.out, show k = 0 by omega]; rfl
      clear HP
      go_wp2_with fail
      go_quiet (fail)
      go_wp2_with fail
      have hWd := hW.next ((Below.refl _ wr).drewN nq)
      clear hW hrr g0 g1 g2 g3 p0 p1 p2 p3 p4 p5 p6
      generalize wr.drewN nq = w5 at *
      have hr5 := hr.below hWd.bel
      have hr5d : RowAt encEv w5.drew (.slice a xs.length cap) xs := hr5.below (Below.refl _ _).drew
      have hr5e : RowAt encEv (w5.alloc (.cells #[.int .i64 k0, .int .i64 t0, .int .i64 u0, .int .i64 v0, .int .i64 wt0, .int .i64 l0, .int .i64 s0] 26)).drew (.slice a xs.length cap) xs := hr5.below ((Below.refl _ _).alloc (Nat.le_refl _) _).drew
      have hWd1 := hWd.next (Below.refl _ w5).drew
      have hWd2 := hWd.next ((Below.refl _ w5).alloc (Nat.le_refl _) (.cells #[.int .i64 k0, .int .i64 t0, .int .i64 u0, .int .i64 v0, .int .i64 wt0, .int .i64 l0, .int .i64 s0] 26)).drew
      have hL2 : (w5.alloc (.cells #[.int .i64 k0, .int .i64 t0, .int .i64 u0, .int .i64 v0, .int .i64 wt0, .int .i64 l0, .int .i64 s0] 26)).drew.heap[w5.heap.size]? = some (.cells #[.int .i64 k0, .int .i64 t0, .int .i64 u0, .int .i64 v0, .int .i64 wt0, .int .i64 l0, .int .i64 s0] 26 (0, 0)) := heap_alloc_new _ _
      obtain ⟨g0, g1, g2, g3⟩ := cells4 hWd.b0
      obtain ⟨p0, p1, p2, p3, p4, p5, p6⟩ := cells7 hWd.b1
      have hz5 := blk_lt hWd.b2
      have HYS := Lib.hid (show xs.take k ++ ⟨k0, t0, u0, v0, wt0, l0, s0⟩ :: xs.drop k = ys by rw [HI.out, hp])
      clear hp
      have hWd3 := hWd.next ((Below.refl _ w5).alloc (Nat.le_refl _) (.cells #[.int .i64 k0, .int .i64 t0, .int .i64 u0, .int .i64 v0, .int .i64 wt0, .int .i64 l0, .int .i64 s0] 26))
      obtain ⟨n0, n1, n2, n3⟩ := cells4 hWd3.b0
      have hlt5 : w.heap.size < w5.heap.size := by omega
      have hlt6 : w.heap.size + 1 < w5.heap.size := by omega
      clear hWd3
      have tokA : True := trivial
      go_region_law (first
        | (have _t := tokA; go_simp; go_at_call 30; refine (evclone_any _ xs _ (by assumption) (by omega)).mono ?_; rintro e w6 ⟨x6, rfl, hown6, hb6⟩; have hW6 := PushW.next (by assumption) hb6; have q0 := cell_blk (j := 0) hW6.b1; have q1 := cell_blk (j := 1) hW6.b1; have q2 := cell_blk (j := 2) hW6.b1; have q3 := cell_blk (j := 3) hW6.b1; have q4 := cell_blk (j := 4) hW6.b1; have q5 := cell_blk (j := 5) hW6.b1; have q6 := cell_blk (j := 6) hW6.b1; have hz6 := blk_lt hW6.b2; clear tokA)
        | (go_simp; go_at_call 29; have hq := evinsert_any _ k xs ⟨k0, t0, u0, v0, wt0, l0, s0⟩ x6 w6.heap.size 26 #[.int .i64 k0, .int .i64 t0, .int .i64 u0, .int .i64 v0, .int .i64 wt0, .int .i64 l0, .int .i64 s0] (w6.alloc (.cells #[.int .i64 k0, .int .i64 t0, .int .i64 u0, .int .i64 v0, .int .i64 wt0, .int .i64 l0, .int .i64 s0] 26)) (hown6.alloc _) (heap_alloc_new _ _) rfl (fun e => by have := hown6.lt _ e; omega) (by have := hb6.size; simp at this ⊢; omega) hk (by omega); (with_reducible refine hq.mono ?_); clear hq; rintro e w8 ⟨x8, rfl, hown8, hg8⟩; have hb58 : Below w5.heap.size w5 w8 := (((Below.refl w5.heap.size w5).drew.trans hb6).alloc hb6.size _).grown hg8 (by have := hb6.size; simp at this ⊢; omega) (fun g e => (hown6.lt g e).1); have hW8 := hWd.next hb58; have s3 := cell_blk (j := 3) hW8.b0; have f3 : w8.frozen? ⟨w.heap.size, 3, none⟩ = false := free_blk hW8.b0; have hz8 := blk_lt hW8.b2; rw [HYS.out] at hown8; obtain ⟨a8, cap8, hv8, hr8, p8⟩ := RowAt.of_owns hown8 (by omega); subst hv8; have p8' : ∀ p, a8 = some p → w5.heap.size ≤ p.block := (fun p h => by have := p8 p h; simp at this; omega); clear p8)
        | (go_simp; go_at_call 29; have hl6 := lit_next (by with_reducible exact hb6) hL2; have hq := evinsert_any _ k xs ⟨k0, t0, u0, v0, wt0, l0, s0⟩ x6 w5.heap.size 26 #[.int .i64 k0, .int .i64 t0, .int .i64 u0, .int .i64 v0, .int .i64 wt0, .int .i64 l0, .int .i64 s0] w6 hown6 hl6 rfl (fun e => by have := hown6.lt _ e; simp at this; omega) hb6.size hk (by omega); (with_reducible refine hq.mono ?_); clear hq; rintro e w8 ⟨x8, rfl, hown8, hg8⟩; have hb58 : Below w5.heap.size w5 w8 := (((Below.refl w5.heap.size w5).alloc (Nat.le_refl _) _).drew.trans (hb6.mono (by simp))).grown hg8 (by have := hb6.size; simp at this ⊢; omega) (fun g e => by have := (hown6.lt g e).1; simp at this; omega); have hW8 := hWd.next hb58; have s3 := cell_blk (j := 3) hW8.b0; have f3 : w8.frozen? ⟨w.heap.size, 3, none⟩ = false := free_blk hW8.b0; have hz8 := blk_lt hW8.b2; rw [HYS.out] at hown8; obtain ⟨a8, cap8, hv8, hr8, p8⟩ := RowAt.of_owns hown8 (by omega); subst hv8; have p8' : ∀ p, a8 = some p → w5.heap.size ≤ p.block := (fun p h => by have := p8 p h; simp at this; omega); clear p8))
      all_goals
        clear n0 n1 n2 n3
        clear s3 f3
        have hsz8 := hb58.size
        obtain ⟨s0', s1', s2', s3'⟩ := cells4 hW8.b0
        obtain ⟨p0, p1, p2, p3, p4, p5, p6⟩ := cells7 hW8.b1
        have f0 : ∀ j, w8.frozen? ⟨w.heap.size, j, none⟩ = false := fun j => free_blk hW8.b0
        obtain ⟨M, hM⟩ : ∃ M, max latest t0 = M := ⟨_, rfl⟩
        have hMb : latest ≤ M ∧ t0 ≤ M ∧ M ≤ 1048576 ∧ -1 ≤ M := by omega
        have hrel := fun W h => release_any ⟨bound, M, mark, ys⟩ (M - bound - 1) a8 cap8 W h HU.out (by dsimp only; omega)
        unfold BufV at hrel
        dsimp only at hrel
        have hrow : RowAt encEv ((w8.setCell ⟨w.heap.size, 3, none⟩ (.slice a8 ys.length cap8)).setCell ⟨w.heap.size, 1, none⟩ (.int .i64 M)) (.slice a8 ys.length cap8) ys := by
          have o1 : 0 < ys.length → Off w.heap.size (.slice a8 ys.length cap8) := fun _ n c p e => by cases e; have := p8' p rfl; omega
          exact (hr8.set_off o1).set_off o1
        have hB10 : Below w.heap.size w ((w8.setCell ⟨w.heap.size, 3, none⟩ (.slice a8 ys.length cap8)).setCell ⟨w.heap.size, 1, none⟩ (.int .i64 M)) := (hW8.bel.setCell (p := ⟨_, 3, none⟩) (Nat.le_refl _) _).setCell (p := ⟨_, 1, none⟩) (Nat.le_refl _) _
        have hO10 : ((w8.setCell ⟨w.heap.size, 3, none⟩ (.slice a8 ys.length cap8)).setCell ⟨w.heap.size, 1, none⟩ (.int .i64 M)).heap[w.heap.size + 2]? = some (.cells #[.int .i64 0, .int .i64 0, .int .i64 0, .slice none 0 0] 24 (0, 0)) := (Below.heap_setCell _ _ _ _ (by show w.heap.size + 2 ≠ w.heap.size; omega)).trans ((Below.heap_setCell _ _ _ _ (by show w.heap.size + 2 ≠ w.heap.size; omega)).trans hW8.b2)
        have hs10 : ((w8.setCell ⟨w.heap.size, 3, none⟩ (.slice a8 ys.length cap8)).setCell ⟨w.heap.size, 1, none⟩ (.int .i64 M)).heap.size = w8.heap.size := by simp [World.setCell]
        have HM2 := Lib.hid hM
        go_wp2_with fail
        refine (hrel _ hrow).mono ?_
        rintro e w11 ⟨a1, c1, a2, c2, rfl, hr1, hr2, hb11, hn1, hn2⟩
        unfold relS at hr1 hr2 ⊢
        unfold BufV
        dsimp only at hr1 hr2 ⊢
        have hO11 := lit_next hb11 hO10
        have hB11 := hB10.trans (hb11.mono hB10.size)
        have hsz11 := hb11.size
        rw [hs10] at hn1 hn2 hsz11
        clear hrow hB10 hO10 hb11 hrel s0' s1' s2' s3' p0 p1 p2 p3 p4 p5 p6 f0 hW8 hr8 hown8 hg8 hs10
        obtain ⟨m', hm'⟩ : ∃ m', M - bound - 1 = m' := ⟨_, rfl⟩
        rw [hm'] at hr1 hr2 ⊢
        obtain ⟨D1, hD1⟩ : ∃ D, (restS m' ys).length = D := ⟨_, rfl⟩
        obtain ⟨D2, hD2⟩ : ∃ D, (outS m' ys).length = D := ⟨_, rfl⟩
        rw [hD1] at hr1 ⊢
        rw [hD2] at hr2 ⊢
        obtain ⟨q0', q1', q2', q3'⟩ := cells4 hO11
        have f2 : ∀ j, w11.frozen? ⟨w.heap.size + 2, j, none⟩ = false := fun j => free_blk hO11
        have hz11 := blk_lt hO11
        have hfin0 := set_four (x' := .int .i64 bound) (y' := .int .i64 M) (z' := .int .i64 (max mark m')) (u' := .slice a1 D1 c1) hO11
        have hfin := (Below.heap_alloc _ (.cells #[.int .i64 bound, .int .i64 M, .int .i64 (max mark m'), .slice a1 D1 c1] 24) _ (blk_lt hfin0)).trans hfin0
        obtain ⟨t1, t2, t3, t4⟩ := cells4 hfin
        have o21 : 0 < (restS m' ys).length → Off (w.heap.size + 2) (.slice a1 D1 c1) := fun _ n c p e => by cases e; have := hn1 p rfl; omega
        have o22 : 0 < (outS m' ys).length → Off (w.heap.size + 2) (.slice a2 D2 c2) := fun _ n c p e => by
          cases e
          rcases hn2 p rfl with h | h
          · omega
          · have := p8' p h; omega
        have hr1' := ((((hr1.set_off (j := 0) (u := .int .i64 bound) o21).set_off (j := 1) (u := .int .i64 M) o21).set_off (j := 2) (u := .int .i64 (max mark m')) o21).set_off (j := 3) (u := .slice a1 D1 c1) o21).below ((Below.refl _ _).alloc (Nat.le_refl _) (.cells #[.int .i64 bound, .int .i64 M, .int .i64 (max mark m'), .slice a1 D1 c1] 24))
        have hr2' := ((((hr2.set_off (j := 0) (u := .int .i64 bound) o22).set_off (j := 1) (u := .int .i64 M) o22).set_off (j := 2) (u := .int .i64 (max mark m')) o22).set_off (j := 3) (u := .slice a1 D1 c1) o22).below ((Below.refl _ _).alloc (Nat.le_refl _) (.cells #[.int .i64 bound, .int .i64 M, .int .i64 (max mark m'), .slice a1 D1 c1] 24))
        have hB11' := (((hB11.setCell (p := ⟨w.heap.size + 2, 0, none⟩) (by show _ ≤ w.heap.size + 2; omega) (.int .i64 bound)).setCell (p := ⟨w.heap.size + 2, 1, none⟩) (by show _ ≤ w.heap.size + 2; omega) (.int .i64 M)).setCell (p := ⟨w.heap.size + 2, 2, none⟩) (by show _ ≤ w.heap.size + 2; omega) (.int .i64 (max mark m'))).setCell (p := ⟨w.heap.size + 2, 3, none⟩) (by show _ ≤ w.heap.size + 2; omega) (.slice a1 D1 c1)
        have hB12 := hB11'.alloc hB11'.size (.cells #[.int .i64 bound, .int .i64 M, .int .i64 (max mark m'), .slice a1 D1 c1] 24)
        clear hfin0 hB11'
        have HD1 := Lib.hid hD1
        have HD2 := Lib.hid hD2
        have HMM := Lib.hid hm'
        have HR1 := Lib.hid hr1'
        have HR2 := Lib.hid hr2'
        clear hD1 hD2 hm' hr1 hr2 hr1' hr2' hO11 hfin hM
        go_wp2_with fail
        refine bodyPost_ret (v := .tuple #[.agg #[.int .i64 bound, .int .i64 M, .int .i64 (max mark m'), .slice a1 D1 c1], .slice a2 D2 c2, .int .i64 0]) (by simp [results, Try.results17, go_sem, t1, t2, t3, t4]) rfl ⟨a1, c1, a2, c2, ?_, ?_, ?_, ?_, fun p hp => by have := hn1 p hp; omega, fun p hp => (hn2 p hp).elim (fun h => by omega) (fun h => by have := p8' p h; omega)⟩
        · unfold relS
          dsimp only
          rw [HM2.out, HMM.out, HD1.out, HD2.out]
        · unfold relS
          dsimp only
          rw [HM2.out, HMM.out, HD1.out]
          with_reducible exact HR1.out
        · unfold relS
          dsimp only
          rw [HM2.out, HMM.out, HD2.out]
          with_reducible exact HR2.out
        · with_reducible exact hB12
end Go.Proofs.Ytdljkobgghnkpaa
