/- The contracts of the validity of a buffer, the program's and the reference's. -/
import Derived.Test.YtdljkobgghnkpaaEvCheck
import Derived.Deep.RegionHeld3
namespace Go.Proofs.Ytdljkobgghnkpaa
open Go.RowKit Go.BigFrame

theorem bufH_cases {b : Buf} (h : bufH b = false) : b.bound < 0 ∨ (0 ≤ b.bound ∧ 1048576 < b.bound) ∨ (0 ≤ b.bound ∧ b.bound ≤ 1048576 ∧ b.mark < -1) ∨ (0 ≤ b.bound ∧ b.bound ≤ 1048576 ∧ -1 ≤ b.mark ∧ b.latest < b.mark) ∨
    (0 ≤ b.bound ∧ b.bound ≤ 1048576 ∧ -1 ≤ b.mark ∧ b.mark ≤ b.latest ∧ 1048576 < b.latest) ∨ (0 ≤ b.bound ∧ b.bound ≤ 1048576 ∧ -1 ≤ b.mark ∧ b.mark ≤ b.latest ∧ b.latest ≤ 1048576 ∧ 4096 < b.wait.length) := by
  have : ¬ bufH b = true := by rw [h]; simp
  simp only [bufH, Bool.and_eq_true, decide_eq_true_eq] at this
  omega
theorem vld_step (latest last : Int) (e : Ev) (es : List Ev) : vldS latest last (e :: es) = if evS e = 0 ∧ last ≤ e.time ∧ e.time ≤ latest then vldS latest e.time es else false := by
  simp only [vldS]
  by_cases h : evS e = 0 ∧ last ≤ e.time ∧ e.time ≤ latest
  · rw [if_pos h]; simp [h]
  · rw [if_neg h]
    by_cases h1 : evS e = 0
    · by_cases h2 : last ≤ e.time
      · have h3 : ¬ e.time ≤ latest := fun k => h ⟨h1, h2, k⟩
        simp [h3]
      · simp [h2]
    · simp [h1]
set_option maxRecDepth 100000 in
set_option maxHeartbeats 1600000 in
theorem valid_any (b : Buf) (a : Option Addr) (cap : Nat) (w : World) (hr : RowAt encEv w (.slice a b.wait.length cap) b.wait) :
    Calls Try.prog 19 #[.agg #[.int .i64 b.bound, .int .i64 b.latest, .int .i64 b.mark, .slice a b.wait.length cap]] w fun e w' => e = .returned (.bool (bufB b)) ∧ Below w.heap.size w w' := by
  obtain ⟨B, hB⟩ : ∃ B, bufB b = B := ⟨_, rfl⟩
  rw [hB]
  have hc := bufH_cases (b := b)
  have hn := hr.small
  obtain ⟨bound, latest, mark, xs⟩ := b
  dsimp only at *
  by_cases hH : bufH ⟨bound, latest, mark, xs⟩ = true
  case neg =>
    have hH' : bufH ⟨bound, latest, mark, xs⟩ = false := by simpa using hH
    obtain rfl : B = false := by rw [← hB]; unfold bufB; rw [hH']; rfl
    have hc := hc hH'
    clear hH hH' hB
    rcases hc with h1 | ⟨h1, h2⟩ | ⟨h1, h2, h3⟩ | ⟨h1, h2, h3, h4⟩ | ⟨h1, h2, h3, h4, h5⟩ | ⟨h1, h2, h3, h4, h5, h6⟩
    case inr.inr.inr.inr.inr =>
      have h7 : decide ((xs.length : Int) ≤ 4096) = false := by simp; omega
      go_enter Try.func19, Try.ntmps19
      go_wp2
      go_ret
      exact ⟨rfl, (Below.refl _ _).alloc (Nat.le_refl _) _⟩
    all_goals
      go_enter Try.func19, Try.ntmps19
      go_wp2
      go_ret
      exact ⟨rfl, (Below.refl _ _).alloc (Nat.le_refl _) _⟩
  case pos =>
  have hHH := hH
  simp only [bufH, Bool.and_eq_true, decide_eq_true_eq] at hHH
  obtain ⟨p1, p2, p3, p4, p5, p6⟩ := hHH
  have HV : Hid (vldS latest (mark + 1) xs = B) := by show _ = _; rw [← hB]; unfold bufB; rw [hH]; rfl
  clear hH hB hc
  have hb0 : Below w.heap.size w (w.alloc (.cells #[.int .i64 bound, .int .i64 latest, .int .i64 mark, .slice a xs.length cap] 24)) := (Below.refl _ _).alloc (Nat.le_refl _) _
  have hG0 : (w.alloc (.cells #[.int .i64 bound, .int .i64 latest, .int .i64 mark, .slice a xs.length cap] 24)).heap[w.heap.size]? = some (.cells #[.int .i64 bound, .int .i64 latest, .int .i64 mark, .slice a xs.length cap] 24 (0, 0)) := heap_alloc_new _ _
  go_enter Try.func19, Try.ntmps19
  go_wp2_with fail
  go_loopw [43, 3] (fun i l wr => ∃ k : Nat, k ≤ xs.length ∧ i = .int .i64 k ∧ ∃ t, l = .int .i64 t ∧ Hid (vldS latest t (xs.drop k) = B) ∧ Below w.heap.size w wr ∧ wr.heap[w.heap.size]? = some (.cells #[.int .i64 bound, .int .i64 latest, .int .i64 mark, .slice a xs.length cap] 24 (0, 0))) (fun i _ _ => xs.length - (intOf i).toNat)
  case atStart => exact ⟨0, Nat.zero_le _, rfl, _, rfl, HV, hb0, hG0⟩
  case round =>
    clear hb0 hG0 HV
    obtain ⟨k, hk, rfl, t, rfl, HV, hb, hG⟩ := hrel
    by_cases hlt : k < xs.length
    · obtain ⟨bb, off, ⟨k0, t0, u0, v0, wt0, l0, s0⟩, rfl, hx, _, c0, c1, c2, c3, c4, c5, c6⟩ := ev_at (hr.below hb) k hlt
      dsimp only at c0 c1 c2 c3 c4 c5 c6
      have hd := HV.out
      rw [drop_at _ _ _ hx, vld_step] at hd
      dsimp only at hd
      have HD := Lib.hid hd
      have hchk := fun w => evcheck_any ⟨k0, t0, u0, v0, wt0, l0, s0⟩ w
      unfold Ev.cells at hchk
      dsimp only at hchk
      obtain ⟨R, hR⟩ : ∃ R, evS ⟨k0, t0, u0, v0, wt0, l0, s0⟩ = R := ⟨_, rfl⟩
      rw [hR] at hchk hd
      have HR := Lib.hid hR
      obtain ⟨g0, g1, g2, g3⟩ := cells4 hG
      clear hd hR hx HV
      by_cases hR0 : R = 0
      · subst hR0
        by_cases h1 : t ≤ t0
        · by_cases h2 : t0 ≤ latest
          · go_wp2_with (go_at_call 27; refine (hchk _).mono ?_; rintro e w2 ⟨rfl, hb2⟩; have hG1 : (wr.alloc (.cells #[.int .i64 k0, .int .i64 t0, .int .i64 u0, .int .i64 v0, .int .i64 wt0, .int .i64 l0, .int .i64 s0] 26)).heap[wr.heap.size]? = some (.cells #[.int .i64 k0, .int .i64 t0, .int .i64 u0, .int .i64 v0, .int .i64 wt0, .int .i64 l0, .int .i64 s0] 26 (0, 0)) := heap_alloc_new _ _; have hb3 := (hb.alloc hb.size (.cells #[.int .i64 k0, .int .i64 t0, .int .i64 u0, .int .i64 v0, .int .i64 wt0, .int .i64 l0, .int .i64 s0] 26)).trans (hb2.mono (hb.alloc hb.size _).size); have hG2 := (hb2.block _ (blk_lt hG1)).trans hG1; have hG3 := (hb2.block _ (by have := blk_lt hG; simp; omega)).trans ((Below.heap_alloc wr _ _ (blk_lt hG)).trans hG); have e1 := cell_blk (j := 1) hG2; have f1 := cell_blk (j := 1) hG3; have f2 := cell_blk (j := 2) hG3; clear hb2 hG1 hG2)
            go_roundw
            case rel => exact ⟨k + 1, by omega, by go_num, t0, rfl, by show _ = _; rw [← HD.out, HR.out, if_pos ⟨rfl, h1, h2⟩], hb3, hG3⟩
            case measure => simp [intOf]; omega
          · go_wp2_with (go_at_call 27; refine (hchk _).mono ?_; rintro e w2 ⟨rfl, hb2⟩; have hG1 : (wr.alloc (.cells #[.int .i64 k0, .int .i64 t0, .int .i64 u0, .int .i64 v0, .int .i64 wt0, .int .i64 l0, .int .i64 s0] 26)).heap[wr.heap.size]? = some (.cells #[.int .i64 k0, .int .i64 t0, .int .i64 u0, .int .i64 v0, .int .i64 wt0, .int .i64 l0, .int .i64 s0] 26 (0, 0)) := heap_alloc_new _ _; have hb3 := (hb.alloc hb.size (.cells #[.int .i64 k0, .int .i64 t0, .int .i64 u0, .int .i64 v0, .int .i64 wt0, .int .i64 l0, .int .i64 s0] 26)).trans (hb2.mono (hb.alloc hb.size _).size); have hG2 := (hb2.block _ (blk_lt hG1)).trans hG1; have hG3 := (hb2.block _ (by have := blk_lt hG; simp; omega)).trans ((Below.heap_alloc wr _ _ (blk_lt hG)).trans hG); have e1 := cell_blk (j := 1) hG2; have f1 := cell_blk (j := 1) hG3; have f2 := cell_blk (j := 2) hG3; clear hb2 hG1 hG2)
            go_ret
            exact ⟨ret_bool (by rw [← HD.out, if_neg (by rw [HR.out]; omega)]), hb3⟩
        · go_wp2_with (go_at_call 27; refine (hchk _).mono ?_; rintro e w2 ⟨rfl, hb2⟩; have hG1 : (wr.alloc (.cells #[.int .i64 k0, .int .i64 t0, .int .i64 u0, .int .i64 v0, .int .i64 wt0, .int .i64 l0, .int .i64 s0] 26)).heap[wr.heap.size]? = some (.cells #[.int .i64 k0, .int .i64 t0, .int .i64 u0, .int .i64 v0, .int .i64 wt0, .int .i64 l0, .int .i64 s0] 26 (0, 0)) := heap_alloc_new _ _; have hb3 := (hb.alloc hb.size (.cells #[.int .i64 k0, .int .i64 t0, .int .i64 u0, .int .i64 v0, .int .i64 wt0, .int .i64 l0, .int .i64 s0] 26)).trans (hb2.mono (hb.alloc hb.size _).size); have hG2 := (hb2.block _ (blk_lt hG1)).trans hG1; have hG3 := (hb2.block _ (by have := blk_lt hG; simp; omega)).trans ((Below.heap_alloc wr _ _ (blk_lt hG)).trans hG); have e1 := cell_blk (j := 1) hG2; have f1 := cell_blk (j := 1) hG3; have f2 := cell_blk (j := 2) hG3; clear hb2 hG1 hG2)
          go_ret
          exact ⟨ret_bool (by rw [← HD.out, if_neg (by rw [HR.out]; omega)]), hb3⟩
      · have d1 : (R == 0) = false := by simpa using hR0
        have d2 : (R != 0) = true := by simpa using hR0
        go_wp2_with (go_at_call 27; refine (hchk _).mono ?_; rintro e w2 ⟨rfl, hb2⟩; have hG1 : (wr.alloc (.cells #[.int .i64 k0, .int .i64 t0, .int .i64 u0, .int .i64 v0, .int .i64 wt0, .int .i64 l0, .int .i64 s0] 26)).heap[wr.heap.size]? = some (.cells #[.int .i64 k0, .int .i64 t0, .int .i64 u0, .int .i64 v0, .int .i64 wt0, .int .i64 l0, .int .i64 s0] 26 (0, 0)) := heap_alloc_new _ _; have hb3 := (hb.alloc hb.size (.cells #[.int .i64 k0, .int .i64 t0, .int .i64 u0, .int .i64 v0, .int .i64 wt0, .int .i64 l0, .int .i64 s0] 26)).trans (hb2.mono (hb.alloc hb.size _).size); have hG2 := (hb2.block _ (blk_lt hG1)).trans hG1; have hG3 := (hb2.block _ (by have := blk_lt hG; simp; omega)).trans ((Below.heap_alloc wr _ _ (blk_lt hG)).trans hG); have e1 := cell_blk (j := 1) hG2; have f1 := cell_blk (j := 1) hG3; have f2 := cell_blk (j := 2) hG3; clear hb2 hG1 hG2)
        go_ret
        exact ⟨ret_bool (by rw [← HD.out, if_neg (by rw [HR.out]; omega)]), hb3⟩
    · obtain rfl : k = xs.length := by omega
      have hd := HV.out
      rw [List.drop_length] at hd
      have HD : Hid (B = true) := hd.symm
      clear hd
      go_wp2_with fail
      go_ret
      exact ⟨ret_bool HD.out.symm, hb⟩
set_option maxRecDepth 100000 in
set_option maxHeartbeats 3200000 in
theorem rvalid_any (b : Buf) (a : Option Addr) (cap : Nat) (w : World) (hr : RowAt encEv w (.slice a b.wait.length cap) b.wait) :
    Calls Try.prog 20 #[.agg #[.int .i64 b.bound, .int .i64 b.latest, .int .i64 b.mark, .slice a b.wait.length cap]] w fun e w' => e = .returned (.bool (bufB b)) ∧ Below w.heap.size w w' := by
  obtain ⟨B, hB⟩ : ∃ B, bufB b = B := ⟨_, rfl⟩
  rw [hB]
  have hc := bufH_cases (b := b)
  have hn := hr.small
  obtain ⟨bound, latest, mark, xs⟩ := b
  dsimp only at *
  by_cases hH : bufH ⟨bound, latest, mark, xs⟩ = true
  case neg =>
    have hH' : bufH ⟨bound, latest, mark, xs⟩ = false := by simpa using hH
    obtain rfl : B = false := by rw [← hB]; unfold bufB; rw [hH']; rfl
    have hc := hc hH'
    clear hH hH' hB
    rcases hc with h1 | ⟨h1, h2⟩ | ⟨h1, h2, h3⟩ | ⟨h1, h2, h3, h4⟩ | ⟨h1, h2, h3, h4, h5⟩ | ⟨h1, h2, h3, h4, h5, h6⟩
    case inr.inr.inr.inr.inr =>
      have h7 : decide ((xs.length : Int) ≤ 4096) = false := by simp; omega
      go_enter Try.func20, Try.ntmps20
      go_wp2
      go_ret
      exact ⟨rfl, (Below.refl _ _).alloc (Nat.le_refl _) _⟩
    all_goals
      go_enter Try.func20, Try.ntmps20
      go_wp2
      go_ret
      exact ⟨rfl, (Below.refl _ _).alloc (Nat.le_refl _) _⟩
  case pos =>
  have hHH := hH
  simp only [bufH, Bool.and_eq_true, decide_eq_true_eq] at hHH
  obtain ⟨p1, p2, p3, p4, p5, p6⟩ := hHH
  have HV : Hid (vldS latest (mark + 1) xs = B) := by show _ = _; rw [← hB]; unfold bufB; rw [hH]; rfl
  clear hH hB hc
  have hb0 : Below w.heap.size w (w.alloc (.cells #[.int .i64 bound, .int .i64 latest, .int .i64 mark, .slice a xs.length cap] 24)) := (Below.refl _ _).alloc (Nat.le_refl _) _
  have hG0 : (w.alloc (.cells #[.int .i64 bound, .int .i64 latest, .int .i64 mark, .slice a xs.length cap] 24)).heap[w.heap.size]? = some (.cells #[.int .i64 bound, .int .i64 latest, .int .i64 mark, .slice a xs.length cap] 24 (0, 0)) := heap_alloc_new _ _
  go_enter Try.func20, Try.ntmps20
  go_wp2_with fail
  go_loopw [39] (fun i wr => ∃ k : Nat, k ≤ xs.length ∧ i = .int .i64 k ∧ ∃ t, (k = 0 → t = mark + 1) ∧ mark < t ∧ (∀ x, 0 < k → xs[k - 1]? = some x → x.time = t) ∧ Hid (vldS latest t (xs.drop k) = B) ∧ Below w.heap.size w wr ∧ wr.heap[w.heap.size]? = some (.cells #[.int .i64 bound, .int .i64 latest, .int .i64 mark, .slice a xs.length cap] 24 (0, 0))) (fun i _ => xs.length - (intOf i).toNat)
  case atStart => exact ⟨0, Nat.zero_le _, rfl, _, fun _ => rfl, by omega, fun x h => by omega, HV, hb0, hG0⟩
  case round =>
    clear hb0 hG0 HV
    obtain ⟨k, hk, rfl, t, ht0, ht1, ht2, HV, hb, hG⟩ := hrel
    by_cases hlt : k < xs.length
    · have hrr := hr.below hb
      obtain ⟨bb, off, ⟨k0, t0, u0, v0, wt0, l0, s0⟩, rfl, hx, _, c0, c1, c2, c3, c4, c5, c6⟩ := ev_at hrr k hlt
      dsimp only at c0 c1 c2 c3 c4 c5 c6
      have hd := HV.out
      rw [drop_at _ _ _ hx, vld_step] at hd
      dsimp only at hd
      have HD := Lib.hid hd
      have hchk := fun w => rcheck_any ⟨k0, t0, u0, v0, wt0, l0, s0⟩ w
      unfold Ev.cells at hchk
      dsimp only at hchk
      obtain ⟨R, hR⟩ : ∃ R, evS ⟨k0, t0, u0, v0, wt0, l0, s0⟩ = R := ⟨_, rfl⟩
      rw [hR] at hchk
      have HR := Lib.hid hR
      have HX := Lib.hid hx
      obtain ⟨g0, g1, g2, g3⟩ := cells4 hG
      clear hd hR hx HV
      have hbE := hb.alloc hb.size (.cells #[.int .i64 k0, .int .i64 t0, .int .i64 u0, .int .i64 v0, .int .i64 wt0, .int .i64 l0, .int .i64 s0] 26)
      have hzw := blk_lt hG
      have hGE : ∀ {W : World}, Below (wr.heap.size + 1) (wr.alloc (.cells #[.int .i64 k0, .int .i64 t0, .int .i64 u0, .int .i64 v0, .int .i64 wt0, .int .i64 l0, .int .i64 s0] 26)) W → W.heap[w.heap.size]? = some (.cells #[.int .i64 bound, .int .i64 latest, .int .i64 mark, .slice (some ⟨bb, off, none⟩) xs.length cap] 24 (0, 0)) := fun hq => (hq.block _ (by omega)).trans ((Below.heap_alloc wr _ _ hzw).trans hG)
      have e0 : ∀ z : Ext (wr.heap.size + 1) (wr.alloc (.cells #[.int .i64 k0, .int .i64 t0, .int .i64 u0, .int .i64 v0, .int .i64 wt0, .int .i64 l0, .int .i64 s0] 26)), z.world.cell? ⟨wr.heap.size, 0, none⟩ = some (.int .i64 k0) := fun z => cell_new z.below 0 _ rfl
      have e1 : ∀ z : Ext (wr.heap.size + 1) (wr.alloc (.cells #[.int .i64 k0, .int .i64 t0, .int .i64 u0, .int .i64 v0, .int .i64 wt0, .int .i64 l0, .int .i64 s0] 26)), z.world.cell? ⟨wr.heap.size, 1, none⟩ = some (.int .i64 t0) := fun z => cell_new z.below 1 _ rfl
      have e2 : ∀ z : Ext (wr.heap.size + 1) (wr.alloc (.cells #[.int .i64 k0, .int .i64 t0, .int .i64 u0, .int .i64 v0, .int .i64 wt0, .int .i64 l0, .int .i64 s0] 26)), z.world.cell? ⟨wr.heap.size, 2, none⟩ = some (.int .i64 u0) := fun z => cell_new z.below 2 _ rfl
      have e3 : ∀ z : Ext (wr.heap.size + 1) (wr.alloc (.cells #[.int .i64 k0, .int .i64 t0, .int .i64 u0, .int .i64 v0, .int .i64 wt0, .int .i64 l0, .int .i64 s0] 26)), z.world.cell? ⟨wr.heap.size, 3, none⟩ = some (.int .i64 v0) := fun z => cell_new z.below 3 _ rfl
      have e4 : ∀ z : Ext (wr.heap.size + 1) (wr.alloc (.cells #[.int .i64 k0, .int .i64 t0, .int .i64 u0, .int .i64 v0, .int .i64 wt0, .int .i64 l0, .int .i64 s0] 26)), z.world.cell? ⟨wr.heap.size, 4, none⟩ = some (.int .i64 wt0) := fun z => cell_new z.below 4 _ rfl
      have e5 : ∀ z : Ext (wr.heap.size + 1) (wr.alloc (.cells #[.int .i64 k0, .int .i64 t0, .int .i64 u0, .int .i64 v0, .int .i64 wt0, .int .i64 l0, .int .i64 s0] 26)), z.world.cell? ⟨wr.heap.size, 5, none⟩ = some (.int .i64 l0) := fun z => cell_new z.below 5 _ rfl
      have e6 : ∀ z : Ext (wr.heap.size + 1) (wr.alloc (.cells #[.int .i64 k0, .int .i64 t0, .int .i64 u0, .int .i64 v0, .int .i64 wt0, .int .i64 l0, .int .i64 s0] 26)), z.world.cell? ⟨wr.heap.size, 6, none⟩ = some (.int .i64 s0) := fun z => cell_new z.below 6 _ rfl
      have e7 : ∀ z : Ext (wr.heap.size + 1) (wr.alloc (.cells #[.int .i64 k0, .int .i64 t0, .int .i64 u0, .int .i64 v0, .int .i64 wt0, .int .i64 l0, .int .i64 s0] 26)), z.world.cell? ⟨w.heap.size, 1, none⟩ = some (.int .i64 latest) := fun z => cell_old z.below g1
      have e8 : ∀ z : Ext (wr.heap.size + 1) (wr.alloc (.cells #[.int .i64 k0, .int .i64 t0, .int .i64 u0, .int .i64 v0, .int .i64 wt0, .int .i64 l0, .int .i64 s0] 26)), z.world.cell? ⟨w.heap.size, 2, none⟩ = some (.int .i64 mark) := fun z => cell_old z.below g2
      have e9 : ∀ z : Ext (wr.heap.size + 1) (wr.alloc (.cells #[.int .i64 k0, .int .i64 t0, .int .i64 u0, .int .i64 v0, .int .i64 wt0, .int .i64 l0, .int .i64 s0] 26)), z.world.cell? ⟨w.heap.size, 3, none⟩ = some (.slice (some ⟨bb, off, none⟩) xs.length cap) := fun z => cell_old z.below g3
      by_cases hk0 : k = 0
      · obtain rfl := ht0 hk0
        have d0 : decide ((0 : Int) < (k : Int)) = false := by simp [hk0]
        have d00 : decide (0 < k) = false := by simp [hk0]
        clear ht0 ht2 hk0
        by_cases hR0 : R = 0
        · subst hR0
          have d1 : ((0 : Int) != 0) = false := by decide
          by_cases h1 : mark + 1 ≤ t0
          · have d2 : decide (t0 ≤ mark) = false := by simp; omega
            by_cases h2 : t0 ≤ latest
            · have d3 : decide (latest < t0) = false := by simp; omega
              go_wp2_with fail
              refine wp_region_ext (wr.heap.size + 1) (wr.alloc (.cells #[.int .i64 k0, .int .i64 t0, .int .i64 u0, .int .i64 v0, .int .i64 wt0, .int .i64 l0, .int .i64 s0] 26)) (by kernel_rfl) (by kernel_rfl) (Below.refl _ _) ?_
              try simp only [List.append_eq, List.cons_append, List.nil_append]
              repeat (go_big_quiet_step ((go_at_call 33; exact Calls.ext_of (by simp) (hchk _))))
              refine wpQuiet_nil ?_
              rintro _ ⟨⟨wq, hq⟩, rfl⟩
              clear e0 e1 e2 e3 e4 e5 e6 e7 e8 e9
              try clear e11
              go_wp2_with fail
              go_roundw
              case rel => exact ⟨k + 1, by omega, by go_num, t0, fun h => by omega, by omega, fun x _ hx => by rw [Nat.add_sub_cancel, HX.out] at hx; cases hx; rfl, by show _ = _; rw [← HD.out, HR.out, if_pos ⟨rfl, h1, h2⟩], hbE.trans (hq.mono (by omega)), hGE hq⟩
              case measure => simp [intOf]; omega
            · have d3 : decide (latest < t0) = true := by simp; omega
              go_wp2_with fail
              refine wp_region_ext (wr.heap.size + 1) (wr.alloc (.cells #[.int .i64 k0, .int .i64 t0, .int .i64 u0, .int .i64 v0, .int .i64 wt0, .int .i64 l0, .int .i64 s0] 26)) (by kernel_rfl) (by kernel_rfl) (Below.refl _ _) ?_
              try simp only [List.append_eq, List.cons_append, List.nil_append]
              repeat (go_big_quiet_step ((go_at_call 33; exact Calls.ext_of (by simp) (hchk _))))
              refine wpQuiet_nil ?_
              rintro _ ⟨⟨wq, hq⟩, rfl⟩
              clear e0 e1 e2 e3 e4 e5 e6 e7 e8 e9
              try clear e11
              go_wp2_with fail
              go_ret
              exact ⟨ret_bool (by rw [← HD.out, if_neg (by rw [HR.out]; omega)]), hbE.trans (hq.mono (by omega))⟩
          · have d2 : decide (t0 ≤ mark) = true := by simp; omega
            go_wp2_with fail
            refine wp_region_ext (wr.heap.size + 1) (wr.alloc (.cells #[.int .i64 k0, .int .i64 t0, .int .i64 u0, .int .i64 v0, .int .i64 wt0, .int .i64 l0, .int .i64 s0] 26)) (by kernel_rfl) (by kernel_rfl) (Below.refl _ _) ?_
            try simp only [List.append_eq, List.cons_append, List.nil_append]
            repeat (go_big_quiet_step ((go_at_call 33; exact Calls.ext_of (by simp) (hchk _))))
            refine wpQuiet_nil ?_
            rintro _ ⟨⟨wq, hq⟩, rfl⟩
            clear e0 e1 e2 e3 e4 e5 e6 e7 e8 e9
            try clear e11
            go_wp2_with fail
            go_ret
            exact ⟨ret_bool (by rw [← HD.out, if_neg (by rw [HR.out]; omega)]), hbE.trans (hq.mono (by omega))⟩
        · have d1 : (R == 0) = false := by simpa using hR0
          have d2 : (R != 0) = true := by simpa using hR0
          go_wp2_with fail
          refine wp_region_ext (wr.heap.size + 1) (wr.alloc (.cells #[.int .i64 k0, .int .i64 t0, .int .i64 u0, .int .i64 v0, .int .i64 wt0, .int .i64 l0, .int .i64 s0] 26)) (by kernel_rfl) (by kernel_rfl) (Below.refl _ _) ?_
          try simp only [List.append_eq, List.cons_append, List.nil_append]
          repeat (go_big_quiet_step ((go_at_call 33; exact Calls.ext_of (by simp) (hchk _))))
          refine wpQuiet_nil ?_
          rintro _ ⟨⟨wq, hq⟩, rfl⟩
          clear e0 e1 e2 e3 e4 e5 e6 e7 e8 e9
          try clear e11
          go_wp2_with fail
          go_ret
          exact ⟨ret_bool (by rw [← HD.out, if_neg (by rw [HR.out]; omega)]), hbE.trans (hq.mono (by omega))⟩
      · have d0 : decide ((0 : Int) < (k : Int)) = true := by simp; omega
        have d00 : decide (0 < k) = true := by simp; omega
        obtain ⟨b2, off2, ⟨k9, t9, u9, v9, w9, l9, s9⟩, hbe, hx9, _, c10, c11, c12, c13, c14, c15, c16⟩ := ev_at hrr (k - 1) (by omega)
        obtain ⟨rfl, rfl⟩ : bb = b2 ∧ off = off2 := by simpa using hbe
        have hte := ht2 _ (by omega) hx9
        dsimp only at c11 hte
        subst hte
        have e11 : ∀ z : Ext (wr.heap.size + 1) (wr.alloc (.cells #[.int .i64 k0, .int .i64 t0, .int .i64 u0, .int .i64 v0, .int .i64 wt0, .int .i64 l0, .int .i64 s0] 26)), z.world.cell? ⟨bb, off + (k - 1) * 7 + 1, none⟩ = some (.int .i64 t9) := fun z => cell_old z.below c11
        have hkb : k ≤ 4096 := by omega
        have v1 : IntKind.i64.wrap ((k : Int) - 1) = (k : Int) - 1 := IntWalk.i64_in _ (by omega)
        have v2 : ((k : Int) - 1).toNat = k - 1 := by omega
        have v3 : (0 : Int) ≤ (k : Int) - 1 := by omega
        have v4 : (k : Int) - 1 < (xs.length : Int) := by omega
        clear ht0 ht2 hbe hx9 c10 c11 c12 c13 c14 c15 c16
        by_cases hR0 : R = 0
        · subst hR0
          have d1 : ((0 : Int) != 0) = false := by decide
          by_cases h2 : t0 ≤ latest
          · have d3 : decide (latest < t0) = false := by simp; omega
            by_cases h0 : t0 ≤ mark
            · have d2 : decide (t0 ≤ mark) = true := by simpa using h0
              go_wp2_with fail
              refine wp_region_ext (wr.heap.size + 1) (wr.alloc (.cells #[.int .i64 k0, .int .i64 t0, .int .i64 u0, .int .i64 v0, .int .i64 wt0, .int .i64 l0, .int .i64 s0] 26)) (by kernel_rfl) (by kernel_rfl) (Below.refl _ _) ?_
              try simp only [List.append_eq, List.cons_append, List.nil_append]
              repeat (go_big_quiet_step ((go_at_call 33; exact Calls.ext_of (by simp) (hchk _))))
              refine wpQuiet_nil ?_
              rintro _ ⟨⟨wq, hq⟩, rfl⟩
              clear e0 e1 e2 e3 e4 e5 e6 e7 e8 e9
              try clear e11
              go_wp2_with fail
              go_ret
              exact ⟨ret_bool (by rw [← HD.out, if_neg (by rw [HR.out]; omega)]), hbE.trans (hq.mono (by omega))⟩
            · have d2 : decide (t0 ≤ mark) = false := by simpa using h0
              by_cases h1 : t9 ≤ t0
              · have d4 : decide (t0 < t9) = false := by simp; omega
                go_wp2_with fail
                refine wp_region_ext (wr.heap.size + 1) (wr.alloc (.cells #[.int .i64 k0, .int .i64 t0, .int .i64 u0, .int .i64 v0, .int .i64 wt0, .int .i64 l0, .int .i64 s0] 26)) (by kernel_rfl) (by kernel_rfl) (Below.refl _ _) ?_
                try simp only [List.append_eq, List.cons_append, List.nil_append]
                repeat (go_big_quiet_step ((go_at_call 33; exact Calls.ext_of (by simp) (hchk _))))
                refine wpQuiet_nil ?_
                rintro _ ⟨⟨wq, hq⟩, rfl⟩
                clear e0 e1 e2 e3 e4 e5 e6 e7 e8 e9
                try clear e11
                go_wp2_with fail
                go_roundw
                case rel => exact ⟨k + 1, by omega, by go_num, t0, fun h => by omega, by omega, fun x _ hx => by rw [Nat.add_sub_cancel, HX.out] at hx; cases hx; rfl, by show _ = _; rw [← HD.out, HR.out, if_pos ⟨rfl, h1, h2⟩], hbE.trans (hq.mono (by omega)), hGE hq⟩
                case measure => simp [intOf]; omega
              · have d4 : decide (t0 < t9) = true := by simp; omega
                go_wp2_with fail
                refine wp_region_ext (wr.heap.size + 1) (wr.alloc (.cells #[.int .i64 k0, .int .i64 t0, .int .i64 u0, .int .i64 v0, .int .i64 wt0, .int .i64 l0, .int .i64 s0] 26)) (by kernel_rfl) (by kernel_rfl) (Below.refl _ _) ?_
                try simp only [List.append_eq, List.cons_append, List.nil_append]
                repeat (go_big_quiet_step ((go_at_call 33; exact Calls.ext_of (by simp) (hchk _))))
                refine wpQuiet_nil ?_
                rintro _ ⟨⟨wq, hq⟩, rfl⟩
                clear e0 e1 e2 e3 e4 e5 e6 e7 e8 e9
                try clear e11
                go_wp2_with fail
                go_ret
                exact ⟨ret_bool (by rw [← HD.out, if_neg (by rw [HR.out]; omega)]), hbE.trans (hq.mono (by omega))⟩
          · have d3 : decide (latest < t0) = true := by simp; omega
            have d2 : decide (t0 ≤ mark) = false := by simp; omega
            all_goals
              go_wp2_with fail
              refine wp_region_ext (wr.heap.size + 1) (wr.alloc (.cells #[.int .i64 k0, .int .i64 t0, .int .i64 u0, .int .i64 v0, .int .i64 wt0, .int .i64 l0, .int .i64 s0] 26)) (by kernel_rfl) (by kernel_rfl) (Below.refl _ _) ?_
              try simp only [List.append_eq, List.cons_append, List.nil_append]
              repeat (go_big_quiet_step ((go_at_call 33; exact Calls.ext_of (by simp) (hchk _))))
              refine wpQuiet_nil ?_
              rintro _ ⟨⟨wq, hq⟩, rfl⟩
              clear e0 e1 e2 e3 e4 e5 e6 e7 e8 e9
              try clear e11
              go_wp2_with fail
              go_ret
              exact ⟨ret_bool (by rw [← HD.out, if_neg (by rw [HR.out]; omega)]), hbE.trans (hq.mono (by omega))⟩
        · have d1 : (R == 0) = false := by simpa using hR0
          have d2 : (R != 0) = true := by simpa using hR0
          go_wp2_with fail
          refine wp_region_ext (wr.heap.size + 1) (wr.alloc (.cells #[.int .i64 k0, .int .i64 t0, .int .i64 u0, .int .i64 v0, .int .i64 wt0, .int .i64 l0, .int .i64 s0] 26)) (by kernel_rfl) (by kernel_rfl) (Below.refl _ _) ?_
          try simp only [List.append_eq, List.cons_append, List.nil_append]
          repeat (go_big_quiet_step ((go_at_call 33; exact Calls.ext_of (by simp) (hchk _))))
          refine wpQuiet_nil ?_
          rintro _ ⟨⟨wq, hq⟩, rfl⟩
          clear e0 e1 e2 e3 e4 e5 e6 e7 e8 e9
          try clear e11
          go_wp2_with fail
          go_ret
          exact ⟨ret_bool (by rw [← HD.out, if_neg (by rw [HR.out]; omega)]), hbE.trans (hq.mono (by omega))⟩
    · obtain rfl : k = xs.length := by omega
      have hd := HV.out
      rw [List.drop_length] at hd
      have HD : Hid (B = true) := hd.symm
      clear hd
      go_wp2_with fail
      go_ret
      exact ⟨ret_bool HD.out.symm, hb⟩
end Go.Proofs.Ytdljkobgghnkpaa
