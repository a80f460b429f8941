/- The contract of the laws' own example. -/
import Derived.Test.YtdljkobgghnkpaaReoSort2
namespace Go.Proofs.Ytdljkobgghnkpaa
open Go.RowKit Go.BigFrame

def cutE (t : Int) : Ev := ⟨2, t, 0, 1, 0, 0, 0⟩
theorem cut_any (t : Int) (w : World) : Calls Try.prog 25 #[.int .i64 t] w fun e w' => e = .returned (.agg #[.int .i64 2, .int .i64 t, .int .i64 0, .int .i64 1, .int .i64 0, .int .i64 0, .int .i64 0]) ∧ Below w.heap.size w w' := by
  go_enter Try.func25, Try.ntmps25
  go_wp2
  refine bodyPost_ret (v := .agg #[.int .i64 2, .int .i64 t, .int .i64 0, .int .i64 1, .int .i64 0, .int .i64 0, .int .i64 0]) (by simp [results, Try.results25, go_sem]) rfl ⟨rfl, (Below.refl _ _).alloc (Nat.le_refl _) _⟩
theorem rows_blk {w : World} {g T : Nat} {xs : List Ev} {f : Nat × Nat} (h : w.heap[g]? = some (.cells (flatR encEv xs).toArray T f)) (hl : xs.length ≤ 1000000) (cap : Nat) (hc : xs.length ≤ cap) : RowAt encEv w (.slice (some ⟨g, 0, none⟩) xs.length cap) xs := by
  refine ⟨_, cap, rfl, hc, (fun e => by cases e), by omega, fun j u hj => ⟨g, 0, rfl, ?_⟩⟩
  rw [Nat.zero_add, cell_blk h]; simpa using hj
theorem awake_sort : sortS 2 [cutE 5, cutE 3, cutE 6, cutE 2] = ([cutE 3, cutE 5, cutE 6], 1, 0) := by decide +kernel
set_option maxRecDepth 100000 in
set_option maxHeartbeats 3200000 in
theorem awake_any (w : World) : Calls Try.prog 7 #[] w fun e w' => e = .returned (.bool true) ∧ Below w.heap.size w w' := by
  have hb0 : Below w.heap.size w w := Below.refl _ _
  go_enter Try.func7, Try.ntmps7
  go_wp2_with (go_at_call 25; refine (cut_any _ _).mono ?_; rintro e w1 ⟨rfl, hb1⟩; have hb0 := hb0.trans (hb1.mono hb0.size); clear hb1)
  have hL := heap_alloc_new w1 (.cells (flatR encEv [cutE 5, cutE 3, cutE 6, cutE 2]).toArray 26)
  have hr := rows_blk hL (by decide) 4 (by decide)
  have hs := sort_any 2 [cutE 5, cutE 3, cutE 6, cutE 2] (some ⟨w1.heap.size, 0, none⟩) 4 _ hr (by decide)
  rw [awake_sort] at hs
  have hb1 := hb0.alloc hb0.size (.cells (flatR encEv [cutE 5, cutE 3, cutE 6, cutE 2]).toArray 26)
  refine hs.mono ?_
  rintro e w3 ⟨a1, c1, rfl, hr3, hb3⟩
  have hb13 := hb1.trans (hb3.mono hb1.size)
  obtain ⟨bb, off, x0, rfl, hx0, hcap, p0, p1, _⟩ := ev_at hr3 0 (by decide)
  obtain ⟨bb2, off2, x2, e2, hx2, hcap2, r0, r1, _⟩ := ev_at hr3 2 (by decide)
  cases e2
  have e0 : x0 = cutE 3 := by simpa using hx0.symm
  have e2 : x2 = cutE 6 := by simpa using hx2.symm
  subst e0 e2
  have hcap' : 3 ≤ c1 := hcap
  unfold cutE at p1 r1
  dsimp only at p1 r1
  clear hs hr hL hb1 hb3 hr3 hx0 hx2 p0 r0 hcap hcap2
  go_wp2_with fail
  go_ret
  exact ⟨rfl, hb13⟩
end Go.Proofs.Ytdljkobgghnkpaa
