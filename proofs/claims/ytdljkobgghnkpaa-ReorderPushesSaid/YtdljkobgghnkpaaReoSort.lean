/- The contracts of opening, flushing and sorting. -/
import Derived.Test.YtdljkobgghnkpaaReoPush
namespace Go.Proofs.Ytdljkobgghnkpaa
open Go.RowKit Go.BigFrame

theorem open_any (k : Int) (w : World) : Calls Try.prog 11 #[.int .i64 k] w fun e w' => e = .returned (.tuple #[BufV (openS k).1 none 0, .int .i64 (openS k).2]) ∧ Below w.heap.size w w' := by
  unfold openS
  by_cases h : k < 0 ∨ 1048576 < k
  · rw [if_pos h]
    unfold BufV
    rcases (by omega : k < 0 ∨ (0 ≤ k ∧ 1048576 < k)) with h1 | ⟨h1, h2⟩
    all_goals
      clear h
      go_enter Try.func11, Try.ntmps11
      go_wp2
      refine bodyPost_ret (v := .tuple #[.agg #[.int .i64 0, .int .i64 0, .int .i64 0, .slice none 0 0], .int .i64 1]) (by simp [results, Try.results11, go_sem]) rfl ⟨rfl, (Below.refl _ _).alloc (Nat.le_refl _) _⟩
  · rw [if_neg h]
    unfold BufV
    have h1 : 0 ≤ k := by omega
    have h2 : k ≤ 1048576 := by omega
    clear h
    go_enter Try.func11, Try.ntmps11
    go_wp2
    refine bodyPost_ret (v := .tuple #[.agg #[.int .i64 k, .int .i64 (-1), .int .i64 (-1), .slice none 0 0], .int .i64 0]) (by simp [results, Try.results11, go_sem]) rfl ⟨rfl, (Below.refl _ _).alloc (Nat.le_refl _) _⟩
theorem RowAt.lt {α : Type} {E : Enc α} {w : World} {p : Addr} {n c : Nat} {xs : List α} (h : RowAt E w (.slice (some p) n c) xs) (hx : 0 < xs.length) : p.block < w.heap.size := by
  have hn : n = xs.length := by obtain ⟨a, cap, e, _⟩ := h; cases e; rfl
  subst hn
  obtain ⟨b, off, x, e, _, _, hc⟩ := h.elem 0 hx
  cases e
  have h0 := hc 0 _ (List.getElem?_eq_getElem (by rw [E.len]; exact E.pos))
  exact cell_lt h0
/-- the state behind the release in a flush -/
structure FlW (w W : World) (vb : Nat) (bv : Array Value) (v1 v2 : Value) (x1 x2 : List Ev) : Prop where
  bel : Below w.heap.size w W
  z : W.heap[vb]? = some (.cells bv 24 (0, 0))
  o : W.heap[w.heap.size + 1]? = some (.cells #[.int .i64 0, .int .i64 0, .int .i64 0, .slice none 0 0] 24 (0, 0))
  r1 : RowAt encEv W v1 x1
  r2 : RowAt encEv W v2 x2
  lt : w.heap.size + 1 < vb
theorem FlW.set {w w4 : World} {vb : Nat} {v1 v2 : Value} {x1 x2 : List Ev} (a b c d : Value) (hb : Below w.heap.size w w4) (hZ : w4.heap[vb]? = some (.cells #[.int .i64 0, .int .i64 0, .int .i64 0, .slice none 0 0] 24 (0, 0)))
    (hO : w4.heap[w.heap.size + 1]? = some (.cells #[.int .i64 0, .int .i64 0, .int .i64 0, .slice none 0 0] 24 (0, 0))) (r1 : RowAt encEv w4 v1 x1) (r2 : RowAt encEv w4 v2 x2) (hlt : w.heap.size + 1 < vb) (o1 : 0 < x1.length → Off vb v1) (o2 : 0 < x2.length → Off vb v2) :
    FlW w ((((w4.setCell ⟨vb, 0, none⟩ a).setCell ⟨vb, 1, none⟩ b).setCell ⟨vb, 2, none⟩ c).setCell ⟨vb, 3, none⟩ d) vb #[a, b, c, d] v1 v2 x1 x2 := by
  have hne : ∀ (j : Nat), w.heap.size + 1 ≠ (⟨vb, j, none⟩ : Addr).block := fun j => by show w.heap.size + 1 ≠ vb; omega
  have hle : ∀ (j : Nat), w.heap.size ≤ (⟨vb, j, none⟩ : Addr).block := fun j => by show w.heap.size ≤ vb; omega
  exact ⟨(((hb.setCell (hle 0) _).setCell (hle 1) _).setCell (hle 2) _).setCell (hle 3) _, set_four hZ,
    (Below.heap_setCell _ _ _ _ (hne 3)).trans ((Below.heap_setCell _ _ _ _ (hne 2)).trans ((Below.heap_setCell _ _ _ _ (hne 1)).trans ((Below.heap_setCell _ _ _ _ (hne 0)).trans hO))),
    (((r1.set_off o1).set_off o1).set_off o1).set_off o1, (((r2.set_off o2).set_off o2).set_off o2).set_off o2, hlt⟩
theorem FlW.new {w w4 : World} {v1 v2 : Value} {x1 x2 : List Ev} (bv : Array Value) (hb : Below w.heap.size w w4)
    (hO : w4.heap[w.heap.size + 1]? = some (.cells #[.int .i64 0, .int .i64 0, .int .i64 0, .slice none 0 0] 24 (0, 0))) (r1 : RowAt encEv w4 v1 x1) (r2 : RowAt encEv w4 v2 x2) : FlW w (w4.alloc (.cells bv 24)) w4.heap.size bv v1 v2 x1 x2 :=
  ⟨hb.alloc hb.size _, heap_alloc_new _ _, (Below.heap_alloc _ _ _ (blk_lt hO)).trans hO, r1.below ((Below.refl _ _).alloc (Nat.le_refl _) _), r2.below ((Below.refl _ _).alloc (Nat.le_refl _) _), blk_lt hO⟩
set_option maxRecDepth 100000 in
set_option maxHeartbeats 3200000 in
theorem flush_any (b : Buf) (a : Option Addr) (cap : Nat) (w : World) (hr : RowAt encEv w (.slice a b.wait.length cap) b.wait) (hn : b.wait.length ≤ 100000) :
    Calls Try.prog 21 #[BufV b a cap] w (PushPost w (flushS b)) := by
  have hv := fun w h => valid_any b a cap w h
  have hcp := fun w h => copied_any b a cap w h (by omega)
  have hrl := fun a1 c1 w h hu => release_any b b.latest a1 c1 w h hu (by omega)
  have hb0 : Below w.heap.size w ((w.alloc (.cells #[.int .i64 b.bound, .int .i64 b.latest, .int .i64 b.mark, .slice a b.wait.length cap] 24)).alloc (.cells #[.int .i64 0, .int .i64 0, .int .i64 0, .slice none 0 0] 24)) := ((Below.refl _ _).alloc (Nat.le_refl _) _).alloc (by simp) _
  have hG0 : ((w.alloc (.cells #[.int .i64 b.bound, .int .i64 b.latest, .int .i64 b.mark, .slice a b.wait.length cap] 24)).alloc (.cells #[.int .i64 0, .int .i64 0, .int .i64 0, .slice none 0 0] 24)).heap[w.heap.size]? = some (.cells #[.int .i64 b.bound, .int .i64 b.latest, .int .i64 b.mark, .slice a b.wait.length cap] 24 (0, 0)) := (Below.heap_alloc _ _ _ (by simp)).trans (heap_alloc_new _ _)
  have hO0 : ((w.alloc (.cells #[.int .i64 b.bound, .int .i64 b.latest, .int .i64 b.mark, .slice a b.wait.length cap] 24)).alloc (.cells #[.int .i64 0, .int .i64 0, .int .i64 0, .slice none 0 0] 24)).heap[w.heap.size + 1]? = some (.cells #[.int .i64 0, .int .i64 0, .int .i64 0, .slice none 0 0] 24 (0, 0)) := by
    have h := heap_alloc_new (w.alloc (.cells #[.int .i64 b.bound, .int .i64 b.latest, .int .i64 b.mark, .slice a b.wait.length cap] 24)) (.cells #[.int .i64 0, .int .i64 0, .int .i64 0, .slice none 0 0] 24)
    simpa using h
  unfold PushPost flushS
  obtain ⟨B, hB⟩ : ∃ B, bufB b = B := ⟨_, rfl⟩
  rw [hB] at hv ⊢
  have hup : B = true → Up b.wait := fun h => by
    rw [h] at hB
    unfold bufB at hB
    rw [Bool.and_eq_true] at hB
    exact (vld_up _ _ _ hB.2).1
  have HU := Lib.hid hup
  clear hB hup
  obtain ⟨bound, latest, mark, xs⟩ := b
  unfold BufV at *
  dsimp only at *
  cases B with
  | false =>
    rw [if_pos rfl]
    dsimp only
    go_enter Try.func21, Try.ntmps21
    go_wp2_with fail
    refine (hv _ (hr.below hb0)).mono ?_
    rintro e w2 ⟨rfl, hb2⟩
    have hO2 := lit_next hb2 hO0
    have hbw := hb0.trans (hb2.mono hb0.size)
    obtain ⟨o0, o1, o2, o3⟩ := cells4 hO2
    have f2 : ∀ j, w2.frozen? ⟨w.heap.size + 1, j, none⟩ = false := fun j => free_blk hO2
    have hz := blk_lt hO2
    have hfin := set_four (x' := .int .i64 0) (y' := .int .i64 0) (z' := .int .i64 0) (u' := .slice none 0 0) hO2
    obtain ⟨t1, t2, t3, t4⟩ := cells4 hfin
    go_wp2_with fail
    refine bodyPost_ret (v := .tuple #[.agg #[.int .i64 0, .int .i64 0, .int .i64 0, .slice none 0 0], .slice none 0 0, .int .i64 4]) (by simp [results, Try.results21, go_sem, t1, t2, t3, t4]) rfl ⟨none, 0, none, 0, rfl, RowAt.nil _, RowAt.nil _, ?_, (fun p hp => by cases hp), (fun p hp => by cases hp)⟩
    exact (((hbw.setCell (p := ⟨_, 0, none⟩) (Nat.le_succ _) _).setCell (p := ⟨_, 1, none⟩) (Nat.le_succ _) _).setCell (p := ⟨_, 2, none⟩) (Nat.le_succ _) _).setCell (p := ⟨_, 3, none⟩) (Nat.le_succ _) _
  | true =>
    rw [if_neg (by simp)]
    have hrl := fun a1 c1 w h => hrl a1 c1 w h (HU.out rfl)
    go_enter Try.func21, Try.ntmps21
    go_wp2_with fail
    refine (hv _ (hr.below hb0)).mono ?_
    rintro e w2 ⟨rfl, hb2⟩
    have hO2 := lit_next hb2 hO0
    have hG2 := lit_next hb2 hG0
    have hbw := hb0.trans (hb2.mono hb0.size)
    have hr2 := hr.below hbw
    clear hb0 hb2 hG0 hO0 hv
    obtain ⟨g0, g1, g2, g3⟩ := cells4 hG2
    go_wp2_with fail
    have hcpd1 := hcp w2.drew (hr2.below (Below.refl _ _).drew)
    have hcpd2 := hcp (w2.alloc (.cells #[.int .i64 0, .int .i64 0, .int .i64 0, .slice none 0 0] 24)).drew (hr2.below ((Below.refl _ _).alloc (Nat.le_refl _) _).drew)
    have hA1 : Below w2.heap.size w2 w2.drew := (Below.refl _ _).drew
    have hA2 : Below w2.heap.size w2 (w2.alloc (.cells #[.int .i64 0, .int .i64 0, .int .i64 0, .slice none 0 0] 24)).drew := ((Below.refl _ _).alloc (Nat.le_refl _) _).drew
    have hZ2 : (w2.alloc (.cells #[.int .i64 0, .int .i64 0, .int .i64 0, .slice none 0 0] 24)).drew.heap[w2.heap.size]? = some (.cells #[.int .i64 0, .int .i64 0, .int .i64 0, .slice none 0 0] 24 (0, 0)) := heap_alloc_new _ _
    have hz2 := blk_lt hO2
    have hlt2 : w.heap.size < w2.heap.size := by omega
    have n1 : (w2.alloc (.cells #[.int .i64 0, .int .i64 0, .int .i64 0, .slice none 0 0] 24)).cell? ⟨w.heap.size, 1, none⟩ = some (.int .i64 latest) := cell_alloc g1
    have n0 : (w2.alloc (.cells #[.int .i64 0, .int .i64 0, .int .i64 0, .slice none 0 0] 24)).cell? ⟨w.heap.size, 0, none⟩ = some (.int .i64 bound) := cell_alloc g0
    have n2 : (w2.alloc (.cells #[.int .i64 0, .int .i64 0, .int .i64 0, .slice none 0 0] 24)).cell? ⟨w.heap.size, 2, none⟩ = some (.int .i64 mark) := cell_alloc g2
    have n3 : (w2.alloc (.cells #[.int .i64 0, .int .i64 0, .int .i64 0, .slice none 0 0] 24)).cell? ⟨w.heap.size, 3, none⟩ = some (.slice a xs.length cap) := cell_alloc g3
    have hle : (outS latest xs).length ≤ xs.length := by have := out_rest latest xs; omega
    clear hcp
    go_region_law (first
      | (go_simp; go_at_call 28; (first | (with_reducible refine hcpd1.mono ?_) | (with_reducible refine hcpd2.mono ?_)); rintro e w3 ⟨a1, c1, rfl, hr3, hb3, hn3⟩; have hb23 : Below w2.heap.size w2 w3 := (by first | (with_reducible exact hA1.trans (hb3.mono hA1.size)) | (with_reducible exact hA2.trans (hb3.mono hA2.size))); have hG3 := lit_next hb23 hG2; have hO3 := lit_next hb23 hO2; have s1 := cell_blk (j := 1) hG3; have hr3z := hr3.below ((Below.refl _ _).alloc (Nat.le_refl _) (.cells #[.int .i64 0, .int .i64 0, .int .i64 0, .slice none 0 0] 24)); have hz3 := blk_lt hO3; have hA3 : Below w3.heap.size w3 (w3.alloc (.cells #[.int .i64 0, .int .i64 0, .int .i64 0, .slice none 0 0] 24)) := (Below.refl _ _).alloc (Nat.le_refl _) _; have n5 : (w3.alloc (.cells #[.int .i64 0, .int .i64 0, .int .i64 0, .slice none 0 0] 24)).cell? ⟨w.heap.size, 1, none⟩ = some (.int .i64 latest) := (cell_alloc s1); unfold BufV; dsimp only)
      | (go_simp; go_at_call 31; (with_reducible refine (hrl a1 c1 (w3.alloc (.cells #[.int .i64 0, .int .i64 0, .int .i64 0, .slice none 0 0] 24)) hr3z).mono ?_); rintro e w4 ⟨a2, c2, a4, c4, rfl, hr4, hr5, hb4, hn4, hn5⟩; unfold relS at hr4 hr5; dsimp only at hr4 hr5; have hb34 : Below w3.heap.size w3 w4 := hA3.trans (hb4.mono hA3.size); have hZ4 := lit_next hb4 (heap_alloc_new w3 (.cells #[.int .i64 0, .int .i64 0, .int .i64 0, .slice none 0 0] 24)); have z0 := cell_blk (j := 0) hZ4; have z1 := cell_blk (j := 1) hZ4; have z2 := cell_blk (j := 2) hZ4; have z3 := cell_blk (j := 3) hZ4; have zf : ∀ j, w4.frozen? ⟨w3.heap.size, j, none⟩ = false := (fun j => free_blk hZ4); have hO4 := lit_next hb34 hO3; have hz4 := blk_lt hO4; have hbw4 := hbw.trans ((hb23.trans (hb34.mono hb23.size)).mono hbw.size); unfold relS; unfold BufV; dsimp only; have hq1 : ∀ p, a2 = some p → w3.heap.size ≤ p.block := (fun p h => by have := hn4 p h; simp at this; omega); have hq2 : ∀ p, a4 = some p → w3.heap.size ≤ p.block ∨ a1 = some p := (fun p h => (hn5 p h).imp (fun h => by simp at h; omega) id); obtain ⟨D1, hD1⟩ : ∃ D, (restS latest xs).length = D := ⟨_, rfl⟩; obtain ⟨D2, hD2⟩ : ∃ D, (outS latest xs).length = D := ⟨_, rfl⟩; rw [hD1] at hr4 ⊢; rw [hD2] at hr5 ⊢; have hF := FlW.set (.int .i64 bound) (.int .i64 latest) (.int .i64 (max mark latest)) (.slice a2 D1 c2) hbw4 hZ4 hO4 hr4 hr5 (by omega) (fun _ n c p e => by cases e; exact Nat.ne_of_gt (Nat.lt_of_lt_of_le (by simp) (hn4 p rfl))) (fun hp n c p e => by cases e; exact (hn5 p rfl).elim (fun h => Nat.ne_of_gt (Nat.lt_of_lt_of_le (by simp) h)) (fun h => by subst h; exact Nat.ne_of_lt (RowAt.lt hr3 (Nat.lt_of_lt_of_le hp hle)))); have HD1 := Lib.hid hD1; have HD2 := Lib.hid hD2; clear hD1 hD2 hr4 hr5 hn4 hn5 hb4 hb34 hO4 hbw4)
      | (go_simp; go_at_call 31; (with_reducible refine (hrl a1 c1 w3 hr3).mono ?_); rintro e w4 ⟨a2, c2, a4, c4, rfl, hr4, hr5, hb4, hn4, hn5⟩; unfold relS at hr4 hr5; dsimp only at hr4 hr5; have hZ3 := lit_next hb3 (by with_reducible exact hZ2); have hb34 : Below w3.heap.size w3 w4 := hb4; have hZ4 := lit_next hb4 hZ3; have z0 := cell_blk (j := 0) hZ4; have z1 := cell_blk (j := 1) hZ4; have z2 := cell_blk (j := 2) hZ4; have z3 := cell_blk (j := 3) hZ4; have zf : ∀ j, w4.frozen? ⟨w2.heap.size, j, none⟩ = false := (fun j => free_blk hZ4); have hO4 := lit_next hb34 hO3; have hz4 := blk_lt hO4; have hbw4 := hbw.trans ((hb23.trans (hb34.mono hb23.size)).mono hbw.size); unfold relS; unfold BufV; dsimp only; have hq1 : ∀ p, a2 = some p → w3.heap.size ≤ p.block := hn4; have hq2 : ∀ p, a4 = some p → w3.heap.size ≤ p.block ∨ a1 = some p := hn5; obtain ⟨D1, hD1⟩ : ∃ D, (restS latest xs).length = D := ⟨_, rfl⟩; obtain ⟨D2, hD2⟩ : ∃ D, (outS latest xs).length = D := ⟨_, rfl⟩; rw [hD1] at hr4 ⊢; rw [hD2] at hr5 ⊢; have hF := FlW.set (.int .i64 bound) (.int .i64 latest) (.int .i64 (max mark latest)) (.slice a2 D1 c2) hbw4 hZ4 hO4 hr4 hr5 (by omega) (fun _ n c p e => by cases e; exact Nat.ne_of_gt (Nat.lt_of_lt_of_le (by simp) (Nat.le_trans hb3.size (hn4 p rfl)))) (fun hp n c p e => by cases e; exact (hn5 p rfl).elim (fun h => Nat.ne_of_gt (Nat.lt_of_lt_of_le (by simp) (Nat.le_trans hb3.size h))) (fun h => Nat.ne_of_gt (Nat.lt_of_lt_of_le (by simp) (hn3 p h)))); have HD1 := Lib.hid hD1; have HD2 := Lib.hid hD2; clear hD1 hD2 hr4 hr5 hn4 hn5 hb4 hb34 hO4 hbw4)
      | (go_simp; go_at_call 31; (with_reducible refine (hrl a1 c1 w3 hr3).mono ?_); rintro e w4 ⟨a2, c2, a4, c4, rfl, hr4, hr5, hb4, hn4, hn5⟩; unfold relS at hr4 hr5; dsimp only at hr4 hr5; have hb34 : Below w3.heap.size w3 w4 := hb4; have hO4 := lit_next hb34 hO3; have hz4 := blk_lt hO4; have hbw4 := hbw.trans ((hb23.trans (hb34.mono hb23.size)).mono hbw.size); unfold relS; unfold BufV; dsimp only; have hq1 : ∀ p, a2 = some p → w3.heap.size ≤ p.block := hn4; have hq2 : ∀ p, a4 = some p → w3.heap.size ≤ p.block ∨ a1 = some p := hn5; obtain ⟨D1, hD1⟩ : ∃ D, (restS latest xs).length = D := ⟨_, rfl⟩; obtain ⟨D2, hD2⟩ : ∃ D, (outS latest xs).length = D := ⟨_, rfl⟩; rw [hD1] at hr4 ⊢; rw [hD2] at hr5 ⊢; have hF := FlW.new #[.int .i64 bound, .int .i64 latest, .int .i64 (max mark latest), .slice a2 D1 c2] hbw4 hO4 hr4 hr5; have HD1 := Lib.hid hD1; have HD2 := Lib.hid hD2; clear hD1 hD2 hr4 hr5 hn4 hn5 hb4 hb34 hO4 hbw4; have z0 := trivial; have z1 := trivial; have z2 := trivial; have z3 := trivial; have zf := trivial; have hZ4 := trivial))
    all_goals
      clear z0 z1 z2 z3 zf hZ4
      have hq3 : ∀ p, a4 = some p → w.heap.size + 1 < p.block := fun p h => (hq2 p h).elim (fun h => by omega) (fun h => by have := hn3 p h; have := hz2; first | omega | (simp at *; omega))
      have hq4 : ∀ p, a2 = some p → w.heap.size + 1 < p.block := fun p h => by have := hq1 p h; omega
      first
        | (obtain ⟨W5, hW5⟩ : ∃ W5, W5 = ((((w4.setCell ⟨w3.heap.size, 0, none⟩ (.int .i64 bound)).setCell ⟨w3.heap.size, 1, none⟩ (.int .i64 latest)).setCell ⟨w3.heap.size, 2, none⟩ (.int .i64 (max mark latest))).setCell ⟨w3.heap.size, 3, none⟩ (.slice a2 D1 c2)) := ⟨_, rfl⟩; rw [← hW5] at hF ⊢; clear hW5)
        | (obtain ⟨W5, hW5⟩ : ∃ W5, W5 = ((((w4.setCell ⟨w2.heap.size, 0, none⟩ (.int .i64 bound)).setCell ⟨w2.heap.size, 1, none⟩ (.int .i64 latest)).setCell ⟨w2.heap.size, 2, none⟩ (.int .i64 (max mark latest))).setCell ⟨w2.heap.size, 3, none⟩ (.slice a2 D1 c2)) := ⟨_, rfl⟩; rw [← hW5] at hF ⊢; clear hW5)
        | (obtain ⟨W5, hW5⟩ : ∃ W5, W5 = w4.alloc (.cells #[.int .i64 bound, .int .i64 latest, .int .i64 (max mark latest), .slice a2 D1 c2] 24) := ⟨_, rfl⟩; rw [← hW5] at hF ⊢; clear hW5)
      obtain ⟨hFb, hFz, hFo, hFr1, hFr2, hFlt⟩ := hF
      obtain ⟨y0, y1, y2, y3⟩ := cells4 hFz
      obtain ⟨x0, x1, x2, x3⟩ := cells4 hFo
      have f5 : ∀ j, W5.frozen? ⟨w.heap.size + 1, j, none⟩ = false := fun j => free_blk hFo
      have hfin := set_four (x' := .int .i64 bound) (y' := .int .i64 latest) (z' := .int .i64 (max mark latest)) (u' := .slice a2 D1 c2) hFo
      obtain ⟨t1, t2, t3, t4⟩ := cells4 hfin
      have HR1 := Lib.hid hFr1
      have HR2 := Lib.hid hFr2
      clear hFr1 hFr2 hFz hFo hfin hrl hcpd1 hcpd2
      go_wp2_with fail
      refine bodyPost_ret (v := .tuple #[.agg #[.int .i64 bound, .int .i64 latest, .int .i64 (max mark latest), .slice a2 D1 c2], .slice a4 D2 c4, .int .i64 0]) (by simp [results, Try.results21, go_sem, t1, t2, t3, t4]) rfl ⟨a2, c2, a4, c4, ?_, ?_, ?_, ?_, fun p hp => by have := hq4 p hp; omega, fun p hp => by have := hq3 p hp; omega⟩
      · unfold relS
        dsimp only
        rw [HD1.out, HD2.out]
      · unfold relS
        dsimp only
        rw [HD1.out]
        have o2 : 0 < (restS latest xs).length → Off (w.heap.size + 1) (.slice a2 D1 c2) := fun _ n c p e => by cases e; have := hq4 p rfl; omega
        exact (((HR1.out.set_off o2).set_off o2).set_off o2).set_off o2
      · unfold relS
        dsimp only
        rw [HD2.out]
        have o2 : 0 < (outS latest xs).length → Off (w.heap.size + 1) (.slice a4 D2 c4) := fun _ n c p e => by cases e; have := hq3 p rfl; omega
        exact (((HR2.out.set_off o2).set_off o2).set_off o2).set_off o2
      · exact (((hFb.setCell (p := ⟨_, 0, none⟩) (Nat.le_succ _) _).setCell (p := ⟨_, 1, none⟩) (Nat.le_succ _) _).setCell (p := ⟨_, 2, none⟩) (Nat.le_succ _) _).setCell (p := ⟨_, 3, none⟩) (Nat.le_succ _) _
end Go.Proofs.Ytdljkobgghnkpaa
