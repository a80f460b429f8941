/- The contracts of what is released, the program's and the reference's, and of the copies of buffers. -/
import Derived.Test.YtdljkobgghnkpaaReoValid
import Derived.Test.YtdljkobgghnkpaaEvSlices
import Derived.Maps.AppendAt
namespace Go.Proofs.Ytdljkobgghnkpaa
open Go.RowKit Go.BigFrame

/-- a whole struct of four cells is laid into a known block -/
theorem set_four {w : World} {g T : Nat} {x y z u x' y' z' u' : Value} (h : w.heap[g]? = some (.cells #[x, y, z, u] T (0, 0))) :
    ((((w.setCell ⟨g, 0, none⟩ x').setCell ⟨g, 1, none⟩ y').setCell ⟨g, 2, none⟩ z').setCell ⟨g, 3, none⟩ u').heap[g]? = some (.cells #[x', y', z', u'] T (0, 0)) := by
  rw [heap_setCell_same _ _ _ _ _ _ (heap_setCell_same _ _ _ _ _ _ (heap_setCell_same _ _ _ _ _ _ (heap_setCell_same _ _ _ _ _ _ h)))]
  rfl
theorem RowAt.set_off {α : Type} {E : Enc α} {w : World} {v u : Value} {xs : List α} {g j : Nat} (h : RowAt E w v xs) (ho : 0 < xs.length → Off g v) : RowAt E (w.setCell ⟨g, j, none⟩ u) v xs := by
  obtain ⟨a, cap, rfl, h1, h2, h3, h4⟩ := h
  refine ⟨a, cap, rfl, h1, h2, h3, fun i x hx => ?_⟩
  obtain ⟨b, off, rfl, c⟩ := h4 i x hx
  have hpos : 0 < xs.length := by
    cases xs with
    | nil => simp [flatR] at hx
    | cons y ys => simp
  exact ⟨b, off, rfl, (World.cell?_of_block (Below.heap_setCell _ _ _ _ (ho hpos _ _ _ rfl))).trans c⟩
def BufV (b : Buf) (a : Option Addr) (cap : Nat) : Value := .agg #[.int .i64 b.bound, .int .i64 b.latest, .int .i64 b.mark, .slice a b.wait.length cap]
/-- a buffer and events are handed back -/
def RelPost (w : World) (a : Option Addr) (b : Buf) (out : List Ev) (e : Ending) (w' : World) : Prop := ∃ a1 c1 a2 c2, e = .returned (.tuple #[BufV b a1 c1, .slice a2 out.length c2]) ∧ RowAt encEv w' (.slice a1 b.wait.length c1) b.wait ∧ RowAt encEv w' (.slice a2 out.length c2) out ∧ Below w.heap.size w w' ∧ (∀ p, a1 = some p → w.heap.size ≤ p.block) ∧ ∀ p, a2 = some p → w.heap.size ≤ p.block ∨ a = some p
def CopPost (w : World) (b : Buf) (e : Ending) (w' : World) : Prop := ∃ a1 c1, e = .returned (BufV b a1 c1) ∧ RowAt encEv w' (.slice a1 b.wait.length c1) b.wait ∧ Below w.heap.size w w' ∧ ∀ p, a1 = some p → w.heap.size ≤ p.block
set_option maxRecDepth 100000 in
set_option maxHeartbeats 1600000 in
theorem copied_any (b : Buf) (a : Option Addr) (cap : Nat) (w : World) (hr : RowAt encEv w (.slice a b.wait.length cap) b.wait) (hn : b.wait.length ≤ 1000000) :
    Calls Try.prog 28 #[BufV b a cap] w (CopPost w b) := by
  obtain ⟨bound, latest, mark, xs⟩ := b
  unfold BufV CopPost BufV
  dsimp only at *
  have hb0 : Below w.heap.size w ((w.alloc (.cells #[.int .i64 bound, .int .i64 latest, .int .i64 mark, .slice a xs.length cap] 24)).alloc (.cells #[.int .i64 0, .int .i64 0, .int .i64 0, .slice none 0 0] 24)) := ((Below.refl _ _).alloc (Nat.le_refl _) _).alloc (by simp) _
  have hG0 : ((w.alloc (.cells #[.int .i64 bound, .int .i64 latest, .int .i64 mark, .slice a xs.length cap] 24)).alloc (.cells #[.int .i64 0, .int .i64 0, .int .i64 0, .slice none 0 0] 24)).heap[w.heap.size]? = some (.cells #[.int .i64 bound, .int .i64 latest, .int .i64 mark, .slice a xs.length cap] 24 (0, 0)) := (Below.heap_alloc _ _ _ (by simp)).trans (heap_alloc_new _ _)
  have hO0 : ((w.alloc (.cells #[.int .i64 bound, .int .i64 latest, .int .i64 mark, .slice a xs.length cap] 24)).alloc (.cells #[.int .i64 0, .int .i64 0, .int .i64 0, .slice none 0 0] 24)).heap[w.heap.size + 1]? = some (.cells #[.int .i64 0, .int .i64 0, .int .i64 0, .slice none 0 0] 24 (0, 0)) := by
    have h := heap_alloc_new (w.alloc (.cells #[.int .i64 bound, .int .i64 latest, .int .i64 mark, .slice a xs.length cap] 24)) (.cells #[.int .i64 0, .int .i64 0, .int .i64 0, .slice none 0 0] 24)
    simpa using h
  go_enter Try.func28, Try.ntmps28
  go_wp2_with fail
  refine (evclone_any _ xs _ (hr.below hb0) hn).mono ?_
  rintro e w2 ⟨x, rfl, hown, hb2⟩
  obtain ⟨a2, cap2, rfl, h2, ha2⟩ := RowAt.of_owns hown (by omega)
  have hbw := hb0.trans (hb2.mono hb0.size)
  have hG2 := (hb2.block _ (blk_lt hG0)).trans hG0
  have hO2 := (hb2.block _ (blk_lt hO0)).trans hO0
  obtain ⟨g0, g1, g2, g3⟩ := cells4 hG2
  obtain ⟨o0, o1, o2, o3⟩ := cells4 hO2
  have hz2 := blk_lt hO2
  have f1 : w2.frozen? ⟨w.heap.size, 3, none⟩ = false := free_blk hG2
  have f2 : ∀ j, w2.frozen? ⟨w.heap.size + 1, j, none⟩ = false := fun j => free_blk hO2
  clear hb2 hG0 hO0 hb0
  go_wp2_with fail
  have hO3 : (w2.setCell ⟨w.heap.size, 3, none⟩ (.slice a2 xs.length cap2)).heap[w.heap.size + 1]? = some (.cells #[.int .i64 0, .int .i64 0, .int .i64 0, .slice none 0 0] 24 (0, 0)) := (Below.heap_setCell _ _ _ _ (by show w.heap.size + 1 ≠ w.heap.size; omega)).trans hO2
  have hfin := set_four (x' := .int .i64 bound) (y' := .int .i64 latest) (z' := .int .i64 mark) (u' := .slice a2 xs.length cap2) hO3
  obtain ⟨t0, t1, t2, t3⟩ := cells4 hfin
  have hbx : Below w2.heap.size w2 w2 := Below.refl _ _
  refine bodyPost_ret (v := .agg #[.int .i64 bound, .int .i64 latest, .int .i64 mark, .slice a2 xs.length cap2]) (by simp [results, Try.results28, go_sem, t0, t1, t2, t3]) rfl ⟨a2, cap2, rfl, ?_, ?_, fun p hp => by have := ha2 p hp; simp at this; omega⟩
  · have o1 : 0 < xs.length → Off w.heap.size (.slice a2 xs.length cap2) := fun _ n c p e => by cases e; have := ha2 p rfl; simp at this; omega
    have o2 : 0 < xs.length → Off (w.heap.size + 1) (.slice a2 xs.length cap2) := fun _ n c p e => by cases e; have := ha2 p rfl; simp at this; omega
    exact ((((h2.set_off o1).set_off o2).set_off o2).set_off o2).set_off o2
  · exact ((((hbw.setCell (p := ⟨_, 3, none⟩) (Nat.le_refl _) _).setCell (p := ⟨_, 0, none⟩) (Nat.le_succ _) _).setCell (p := ⟨_, 1, none⟩) (Nat.le_succ _) _).setCell (p := ⟨_, 2, none⟩) (Nat.le_succ _) _).setCell (p := ⟨_, 3, none⟩) (Nat.le_succ _) _
set_option maxRecDepth 100000 in
set_option maxHeartbeats 1600000 in
theorem rcopied_any (b : Buf) (a : Option Addr) (cap : Nat) (w : World) (hr : RowAt encEv w (.slice a b.wait.length cap) b.wait) (hn : b.wait.length ≤ 1000000) :
    Calls Try.prog 32 #[BufV b a cap] w (CopPost w b) := by
  obtain ⟨bound, latest, mark, xs⟩ := b
  unfold BufV CopPost BufV
  dsimp only at *
  have hb0 : Below w.heap.size w ((w.alloc (.cells #[.int .i64 bound, .int .i64 latest, .int .i64 mark, .slice a xs.length cap] 24)).alloc (.cells #[.int .i64 0, .int .i64 0, .int .i64 0, .slice none 0 0] 24)) := ((Below.refl _ _).alloc (Nat.le_refl _) _).alloc (by simp) _
  have hG0 : ((w.alloc (.cells #[.int .i64 bound, .int .i64 latest, .int .i64 mark, .slice a xs.length cap] 24)).alloc (.cells #[.int .i64 0, .int .i64 0, .int .i64 0, .slice none 0 0] 24)).heap[w.heap.size]? = some (.cells #[.int .i64 bound, .int .i64 latest, .int .i64 mark, .slice a xs.length cap] 24 (0, 0)) := (Below.heap_alloc _ _ _ (by simp)).trans (heap_alloc_new _ _)
  have hO0 : ((w.alloc (.cells #[.int .i64 bound, .int .i64 latest, .int .i64 mark, .slice a xs.length cap] 24)).alloc (.cells #[.int .i64 0, .int .i64 0, .int .i64 0, .slice none 0 0] 24)).heap[w.heap.size + 1]? = some (.cells #[.int .i64 0, .int .i64 0, .int .i64 0, .slice none 0 0] 24 (0, 0)) := by
    have h := heap_alloc_new (w.alloc (.cells #[.int .i64 bound, .int .i64 latest, .int .i64 mark, .slice a xs.length cap] 24)) (.cells #[.int .i64 0, .int .i64 0, .int .i64 0, .slice none 0 0] 24)
    simpa using h
  have hr0 := hr.below hb0
  go_enter Try.func32, Try.ntmps32
  go_wp2_with (at_builtin; refine wpList_app_rows evRT rfl _ _ rfl (w.heap.size + 2) _ _ [] xs rfl (World.ownsRow_nil _ _ _ _) rfl hr0 (by simp; omega) (by simp; omega) (by simp) ?_; intro v6 w2 hown hg6; rw [List.nil_append] at hown; have hb2 := below_of_grown hg6; obtain ⟨a2, cap2, hv6, h2, ha2⟩ := RowAt.of_owns hown (by omega); subst hv6; have hG2 := (hb2.block _ (blk_lt hG0)).trans hG0; have hO2 := (hb2.block _ (blk_lt hO0)).trans hO0; have g0 := cell_blk (j := 0) hG2; have g1 := cell_blk (j := 1) hG2; have g2 := cell_blk (j := 2) hG2; have g3 := cell_blk (j := 3) hG2; have o0 := cell_blk (j := 0) hO2; have o1 := cell_blk (j := 1) hO2; have o2 := cell_blk (j := 2) hO2; have o3 := cell_blk (j := 3) hO2; have hz2 := blk_lt hO2; have f1 : w2.frozen? ⟨w.heap.size, 3, none⟩ = false := free_blk hG2; have f2 : ∀ j, w2.frozen? ⟨w.heap.size + 1, j, none⟩ = false := fun j => free_blk hO2)
  have hbw := hb0.trans (hb2.mono hb0.size)
  have hO3 : (w2.setCell ⟨w.heap.size, 3, none⟩ (.slice a2 xs.length cap2)).heap[w.heap.size + 1]? = some (.cells #[.int .i64 0, .int .i64 0, .int .i64 0, .slice none 0 0] 24 (0, 0)) := (Below.heap_setCell _ _ _ _ (by show w.heap.size + 1 ≠ w.heap.size; omega)).trans hO2
  have hfin := set_four (x' := .int .i64 bound) (y' := .int .i64 latest) (z' := .int .i64 mark) (u' := .slice a2 xs.length cap2) hO3
  obtain ⟨t0, t1, t2, t3⟩ := cells4 hfin
  have hbx : Below w2.heap.size w2 w2 := Below.refl _ _
  refine bodyPost_ret (v := .agg #[.int .i64 bound, .int .i64 latest, .int .i64 mark, .slice a2 xs.length cap2]) (by simp [results, Try.results32, go_sem, t0, t1, t2, t3]) rfl ⟨a2, cap2, rfl, ?_, ?_, fun p hp => by have := ha2 p hp; omega⟩
  · have o1 : 0 < xs.length → Off w.heap.size (.slice a2 xs.length cap2) := fun _ n c p e => by cases e; have := ha2 p rfl; omega
    have o2 : 0 < xs.length → Off (w.heap.size + 1) (.slice a2 xs.length cap2) := fun _ n c p e => by cases e; have := ha2 p rfl; omega
    exact ((((h2.set_off o1).set_off o2).set_off o2).set_off o2).set_off o2
  · exact ((((hbw.setCell (p := ⟨_, 3, none⟩) (Nat.le_refl _) _).setCell (p := ⟨_, 0, none⟩) (Nat.le_succ _) _).setCell (p := ⟨_, 1, none⟩) (Nat.le_succ _) _).setCell (p := ⟨_, 2, none⟩) (Nat.le_succ _) _).setCell (p := ⟨_, 3, none⟩) (Nat.le_succ _) _
theorem preS_nil (m : Int) (xs : List Ev) (h : xs.length = 0) : preS m xs = 0 := by rw [List.eq_nil_of_length_eq_zero h]; rfl
set_option maxRecDepth 100000 in
set_option maxHeartbeats 3200000 in
theorem release_any (b : Buf) (m : Int) (a : Option Addr) (cap : Nat) (w : World) (hr : RowAt encEv w (.slice a b.wait.length cap) b.wait) (hu : Up b.wait) (hn : b.wait.length ≤ 1000000) :
    Calls Try.prog 31 #[BufV b a cap, .int .i64 m] w (RelPost w a (relS b m).1 (relS b m).2) := by
  obtain ⟨e1, e2⟩ := pre_out m b.wait hu
  unfold relS
  rw [← e1, ← e2]
  clear e1 e2 hu
  obtain ⟨bound, latest, mark, xs⟩ := b
  unfold RelPost BufV
  dsimp only at *
  have HP : ∀ k, (∀ j x, j < k → xs[j]? = some x → x.time ≤ m) → k ≤ xs.length → (k = xs.length ∨ ∃ x, xs[k]? = some x ∧ m < x.time) → preS m xs = k := preS_step m xs
  obtain ⟨q, hq⟩ : ∃ q, preS m xs = q := ⟨_, rfl⟩
  rw [hq]
  rw [hq] at HP
  have HPP := Lib.hid HP
  clear HP hq
  have hbb0 : ∀ {bb off : Nat}, a = some ⟨bb, off, none⟩ → 0 < xs.length → bb < w.heap.size := by
    rintro bb off rfl h0
    obtain ⟨b', off', x, e, _, _, c0, _⟩ := ev_at hr 0 h0
    cases e
    exact cell_lt c0
  have hb0 : Below w.heap.size w ((w.alloc (.cells #[.int .i64 bound, .int .i64 latest, .int .i64 mark, .slice a xs.length cap] 24)).alloc (.cells #[.int .i64 0, .int .i64 0, .int .i64 0, .slice none 0 0] 24)) := ((Below.refl _ _).alloc (Nat.le_refl _) _).alloc (by simp) _
  have hG0 : ((w.alloc (.cells #[.int .i64 bound, .int .i64 latest, .int .i64 mark, .slice a xs.length cap] 24)).alloc (.cells #[.int .i64 0, .int .i64 0, .int .i64 0, .slice none 0 0] 24)).heap[w.heap.size]? = some (.cells #[.int .i64 bound, .int .i64 latest, .int .i64 mark, .slice a xs.length cap] 24 (0, 0)) := (Below.heap_alloc _ _ _ (by simp)).trans (heap_alloc_new _ _)
  have hO0 : ((w.alloc (.cells #[.int .i64 bound, .int .i64 latest, .int .i64 mark, .slice a xs.length cap] 24)).alloc (.cells #[.int .i64 0, .int .i64 0, .int .i64 0, .slice none 0 0] 24)).heap[w.heap.size + 1]? = some (.cells #[.int .i64 0, .int .i64 0, .int .i64 0, .slice none 0 0] 24 (0, 0)) := by
    have h := heap_alloc_new (w.alloc (.cells #[.int .i64 bound, .int .i64 latest, .int .i64 mark, .slice a xs.length cap] 24)) (.cells #[.int .i64 0, .int .i64 0, .int .i64 0, .slice none 0 0] 24)
    simpa using h
  go_enter Try.func31, Try.ntmps31
  go_wp2_with fail
  go_loopw [6] (fun i wr => ∃ k : Nat, k ≤ xs.length ∧ i = .int .i64 k ∧ Hid (∀ j x, j < k → xs[j]? = some x → x.time ≤ m) ∧ Below w.heap.size w wr ∧ wr.heap[w.heap.size]? = some (.cells #[.int .i64 bound, .int .i64 latest, .int .i64 mark, .slice a xs.length cap] 24 (0, 0)) ∧ wr.heap[w.heap.size + 1]? = some (.cells #[.int .i64 0, .int .i64 0, .int .i64 0, .slice none 0 0] 24 (0, 0))) (fun i _ => xs.length - (intOf i).toNat)
  case atStart => exact ⟨0, Nat.zero_le _, rfl, (show _ from fun j x h => by omega), hb0, hG0, hO0⟩
  case round =>
    clear hb0 hG0 hO0
    obtain ⟨k, hk, rfl, HA, hb, hG, hO⟩ := hrel
    have hrr := hr.below hb
    obtain ⟨g0, g1, g2, g3⟩ := cells4 hG
    by_cases hlt : k < xs.length
    · obtain ⟨bb, off, ⟨k0, t0, u0, v0, wt0, l0, s0⟩, rfl, hx, hcap, c0, c1, c2, c3, c4, c5, c6⟩ := ev_at hrr k hlt
      dsimp only at c0 c1 c2 c3 c4 c5 c6
      have HX := Lib.hid hx
      clear hx
      by_cases ht : t0 ≤ m
      · go_wp2_with fail
        go_roundw
        case rel => exact ⟨k + 1, by omega, by go_num, (show _ from fun j x hj hx => by
          by_cases hjk : j = k
          · subst hjk; rw [HX.out] at hx; cases hx; exact ht
          · exact HA.out j x (by omega) hx), hb, hG, hO⟩
        case measure => simp [intOf]; omega
      · obtain rfl : q = k := HPP.out k HA.out (by omega) (.inr ⟨_, HX.out, by dsimp only; omega⟩)
        have hb1 : ¬ (cap = q) := by omega
        have HD := Lib.hid (hrr.drop q (cap - q) (by omega))
        have HT := Lib.hid (hrr.take q q (by omega) (Nat.le_refl _) (fun h => by cases h))
        have hbo : bb < w.heap.size := hbb0 rfl (by omega)
        go_wp2_with fail
        refine (evclone_any _ (xs.drop q) _ HD.out (by rw [List.length_drop]; omega)).mono ?_
        rintro e w2 ⟨x, rfl, hown, hb2⟩
        obtain ⟨a2, cap2, rfl, h2, ha2⟩ := RowAt.of_owns hown (by rw [List.length_drop]; omega)
        have ht2 := HT.out.below hb2
        have hbw := hb.trans (hb2.mono hb.size)
        have hG2 := (hb2.block _ (blk_lt hG)).trans hG
        have hO2 := (hb2.block _ (blk_lt hO)).trans hO
        obtain ⟨r0, r1, r2, r3⟩ := cells4 hG2
        obtain ⟨o0, o1, o2, o3⟩ := cells4 hO2
        have hz := blk_lt hO
        have hz2 := blk_lt hO2
        have f1 : ∀ j, w2.frozen? ⟨w.heap.size, j, none⟩ = false := fun j => free_blk hG2
        have f2 : ∀ j, w2.frozen? ⟨w.heap.size + 1, j, none⟩ = false := fun j => free_blk hO2
        have HT2 := Lib.hid ht2
        clear hb2 hG hO g0 g1 g2 g3 hrr hb HD HT hown ht2
        obtain ⟨D, hD⟩ : ∃ D, (xs.drop q).length = D := ⟨_, rfl⟩
        rw [hD] at h2 ⊢
        have hO3 : ((w2.setCell ⟨w.heap.size, 3, none⟩ (.slice a2 D cap2)).setCell ⟨w.heap.size, 2, none⟩ (.int .i64 (max mark m))).heap[w.heap.size + 1]? = some (.cells #[.int .i64 0, .int .i64 0, .int .i64 0, .slice none 0 0] 24 (0, 0)) := (Below.heap_setCell _ _ _ _ (by show w.heap.size + 1 ≠ w.heap.size; omega)).trans ((Below.heap_setCell _ _ _ _ (by show w.heap.size + 1 ≠ w.heap.size; omega)).trans hO2)
        have hfin := set_four (x' := .int .i64 bound) (y' := .int .i64 latest) (z' := .int .i64 (max mark m)) (u' := .slice a2 D cap2) hO3
        obtain ⟨t1, t2, t3, t4⟩ := cells4 hfin
        have HD2 := Lib.hid hD
        clear hD hG2 hO2 hO3 hfin
        go_wp2_with fail
        refine bodyPost_ret (v := .tuple #[.agg #[.int .i64 bound, .int .i64 latest, .int .i64 (max mark m), .slice a2 D cap2], (.slice (some ⟨bb, off, none⟩) q q)]) (by simp [results, Try.results31, go_sem, t1, t2, t3, t4]) rfl ⟨a2, cap2, (some ⟨bb, off, none⟩), q, by rw [HD2.out, List.length_take, Nat.min_eq_left (by omega)], ?_, ?_, ?_, fun p hp => by have := ha2 p hp; omega, fun p hp => .inr hp⟩
        · have o1 : 0 < (xs.drop q).length → Off w.heap.size (.slice a2 D cap2) := fun _ n c p e => by cases e; have := ha2 p rfl; omega
          have o2 : 0 < (xs.drop q).length → Off (w.heap.size + 1) (.slice a2 D cap2) := fun _ n c p e => by cases e; have := ha2 p rfl; omega
          rw [HD2.out]
          exact (((((h2.set_off o1).set_off o1).set_off o2).set_off o2).set_off o2).set_off o2
        · have o1 : 0 < (xs.take q).length → Off w.heap.size (.slice (some ⟨bb, off, none⟩) q q) := fun _ n c p e => by cases e; show bb ≠ _; omega
          have o2 : 0 < (xs.take q).length → Off (w.heap.size + 1) (.slice (some ⟨bb, off, none⟩) q q) := fun _ n c p e => by cases e; show bb ≠ _; omega
          have ht2 := HT2.out
          first
            | exact (((((ht2.set_off o1).set_off o1).set_off o2).set_off o2).set_off o2).set_off o2
            | (rw [List.length_take, Nat.min_eq_left (by omega)]; exact (((((ht2.set_off o1).set_off o1).set_off o2).set_off o2).set_off o2).set_off o2)
        · exact (((((hbw.setCell (p := ⟨_, 3, none⟩) (Nat.le_refl _) _).setCell (p := ⟨_, 2, none⟩) (Nat.le_refl _) _).setCell (p := ⟨_, 0, none⟩) (Nat.le_succ _) _).setCell (p := ⟨_, 1, none⟩) (Nat.le_succ _) _).setCell (p := ⟨_, 2, none⟩) (Nat.le_succ _) _).setCell (p := ⟨_, 3, none⟩) (Nat.le_succ _) _
    · obtain rfl : k = xs.length := by omega
      have hqn : q = xs.length := HPP.out xs.length HA.out (Nat.le_refl _) (.inl rfl)
      obtain ⟨a', cp, ev, hcap, hnone⟩ := hrr.shape
      cases ev
      subst hqn
      have hvoid : ∀ a c, (a = none → c = 0) → RowAt encEv wr (.slice a 0 c) (xs.drop xs.length) := fun a c h => by rw [List.drop_length]; exact RowAt.void h
      rcases a with _ | ad
      · obtain rfl := hnone rfl
        have hl0 : xs.length = 0 := by omega
        have HD := Lib.hid (hvoid none 0 (fun _ => rfl))
        have HT : Hid (RowAt encEv wr (.slice none 0 0) (xs.take xs.length)) := by show _; rw [List.eq_nil_of_length_eq_zero hl0]; exact RowAt.nil _
        have HL0 := Lib.hid hl0
        clear hl0 hvoid
        go_wp2_with fail
        refine (evclone_any _ (xs.drop xs.length) _ HD.out (by rw [List.length_drop]; omega)).mono ?_
        rintro e w2 ⟨x, rfl, hown, hb2⟩
        obtain ⟨a2, cap2, rfl, h2, ha2⟩ := RowAt.of_owns hown (by rw [List.length_drop]; omega)
        have ht2 := HT.out.below hb2
        have hbw := hb.trans (hb2.mono hb.size)
        have hG2 := (hb2.block _ (blk_lt hG)).trans hG
        have hO2 := (hb2.block _ (blk_lt hO)).trans hO
        obtain ⟨r0, r1, r2, r3⟩ := cells4 hG2
        obtain ⟨o0, o1, o2, o3⟩ := cells4 hO2
        have hz := blk_lt hO
        have hz2 := blk_lt hO2
        have f1 : ∀ j, w2.frozen? ⟨w.heap.size, j, none⟩ = false := fun j => free_blk hG2
        have f2 : ∀ j, w2.frozen? ⟨w.heap.size + 1, j, none⟩ = false := fun j => free_blk hO2
        have HT2 := Lib.hid ht2
        clear hb2 hG hO g0 g1 g2 g3 hrr hb HD HT hown ht2
        obtain ⟨D, hD⟩ : ∃ D, (xs.drop xs.length).length = D := ⟨_, rfl⟩
        rw [hD] at h2 ⊢
        have hO3 : ((w2.setCell ⟨w.heap.size, 3, none⟩ (.slice a2 D cap2)).setCell ⟨w.heap.size, 2, none⟩ (.int .i64 (max mark m))).heap[w.heap.size + 1]? = some (.cells #[.int .i64 0, .int .i64 0, .int .i64 0, .slice none 0 0] 24 (0, 0)) := (Below.heap_setCell _ _ _ _ (by show w.heap.size + 1 ≠ w.heap.size; omega)).trans ((Below.heap_setCell _ _ _ _ (by show w.heap.size + 1 ≠ w.heap.size; omega)).trans hO2)
        have hfin := set_four (x' := .int .i64 bound) (y' := .int .i64 latest) (z' := .int .i64 (max mark m)) (u' := .slice a2 D cap2) hO3
        obtain ⟨t1, t2, t3, t4⟩ := cells4 hfin
        have HD2 := Lib.hid hD
        clear hD hG2 hO2 hO3 hfin
        go_wp2_with fail
        refine bodyPost_ret (v := .tuple #[.agg #[.int .i64 bound, .int .i64 latest, .int .i64 (max mark m), .slice a2 D cap2], (.slice none 0 0)]) (by simp [results, Try.results31, go_sem, t1, t2, t3, t4]) rfl ⟨a2, cap2, none, 0, by rw [HD2.out, List.length_take, Nat.min_self, HL0.out], ?_, ?_, ?_, fun p hp => by have := ha2 p hp; omega, fun p hp => .inr hp⟩
        · have o1 : 0 < (xs.drop xs.length).length → Off w.heap.size (.slice a2 D cap2) := fun _ n c p e => by cases e; have := ha2 p rfl; omega
          have o2 : 0 < (xs.drop xs.length).length → Off (w.heap.size + 1) (.slice a2 D cap2) := fun _ n c p e => by cases e; have := ha2 p rfl; omega
          rw [HD2.out]
          exact (((((h2.set_off o1).set_off o1).set_off o2).set_off o2).set_off o2).set_off o2
        · have e0 := List.eq_nil_of_length_eq_zero HL0.out
          rw [e0]
          exact RowAt.nil _
        · exact (((((hbw.setCell (p := ⟨_, 3, none⟩) (Nat.le_refl _) _).setCell (p := ⟨_, 2, none⟩) (Nat.le_refl _) _).setCell (p := ⟨_, 0, none⟩) (Nat.le_succ _) _).setCell (p := ⟨_, 1, none⟩) (Nat.le_succ _) _).setCell (p := ⟨_, 2, none⟩) (Nat.le_succ _) _).setCell (p := ⟨_, 3, none⟩) (Nat.le_succ _) _
      · have hoff : 0 < (xs.take xs.length).length → ad.block < w.heap.size := fun h => by
          obtain ⟨b', off', x, e, _, _, c0, _⟩ := ev_at hr 0 (by rw [List.length_take] at h; omega)
          cases e
          exact cell_lt c0
        have HT := Lib.hid (hrr.take xs.length xs.length (Nat.le_refl _) (Nat.le_refl _) (fun h => by cases h))
        by_cases hc : cap = xs.length
        · subst hc
          have HD := Lib.hid (hvoid (some ad) 0 (fun h => by cases h))
          clear hvoid
          go_wp2_with fail
          refine (evclone_any _ (xs.drop xs.length) _ HD.out (by rw [List.length_drop]; omega)).mono ?_
          rintro e w2 ⟨x, rfl, hown, hb2⟩
          obtain ⟨a2, cap2, rfl, h2, ha2⟩ := RowAt.of_owns hown (by rw [List.length_drop]; omega)
          have ht2 := HT.out.below hb2
          have hbw := hb.trans (hb2.mono hb.size)
          have hG2 := (hb2.block _ (blk_lt hG)).trans hG
          have hO2 := (hb2.block _ (blk_lt hO)).trans hO
          obtain ⟨r0, r1, r2, r3⟩ := cells4 hG2
          obtain ⟨o0, o1, o2, o3⟩ := cells4 hO2
          have hz := blk_lt hO
          have hz2 := blk_lt hO2
          have f1 : ∀ j, w2.frozen? ⟨w.heap.size, j, none⟩ = false := fun j => free_blk hG2
          have f2 : ∀ j, w2.frozen? ⟨w.heap.size + 1, j, none⟩ = false := fun j => free_blk hO2
          have HT2 := Lib.hid ht2
          clear hb2 hG hO g0 g1 g2 g3 hrr hb HD HT hown ht2
          obtain ⟨D, hD⟩ : ∃ D, (xs.drop xs.length).length = D := ⟨_, rfl⟩
          rw [hD] at h2 ⊢
          have hO3 : ((w2.setCell ⟨w.heap.size, 3, none⟩ (.slice a2 D cap2)).setCell ⟨w.heap.size, 2, none⟩ (.int .i64 (max mark m))).heap[w.heap.size + 1]? = some (.cells #[.int .i64 0, .int .i64 0, .int .i64 0, .slice none 0 0] 24 (0, 0)) := (Below.heap_setCell _ _ _ _ (by show w.heap.size + 1 ≠ w.heap.size; omega)).trans ((Below.heap_setCell _ _ _ _ (by show w.heap.size + 1 ≠ w.heap.size; omega)).trans hO2)
          have hfin := set_four (x' := .int .i64 bound) (y' := .int .i64 latest) (z' := .int .i64 (max mark m)) (u' := .slice a2 D cap2) hO3
          obtain ⟨t1, t2, t3, t4⟩ := cells4 hfin
          have HD2 := Lib.hid hD
          clear hD hG2 hO2 hO3 hfin
          go_wp2_with fail
          refine bodyPost_ret (v := .tuple #[.agg #[.int .i64 bound, .int .i64 latest, .int .i64 (max mark m), .slice a2 D cap2], (.slice (some ad) xs.length xs.length)]) (by simp [results, Try.results31, go_sem, t1, t2, t3, t4]) rfl ⟨a2, cap2, (some ad), xs.length, by rw [HD2.out, List.length_take, Nat.min_eq_left (by omega)], ?_, ?_, ?_, fun p hp => by have := ha2 p hp; omega, fun p hp => .inr hp⟩
          · have o1 : 0 < (xs.drop xs.length).length → Off w.heap.size (.slice a2 D cap2) := fun _ n c p e => by cases e; have := ha2 p rfl; omega
            have o2 : 0 < (xs.drop xs.length).length → Off (w.heap.size + 1) (.slice a2 D cap2) := fun _ n c p e => by cases e; have := ha2 p rfl; omega
            rw [HD2.out]
            exact (((((h2.set_off o1).set_off o1).set_off o2).set_off o2).set_off o2).set_off o2
          · have o1 : 0 < (xs.take xs.length).length → Off w.heap.size (.slice (some ad) xs.length xs.length) := fun hps n c p e => by cases e; have := hoff hps; omega
            have o2 : 0 < (xs.take xs.length).length → Off (w.heap.size + 1) (.slice (some ad) xs.length xs.length) := fun hps n c p e => by cases e; have := hoff hps; omega
            have ht2 := HT2.out
            first
              | exact (((((ht2.set_off o1).set_off o1).set_off o2).set_off o2).set_off o2).set_off o2
              | (rw [List.length_take, Nat.min_eq_left (by omega)]; exact (((((ht2.set_off o1).set_off o1).set_off o2).set_off o2).set_off o2).set_off o2)
          · exact (((((hbw.setCell (p := ⟨_, 3, none⟩) (Nat.le_refl _) _).setCell (p := ⟨_, 2, none⟩) (Nat.le_refl _) _).setCell (p := ⟨_, 0, none⟩) (Nat.le_succ _) _).setCell (p := ⟨_, 1, none⟩) (Nat.le_succ _) _).setCell (p := ⟨_, 2, none⟩) (Nat.le_succ _) _).setCell (p := ⟨_, 3, none⟩) (Nat.le_succ _) _
        · have hc2 : decide (cap = xs.length) = false := by simpa using hc
          have HD := Lib.hid (hvoid (some (ad.add (xs.length * 7))) (cap - xs.length) (fun h => by cases h))
          clear hvoid
          go_wp2_with fail
          refine (evclone_any _ (xs.drop xs.length) _ HD.out (by rw [List.length_drop]; omega)).mono ?_
          rintro e w2 ⟨x, rfl, hown, hb2⟩
          obtain ⟨a2, cap2, rfl, h2, ha2⟩ := RowAt.of_owns hown (by rw [List.length_drop]; omega)
          have ht2 := HT.out.below hb2
          have hbw := hb.trans (hb2.mono hb.size)
          have hG2 := (hb2.block _ (blk_lt hG)).trans hG
          have hO2 := (hb2.block _ (blk_lt hO)).trans hO
          obtain ⟨r0, r1, r2, r3⟩ := cells4 hG2
          obtain ⟨o0, o1, o2, o3⟩ := cells4 hO2
          have hz := blk_lt hO
          have hz2 := blk_lt hO2
          have f1 : ∀ j, w2.frozen? ⟨w.heap.size, j, none⟩ = false := fun j => free_blk hG2
          have f2 : ∀ j, w2.frozen? ⟨w.heap.size + 1, j, none⟩ = false := fun j => free_blk hO2
          have HT2 := Lib.hid ht2
          clear hb2 hG hO g0 g1 g2 g3 hrr hb HD HT hown ht2
          obtain ⟨D, hD⟩ : ∃ D, (xs.drop xs.length).length = D := ⟨_, rfl⟩
          rw [hD] at h2 ⊢
          have hO3 : ((w2.setCell ⟨w.heap.size, 3, none⟩ (.slice a2 D cap2)).setCell ⟨w.heap.size, 2, none⟩ (.int .i64 (max mark m))).heap[w.heap.size + 1]? = some (.cells #[.int .i64 0, .int .i64 0, .int .i64 0, .slice none 0 0] 24 (0, 0)) := (Below.heap_setCell _ _ _ _ (by show w.heap.size + 1 ≠ w.heap.size; omega)).trans ((Below.heap_setCell _ _ _ _ (by show w.heap.size + 1 ≠ w.heap.size; omega)).trans hO2)
          have hfin := set_four (x' := .int .i64 bound) (y' := .int .i64 latest) (z' := .int .i64 (max mark m)) (u' := .slice a2 D cap2) hO3
          obtain ⟨t1, t2, t3, t4⟩ := cells4 hfin
          have HD2 := Lib.hid hD
          clear hD hG2 hO2 hO3 hfin
          go_wp2_with fail
          refine bodyPost_ret (v := .tuple #[.agg #[.int .i64 bound, .int .i64 latest, .int .i64 (max mark m), .slice a2 D cap2], (.slice (some ad) xs.length xs.length)]) (by simp [results, Try.results31, go_sem, t1, t2, t3, t4]) rfl ⟨a2, cap2, (some ad), xs.length, by rw [HD2.out, List.length_take, Nat.min_eq_left (by omega)], ?_, ?_, ?_, fun p hp => by have := ha2 p hp; omega, fun p hp => .inr hp⟩
          · have o1 : 0 < (xs.drop xs.length).length → Off w.heap.size (.slice a2 D cap2) := fun _ n c p e => by cases e; have := ha2 p rfl; omega
            have o2 : 0 < (xs.drop xs.length).length → Off (w.heap.size + 1) (.slice a2 D cap2) := fun _ n c p e => by cases e; have := ha2 p rfl; omega
            rw [HD2.out]
            exact (((((h2.set_off o1).set_off o1).set_off o2).set_off o2).set_off o2).set_off o2
          · have o1 : 0 < (xs.take xs.length).length → Off w.heap.size (.slice (some ad) xs.length xs.length) := fun hps n c p e => by cases e; have := hoff hps; omega
            have o2 : 0 < (xs.take xs.length).length → Off (w.heap.size + 1) (.slice (some ad) xs.length xs.length) := fun hps n c p e => by cases e; have := hoff hps; omega
            have ht2 := HT2.out
            first
              | exact (((((ht2.set_off o1).set_off o1).set_off o2).set_off o2).set_off o2).set_off o2
              | (rw [List.length_take, Nat.min_eq_left (by omega)]; exact (((((ht2.set_off o1).set_off o1).set_off o2).set_off o2).set_off o2).set_off o2)
          · exact (((((hbw.setCell (p := ⟨_, 3, none⟩) (Nat.le_refl _) _).setCell (p := ⟨_, 2, none⟩) (Nat.le_refl _) _).setCell (p := ⟨_, 0, none⟩) (Nat.le_succ _) _).setCell (p := ⟨_, 1, none⟩) (Nat.le_succ _) _).setCell (p := ⟨_, 2, none⟩) (Nat.le_succ _) _).setCell (p := ⟨_, 3, none⟩) (Nat.le_succ _) _
/-- elements appended, and where the row then lies -/
theorem wpList_app_rows_at {α : Type} {E : Enc α} {P : Program} {w : World} {t e : TypeId} {z : Value} {bytes : Nat} {ops : Array Oper} {rest : List Oper} {o : Oper} {a : Act} {Q : Exit → Act → World → Prop} (S : SliceT P t e z E.k bytes) (hgd : o.guard = none) (s x : Operand)
    (ho : o.op = .call { callee := .builtin .append, args := #[s, x], argTypes := #[t, t] }) (base : Nat) (v : Value) (ad : Addr) (c : Nat) (xs ys : List α) (hs : a.eval s = v) (hown : w.ownsRow base e E.k v xs.length (flatR E xs))
    (hx : a.eval x = .slice (some ad) ys.length c) (hsrc : RowAt E w (.slice (some ad) ys.length c) ys) (hlen : (xs.length + ys.length) * bytes ≤ 140737488355328) (hlen2 : xs.length + ys.length ≤ 140737488355328) (hbase : base ≤ w.heap.size)
    (h : ∀ v' w', w'.ownsRow base e E.k v' (xs ++ ys).length (flatR E (xs ++ ys)) → w.grownBy w' v.ownBlock → (v'.ownBlock = v.ownBlock ∨ v'.ownBlock = some w.heap.size) → wpList P ops Q rest (a.put o.dst v') w') : wpList P ops Q (o :: rest) a w := by
  obtain ⟨i, hi, hz, hsz, hb⟩ := info_parts S.info
  obtain ⟨ao, c', he, hn, hc⟩ := news_of_rows hsrc
  cases he
  refine wpList_append_own_at w hgd s x t ho base e i z E.k bytes S.ht hi hz hsz hb S.hzs S.hsz v xs.length (flatR E xs) hs hown ad ys.length c (flatR E ys) hx (flatR_length E ys) (hc ad rfl) (flatR_oneCell E ys) (by unfold maxLen; omega) hlen hbase ?_
  intro v' w' h1 h2 _ h4
  exact h v' w' (by rw [List.length_append, flatR_append]; exact h1) h2 h4
def RRel (B : Nat) (m : Int) (bv rv : Array Value) (xs : List Ev) (k : Nat) (v6 v7 : Value) (wr : World) : Prop :=
  wr.ownsRow (B + 2) 26 encEv.k v6 (outS m (xs.take k)).length (flatR encEv (outS m (xs.take k))) ∧ wr.ownsRow (B + 2) 26 encEv.k v7 (restS m (xs.take k)).length (flatR encEv (restS m (xs.take k))) ∧
  (∀ g, v6.ownBlock = some g → v7.ownBlock ≠ some g) ∧ wr.heap[B]? = some (.cells bv 24 (0, 0)) ∧ wr.heap[B + 1]? = some (.cells rv 24 (0, 0))
theorem out_le (m : Int) (xs : List Ev) (k : Nat) : (outS m (xs.take k)).length ≤ xs.length ∧ (restS m (xs.take k)).length ≤ xs.length := by
  have := out_rest m (xs.take k)
  have := List.length_take_le k xs
  have : (xs.take k).length ≤ xs.length := by rw [List.length_take]; omega
  omega
theorem lit_ev (w : World) (g : Nat) (hg : w.heap.size = g) (e : Ev) (T : Nat) : RowAt encEv (w.alloc (.cells #[.int .i64 e.kind, .int .i64 e.time, .int .i64 e.u, .int .i64 e.v, .int .i64 e.weight, .int .i64 e.label, .int .i64 e.sign] T)) (.slice (some ⟨g, 0, none⟩) 1 1) [e] := by
  subst hg; exact rows_lit1 w e T _ rfl
theorem RRel.toOut {B : Nat} {m : Int} {bv rv : Array Value} {xs : List Ev} {k : Nat} {v6 v7 v6' : Value} {wr w2 w' : World} {x : Ev} (h : RRel B m bv rv xs k v6 v7 wr) (hx : xs[k]? = some x) (hm : x.time ≤ m)
    (hb2 : Below wr.heap.size wr w2) (hown : w'.ownsRow (B + 2) 26 encEv.k v6' (outS m (xs.take k) ++ [x]).length (flatR encEv (outS m (xs.take k) ++ [x]))) (hg : w2.grownBy w' v6.ownBlock) (hat : v6'.ownBlock = v6.ownBlock ∨ v6'.ownBlock = some w2.heap.size) :
    RRel B m bv rv xs (k + 1) v6' v7 w' := by
  obtain ⟨h1, h2, h3, h4, h5⟩ := h
  have e1 : outS m (xs.take (k + 1)) = outS m (xs.take k) ++ [x] := by rw [take_at _ _ _ hx]; unfold outS; rw [List.filter_append]; simp [hm]
  have e2 : restS m (xs.take (k + 1)) = restS m (xs.take k) := by rw [take_at _ _ _ hx]; unfold restS; rw [List.filter_append]; simp [hm]
  unfold RRel
  rw [e1, e2]
  have hk : ∀ j, j < B + 2 → some j ≠ v6.ownBlock := fun j hj e => by have := h1.lt _ e.symm; omega
  have hg2 : wr.grownBy w' v6.ownBlock := grown_trans (grown_none (grown_of_below hb2)) hg
  refine ⟨hown, ?_, ?_, grown_blk hg2 h4 (hk _ (by omega)), grown_blk hg2 h5 (hk _ (by omega))⟩
  · refine h2.kept hg2 ?_
    cases ho : v7.ownBlock with
    | none => exact .inl rfl
    | some g => exact .inr fun e => h3 g e.symm ho
  · intro g e e7
    have hl7 := h2.lt _ e7
    rcases hat with ha | ha
    · exact h3 g (by rw [← ha]; exact e) e7
    · rw [ha] at e
      cases e
      have := hb2.size
      omega
theorem RRel.toRest {B : Nat} {m : Int} {bv rv : Array Value} {xs : List Ev} {k : Nat} {v6 v7 v7' : Value} {wr w2 w' : World} {x : Ev} (h : RRel B m bv rv xs k v6 v7 wr) (hx : xs[k]? = some x) (hm : ¬ x.time ≤ m)
    (hb2 : Below wr.heap.size wr w2) (hown : w'.ownsRow (B + 2) 26 encEv.k v7' (restS m (xs.take k) ++ [x]).length (flatR encEv (restS m (xs.take k) ++ [x]))) (hg : w2.grownBy w' v7.ownBlock) (hat : v7'.ownBlock = v7.ownBlock ∨ v7'.ownBlock = some w2.heap.size) :
    RRel B m bv rv xs (k + 1) v6 v7' w' := by
  obtain ⟨h1, h2, h3, h4, h5⟩ := h
  have e1 : outS m (xs.take (k + 1)) = outS m (xs.take k) := by rw [take_at _ _ _ hx]; unfold outS; rw [List.filter_append]; simp; omega
  have e2 : restS m (xs.take (k + 1)) = restS m (xs.take k) ++ [x] := by rw [take_at _ _ _ hx]; unfold restS; rw [List.filter_append]; simp; omega
  unfold RRel
  rw [e1, e2]
  have hk : ∀ j, j < B + 2 → some j ≠ v7.ownBlock := fun j hj e => by have := h2.lt _ e.symm; omega
  have hg2 : wr.grownBy w' v7.ownBlock := grown_trans (grown_none (grown_of_below hb2)) hg
  refine ⟨?_, hown, ?_, grown_blk hg2 h4 (hk _ (by omega)), grown_blk hg2 h5 (hk _ (by omega))⟩
  · refine h1.kept hg2 ?_
    cases ho : v6.ownBlock with
    | none => exact .inl rfl
    | some g => exact .inr fun e => h3 g ho e.symm
  · intro g e e7
    have hl6 := h1.lt _ e
    rcases hat with ha | ha
    · exact h3 g e (by rw [← ha]; exact e7)
    · rw [ha] at e7
      cases e7
      have := hb2.size
      omega
set_option maxRecDepth 100000 in
set_option maxHeartbeats 3200000 in
theorem rrelease_any (b : Buf) (m : Int) (a : Option Addr) (cap : Nat) (w : World) (hr : RowAt encEv w (.slice a b.wait.length cap) b.wait) (hn : b.wait.length ≤ 1000000) :
    Calls Try.prog 34 #[BufV b a cap, .int .i64 m] w (RelPost w a (relS b m).1 (relS b m).2) := by
  unfold relS
  obtain ⟨bound, latest, mark, xs⟩ := b
  unfold RelPost BufV
  dsimp only at *
  have hb0 : Below w.heap.size w ((w.alloc (.cells #[.int .i64 bound, .int .i64 latest, .int .i64 mark, .slice a xs.length cap] 24)).alloc (.cells #[.int .i64 0, .int .i64 0, .int .i64 0, .slice none 0 0] 24)) := ((Below.refl _ _).alloc (Nat.le_refl _) _).alloc (by simp) _
  have hR0 : RRel w.heap.size m #[.int .i64 bound, .int .i64 latest, .int .i64 mark, .slice a xs.length cap] #[.int .i64 0, .int .i64 0, .int .i64 0, .slice none 0 0] xs 0 (.slice none 0 0) (.slice none 0 0) ((w.alloc (.cells #[.int .i64 bound, .int .i64 latest, .int .i64 mark, .slice a xs.length cap] 24)).alloc (.cells #[.int .i64 0, .int .i64 0, .int .i64 0, .slice none 0 0] 24)) := by
    refine ⟨World.ownsRow_nil _ _ _ _, World.ownsRow_nil _ _ _ _, (fun g h => by cases h), (Below.heap_alloc _ _ _ (by simp)).trans (heap_alloc_new _ _), ?_⟩
    have h := heap_alloc_new (w.alloc (.cells #[.int .i64 bound, .int .i64 latest, .int .i64 mark, .slice a xs.length cap] 24)) (.cells #[.int .i64 0, .int .i64 0, .int .i64 0, .slice none 0 0] 24)
    simpa using h
  have hG0 := hR0.2.2.2.1
  obtain ⟨g0, g1, g2, g3⟩ := cells4 hG0
  go_enter Try.func34, Try.ntmps34
  go_wp2_with fail
  go_loopw [13, 6, 7] (fun i v6 v7 wr => ∃ k : Nat, k ≤ xs.length ∧ i = .int .i64 k ∧ RRel w.heap.size m #[.int .i64 bound, .int .i64 latest, .int .i64 mark, .slice a xs.length cap] #[.int .i64 0, .int .i64 0, .int .i64 0, .slice none 0 0] xs k v6 v7 wr ∧ Below w.heap.size w wr) (fun i _ _ _ => xs.length - (intOf i).toNat)
  case atStart => exact ⟨0, Nat.zero_le _, rfl, hR0, hb0⟩
  case round =>
    clear hb0 hR0 hG0 g0 g1 g2 g3
    obtain ⟨k, hk, rfl, hR, hb⟩ := hrel
    obtain ⟨a6, cap6, hv6⟩ := owns_shape hR.1
    obtain ⟨a7, cap7, hv7⟩ := owns_shape hR.2.1
    subst hv6 hv7
    have hol := out_le m xs k
    have hz := blk_lt hR.2.2.2.2
    by_cases hlt : k < xs.length
    · obtain ⟨bb, off, ⟨k0, t0, u0, v0, wt0, l0, s0⟩, rfl, hx, hcap, c0, c1, c2, c3, c4, c5, c6⟩ := ev_at (hr.below hb) k hlt
      dsimp only at c0 c1 c2 c3 c4 c5 c6
      have HX := Lib.hid hx
      clear hx
      have hb2 : Below wr.heap.size wr ((wr.alloc (.cells #[.int .i64 k0, .int .i64 t0, .int .i64 u0, .int .i64 v0, .int .i64 wt0, .int .i64 l0, .int .i64 s0] 26)).alloc (.cells #[.int .i64 k0, .int .i64 t0, .int .i64 u0, .int .i64 v0, .int .i64 wt0, .int .i64 l0, .int .i64 s0] 26)) := ((Below.refl _ _).alloc (Nat.le_refl _) _).alloc (by simp) _
      have hl1 : RowAt encEv ((wr.alloc (.cells #[.int .i64 k0, .int .i64 t0, .int .i64 u0, .int .i64 v0, .int .i64 wt0, .int .i64 l0, .int .i64 s0] 26)).alloc (.cells #[.int .i64 k0, .int .i64 t0, .int .i64 u0, .int .i64 v0, .int .i64 wt0, .int .i64 l0, .int .i64 s0] 26)) (.slice (some ⟨wr.heap.size + 1, 0, none⟩) 1 1) [⟨k0, t0, u0, v0, wt0, l0, s0⟩] := lit_ev (wr.alloc (.cells #[.int .i64 k0, .int .i64 t0, .int .i64 u0, .int .i64 v0, .int .i64 wt0, .int .i64 l0, .int .i64 s0] 26)) (wr.heap.size + 1) (by simp) ⟨k0, t0, u0, v0, wt0, l0, s0⟩ 26
      by_cases ht : t0 ≤ m
      · have ho := (hR.1.alloc (.cells #[.int .i64 k0, .int .i64 t0, .int .i64 u0, .int .i64 v0, .int .i64 wt0, .int .i64 l0, .int .i64 s0] 26)).alloc (.cells #[.int .i64 k0, .int .i64 t0, .int .i64 u0, .int .i64 v0, .int .i64 wt0, .int .i64 l0, .int .i64 s0] 26)
        go_wp2_with (at_builtin; refine wpList_app_rows_at evRT rfl _ _ rfl (w.heap.size + 2) _ ⟨wr.heap.size + 1, 0, none⟩ 1 _ [⟨k0, t0, u0, v0, wt0, l0, s0⟩] rfl ho rfl hl1 (by simp; omega) (by simp; omega) (by simp; omega) ?_; intro v6' w6 hown6 hg6 hat6)
        go_roundw
        case rel => exact ⟨k + 1, by omega, by go_num, hR.toOut HX.out ht hb2 hown6 hg6 hat6, (hb.trans (hb2.mono hb.size)).grown hg6 (Nat.le_trans hb.size hb2.size) (fun g hg => by have := hR.1.lt g hg; omega)⟩
        case measure => simp [intOf]; omega
      · have ho := (hR.2.1.alloc (.cells #[.int .i64 k0, .int .i64 t0, .int .i64 u0, .int .i64 v0, .int .i64 wt0, .int .i64 l0, .int .i64 s0] 26)).alloc (.cells #[.int .i64 k0, .int .i64 t0, .int .i64 u0, .int .i64 v0, .int .i64 wt0, .int .i64 l0, .int .i64 s0] 26)
        go_wp2_with (at_builtin; refine wpList_app_rows_at evRT rfl _ _ rfl (w.heap.size + 2) _ ⟨wr.heap.size + 1, 0, none⟩ 1 _ [⟨k0, t0, u0, v0, wt0, l0, s0⟩] rfl ho rfl hl1 (by simp; omega) (by simp; omega) (by simp; omega) ?_; intro v6' w6 hown6 hg6 hat6)
        go_roundw
        case rel => exact ⟨k + 1, by omega, by go_num, hR.toRest HX.out ht hb2 hown6 hg6 hat6, (hb.trans (hb2.mono hb.size)).grown hg6 (Nat.le_trans hb.size hb2.size) (fun g hg => by have := hR.2.1.lt g hg; omega)⟩
        case measure => simp [intOf]; omega
    · obtain rfl : k = xs.length := by omega
      obtain ⟨h6, h7, _, hG, hO⟩ := hR
      rw [List.take_length] at h6 h7 hol ⊢
      obtain ⟨n6, hn6⟩ : ∃ n, (outS m xs).length = n := ⟨_, rfl⟩
      obtain ⟨n7, hn7⟩ : ∃ n, (restS m xs).length = n := ⟨_, rfl⟩
      obtain ⟨b6, c6, e6, r6, p6⟩ := RowAt.of_owns h6 (by omega)
      obtain ⟨b7, c7, e7, r7, p7⟩ := RowAt.of_owns h7 (by omega)
      obtain ⟨rfl, _, rfl⟩ := Value.slice.inj e6
      obtain ⟨rfl, _, rfl⟩ := Value.slice.inj e7
      rw [hn6, hn7] at hol
      rw [hn6] at r6 ⊢
      rw [hn7] at r7 ⊢
      have H6 := Lib.hid r6
      have H7 := Lib.hid r7
      have HN6 := Lib.hid hn6
      have HN7 := Lib.hid hn7
      clear e6 e7 h6 h7 hn6 hn7 r6 r7
      obtain ⟨g0, g1, g2, g3⟩ := cells4 hG
      obtain ⟨q0, q1, q2, q3⟩ := cells4 hO
      have f1 : ∀ j, wr.frozen? ⟨w.heap.size, j, none⟩ = false := fun j => free_blk hG
      have f2 : ∀ j, wr.frozen? ⟨w.heap.size + 1, j, none⟩ = false := fun j => free_blk hO
      have hO3 : ((wr.setCell ⟨w.heap.size, 3, none⟩ (.slice a7 n7 cap7)).setCell ⟨w.heap.size, 2, none⟩ (.int .i64 (max mark m))).heap[w.heap.size + 1]? = some (.cells #[.int .i64 0, .int .i64 0, .int .i64 0, .slice none 0 0] 24 (0, 0)) := (Below.heap_setCell _ _ _ _ (by show w.heap.size + 1 ≠ w.heap.size; omega)).trans ((Below.heap_setCell _ _ _ _ (by show w.heap.size + 1 ≠ w.heap.size; omega)).trans hO)
      have hfin := set_four (x' := .int .i64 bound) (y' := .int .i64 latest) (z' := .int .i64 (max mark m)) (u' := .slice a7 n7 cap7) hO3
      obtain ⟨t1, t2, t3, t4⟩ := cells4 hfin
      clear hG hO hO3 hfin
      go_wp2_with fail
      refine bodyPost_ret (v := .tuple #[.agg #[.int .i64 bound, .int .i64 latest, .int .i64 (max mark m), .slice a7 n7 cap7], .slice a6 n6 cap6]) (by simp [results, Try.results34, go_sem, t1, t2, t3, t4]) rfl ⟨a7, cap7, a6, cap6, by rw [HN6.out, HN7.out], ?_, ?_, ?_, fun p hp => by have := p7 p hp; omega, fun p hp => .inl (by have := p6 p hp; omega)⟩
      · have o1 : 0 < (restS m xs).length → Off w.heap.size (.slice a7 n7 cap7) := fun _ n c p e => by cases e; have := p7 p rfl; omega
        have o2 : 0 < (restS m xs).length → Off (w.heap.size + 1) (.slice a7 n7 cap7) := fun _ n c p e => by cases e; have := p7 p rfl; omega
        rw [HN7.out]
        exact (((((H7.out.set_off o1).set_off o1).set_off o2).set_off o2).set_off o2).set_off o2
      · have o1 : 0 < (outS m xs).length → Off w.heap.size (.slice a6 n6 cap6) := fun _ n c p e => by cases e; have := p6 p rfl; omega
        have o2 : 0 < (outS m xs).length → Off (w.heap.size + 1) (.slice a6 n6 cap6) := fun _ n c p e => by cases e; have := p6 p rfl; omega
        rw [HN6.out]
        exact (((((H6.out.set_off o1).set_off o1).set_off o2).set_off o2).set_off o2).set_off o2
      · exact (((((hb.setCell (p := ⟨_, 3, none⟩) (Nat.le_refl _) _).setCell (p := ⟨_, 2, none⟩) (Nat.le_refl _) _).setCell (p := ⟨_, 0, none⟩) (Nat.le_succ _) _).setCell (p := ⟨_, 1, none⟩) (Nat.le_succ _) _).setCell (p := ⟨_, 2, none⟩) (Nat.le_succ _) _).setCell (p := ⟨_, 3, none⟩) (Nat.le_succ _) _
end Go.Proofs.Ytdljkobgghnkpaa
