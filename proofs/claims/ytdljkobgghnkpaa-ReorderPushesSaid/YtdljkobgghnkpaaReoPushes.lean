/- The walk of the law on what buffers do, step by step. -/
import Derived.Test.YtdljkobgghnkpaaReoAwake
import Derived.Test.YtdljkobgghnkpaaMkMixedOwn
import Derived.Test.YtdljkobgghnkpaaRefSort
namespace Go.Proofs.Ytdljkobgghnkpaa
open Go.RowKit Go.BigFrame

theorem open_row (k : Int) : (openS k).1.wait = [] := by unfold openS; split <;> rfl
/-- the buffer of the second loop: in block B -/
structure PsR (w : World) (B : Nat) (l : List Ev) (vl : Value) (j : Nat) (buf : Buf) (ab : Option Addr) (cb : Nat) (wr : World) : Prop where
  bel : Below w.heap.size w wr
  hB : w.heap.size ≤ B
  offl : 0 < l.length → Off B vl
  rowl : RowAt encEv wr vl l
  box : wr.heap[B]? = some (.cells #[.int .i64 buf.bound, .int .i64 buf.latest, .int .i64 buf.mark, .slice ab buf.wait.length cb] 24 (0, 0))
  row : RowAt encEv wr (.slice ab buf.wait.length cb) buf.wait
  len : buf.wait.length ≤ j
theorem ext_cells4 {W : World} {g T : Nat} {x y z u : Value} (h : W.heap[g]? = some (.cells #[x, y, z, u] T (0, 0))) : (∀ e : Ext W.heap.size W, e.world.cell? ⟨g, 0, none⟩ = some x) ∧ (∀ e : Ext W.heap.size W, e.world.cell? ⟨g, 1, none⟩ = some y) ∧ (∀ e : Ext W.heap.size W, e.world.cell? ⟨g, 2, none⟩ = some z) ∧ ∀ e : Ext W.heap.size W, e.world.cell? ⟨g, 3, none⟩ = some u :=
  ⟨fun e => (cells4 (lit_next e.below h)).1, fun e => (cells4 (lit_next e.below h)).2.1, fun e => (cells4 (lit_next e.below h)).2.2.1, fun e => (cells4 (lit_next e.below h)).2.2.2⟩
theorem grown_four {w : World} {g : Nat} {x y z u : Value} : w.grownBy ((((w.setCell ⟨g, 0, none⟩ x).setCell ⟨g, 1, none⟩ y).setCell ⟨g, 2, none⟩ z).setCell ⟨g, 3, none⟩ u) (some g) := grown_trans (grown_trans (grown_trans grown_store grown_store) grown_store) grown_store
theorem PsR.kept {w wr w' : World} {B g j : Nat} {l : List Ev} {vl : Value} {buf : Buf} {ab : Option Addr} {cb : Nat} (h : PsR w B l vl j buf ab cb wr) (hg : wr.grownBy w' (some g)) (hgB : g ≠ B) (hw : w.heap.size ≤ g) (hl : 0 < l.length → Off g vl) (hr : 0 < buf.wait.length → Off g (.slice ab buf.wait.length cb)) : PsR w B l vl j buf ab cb w' :=
  ⟨h.bel.grown hg h.bel.size (fun _ e => by cases e; exact hw), h.hB, h.offl, h.rowl.grown' hg (fun _ e h0 => by cases e; exact hl h0), grown_blk hg h.box (fun e => hgB (Option.some.inj e).symm), h.row.grown' hg (fun _ e h0 => by cases e; exact hr h0), h.len⟩
theorem PsR.below {w wr w' : World} {B j : Nat} {l : List Ev} {vl : Value} {buf : Buf} {ab : Option Addr} {cb : Nat} (h : PsR w B l vl j buf ab cb wr) (hb : Below wr.heap.size wr w') : PsR w B l vl j buf ab cb w' :=
  ⟨h.bel.trans (hb.mono h.bel.size), h.hB, h.offl, h.rowl.below hb, lit_next hb h.box, h.row.below hb, h.len⟩
/-- another buffer is put into the block -/
theorem PsR.put {w wr : World} {B j : Nat} {l : List Ev} {vl : Value} {buf q : Buf} {ab a3 : Option Addr} {cb c3 : Nat} (h : PsR w B l vl j buf ab cb wr) (hrow : RowAt encEv wr (.slice a3 q.wait.length c3) q.wait) (hn : ∀ p, a3 = some p → p.block ≠ B) (hq : q.wait.length ≤ j + 1) :
    PsR w B l vl (j + 1) q a3 c3 ((((wr.setCell ⟨B, 0, none⟩ (.int .i64 q.bound)).setCell ⟨B, 1, none⟩ (.int .i64 q.latest)).setCell ⟨B, 2, none⟩ (.int .i64 q.mark)).setCell ⟨B, 3, none⟩ (.slice a3 q.wait.length c3)) :=
  ⟨h.bel.grown grown_four h.bel.size (fun _ e => by cases e; exact h.hB), h.hB, h.offl, h.rowl.grown' grown_four (fun _ e h0 => by cases e; exact h.offl h0), set_four h.box, hrow.grown' grown_four (fun _ e _ n c p ep => by cases e; obtain ⟨h1, _, _⟩ := Value.slice.inj ep; exact hn p h1), hq⟩
theorem push_wait (b : Buf) (e : Ev) : (pushS b e).1.wait.length ≤ b.wait.length + 1 := by
  unfold pushS
  split
  · simp
  · split
    · simp
    · split
      · simp
      · split
        · simp
        · have h := out_rest (max b.latest e.time - b.bound - 1) (insS e b.wait)
          have h2 := insS_length e b.wait
          show (restS (max b.latest e.time - b.bound - 1) (insS e b.wait)).length ≤ _
          omega
set_option maxRecDepth 100000 in
set_option maxHeartbeats 12800000 in
theorem pushes_law (rb : Buf) (ra : Option Addr) (rn rc : Nat) (re : Ev) (a : Option Addr) (len cap : Nat) (x : Int) (w : World) (hraw : rn ≤ 60 → rb.wait.length = rn ∧ RowAt encEv w (.slice ra rb.wait.length rc) rb.wait) (hl : ListAt w a len) :
    Calls Try.prog 3 #[.agg #[.int .i64 rb.bound, .int .i64 rb.latest, .int .i64 rb.mark, .slice ra rn rc], .agg #[.int .i64 re.kind, .int .i64 re.time, .int .i64 re.u, .int .i64 re.v, .int .i64 re.weight, .int .i64 re.label, .int .i64 re.sign], .slice a len cap, .int .i64 x] w fun e w' => e = .returned (.bool true) ∧ Below w.heap.size w w' := by
  by_cases h60 : rn ≤ 60
  case neg =>
    have d1 : decide (60 < (rn : Int)) = true := by simp; omega
    have d2 : decide (60 < rn) = true := by simp; omega
    have hb0 : Below w.heap.size w ((w.alloc (.cells #[.int .i64 rb.bound, .int .i64 rb.latest, .int .i64 rb.mark, .slice ra rn rc] 24)).alloc (.cells #[.int .i64 re.kind, .int .i64 re.time, .int .i64 re.u, .int .i64 re.v, .int .i64 re.weight, .int .i64 re.label, .int .i64 re.sign] 26)) := ((Below.refl _ _).alloc (Nat.le_refl _) _).alloc (by simp) _
    go_enter Try.func3, Try.ntmps3
    go_wp2_with fail
    refine (awake_any _).mono ?_
    rintro e w2 ⟨rfl, hb2⟩
    go_wp2_with fail
    go_ret
    exact ⟨rfl, hb0.trans (hb2.mono hb0.size)⟩
  obtain ⟨rfl, hrw⟩ := hraw h60
  have d1 : decide (60 < (rb.wait.length : Int)) = false := by simp; omega
  have d2 : decide (60 < rb.wait.length) = false := by simp; omega
  clear hraw
  obtain ⟨w0, hw0⟩ : ∃ W, W = (w.alloc (.cells #[.int .i64 rb.bound, .int .i64 rb.latest, .int .i64 rb.mark, .slice ra rb.wait.length rc] 24)).alloc (.cells #[.int .i64 re.kind, .int .i64 re.time, .int .i64 re.u, .int .i64 re.v, .int .i64 re.weight, .int .i64 re.label, .int .i64 re.sign] 26) := ⟨_, rfl⟩
  have hb0 : Below w.heap.size w w0 := by rw [hw0]; exact ((Below.refl _ _).alloc (Nat.le_refl _) _).alloc (by simp) _
  have hR0 : w0.heap[w.heap.size]? = some (.cells #[.int .i64 rb.bound, .int .i64 rb.latest, .int .i64 rb.mark, .slice ra rb.wait.length rc] 24 (0, 0)) := by rw [hw0]; exact (Below.heap_alloc _ _ _ (by simp)).trans (heap_alloc_new _ _)
  have hE0 : w0.heap[w.heap.size + 1]? = some (.cells #[.int .i64 re.kind, .int .i64 re.time, .int .i64 re.u, .int .i64 re.v, .int .i64 re.weight, .int .i64 re.label, .int .i64 re.sign] 26 (0, 0)) := by
    rw [hw0]
    have h := heap_alloc_new (w.alloc (.cells #[.int .i64 rb.bound, .int .i64 rb.latest, .int .i64 rb.mark, .slice ra rb.wait.length rc] 24)) (.cells #[.int .i64 re.kind, .int .i64 re.time, .int .i64 re.u, .int .i64 re.v, .int .i64 re.weight, .int .i64 re.label, .int .i64 re.sign] 26)
    simpa using h
  have hl0 : ListAt w0 a len := ⟨hl.1, fun j hj => by obtain ⟨c, off, x, h1, h2, h3⟩ := hl.2 j hj; exact ⟨c, off, x, h1, (hb0.cell (p := ⟨c, off + j, none⟩) (cell_lt h2)).trans h2, h3⟩⟩
  have hdk := deck_new (cap := cap) hl0
  have hrw0 := hrw.below hb0
  have hb1 : Below w.heap.size w (w0.alloc (.cells #[.slice a len cap, .int .i64 0] 50)) := hb0.alloc hb0.size _
  have hbn := (Below.refl w0.heap.size w0).alloc (Nat.le_refl _) (.cells #[.slice a len cap, .int .i64 0] 50)
  have hR1 := lit_next hbn hR0
  have hE1 := lit_next hbn hE0
  have hrw1 := hrw0.below hbn
  go_enter Try.func3, Try.ntmps3
  go_wp2_with fail
  rw [← hw0]
  clear hw0
  refine (new_any _ _ _ _).mono ?_
  rintro e w' ⟨rfl, rfl⟩
  go_wp2_with fail
  refine (mixed_own w0.heap.size 6 14 _ hdk (by omega) (by omega) (by omega) (by omega)).mono ?_
  rintro e w2 ⟨al, capl, l, rfl, hol, hl2, hlen, hd2, hg2⟩
  have hbn' : Below w0.heap.size w0 w2 := hbn.grown hg2 hbn.size (fun g e => by cases e; exact Nat.le_refl _)
  have hol0 : w2.ownsRow (w0.heap.size + 1) 26 encEv.k (.slice al l.length capl) l.length (flatR encEv l) := by simpa using hol
  clear hb1 hbn hR1 hE1 hrw1 hg2 hdk hl hl0 hrw hol
  go_wp2_with fail
  refine (next_any w0.heap.size 6 _ hd2 (by omega) (by omega)).mono ?_
  rintro e w3 ⟨k2, -, -, rfl, hd3, hg3⟩
  have hb3 : Below w0.heap.size w0 w3 := hbn'.grown hg3 hbn'.size (fun g e => by cases e; exact Nat.le_refl _)
  have hol3 := own_next hol0 (by omega) hg3
  clear hbn' hol0 hd2 hg3
  go_wp2_with fail
  have hKs := heap_alloc_new w3 (.cells #[.int .i64 x, .int .i64 k2] 3)
  have hb4 := hb3.alloc hb3.size (.cells #[.int .i64 x, .int .i64 k2] 3)
  have hol4 := hol3.alloc (.cells #[.int .i64 x, .int .i64 k2] 3)
  have hd4 := hd3.alloc (.cells #[.int .i64 x, .int .i64 k2] 3)
  have hz3 : w3.heap.size < (w3.alloc (.cells #[.int .i64 x, .int .i64 k2] 3)).heap.size := by simp
  clear hb3 hol3 hd3
  generalize w3.alloc (.cells #[.int .i64 x, .int .i64 k2] 3) = w4 at *
  go_loopw [59] (fun i wr => ∃ j : Nat, j ≤ 2 ∧ i = .int .i64 j ∧ Below w4.heap.size w4 wr) (fun i _ => 2 - (intOf i).toNat)
  case atStart => exact ⟨0, by omega, rfl, Below.refl _ _⟩
  case round =>
    obtain ⟨j, hj, rfl, hb⟩ := hrel
    by_cases hlt : j < 2
    · have hKr := lit_next hb hKs
      obtain ⟨K, cK⟩ : ∃ K, wr.cell? ⟨w3.heap.size, j, none⟩ = some (.int .i64 K) := by
        rcases (by omega : j = 0 ∨ j = 1) with rfl | rfl
        · exact ⟨x, by rw [cell_blk hKr]; rfl⟩
        · exact ⟨k2, by rw [cell_blk hKr]; rfl⟩
      have hop := open_any K
      have hrop := ropen_any K
      have how := open_row K
      obtain ⟨⟨⟨b0, b1, b2, b3⟩, E⟩, hO⟩ : ∃ o, openS K = o := ⟨_, rfl⟩
      rw [hO] at hop hrop how
      unfold BufV at hop hrop
      dsimp only at hop hrop how
      subst how
      clear hO
      obtain ⟨⟨T, n, F⟩, hT⟩ : ∃ r, sortS K l = r := ⟨_, rfl⟩
      have hs1 := fun W h => sort_any K l al capl W h (by omega)
      have hs2 := fun W h => rsort_any K l al capl W h (by omega)
      rw [hT] at hs1 hs2
      dsimp only at hs1 hs2
      have hsame := fun W => rsame_eq ⟨b0, b1, b2, []⟩ none none 0 0 W (RowAt.nil _) (RowAt.nil _)
      unfold BufV at hsame
      dsimp only [List.length_nil] at hsame hop hrop
      clear hT
      go_wp2_with fail
      refine (hop _).mono ?_
      rintro e w5 ⟨rfl, hb5⟩
      have hb45 := hb.trans (hb5.mono hb.size)
      have hb45 := hb45.alloc hb45.size (.cells #[.int .i64 b0, .int .i64 b1, .int .i64 b2, .slice none 0 0] 24)
      have hX5 := heap_alloc_new w5 (.cells #[.int .i64 b0, .int .i64 b1, .int .i64 b2, .slice none 0 0] 24)
      clear hb5 hop
      go_wp2_with fail
      refine (hrop _).mono ?_
      rintro e w6 ⟨rfl, hb6⟩
      have hb46 := hb45.trans (hb6.mono hb45.size)
      have hb47 := hb46.alloc hb46.size (.cells #[.int .i64 b0, .int .i64 b1, .int .i64 b2, .slice none 0 0] 24)
      have hX6 := lit_next hb6 hX5
      have hX7 := (Below.heap_alloc w6 (.cells #[.int .i64 b0, .int .i64 b1, .int .i64 b2, .slice none 0 0] 24) _ (blk_lt hX6)).trans hX6
      obtain ⟨y0, y1, y2, y3⟩ := cells4 hX7
      have hz6 := blk_lt hX6
      clear hb6 hrop hb45 hb46 hX5 hX6
      go_wp2_with fail
      refine (hsame _).mono ?_
      rintro e w8 ⟨rfl, hb8⟩
      have hb48 := hb47.trans (hb8.mono hb47.size)
      obtain ⟨al', cl', hvl, hrl8, -⟩ := RowAt.of_owns (hol4.kept (grown_of_below hb48) (Classical.em _)) (by omega)
      cases hvl
      clear hb8 hsame hb47 y0 y1 y2 y3 hX7
      go_wp2_with fail
      refine (hs1 _ hrl8).mono ?_
      rintro e w9 ⟨a9, c9, rfl, hr9, hb9⟩
      have hb49 := hb48.trans (hb9.mono hb48.size)
      have hrl9 := hrl8.below hb9
      clear hb9 hs1 hrl8
      go_wp2_with fail
      refine (hs2 _ hrl9).mono ?_
      rintro e w10 ⟨a10, c10, rfl, hr10, hb10⟩
      have hb410 := hb49.trans (hb10.mono hb49.size)
      have hr9' := hr9.below hb10
      clear hb10 hs2 hr9
      go_wp2_with fail
      refine (evsame_eq T a9 a10 c9 c10 _ hr9' hr10).mono ?_
      rintro e w11 ⟨rfl, hb11⟩
      have hb411 := hb410.trans (hb11.mono hb410.size)
      go_wp2_with fail
      go_roundw
      case rel => exact ⟨j + 1, by omega, by go_num, hb411⟩
      case measure => simp [intOf]; omega
    · obtain rfl : j = 2 := by omega
      have hbw := hb4.trans (hb.mono hb4.size)
      have hdw := hd4.kept (grown_of_below hb) (fun _ h => by cases h)
      have holw := hol4.kept (grown_of_below hb) (Classical.em _)
      clear hb4 hd4 hol4 hb hKs
      go_wp2_with fail
      refine (next_any w0.heap.size 5 _ hdw (by omega) (by omega)).mono ?_
      rintro e w5 ⟨k5, -, -, rfl, -, hg5⟩
      have hb5 : Below w0.heap.size w0 w5 := hbw.grown hg5 hbw.size (fun g e => by cases e; exact Nat.le_refl _)
      have hol5 := own_next holw (by omega) hg5
      clear hbw hdw holw hg5
      have hrop := ropen_any k5
      have how := open_row k5
      obtain ⟨⟨⟨b0, b1, b2, b3⟩, E⟩, hO⟩ : ∃ o, openS k5 = o := ⟨_, rfl⟩
      rw [hO] at hrop how
      unfold BufV at hrop
      dsimp only at hrop how
      subst how
      dsimp only [List.length_nil] at hrop
      clear hO
      go_wp2_with fail
      refine (hrop _).mono ?_
      rintro e w6 ⟨rfl, hb6⟩
      have hb06 := hb5.trans (hb6.mono hb5.size)
      have hol6 := hol5.kept (grown_of_below hb6) (Classical.em _)
      have hlo6 := hol6.lt
      have hX7 := heap_alloc_new w6 (.cells #[.int .i64 b0, .int .i64 b1, .int .i64 b2, .slice none 0 0] 24)
      have hb07 := hb06.alloc hb06.size (.cells #[.int .i64 b0, .int .i64 b1, .int .i64 b2, .slice none 0 0] 24)
      have hol7 := hol6.alloc (.cells #[.int .i64 b0, .int .i64 b1, .int .i64 b2, .slice none 0 0] 24)
      have hE7 := lit_next hb07 hE0
      obtain ⟨p0, p1, p2, p3, p4, p5, p6⟩ := cells7 hE7
      have hB6 := hb06.size
      clear hb5 hol5 hb6 hb06 hol6 hrop
      have hl1 : RowAt encEv ((w6.alloc (.cells #[.int .i64 b0, .int .i64 b1, .int .i64 b2, .slice none 0 0] 24)).alloc (.cells #[.int .i64 re.kind, .int .i64 re.time, .int .i64 re.u, .int .i64 re.v, .int .i64 re.weight, .int .i64 re.label, .int .i64 re.sign] 26)) (.slice (some ⟨w6.heap.size + 1, 0, none⟩) 1 1) [re] := by
        have h := rows_lit1 (E := encEv) (w6.alloc (.cells #[.int .i64 b0, .int .i64 b1, .int .i64 b2, .slice none 0 0] 24)) re 26 #[.int .i64 re.kind, .int .i64 re.time, .int .i64 re.u, .int .i64 re.v, .int .i64 re.weight, .int .i64 re.label, .int .i64 re.sign] rfl
        simpa using h
      have ho8 := hol7.alloc (.cells #[.int .i64 re.kind, .int .i64 re.time, .int .i64 re.u, .int .i64 re.v, .int .i64 re.weight, .int .i64 re.label, .int .i64 re.sign] 26)
      have hb08 := hb07.alloc hb07.size (.cells #[.int .i64 re.kind, .int .i64 re.time, .int .i64 re.u, .int .i64 re.v, .int .i64 re.weight, .int .i64 re.label, .int .i64 re.sign] 26)
      have hX8 := (Below.heap_alloc (w6.alloc (.cells #[.int .i64 b0, .int .i64 b1, .int .i64 b2, .slice none 0 0] 24)) (.cells #[.int .i64 re.kind, .int .i64 re.time, .int .i64 re.u, .int .i64 re.v, .int .i64 re.weight, .int .i64 re.label, .int .i64 re.sign] 26) _ (by simp)).trans hX7
      have hz7 := blk_lt hE7
      obtain ⟨L2, hL2⟩ : ∃ L, L = l ++ [re] := ⟨_, rfl⟩
      have hLl : L2.length ≤ 15 := by rw [hL2]; simp; omega
      have HL2 := Lib.hid hL2
      clear hL2 hol7 hX7
      go_wp2_with (at_builtin; refine wpList_app_rows_at' evRT rfl _ _ rfl (w0.heap.size + 1) (.slice al l.length capl) (.slice (some ⟨w6.heap.size + 1, 0, none⟩) 1 1) l [re] rfl ho8 rfl hl1 (by simp; omega) (by simp; omega) (by simp; omega) ?_; intro v9 w9 hown9 hg9 hat9; rw [← HL2.out] at hown9; obtain ⟨a9, c9, hv9, hr9, -⟩ := RowAt.of_owns hown9 (by omega); subst hv9)
      have hS0 : PsR w0 w6.heap.size L2 (.slice a9 L2.length c9) 0 ⟨b0, b1, b2, []⟩ none 0 w9 := by
        refine ⟨hb08.grown hg9 hb08.size (fun g e => by have := hlo6 g e; omega), hB6, fun h0 n c p ep => ?_, hr9, grown_blk hg9 hX8 (fun e => by have := hlo6 _ e.symm; omega), RowAt.nil _, Nat.le_refl _⟩
        obtain ⟨rfl, _, _⟩ := Value.slice.inj ep
        rcases hat9 with h | h
        · have := hlo6 p.block h.symm; omega
        · have h1 : p.block = ((w6.alloc (.cells #[.int .i64 b0, .int .i64 b1, .int .i64 b2, .slice none 0 0] 24)).alloc (.cells #[.int .i64 re.kind, .int .i64 re.time, .int .i64 re.u, .int .i64 re.v, .int .i64 re.weight, .int .i64 re.label, .int .i64 re.sign] 26)).heap.size := Option.some.inj h
          simp at h1; omega
      clear hb07 hb08 hX8 hE7 hown9 hg9 hat9 ho8 hl1 hr9 hlo6 p0 p1 p2 p3 p4 p5 p6
      go_loopw [122] (fun i wr => ∃ j : Nat, j ≤ L2.length ∧ i = .int .i64 j ∧ ∃ (buf : Buf) (ab : Option Addr) (cb : Nat), PsR w0 w6.heap.size L2 (.slice a9 L2.length c9) j buf ab cb wr) (fun i _ => L2.length - (intOf i).toNat)
      case atStart => exact ⟨0, Nat.zero_le _, rfl, _, none, 0, hS0⟩
      case round =>
        clear hS0
        obtain ⟨j, hj, rfl, buf, ab, cb, hS⟩ := hrel
        obtain ⟨g0, g1, g2, g3⟩ := cells4 hS.box
        have hzB := blk_lt hS.box
        have hlen := hS.len
        by_cases hlt : j < L2.length
        · obtain ⟨bb, off, y, rfl, hy, hcap, e0, e1, e2, e3, e4, e5, e6⟩ := ev_at hS.rowl j hlt
          obtain ⟨P, hP⟩ : ∃ P, pushS buf y = P := ⟨_, rfl⟩
          have hpl := push_len buf y
          have hpw := push_wait buf y
          have hcall1 := fun W h => push_any buf y ab cb W h (by omega)
          have hcall2 := fun W h => rpush_any buf y ab cb W h (by omega)
          rw [hP] at hpl hpw hcall1 hcall2
          unfold PushPost BufV Ev.cells at hcall1 hcall2
          obtain ⟨q, po, pe⟩ := P
          dsimp only at hpl hpw hcall1 hcall2
          have hcx := hcall1 (wr.alloc (.cells #[.int .i64 y.kind, .int .i64 y.time, .int .i64 y.u, .int .i64 y.v, .int .i64 y.weight, .int .i64 y.label, .int .i64 y.sign] 26)) (hS.row.below ((Below.refl _ _).alloc (Nat.le_refl _) _))
          clear hP hcall1 hy
          go_wp2_with fail
          refine hcx.mono ?_
          rintro e wa ⟨a1, c1, a2, c2, rfl, hr1, hr2, hb3, hn1, -⟩
          have hb1 : Below wr.heap.size wr wa := ((Below.refl _ _).alloc (Nat.le_refl _) _).trans (hb3.mono (by simp))
          have hb2 := hb1.alloc hb1.size (.cells #[.int .i64 q.bound, .int .i64 q.latest, .int .i64 q.mark, .slice a1 q.wait.length c1] 24)
          have hbn := (Below.refl wa.heap.size wa).alloc (Nat.le_refl _) (.cells #[.int .i64 q.bound, .int .i64 q.latest, .int .i64 q.mark, .slice a1 q.wait.length c1] 24)
          have hP1 := heap_alloc_new wa (.cells #[.int .i64 q.bound, .int .i64 q.latest, .int .i64 q.mark, .slice a1 q.wait.length c1] 24)
          have hE1 := lit_next hbn (lit_next hb3 (heap_alloc_new wr (.cells #[.int .i64 y.kind, .int .i64 y.time, .int .i64 y.u, .int .i64 y.v, .int .i64 y.weight, .int .i64 y.label, .int .i64 y.sign] 26)))
          have hr1 := hr1.below hbn
          have hr2 := hr2.below hbn
          have hSa := hS.below hb2
          have hza := hb1.size
          have hrlt : bb < wr.heap.size := hS.rowl.lt (by omega)
          have hn1 : ∀ p, a1 = some p → wr.heap.size < p.block := fun p hp => by have := hn1 p hp; simp at this; omega
          clear hcx hb3 hbn e0 e1 e2 e3 e4 e5 e6 g0 g1 g2 g3 hb1
          obtain ⟨g0, g1, g2, g3⟩ := cells4 hSa.box
          obtain ⟨p0, p1, p2, p3, p4, p5, p6⟩ := cells7 hE1
          have hwa : wa.heap.size < (wa.alloc (.cells #[.int .i64 q.bound, .int .i64 q.latest, .int .i64 q.mark, .slice a1 q.wait.length c1] 24)).heap.size := by simp
          go_wp2_with fail
          refine (hcall2 _ hSa.row).mono ?_
          rintro e wb ⟨a3, c3, a4, c4, rfl, hr3, hr4, hb4, hn3, -⟩
          have hzb := hb4.size
          have hbn := hb4.alloc hb4.size (.cells #[.int .i64 q.bound, .int .i64 q.latest, .int .i64 q.mark, .slice a3 q.wait.length c3] 24)
          have hbn2 := (Below.refl wb.heap.size wb).alloc (Nat.le_refl _) (.cells #[.int .i64 q.bound, .int .i64 q.latest, .int .i64 q.mark, .slice a3 q.wait.length c3] 24)
          have hQ := heap_alloc_new wb (.cells #[.int .i64 q.bound, .int .i64 q.latest, .int .i64 q.mark, .slice a3 q.wait.length c3] 24)
          have hP2 := lit_next hbn hP1
          have hr1 := hr1.below hbn
          have hr2 := hr2.below hbn
          have hr3lt : ∀ p, a3 = some p → 0 < q.wait.length → p.block < wb.heap.size := fun p hp h0 => by subst hp; exact hr3.lt h0
          have hr3 := hr3.below hbn2
          have hr4 := hr4.below hbn2
          have hSb := hSa.below hbn
          have hn3 : ∀ p, a3 = some p → wa.heap.size < p.block := fun p hp => by have := hn3 p hp; omega
          clear hcall2 hb4 hbn hbn2 hP1 hE1 hSa hS g0 g1 g2 g3 p0 p1 p2 p3 p4 p5 p6
          have hv1 := fun W h => valid_any q a1 c1 W h
          have hv2 := fun W h => rvalid_any q a3 c3 W h
          have hsm := fun W h1 h2 => rsame_eq q a1 a3 c1 c3 W h1 h2
          unfold BufV at hsm
          go_wp2_with fail
          have hwb : wb.heap.size < (wb.alloc (.cells #[.int .i64 q.bound, .int .i64 q.latest, .int .i64 q.mark, .slice a3 q.wait.length c3] 24)).heap.size := by simp
          generalize wb.alloc (.cells #[.int .i64 q.bound, .int .i64 q.latest, .int .i64 q.mark, .slice a3 q.wait.length c3] 24) = W at *
          obtain ⟨k0, k1, k2', k3⟩ := ext_cells4 hP2
          obtain ⟨m0, m1, m2, m3⟩ := ext_cells4 hQ
          refine wp_region_ext W.heap.size W (by kernel_rfl) (by kernel_rfl) (Below.refl _ _) ?_
          try simp only [List.append_eq, List.cons_append, List.nil_append]
          repeat (go_big_quiet_step (first
            | (go_at_call 13; with_reducible exact Calls.ext_of (Nat.le_refl _) (hsm _ (hr1.below (Ext.below _)) (hr3.below (Ext.below _))))
            | (go_at_call 16; with_reducible exact Calls.ext_of (Nat.le_refl _) (evsame_eq po a2 a4 c2 c4 _ (hr2.below (Ext.below _)) (hr4.below (Ext.below _))))
            | (go_at_call 19; with_reducible exact Calls.ext_of (Nat.le_refl _) (hv1 _ (hr1.below (Ext.below _))))
            | (go_at_call 20; with_reducible exact Calls.ext_of (Nat.le_refl _) (hv2 _ (hr3.below (Ext.below _))))))
          refine wpQuiet_nil ?_
          rintro wq ⟨⟨wq', hq⟩, hqq⟩
          obtain rfl : wq = wq' := hqq
          clear k0 k1 k2' k3 m0 m1 m2 m3
          have hSq := hSb.below hq
          have hQq := lit_next hq hQ
          have hPq := lit_next hq hP2
          have hr3q := hr3.below hq
          have hzW := hq.size
          clear hSb hQ hP2 hr1 hr2 hr3 hr4 hq hv1 hv2 hsm
          obtain ⟨m0, m1, m2, m3⟩ := cells4 hQq
          obtain ⟨b0', b1', b2', b3'⟩ := cells4 hSq.box
          have fB : ∀ j, wq.frozen? ⟨w6.heap.size, j, none⟩ = false := fun j => free_blk hSq.box
          have hS2 := hSq.put hr3q (fun p hp => by have := hn3 p hp; omega) (by omega)
          by_cases h5 : (j : Int) % 5 = 4
          case neg =>
            have d5 : ((j : Int) % 5 == 4) = false := by simpa using h5
            clear h5
            go_wp2_with fail
            go_roundw
            case rel => exact ⟨j + 1, by omega, by go_num, q, a3, c3, hS2⟩
            case measure => simp [intOf]; omega
          have d5 : ((j : Int) % 5 == 4) = true := by simpa using h5
          have hPW := grown_blk (grown_four (g := w6.heap.size) (x := .int .i64 q.bound) (y := .int .i64 q.latest) (z := .int .i64 q.mark) (u := .slice a3 q.wait.length c3)) hPq (fun e => by have := Option.some.inj e; omega)
          have hQW := grown_blk (grown_four (g := w6.heap.size) (x := .int .i64 q.bound) (y := .int .i64 q.latest) (z := .int .i64 q.mark) (u := .slice a3 q.wait.length c3)) hQq (fun e => by have := Option.some.inj e; omega)
          obtain ⟨x0, x1, x2, x3⟩ := cells4 hS2.box
          obtain ⟨Fr, hFr⟩ : ∃ P, flushS q = P := ⟨_, rfl⟩
          have hfl := flush_len q
          have hcf1 := fun W h => flush_any q a3 c3 W h (by omega)
          have hcf2 := fun W h => rflush_any q a3 c3 W h (by omega)
          rw [hFr] at hfl hcf1 hcf2
          unfold PushPost BufV at hcf1
          unfold RFlPost BufV at hcf2
          obtain ⟨fq, fo, fe⟩ := Fr
          dsimp only at hfl hcf1 hcf2
          clear hFr h5 hSq hQq hPq hr3q
          go_wp2_with fail
          refine (hcf1 _ hS2.row).mono ?_
          rintro e wd ⟨a5, c5, a6, c6, rfl, hr5, hr6, hb7, hn5, hn6⟩
          have hPd := lit_next hb7 hPW
          have hQd := lit_next hb7 hQW
          have hSd := hS2.below hb7
          have hz7 := hb7.size
          have hz27 : wq.heap.size ≤ ((((wq.setCell ⟨w6.heap.size, 0, none⟩ (.int .i64 q.bound)).setCell ⟨w6.heap.size, 1, none⟩ (.int .i64 q.latest)).setCell ⟨w6.heap.size, 2, none⟩ (.int .i64 q.mark)).setCell ⟨w6.heap.size, 3, none⟩ (.slice a3 q.wait.length c3)).heap.size := by simp [World.setCell]
          have hn5 : ∀ p, a5 = some p → wb.heap.size < p.block := fun p hp => by have := hn5 p hp; omega
          have hn6 : ∀ p, a6 = some p → wb.heap.size < p.block := fun p hp => by have := hn6 p hp; omega
          clear hcf1 hPW hQW hS2 hb7 x0 x1 x2 x3 b0' b1' b2' b3' m0 m1 m2 m3 fB
          obtain ⟨m0, m1, m2, m3⟩ := cells4 hPd
          have fP : ∀ j, wd.frozen? ⟨wa.heap.size, j, none⟩ = false := fun j => free_blk hPd
          have hoff : ∀ g, wr.heap.size ≤ g → Off g (.slice (some ⟨bb, off, none⟩) L2.length c9) := fun g hg n c p ep => by
            obtain ⟨h1, _, _⟩ := Value.slice.inj ep
            cases h1
            show bb ≠ g
            omega
          have hS3 := hSd.kept (grown_four (g := wa.heap.size) (x := .int .i64 fq.bound) (y := .int .i64 fq.latest) (z := .int .i64 fq.mark) (u := .slice a5 fq.wait.length c5)) (by omega) (by have := hSd.hB; omega) (fun _ => hoff _ (by omega)) (fun _ n c p ep => by obtain ⟨h1, _, _⟩ := Value.slice.inj ep; have := hn3 p h1; omega)
          have hP3 := set_four (x' := .int .i64 fq.bound) (y' := .int .i64 fq.latest) (z' := .int .i64 fq.mark) (u' := .slice a5 fq.wait.length c5) hPd
          have hQ3 := grown_blk (grown_four (g := wa.heap.size) (x := .int .i64 fq.bound) (y := .int .i64 fq.latest) (z := .int .i64 fq.mark) (u := .slice a5 fq.wait.length c5)) hQd (fun e => by have := Option.some.inj e; omega)
          have hr53 := hr5.grown' (grown_four (g := wa.heap.size) (x := .int .i64 fq.bound) (y := .int .i64 fq.latest) (z := .int .i64 fq.mark) (u := .slice a5 fq.wait.length c5)) (fun _ e _ n c p ep => by cases e; obtain ⟨h1, _, _⟩ := Value.slice.inj ep; have := hn5 p h1; omega)
          have hr63 := hr6.grown' (grown_four (g := wa.heap.size) (x := .int .i64 fq.bound) (y := .int .i64 fq.latest) (z := .int .i64 fq.mark) (u := .slice a5 fq.wait.length c5)) (fun _ e _ n c p ep => by cases e; obtain ⟨h1, _, _⟩ := Value.slice.inj ep; have := hn6 p h1; omega)
          have hz3 : wd.heap.size ≤ ((((wd.setCell ⟨wa.heap.size, 0, none⟩ (.int .i64 fq.bound)).setCell ⟨wa.heap.size, 1, none⟩ (.int .i64 fq.latest)).setCell ⟨wa.heap.size, 2, none⟩ (.int .i64 fq.mark)).setCell ⟨wa.heap.size, 3, none⟩ (.slice a5 fq.wait.length c5)).heap.size := by simp [World.setCell]
          obtain ⟨x0, x1, x2, x3⟩ := cells4 hS3.box
          clear hSd hPd hQd hr5 hr6
          go_wp2_with fail
          refine (hcf2 _ hS3.row).mono ?_
          rintro e we ⟨a7, c7, a8, c8, rfl, hr7, hr8, hb8, hn7, hn8⟩
          have hPe := lit_next hb8 hP3
          have hQe := lit_next hb8 hQ3
          have hSe := hS3.below hb8
          have hr5e := hr53.below hb8
          have hr6e := hr63.below hb8
          have hn7 : ∀ p, a7 = some p → wb.heap.size < p.block := fun p hp => by have := hn7 p hp; omega
          have hr8o : 0 < fo.length → Off wb.heap.size (.slice a8 fo.length c8) := fun h0 n c p ep => by
            obtain ⟨h1, _, _⟩ := Value.slice.inj ep
            rcases hn8 p h1 with h | h
            · omega
            · have := hr3lt p h (by omega); omega
          clear hcf2 hP3 hQ3 hS3 hb8 hr53 hr63 x0 x1 x2 x3 m0 m1 m2 m3 fP
          obtain ⟨m0, m1, m2, m3⟩ := cells4 hQe
          have fQ : ∀ j, we.frozen? ⟨wb.heap.size, j, none⟩ = false := fun j => free_blk hQe
          have hS4 := hSe.kept (grown_four (g := wb.heap.size) (x := .int .i64 fq.bound) (y := .int .i64 fq.latest) (z := .int .i64 fq.mark) (u := .slice a7 fq.wait.length c7)) (by omega) (by have := hSe.hB; omega) (fun _ => hoff _ (by omega)) (fun h0 n c p ep => by obtain ⟨h1, _, _⟩ := Value.slice.inj ep; have := hr3lt p h1 h0; omega)
          have hQ4 := set_four (x' := .int .i64 fq.bound) (y' := .int .i64 fq.latest) (z' := .int .i64 fq.mark) (u' := .slice a7 fq.wait.length c7) hQe
          have hP4 := grown_blk (grown_four (g := wb.heap.size) (x := .int .i64 fq.bound) (y := .int .i64 fq.latest) (z := .int .i64 fq.mark) (u := .slice a7 fq.wait.length c7)) hPe (fun e => by have := Option.some.inj e; omega)
          have hr54 := hr5e.grown' (grown_four (g := wb.heap.size) (x := .int .i64 fq.bound) (y := .int .i64 fq.latest) (z := .int .i64 fq.mark) (u := .slice a7 fq.wait.length c7)) (fun _ e _ n c p ep => by cases e; obtain ⟨h1, _, _⟩ := Value.slice.inj ep; have := hn5 p h1; omega)
          have hr64 := hr6e.grown' (grown_four (g := wb.heap.size) (x := .int .i64 fq.bound) (y := .int .i64 fq.latest) (z := .int .i64 fq.mark) (u := .slice a7 fq.wait.length c7)) (fun _ e _ n c p ep => by cases e; obtain ⟨h1, _, _⟩ := Value.slice.inj ep; have := hn6 p h1; omega)
          have hr74 := hr7.grown' (grown_four (g := wb.heap.size) (x := .int .i64 fq.bound) (y := .int .i64 fq.latest) (z := .int .i64 fq.mark) (u := .slice a7 fq.wait.length c7)) (fun _ e _ n c p ep => by cases e; obtain ⟨h1, _, _⟩ := Value.slice.inj ep; have := hn7 p h1; omega)
          have hr84 := hr8.grown' (grown_four (g := wb.heap.size) (x := .int .i64 fq.bound) (y := .int .i64 fq.latest) (z := .int .i64 fq.mark) (u := .slice a7 fq.wait.length c7)) (fun _ e h0 => by cases e; exact hr8o h0)
          obtain ⟨k0, k1, k2', k3⟩ := cells4 hP4
          obtain ⟨y0, y1, y2, y3⟩ := cells4 hQ4
          have hsm2 := fun W h1 h2 => rsame_eq fq a5 a7 c5 c7 W h1 h2
          unfold BufV at hsm2
          clear hSe hPe hQe hr5e hr6e hr7 hr8 hr8o hr3lt
          go_wp2_with fail
          refine (hsm2 _ hr54 hr74).mono ?_
          rintro e wf ⟨rfl, hb9⟩
          have hr6f := hr64.below hb9
          have hr8f := hr84.below hb9
          have hSf := hS4.below hb9
          clear hS4 hb9 hr64 hr84 hr54 hr74 k0 k1 k2' k3 y0 y1 y2 y3 hP4 hQ4 hsm2 m0 m1 m2 m3 fQ
          go_wp2_with fail
          refine (evsame_eq fo a6 a8 c6 c8 _ hr6f hr8f).mono ?_
          rintro e wg ⟨rfl, hb10⟩
          go_wp2_with fail
          go_roundw
          case rel => exact ⟨j + 1, by omega, by go_num, q, a3, c3, hSf.below hb10⟩
          case measure => simp [intOf]; omega
        · obtain rfl : j = L2.length := by omega
          have hRr := lit_next hS.bel hR0
          have hEr := lit_next hS.bel hE0
          have hrr := hrw0.below hS.bel
          have hbel := hb0.trans (hS.bel.mono hb0.size)
          clear g0 g1 g2 g3 hS hlen hzB hR0 hE0 hrw0 hb0
          obtain ⟨P, hP⟩ : ∃ P, pushS rb re = P := ⟨_, rfl⟩
          obtain ⟨Fr, hFr⟩ : ∃ P, flushS rb = P := ⟨_, rfl⟩
          have hc1 := fun W h => push_any rb re ra rc W h (by omega)
          have hc2 := fun W h => rpush_any rb re ra rc W h (by omega)
          have hc3 := fun W h => flush_any rb ra rc W h (by omega)
          have hc4 := fun W h => rflush_any rb ra rc W h (by omega)
          rw [hP] at hc1 hc2
          rw [hFr] at hc3 hc4
          unfold PushPost BufV Ev.cells at hc1 hc2
          unfold PushPost BufV at hc3
          unfold RFlPost BufV at hc4
          obtain ⟨q, po, pe⟩ := P
          obtain ⟨fq, fo, fe⟩ := Fr
          dsimp only at hc1 hc2 hc3 hc4
          clear hP hFr
          obtain ⟨g0, g1, g2, g3⟩ := cells4 hRr
          obtain ⟨p0, p1, p2, p3, p4, p5, p6⟩ := cells7 hEr
          go_wp2_with fail
          refine (hc1 _ hrr).mono ?_
          rintro e wa ⟨a1, c1, a2, c2, rfl, hr1, hr2, hba, -, -⟩
          have hn1 := hba.alloc hba.size (.cells #[.int .i64 q.bound, .int .i64 q.latest, .int .i64 q.mark, .slice a1 q.wait.length c1] 24)
          have hs1 := (Below.refl wa.heap.size wa).alloc (Nat.le_refl _) (.cells #[.int .i64 q.bound, .int .i64 q.latest, .int .i64 q.mark, .slice a1 q.wait.length c1] 24)
          have hx1 := heap_alloc_new wa (.cells #[.int .i64 q.bound, .int .i64 q.latest, .int .i64 q.mark, .slice a1 q.wait.length c1] 24)
          have hr1 := hr1.below hs1
          have hr2 := hr2.below hs1
          have hRr := lit_next hn1 hRr
          have hEr := lit_next hn1 hEr
          have hrr := hrr.below hn1
          have hbel := hbel.trans (hn1.mono hbel.size)
          clear hba hc1 hs1 hn1 g0 g1 g2 g3 p0 p1 p2 p3 p4 p5 p6
          obtain ⟨g0, g1, g2, g3⟩ := cells4 hRr
          obtain ⟨p0, p1, p2, p3, p4, p5, p6⟩ := cells7 hEr
          go_wp2_with fail
          refine (hc2 _ hrr).mono ?_
          rintro e wb ⟨a3, c3, a4, c4, rfl, hr3, hr4, hbb, -, -⟩
          have hn1 := hbb.alloc hbb.size (.cells #[.int .i64 q.bound, .int .i64 q.latest, .int .i64 q.mark, .slice a3 q.wait.length c3] 24)
          have hs1 := (Below.refl wb.heap.size wb).alloc (Nat.le_refl _) (.cells #[.int .i64 q.bound, .int .i64 q.latest, .int .i64 q.mark, .slice a3 q.wait.length c3] 24)
          have hx2 := heap_alloc_new wb (.cells #[.int .i64 q.bound, .int .i64 q.latest, .int .i64 q.mark, .slice a3 q.wait.length c3] 24)
          have hx1 := lit_next hn1 hx1
          have hr1 := hr1.below hn1
          have hr2 := hr2.below hn1
          have hr3 := hr3.below hs1
          have hr4 := hr4.below hs1
          have hRr := lit_next hn1 hRr
          have hrr := hrr.below hn1
          have hbel := hbel.trans (hn1.mono hbel.size)
          clear hbb hc2 hs1 hn1 hEr g0 g1 g2 g3 p0 p1 p2 p3 p4 p5 p6
          obtain ⟨g0, g1, g2, g3⟩ := cells4 hRr
          go_wp2_with fail
          refine (hc3 _ hrr).mono ?_
          rintro e wc ⟨a5, c5, a6, c6, rfl, hr5, hr6, hbc, -, -⟩
          have hn1 := hbc.alloc hbc.size (.cells #[.int .i64 fq.bound, .int .i64 fq.latest, .int .i64 fq.mark, .slice a5 fq.wait.length c5] 24)
          have hs1 := (Below.refl wc.heap.size wc).alloc (Nat.le_refl _) (.cells #[.int .i64 fq.bound, .int .i64 fq.latest, .int .i64 fq.mark, .slice a5 fq.wait.length c5] 24)
          have hx3 := heap_alloc_new wc (.cells #[.int .i64 fq.bound, .int .i64 fq.latest, .int .i64 fq.mark, .slice a5 fq.wait.length c5] 24)
          have hx1 := lit_next hn1 hx1
          have hx2 := lit_next hn1 hx2
          have hr1 := hr1.below hn1
          have hr2 := hr2.below hn1
          have hr3 := hr3.below hn1
          have hr4 := hr4.below hn1
          have hr5 := hr5.below hs1
          have hr6 := hr6.below hs1
          have hRr := lit_next hn1 hRr
          have hrr := hrr.below hn1
          have hbel := hbel.trans (hn1.mono hbel.size)
          clear hbc hc3 hs1 hn1 g0 g1 g2 g3
          obtain ⟨g0, g1, g2, g3⟩ := cells4 hRr
          go_wp2_with fail
          refine (hc4 _ hrr).mono ?_
          rintro e wd ⟨a7, c7, a8, c8, rfl, hr7, hr8, hbd, -, -⟩
          have hn1 := hbd.alloc hbd.size (.cells #[.int .i64 fq.bound, .int .i64 fq.latest, .int .i64 fq.mark, .slice a7 fq.wait.length c7] 24)
          have hs1 := (Below.refl wd.heap.size wd).alloc (Nat.le_refl _) (.cells #[.int .i64 fq.bound, .int .i64 fq.latest, .int .i64 fq.mark, .slice a7 fq.wait.length c7] 24)
          have hx4 := heap_alloc_new wd (.cells #[.int .i64 fq.bound, .int .i64 fq.latest, .int .i64 fq.mark, .slice a7 fq.wait.length c7] 24)
          have hx1 := lit_next hn1 hx1
          have hx2 := lit_next hn1 hx2
          have hx3 := lit_next hn1 hx3
          have hr1 := hr1.below hn1
          have hr2 := hr2.below hn1
          have hr3 := hr3.below hn1
          have hr4 := hr4.below hn1
          have hr5 := hr5.below hn1
          have hr6 := hr6.below hn1
          have hr7 := hr7.below hs1
          have hr8 := hr8.below hs1
          have hRr := lit_next hn1 hRr
          have hrr := hrr.below hn1
          have hbel := hbel.trans (hn1.mono hbel.size)
          clear hbd hc4 hs1 hn1 g0 g1 g2 g3
          have hv1 := fun W h => valid_any rb ra rc W h
          have hv2 := fun W h => rvalid_any rb ra rc W h
          have hsm1 := fun W h1 h2 => rsame_eq q a1 a3 c1 c3 W h1 h2
          have hsm2 := fun W h1 h2 => rsame_eq fq a5 a7 c5 c7 W h1 h2
          unfold BufV at hsm1 hsm2
          go_wp2_with fail
          generalize wd.alloc (.cells #[.int .i64 fq.bound, .int .i64 fq.latest, .int .i64 fq.mark, .slice a7 fq.wait.length c7] 24) = W at *
          obtain ⟨k0, k1, k2', k3⟩ := ext_cells4 hx1
          obtain ⟨m0, m1, m2, m3⟩ := ext_cells4 hx2
          obtain ⟨n0, n1, n2, n3⟩ := ext_cells4 hx3
          obtain ⟨y0, y1, y2, y3⟩ := ext_cells4 hx4
          obtain ⟨g0, g1, g2, g3⟩ := ext_cells4 hRr
          refine wp_region_ext W.heap.size W (by kernel_rfl) (by kernel_rfl) (Below.refl _ _) ?_
          try simp only [List.append_eq, List.cons_append, List.nil_append]
          repeat (go_big_quiet_step (first
            | (go_at_call 13; first
              | with_reducible exact Calls.ext_of (Nat.le_refl _) (hsm1 _ (hr1.below (Ext.below _)) (hr3.below (Ext.below _)))
              | with_reducible exact Calls.ext_of (Nat.le_refl _) (hsm2 _ (hr5.below (Ext.below _)) (hr7.below (Ext.below _))))
            | (go_at_call 16; first
              | with_reducible exact Calls.ext_of (Nat.le_refl _) (evsame_eq po a2 a4 c2 c4 _ (hr2.below (Ext.below _)) (hr4.below (Ext.below _)))
              | with_reducible exact Calls.ext_of (Nat.le_refl _) (evsame_eq fo a6 a8 c6 c8 _ (hr6.below (Ext.below _)) (hr8.below (Ext.below _))))
            | (go_at_call 19; with_reducible exact Calls.ext_of (Nat.le_refl _) (hv1 _ (hrr.below (Ext.below _))))
            | (go_at_call 20; with_reducible exact Calls.ext_of (Nat.le_refl _) (hv2 _ (hrr.below (Ext.below _))))
            | (go_at_call 7; exact Calls.ext_of (Nat.le_refl _) (awake_any _))))
          refine wpQuiet_nil ?_
          rintro wq ⟨⟨wq', hq⟩, hqq⟩
          obtain rfl : wq = wq' := hqq
          clear k0 k1 k2' k3 m0 m1 m2 m3 n0 n1 n2 n3 y0 y1 y2 y3 g0 g1 g2 g3
          go_wp2
          go_ret
          exact ⟨rfl, hbel.trans (hq.mono hbel.size)⟩
end Go.Proofs.Ytdljkobgghnkpaa
