/- The contract of the reference's graph of a list of edges whose ends are right. -/
import Derived.Test.YtbkacbbhiecnkaaDoorRef03Add
namespace Go.Proofs.YtbkacbbhiecnkaaDoor
open Go.RowKit Go.BigFrame

/-- the edges in order -/
def edS (e : E2) : E2 := (min e.1 e.2, max e.1 e.2)
def ofE (rs : List E2) : List E2 := rs.foldl (fun acc e => insE acc (edS e)) []
def Ends (n : Int) (e : E2) : Prop := 0 ≤ e.1 ∧ 0 ≤ e.2 ∧ e.1 < n ∧ e.2 < n ∧ ¬ e.1 = e.2
theorem edS_ins {n : Int} {e : E2} (h : Ends n e) : Ins n (edS e) := by
  obtain ⟨h1, h2, h3, h4, h5⟩ := h
  unfold Ins edS
  dsimp
  omega
theorem ofE_snoc (rs : List E2) (e : E2) : ofE (rs ++ [e]) = insE (ofE rs) (edS e) := by simp [ofE, List.foldl_append]
theorem fold_valid {n : Int} (rs : List E2) : ∀ acc, Valid n acc → (∀ e ∈ rs, Ends n e) → Valid n (rs.foldl (fun acc e => insE acc (edS e)) acc) := by
  induction rs with
  | nil => intro acc h _; exact h
  | cons e rs ih => intro acc h hr; exact ih _ (h.ins _ (edS_ins (hr e List.mem_cons_self))) (fun x hx => hr x (List.mem_cons_of_mem _ hx))
theorem ofE_valid {n : Int} (rs : List E2) (h0 : 0 ≤ n) (h1 : n ≤ 64) (h : ∀ e ∈ rs, Ends n e) : Valid n (ofE rs) := fold_valid rs [] (valid_nil h0 h1) h
theorem fold_mem (rs : List E2) (x : E2) : ∀ acc, x ∈ rs.foldl (fun acc e => insE acc (edS e)) acc ↔ x ∈ acc ∨ ∃ e ∈ rs, x = edS e := by
  induction rs with
  | nil => intro acc; simp
  | cons e rs ih =>
    intro acc
    rw [List.foldl_cons, ih, insE_mem]
    constructor
    · rintro ((h | h) | ⟨y, h1, h2⟩)
      · exact .inl h
      · exact .inr ⟨e, List.mem_cons_self, h⟩
      · exact .inr ⟨y, List.mem_cons_of_mem _ h1, h2⟩
    · rintro (h | ⟨y, h1, h2⟩)
      · exact .inl (.inl h)
      · rcases List.mem_cons.1 h1 with rfl | h1
        · exact .inl (.inr h2)
        · exact .inr ⟨y, h1, h2⟩
theorem ofE_mem (rs : List E2) (x : E2) : x ∈ ofE rs ↔ ∃ e ∈ rs, x = edS e := by unfold ofE; rw [fold_mem]; simp
theorem ofE_take (rs : List E2) (k : Nat) (u v : Int) (h : rs.take (k + 1) = rs.take k ++ [(u, v)]) : ofE (rs.take (k + 1)) = insE (ofE (rs.take k)) (min u v, max u v) := by rw [h, ofE_snoc]; rfl

/-- a graph in block g -/
def GAt (n : Int) (es : List E2) (g : Nat) (w : World) : Prop := ∃ a cap, w.heap[g]? = some (.cells #[.int .i64 n, .slice a es.length cap] 27 (0, 0)) ∧ EdgesAt w (.slice a es.length cap) es ∧ ∀ p, a = some p → p.block ≠ g ∧ p.block ≠ g - 1 ∧ g - 1 ≤ p.block
def OfPost (n : Int) (ys : List E2) (w : World) (e : Ending) (w' : World) : Prop := ∃ a cap, e = .returned (.tuple #[.agg #[.int .i64 n, .slice a ys.length cap], .int .i64 0]) ∧ EdgesAt w' (.slice a ys.length cap) ys ∧ Below w.heap.size w w' ∧ ∀ p, a = some p → w.heap.size ≤ p.block
set_option maxRecDepth 100000 in
set_option maxHeartbeats 3200000 in
theorem ofg_any (n : Int) (a : Option Addr) (cap : Nat) (rs : List E2) (w : World) (he : EdgesAt w (.slice a rs.length cap) rs) (h0 : 0 ≤ n) (h1 : n ≤ 64) (hr : ∀ e ∈ rs, Ends n e) :
    Calls Tryd.prog 84 #[.int .i64 n, .slice a rs.length cap] w (OfPost n (ofE rs) w) := by
  have hn0 : ¬ n < 0 := by omega
  have hl : rs.length ≤ 70368744177664 := by obtain ⟨_, _, hv, _, _, hl, _⟩ := he; exact hl
  go_enter Tryd.func84, Tryd.ntmps84
  go_wp2_with fail
  have hsz0 : ((w.alloc (.cells #[.int .i64 0, .slice none 0 0] 27)).alloc (.cells #[.int .i64 n, .slice none 0 0] 27)).heap.size = w.heap.size + 2 := by simp
  have hb0 : Below w.heap.size w ((w.alloc (.cells #[.int .i64 0, .slice none 0 0] 27)).alloc (.cells #[.int .i64 n, .slice none 0 0] 27)) := ((Below.refl _ _).alloc (Nat.le_refl _) _).alloc (by simp) _
  have hO0 : ((w.alloc (.cells #[.int .i64 0, .slice none 0 0] 27)).alloc (.cells #[.int .i64 n, .slice none 0 0] 27)).heap[w.heap.size]? = some (.cells #[.int .i64 0, .slice none 0 0] 27 (0, 0)) := (Below.heap_alloc _ _ _ (by simp)).trans (heap_alloc_new _ _)
  have hG0 : ((w.alloc (.cells #[.int .i64 0, .slice none 0 0] 27)).alloc (.cells #[.int .i64 n, .slice none 0 0] 27)).heap[w.heap.size + 1]? = some (.cells #[.int .i64 n, .slice none 0 0] 27 (0, 0)) := by
    have := heap_alloc_new (w.alloc (.cells #[.int .i64 0, .slice none 0 0] 27)) (.cells #[.int .i64 n, .slice none 0 0] 27)
    simpa using this
  go_loopw [20] (fun i wr => ∃ (k : Nat) (acc : List E2), i = .int .i64 k ∧ k ≤ rs.length ∧ acc.length ≤ k ∧ Hid (acc = ofE (rs.take k)) ∧ Below w.heap.size w wr ∧ wr.heap[w.heap.size]? = some (.cells #[.int .i64 0, .slice none 0 0] 27 (0, 0)) ∧ GAt n acc (w.heap.size + 1) wr) (fun i _ => rs.length - (intOf i).toNat)
  case atStart => exact ⟨0, [], rfl, Nat.zero_le _, Nat.le_refl _, rfl, hb0, hO0, none, 0, hG0, EdgesAt.empty none 0 (fun _ => rfl), fun p h => by cases h⟩
  case round =>
    clear hsz0 hb0 hO0 hG0
    obtain ⟨k, acc, rfl, hk, hal, HA, hb, hO, hG⟩ := hrel
    obtain ⟨ag, capg, hGb, hGe, hGo⟩ := hG
    by_cases hlt : k < rs.length
    · obtain ⟨b, off, u, v, rfl, hget, _, htk, c0, c1⟩ := (he.below hb).at k hlt
      obtain ⟨e1, e2, e3, e4, e5⟩ := hr (u, v) (List.mem_of_getElem? hget)
      dsimp only at e1 e2 e3 e4 e5
      have HT := Lib.hid (ofE_take rs k u v htk)
      clear htk hget
      go_wp2_with (go_at_call 130; refine (ends_yes n u v _ e1 e2 e3 e4 e5).mono ?_; rintro e w2 ⟨rfl, rfl⟩)
      have hbd : Below w.heap.size w (wr.alloc (.cells #[.int .i64 u, .int .i64 v] 42)).drew := (hb.alloc hb.size _).drew
      have hbA : Below wr.heap.size wr (wr.alloc (.cells #[.int .i64 u, .int .i64 v] 42)).drew := ((Below.refl _ _).alloc (Nat.le_refl _) _).drew
      have hEd : (wr.alloc (.cells #[.int .i64 u, .int .i64 v] 42)).drew.heap[wr.heap.size]? = some (.cells #[.int .i64 u, .int .i64 v] 42 (0, 0)) := heap_alloc_new wr (.cells #[.int .i64 u, .int .i64 v] 42)
      have hGd := (hbA.block _ (blk_lt hGb)).trans hGb
      have hOd := (hbA.block _ (blk_lt hO)).trans hO
      have hed := hGe.below hbA
      have hzG := blk_lt hGb
      have HRest := Lib.hid he
      have hzd : (wr.alloc (.cells #[.int .i64 u, .int .i64 v] 42)).drew.heap.size = wr.heap.size + 1 := by show (wr.alloc _).heap.size = _; simp
      have HZD := Lib.hid hzd
      have hacl : acc.length ≤ 4096 := by rw [HA.out]; exact (ofE_valid _ h0 h1 (fun e he => hr e (List.mem_of_mem_take he))).length_le
      have q0 := cell_blk (j := 0) hEd
      have q1 := cell_blk (j := 1) hEd
      have q2 := cell_blk (j := 1) hGd
      clear hb hbA hGb hO hGe he c0 c1 hzd
      go_region_law (first
        | (go_simp; go_at_call 118; refine (edge_any u v _).mono ?_; rintro e w4 ⟨rfl, hb4⟩; have he4 := hed.below hb4; have hb04 := hbd.trans (hb4.mono hbd.size); have hO4 := (hb4.block _ (blk_lt hOd)).trans hOd; have hG4 := (hb4.block _ (blk_lt hGd)).trans hGd; have g14 := cell_blk (j := 1) hG4; have hz4 := hb4.size)
        | (go_simp; go_at_call 131; refine (with_any ag capg acc _ _ _ he4 (by omega)).mono ?_; rintro e w5 ⟨a5, cap5, rfl, he5, hb5, ho5⟩; have hb05 : Below w.heap.size w w5 := hb04.trans (hb5.mono hb04.size); have hO5 := (hb5.block _ (blk_lt hO4)).trans hO4; have hG5 := (hb5.block _ (blk_lt hG4)).trans hG4; have s0 := cell_blk (j := 1) hG5; have s1 := free_blk (j := 1) hG5))
      all_goals
        have hz5 : w.heap.size + 1 < w4.heap.size := by have := HZD.out; omega
        have hne : ∀ p, a5 = some p → p.block ≠ w.heap.size + 1 ∧ p.block ≠ w.heap.size + 1 - 1 ∧ w.heap.size + 1 - 1 ≤ p.block := fun p hp => by
          rcases ho5 p hp with h | h
          · omega
          · exact hGo p h
        have hfin := heap_setCell_same w5 (w.heap.size + 1) 1 _ _ (.slice a5 (insE acc (min u v, max u v)).length cap5) hG5
        have hef := he5.grown (grown_store (b := w.heap.size + 1) (j := 1) (v := .slice a5 (insE acc (min u v, max u v)).length cap5)) (fun g e n c p ep => by cases e; cases ep; exact (hne _ rfl).1)
        have hOf := (Below.heap_setCell w5 ⟨w.heap.size + 1, 1, none⟩ (.slice a5 (insE acc (min u v, max u v)).length cap5) w.heap.size (by show w.heap.size ≠ w.heap.size + 1; omega)).trans hO5
        have HF1 := Lib.hid hfin
        have HF2 := Lib.hid hOf
        have HF3 := Lib.hid hef
        have hlI := insE_length acc (min u v, max u v)
        clear s0 s1 hfin hOf hef
        go_wp2_with fail
        go_roundw
        case rel => exact ⟨k + 1, insE acc (min u v, max u v), by go_num, by omega, by omega, by show _ = _; rw [HT.out, ← HA.out], hb05.setCell (p := ⟨w.heap.size + 1, 1, none⟩) (Nat.le_succ _) _, HF2.out, a5, cap5, HF1.out, HF3.out, hne⟩
        case measure => simp [intOf]; omega
    · obtain rfl : k = rs.length := by omega
      have hE : acc = ofE rs := by rw [HA.out, List.take_length]
      subst hE
      have q0 := cell_blk (j := 0) hGb
      have q1 := cell_blk (j := 1) hGb
      have r0 := cell_blk (j := 0) hO
      have r1 := cell_blk (j := 1) hO
      have r2 := free_blk (j := 0) hO
      have r3 := free_blk (j := 1) hO
      go_wp2_with fail
      have hfin := set_two (u := .int .i64 n) (v := .slice ag (ofE rs).length capg) hO
      have t0 := (cell_blk (j := 0) hfin)
      have t1 := (cell_blk (j := 1) hfin)
      have hg9 : wr.grownBy ((wr.setCell ⟨w.heap.size, 0, none⟩ (.int .i64 n)).setCell ⟨w.heap.size, 1, none⟩ (.slice ag (ofE rs).length capg)) (some w.heap.size) := grown_trans grown_store grown_store
      refine bodyPost_ret (v := .tuple #[.agg #[.int .i64 n, .slice ag (ofE rs).length capg], .int .i64 0]) (by simp [results, Tryd.results84, go_sem, t0, t1]) rfl ⟨ag, capg, rfl, ?_, ?_, fun p hp => by have := (hGo p hp).2.2; simpa using this⟩
      · exact hGe.grown hg9 (fun g e n c p ep => by cases e; cases ep; have := (hGo _ rfl).2.1; simpa using this)
      · exact hb.grown hg9 hb.size (fun k hk => by cases hk; exact Nat.le_refl _)
end Go.Proofs.YtbkacbbhiecnkaaDoor
