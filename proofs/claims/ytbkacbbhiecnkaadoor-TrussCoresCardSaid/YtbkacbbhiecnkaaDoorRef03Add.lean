/- The contract of the reference's addition of an edge that is not there. -/
import Derived.Test.YtbkacbbhiecnkaaDoorRef03With
import Derived.Test.YtbkacbbhiecnkaaDoorMk
namespace Go.Proofs.YtbkacbbhiecnkaaDoor
open Go.RowKit Go.BigFrame

theorem find_no (u v : Int) : ∀ (es : List E2) (k : Nat), (min u v, max u v) ∉ es → findFrom k es (min u v, max u v) = -1 := by
  intro es
  induction es with
  | nil => intro k _; rfl
  | cons e es ih =>
    intro k h
    rw [findFrom, if_neg (fun he => h (by rw [he]; exact List.mem_cons_self)), ih _ (fun hm => h (List.mem_cons_of_mem _ hm))]
theorem ends_yes (n u v : Int) (w : World) (h1 : 0 ≤ u) (h2 : 0 ≤ v) (h3 : u < n) (h4 : v < n) (h5 : ¬ u = v) :
    Calls Tryd.prog 130 #[.int .i64 n, .int .i64 u, .int .i64 v] w fun e w' => e = .returned (.bool true) ∧ w = w' := by
  have h5b : (u != v) = true := by simpa using h5
  go_enter Tryd.func130, Tryd.ntmps130
  go_wp2
  go_ret
  exact ⟨rfl, rfl⟩
def AddPost (n : Int) (ys : List E2) (w : World) (e : Ending) (w' : World) : Prop := ∃ a cap, e = .returned (.tuple #[.agg #[.int .i64 n, .slice a ys.length cap], .int .i64 0]) ∧ EdgesAt w' (.slice a ys.length cap) ys ∧ Below w.heap.size w w' ∧ ∀ p, a = some p → w.heap.size ≤ p.block
set_option maxRecDepth 100000 in
set_option maxHeartbeats 1600000 in
theorem add_any (n : Int) (a : Option Addr) (cap : Nat) (es : List E2) (u v : Int) (w : World) (he : EdgesAt w (.slice a es.length cap) es) (hv : Valid n es) (h1 : 0 ≤ u) (h2 : 0 ≤ v) (h3 : u < n) (h4 : v < n) (h5 : ¬ u = v) (h6 : (min u v, max u v) ∉ es) :
    Calls Tryd.prog 128 #[.agg #[.int .i64 n, .slice a es.length cap], .int .i64 u, .int .i64 v] w (AddPost n (insE es (min u v, max u v)) w) := by
  have hl := hv.length_le
  have hlI := insE_length es (min u v, max u v)
  have HF : Hid (findS es u v = -1) := find_no u v es 0 h6
  clear h6
  go_enter Tryd.func128, Tryd.ntmps128
  go_wp2_with fail
  have hsz0 : ((w.alloc (.cells #[.int .i64 n, .slice a es.length cap] 27)).alloc (.cells #[.int .i64 0, .slice none 0 0] 27)).heap.size = w.heap.size + 2 := by simp
  have hb0 : Below w.heap.size w ((w.alloc (.cells #[.int .i64 n, .slice a es.length cap] 27)).alloc (.cells #[.int .i64 0, .slice none 0 0] 27)) := ((Below.refl _ _).alloc (Nat.le_refl _) _).alloc (by simp) _
  have hG0 : ((w.alloc (.cells #[.int .i64 n, .slice a es.length cap] 27)).alloc (.cells #[.int .i64 0, .slice none 0 0] 27)).heap[w.heap.size]? = some (.cells #[.int .i64 n, .slice a es.length cap] 27 (0, 0)) := (Below.heap_alloc _ _ _ (by simp)).trans (heap_alloc_new _ _)
  have hO0 : ((w.alloc (.cells #[.int .i64 n, .slice a es.length cap] 27)).alloc (.cells #[.int .i64 0, .slice none 0 0] 27)).heap[w.heap.size + 1]? = some (.cells #[.int .i64 0, .slice none 0 0] 27 (0, 0)) := by
    have := heap_alloc_new (w.alloc (.cells #[.int .i64 n, .slice a es.length cap] 27)) (.cells #[.int .i64 0, .slice none 0 0] 27)
    simpa using this
  refine (check_any n a cap es _ (he.below hb0)).mono ?_
  rintro e w1 ⟨rfl, hb1⟩
  rw [(valid_iff n es).2 hv]
  have hG1 := (hb1.block _ (by rw [hsz0]; omega)).trans hG0
  have hO1 := (hb1.block _ (by rw [hsz0]; omega)).trans hO0
  have hb01 := hb0.trans (hb1.mono hb0.size)
  clear hb1 hb0 hG0 hO0 hsz0
  have g0 : w1.cell? ⟨w.heap.size, 0, none⟩ = some (.int .i64 n) := cell_blk hG1
  have g1 : w1.cell? ⟨w.heap.size, 1, none⟩ = some (.slice a es.length cap) := cell_blk hG1
  go_wp2_with fail
  refine (ends_yes n u v _ h1 h2 h3 h4 h5).mono ?_
  rintro e w2 ⟨rfl, rfl⟩
  go_wp2_with fail
  refine (find_any n a cap es u v _ (he.below hb01) hv).mono ?_
  rintro e w3 ⟨rfl, hb3⟩
  rw [HF.out]
  have hG3 := (hb3.block _ (blk_lt hG1)).trans hG1
  have hO3 := (hb3.block _ (blk_lt hO1)).trans hO1
  have hb03 := hb01.trans (hb3.mono hb01.size)
  clear hb3 hb01 hG1 hO1 g0 g1
  have g0 : w3.cell? ⟨w.heap.size, 0, none⟩ = some (.int .i64 n) := cell_blk hG3
  have g1 : w3.cell? ⟨w.heap.size, 1, none⟩ = some (.slice a es.length cap) := cell_blk hG3
  have hz3 := blk_lt hO3
  have he3 := he.below hb03
  have hed : EdgesAt w3.drew (.slice a es.length cap) es := he3.below (Below.refl _ _).drew
  have hbd : Below w.heap.size w w3.drew := hb03.drew
  have hOd : w3.drew.heap[w.heap.size + 1]? = some (.cells #[.int .i64 0, .slice none 0 0] 27 (0, 0)) := hO3
  have hGd : w3.drew.heap[w.heap.size]? = some (.cells #[.int .i64 n, .slice a es.length cap] 27 (0, 0)) := hG3
  clear he3 hb03 hO3 hG3
  go_wp2_with fail
  go_region_law (first
    | (go_simp; go_at_call 118; refine (edge_any u v _).mono ?_; rintro e w4 ⟨rfl, hb4⟩; have he4 := hed.below hb4; have hb04 := hbd.trans (hb4.mono hbd.size); have hO4 := (hb4.block _ (blk_lt hOd)).trans hOd; have hG4 := (hb4.block _ (blk_lt hGd)).trans hGd; have g04 := cell_blk (j := 0) hG4; have g14 := cell_blk (j := 1) hG4)
    | (go_simp; go_at_call 131; refine (with_any a cap es _ _ _ (by assumption) (by omega)).mono ?_; rintro e w5 ⟨a5, cap5, rfl, he5, hb5, _⟩; have hb05 : Below w.heap.size w w5 := Below.trans (by assumption) (hb5.mono (Below.size (by assumption))); have hO5 := (hb5.block _ (blk_lt (by assumption))).trans hO4; have hG5 := (hb5.block _ (blk_lt hG4)).trans hG4; have g05 := cell_blk (j := 0) hG5)
    | (refine step_app_edges edgesT rfl (.const (.slice none 0 0)) (.tmp 35) rfl (w.heap.size + 2) _ _ [] (insE es (min u v, max u v)) rfl (World.ownsRow_nil _ _ _ _) rfl (by assumption) (by simp; omega) (by have := blk_lt hO5; omega) ?_; intro v6 w6 hown6 hg6; simp only [List.nil_append] at hown6; have hbk := below_of_grown hg6; have hb06 : Below w.heap.size w w6 := Below.trans (by assumption) (hbk.mono (Below.size (by assumption))); have hO6 := (hbk.block _ (blk_lt hO5)).trans hO5; have hG6 := (hbk.block _ (blk_lt hG5)).trans hG5; have g06 := cell_blk (j := 0) hG6; obtain ⟨a6, cap6, hv6, he6, ha6⟩ := EdgesAt.of_owns hown6 (by omega); subst hv6; have s0 := cell_blk (j := 0) hO6; have s1 := cell_blk (j := 1) hO6; have s2 := free_blk (j := 0) hO6; have s3 := free_blk (j := 1) hO6))
  all_goals
    have hfin := set_two (u := .int .i64 n) (v := .slice a6 (insE es (min u v, max u v)).length cap6) hO6
    have t0 := cell_blk (j := 0) hfin
    have t1 := cell_blk (j := 1) hfin
    have hg9 : w6.grownBy ((w6.setCell ⟨w.heap.size + 1, 0, none⟩ (.int .i64 n)).setCell ⟨w.heap.size + 1, 1, none⟩ (.slice a6 (insE es (min u v, max u v)).length cap6)) (some (w.heap.size + 1)) := grown_trans grown_store grown_store
    have hbf := hb06.grown hg9 hb06.size (fun k hk => by cases hk; omega)
    have hef := he6.grown hg9 (fun g e n c p ep => by cases e; cases ep; have := ha6 _ rfl; omega)
    clear s0 s1 s2 s3 hfin hg9
    go_wp2
    refine bodyPost_ret (v := .tuple #[.agg #[.int .i64 n, .slice a6 (insE es (min u v, max u v)).length cap6], .int .i64 0]) (by simp [results, Tryd.results128, go_sem, t0, t1]) rfl ⟨a6, cap6, rfl, hef, hbf, fun p hp => by have := ha6 p hp; omega⟩
end Go.Proofs.YtbkacbbhiecnkaaDoor
