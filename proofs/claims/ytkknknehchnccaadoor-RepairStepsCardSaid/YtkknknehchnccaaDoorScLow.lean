/- The contracts of the reference's addition and removal of an edge, at any graph. The reference's Same for any two lists of numbers; the reference's Valid, wrong and changed on kept core numbers. Printed by wip/mkrefch.py. The contract of the reference's Region: the search by a queue finds the region. The contracts of the reference's Insert and Delete, for any graph and numbers. Printed by wip/mkrefid.py. ref10.Numbers and ref11.Open once more, for valid graphs: the numbers lie in a block of their own. Printed by wip/mkrefco.py. The contract of law11.cores: a graph with its core numbers, one of them wrong now and then. An argument that is a graph with its core numbers, by value. -/
import Derived.Test.YtkknknehchnccaaDoorGrAdd
import Derived.Test.YtkknknehchnccaaDoorRef03Of
import Derived.Test.YtkknknehchnccaaDoorRefRep
import Derived.Test.YtkknknehchnccaaDoorRepReg
import Derived.Deep.DeepCutAuto
import Derived.Deep.RegionHeld3
import Derived.Test.YtkknknehchnccaaDoorRepBack
import Derived.Deep.RegionLaw
import Derived.Test.YtkknknehchnccaaDoorArgOpen
namespace Go.Proofs.YtkknknehchnccaaDoor
open Go.RowKit Go.BigFrame

theorem endsB_parts (n u v : Int) : endsB n u v = (decide (0 ≤ u) && (decide (0 ≤ v) && (decide (u < n) && (decide (v < n) && (u != v))))) := by
  rw [Bool.eq_iff_iff, endsB_iff]
  simp only [Bool.and_eq_true, decide_eq_true_eq, bne_iff_ne, ne_eq]
  constructor
  · rintro ⟨h1, h2, h3⟩; exact ⟨by omega, by omega, by omega, by omega, h1⟩
  · rintro ⟨h1, h2, h3, h4, h5⟩; exact ⟨h5, by omega, by omega⟩
theorem rends_any (n u v : Int) (w : World) : Calls Tryd.prog 130 #[.int .i64 n, .int .i64 u, .int .i64 v] w fun e w' => e = .returned (.bool (endsB n u v)) ∧ w = w' := by
  rw [endsB_parts]
  obtain ⟨B1, h1⟩ : ∃ B, decide (0 ≤ u) = B := ⟨_, rfl⟩
  obtain ⟨B2, h2⟩ : ∃ B, decide (0 ≤ v) = B := ⟨_, rfl⟩
  obtain ⟨B3, h3⟩ : ∃ B, decide (u < n) = B := ⟨_, rfl⟩
  obtain ⟨B4, h4⟩ : ∃ B, decide (v < n) = B := ⟨_, rfl⟩
  obtain ⟨B5, h5⟩ : ∃ B, (u != v) = B := ⟨_, rfl⟩
  rw [h1, h2, h3, h4, h5]
  cases B1
  case' true => cases B2
  case' true.true => cases B3
  case' true.true.true => cases B4
  all_goals
    go_enter Tryd.func130, Tryd.ntmps130
    go_wp2
    go_ret
    exact ⟨rfl, rfl⟩
theorem ff_pos : ∀ (es : List E2) (k : Nat) (t : E2), t ∈ es → 0 ≤ findFrom k es t := by
  intro es
  induction es with
  | nil => intro k t h; cases h
  | cons e es ih =>
    intro k t h
    unfold findFrom
    by_cases he : e = t
    · rw [if_pos he]; omega
    · rw [if_neg he]
      rcases List.mem_cons.1 h with h' | h'
      · exact absurd h'.symm he
      · exact ih (k + 1) t h'
set_option maxRecDepth 100000 in
set_option maxHeartbeats 3200000 in
theorem radd_any (n : Int) (a : Option Addr) (cap : Nat) (es : List E2) (u v : Int) (w : World) (he : EdgesAt w (.slice a es.length cap) es) :
    Calls Tryd.prog 89 #[.agg #[.int .i64 n, .slice a es.length cap], .int .i64 u, .int .i64 v] w (GrPost w (addX n es u v)) := by
  have hck := fun W h => check_any n a cap es W h
  have hen := fun W => rends_any n u v W
  have h0 := Gr2.start w n (.slice a es.length cap)
  unfold addX chgE
  obtain ⟨C, hC⟩ : ∃ C, checkS n es = C := ⟨_, rfl⟩
  rw [hC] at hck ⊢
  by_cases hz : C = 0
  case neg =>
    rw [if_pos hz, if_pos hz]
    have d1 : (C != 0) = true := by simpa using hz
    clear hC hz
    go_enter Tryd.func89, Tryd.ntmps89
    go_wp2_with fail
    refine (hck _ (he.below h0.be)).mono ?_
    rintro e w1 ⟨rfl, hb1⟩
    have h1 := h0.next hb1
    clear hb1 h0
    have o0 := cell_blk (j := 0) h1.o
    have o1 := cell_blk (j := 1) h1.o
    have f0 := free_blk (j := 0) h1.o
    have f1 := free_blk (j := 1) h1.o
    obtain ⟨t0, t1, hef, hbf⟩ := h1.fin (N := 0) (a := none) (cap := 0) (ys := []) (edges_nil w1) (fun p h => by cases h)
    simp only [List.length_nil] at t0 t1 hef hbf
    clear h1 hck
    go_wp2_with fail
    exact bodyPost_ret (v := .tuple #[.agg #[.int .i64 0, .slice none 0 0], .int .i64 C]) (by simp [results, Tryd.results89, go_sem, t0, t1]) rfl ⟨none, 0, rfl, hef, (fun p h => by cases h), hbf⟩
  subst hz
  have hv := (valid_iff n es).1 hC
  rw [if_neg (show ¬ ((0 : Int) ≠ 0) by simp)]
  obtain ⟨B, hB⟩ : ∃ B, endsB n u v = B := ⟨_, rfl⟩
  rw [hB] at hen ⊢
  cases B with
  | false =>
    rw [if_neg (show ¬ (false = true) by simp), if_pos (show (6 : Int) ≠ 0 by decide)]
    clear hB hC
    go_enter Tryd.func89, Tryd.ntmps89
    go_wp2_with fail
    refine (hck _ (he.below h0.be)).mono ?_
    rintro e w1 ⟨rfl, hb1⟩
    have h1 := h0.next hb1
    clear hb1 h0
    have g0 := cell_blk (j := 0) h1.g
    go_wp2_with fail
    refine (hen _).mono ?_
    rintro e w2 ⟨rfl, rfl⟩
    have o0 := cell_blk (j := 0) h1.o
    have o1 := cell_blk (j := 1) h1.o
    have f0 := free_blk (j := 0) h1.o
    have f1 := free_blk (j := 1) h1.o
    obtain ⟨t0, t1, hef, hbf⟩ := h1.fin (N := 0) (a := none) (cap := 0) (ys := []) (edges_nil w1) (fun p h => by cases h)
    simp only [List.length_nil] at t0 t1 hef hbf
    clear h1 hck
    go_wp2_with fail
    exact bodyPost_ret (v := .tuple #[.agg #[.int .i64 0, .slice none 0 0], .int .i64 6]) (by simp [results, Tryd.results89, go_sem, t0, t1]) rfl ⟨none, 0, rfl, hef, (fun p h => by cases h), hbf⟩
  | true =>
    rw [if_pos rfl, if_neg (show ¬ ((0 : Int) ≠ 0) by simp)]
    obtain ⟨hne, hmin, hmax⟩ := endsB_iff.1 hB
    by_cases hm : (min u v, max u v) ∈ es
    · rw [if_pos hm]
      have hfd := fun W h => find_any n a cap es u v W h hv
      have hs : 0 ≤ findS es u v := ff_pos es 0 _ hm
      obtain ⟨S, hS⟩ : ∃ S, findS es u v = S := ⟨_, rfl⟩
      rw [hS] at hfd hs
      have d2 : decide (S ≥ 0) = true := decide_eq_true hs
      clear hB hC hS hm hne hmin hmax
      go_enter Tryd.func89, Tryd.ntmps89
      go_wp2_with fail
      refine (hck _ (he.below h0.be)).mono ?_
      rintro e w1 ⟨rfl, hb1⟩
      have h1 := h0.next hb1
      clear hb1 h0
      have g0 := cell_blk (j := 0) h1.g
      have g1 := cell_blk (j := 1) h1.g
      go_wp2_with fail
      refine (hen _).mono ?_
      rintro e w2 ⟨rfl, rfl⟩
      go_wp2_with fail
      refine (hfd _ (he.below h1.be)).mono ?_
      rintro e w3 ⟨rfl, hb3⟩
      have h3 := h1.next hb3
      clear hb3 h1 g0 g1
      have o0 := cell_blk (j := 0) h3.o
      have o1 := cell_blk (j := 1) h3.o
      have f0 := free_blk (j := 0) h3.o
      have f1 := free_blk (j := 1) h3.o
      obtain ⟨t0, t1, hef, hbf⟩ := h3.fin (N := 0) (a := none) (cap := 0) (ys := []) (edges_nil w3) (fun p h => by cases h)
      simp only [List.length_nil] at t0 t1 hef hbf
      clear h3 hck hfd
      go_wp2_with fail
      exact bodyPost_ret (v := .tuple #[.agg #[.int .i64 0, .slice none 0 0], .int .i64 15]) (by simp [results, Tryd.results89, go_sem, t0, t1]) rfl ⟨none, 0, rfl, hef, (fun p h => by cases h), hbf⟩
    · rw [if_neg hm]
      refine (add_any n a cap es u v w he hv (by omega) (by omega) (by omega) (by omega) hne hm).mono ?_
      rintro e w' ⟨a1, c1, rfl, h1, h2, h3⟩
      exact ⟨a1, c1, rfl, h1, h3, h2⟩
/-- the boxes of a removal: the graph, the result, what is built -/
structure Gr3 (w : World) (n : Int) (sl : Value) (H : Nat) (v : Value) (k : Nat) (fl : List Value) (wr : World) : Prop where
  g : Gr2 w n sl wr
  h : wr.heap[H]? = some (.cells #[.int .i64 n, v] 25 (0, 0))
  own : wr.ownsRow (H + 1) 39 2 v k fl
  hH : w.heap.size + 2 ≤ H
section
variable {w wr w' : World} {n : Int} {sl : Value} {H : Nat} {v : Value} {k : Nat} {fl : List Value}
theorem Gr3.next (x : Gr3 w n sl H v k fl wr) (hb : Below wr.heap.size wr w') : Gr3 w n sl H v k fl w' := ⟨x.g.next hb, lit_next' hb x.h, x.own.kept (grown_of_below hb) (Classical.em _), x.hH⟩
theorem Gr3.alloc (x : Gr3 w n sl H v k fl wr) (o : Obj) : Gr3 w n sl H v k fl (wr.alloc o) := x.next ((Below.refl _ _).alloc (Nat.le_refl _) _)
theorem Gr3.app {v2 : Value} {k2 : Nat} {f2 : List Value} (x : Gr3 w n sl H v k fl wr) (hown : w'.ownsRow (H + 1) 39 2 v2 k2 f2) (hg : wr.grownBy w' v.ownBlock) :
    Gr3 w n sl H v2 k2 f2 (w'.setCell ⟨H, 1, none⟩ v2) := by
  have hl : ∀ b, v.ownBlock = some b → H + 1 ≤ b := fun b e => (x.own.lt b e).1
  have hH := x.hH
  have g1 : Gr2 w n sl w' := x.g.grown hg (fun b e => by have := hl b e; omega)
  have h1 : w'.heap[H]? = _ := grown_blk hg x.h (fun e => by have := hl H e.symm; omega)
  exact ⟨g1.grown grown_store (fun b e => by cases e; omega), heap_setCell_same w' H 1 _ _ _ h1, hown.kept grown_store (by
      cases hs : v2.ownBlock with
      | none => exact .inl rfl
      | some b => have := (hown.lt b hs).1; exact .inr (by intro e; have := Option.some.inj e; omega)), hH⟩
theorem Gr3.base (x : Gr3 w n sl H v k fl wr) : H + 1 ≤ wr.heap.size := blk_lt x.h
end
theorem delE_snoc (es : List E2) (t x : E2) : delE (es ++ [x]) t = delE es t ++ (if x = t then [] else [x]) := by
  unfold delE
  rw [List.filter_append]
  by_cases h : x = t
  · simp [h]
  · simp [h]
set_option maxRecDepth 100000 in
set_option maxHeartbeats 6400000 in
theorem rremove_any (n : Int) (a : Option Addr) (cap : Nat) (es : List E2) (u v : Int) (w : World) (he : EdgesAt w (.slice a es.length cap) es) :
    Calls Tryd.prog 91 #[.agg #[.int .i64 n, .slice a es.length cap], .int .i64 u, .int .i64 v] w (GrPost w (remX n es u v)) := by
  have hck := fun W h => check_any n a cap es W h
  have hen := fun W => rends_any n u v W
  have h0 := Gr2.start w n (.slice a es.length cap)
  unfold remX chgE
  obtain ⟨C, hC⟩ : ∃ C, checkS n es = C := ⟨_, rfl⟩
  rw [hC] at hck ⊢
  by_cases hz : C = 0
  case neg =>
    rw [if_pos hz, if_pos hz]
    have d1 : (C != 0) = true := by simpa using hz
    clear hC hz
    go_enter Tryd.func91, Tryd.ntmps91
    go_wp2_with fail
    refine (hck _ (he.below h0.be)).mono ?_
    rintro e w1 ⟨rfl, hb1⟩
    have h1 := h0.next hb1
    clear hb1 h0
    have o0 := cell_blk (j := 0) h1.o
    have o1 := cell_blk (j := 1) h1.o
    have f0 := free_blk (j := 0) h1.o
    have f1 := free_blk (j := 1) h1.o
    obtain ⟨t0, t1, hef, hbf⟩ := h1.fin (N := 0) (a := none) (cap := 0) (ys := []) (edges_nil w1) (fun p h => by cases h)
    simp only [List.length_nil] at t0 t1 hef hbf
    clear h1 hck
    go_wp2_with fail
    exact bodyPost_ret (v := .tuple #[.agg #[.int .i64 0, .slice none 0 0], .int .i64 C]) (by simp [results, Tryd.results91, go_sem, t0, t1]) rfl ⟨none, 0, rfl, hef, (fun p h => by cases h), hbf⟩
  subst hz
  have hv := (valid_iff n es).1 hC
  have hel := hv.length_le
  rw [if_neg (show ¬ ((0 : Int) ≠ 0) by simp)]
  obtain ⟨B, hB⟩ : ∃ B, endsB n u v = B := ⟨_, rfl⟩
  rw [hB] at hen ⊢
  cases B with
  | false =>
    rw [if_neg (show ¬ (false = true) by simp), if_pos (show (6 : Int) ≠ 0 by decide)]
    clear hB hC
    go_enter Tryd.func91, Tryd.ntmps91
    go_wp2_with fail
    refine (hck _ (he.below h0.be)).mono ?_
    rintro e w1 ⟨rfl, hb1⟩
    have h1 := h0.next hb1
    clear hb1 h0
    have g0 := cell_blk (j := 0) h1.g
    go_wp2_with fail
    refine (hen _).mono ?_
    rintro e w2 ⟨rfl, rfl⟩
    have o0 := cell_blk (j := 0) h1.o
    have o1 := cell_blk (j := 1) h1.o
    have f0 := free_blk (j := 0) h1.o
    have f1 := free_blk (j := 1) h1.o
    obtain ⟨t0, t1, hef, hbf⟩ := h1.fin (N := 0) (a := none) (cap := 0) (ys := []) (edges_nil w1) (fun p h => by cases h)
    simp only [List.length_nil] at t0 t1 hef hbf
    clear h1 hck
    go_wp2_with fail
    exact bodyPost_ret (v := .tuple #[.agg #[.int .i64 0, .slice none 0 0], .int .i64 6]) (by simp [results, Tryd.results91, go_sem, t0, t1]) rfl ⟨none, 0, rfl, hef, (fun p h => by cases h), hbf⟩
  | true =>
    rw [if_pos rfl, if_neg (show ¬ ((0 : Int) ≠ 0) by simp)]
    have hfd := fun W h => find_any n a cap es u v W h hv
    by_cases hm : (min u v, max u v) ∈ es
    case neg =>
      rw [if_neg hm]
      have hs : findS es u v = -1 := find_no u v es 0 hm
      rw [hs] at hfd
      clear hB hC hm
      go_enter Tryd.func91, Tryd.ntmps91
      go_wp2_with fail
      refine (hck _ (he.below h0.be)).mono ?_
      rintro e w1 ⟨rfl, hb1⟩
      have h1 := h0.next hb1
      clear hb1 h0
      have g0 := cell_blk (j := 0) h1.g
      have g1 := cell_blk (j := 1) h1.g
      go_wp2_with fail
      refine (hen _).mono ?_
      rintro e w2 ⟨rfl, rfl⟩
      go_wp2_with fail
      refine (hfd _ (he.below h1.be)).mono ?_
      rintro e w3 ⟨rfl, hb3⟩
      have h3 := h1.next hb3
      clear hb3 h1 g0 g1
      have o0 := cell_blk (j := 0) h3.o
      have o1 := cell_blk (j := 1) h3.o
      have f0 := free_blk (j := 0) h3.o
      have f1 := free_blk (j := 1) h3.o
      obtain ⟨t0, t1, hef, hbf⟩ := h3.fin (N := 0) (a := none) (cap := 0) (ys := []) (edges_nil w3) (fun p h => by cases h)
      simp only [List.length_nil] at t0 t1 hef hbf
      clear h3 hck hfd
      go_wp2_with fail
      exact bodyPost_ret (v := .tuple #[.agg #[.int .i64 0, .slice none 0 0], .int .i64 7]) (by simp [results, Tryd.results91, go_sem, t0, t1]) rfl ⟨none, 0, rfl, hef, (fun p h => by cases h), hbf⟩
    rw [if_pos hm]
    have hs : 0 ≤ findS es u v := ff_pos es 0 _ hm
    obtain ⟨S, hS⟩ : ∃ S, findS es u v = S := ⟨_, rfl⟩
    rw [hS] at hfd hs
    have d2 : decide (S < 0) = false := decide_eq_false (by omega)
    have hdl : ∀ k, (delE (es.take k) (min u v, max u v)).length ≤ 4096 := fun k => Nat.le_trans (List.length_filter_le _ _) (by rw [List.length_take]; omega)
    obtain ⟨D, hD⟩ : ∃ D, delE es (min u v, max u v) = D := ⟨_, rfl⟩
    rw [hD]
    have HD := Lib.hid hD
    clear hB hC hS hm hD
    go_enter Tryd.func91, Tryd.ntmps91
    go_wp2_with fail
    refine (hck _ (he.below h0.be)).mono ?_
    rintro e w1 ⟨rfl, hb1⟩
    have h1 := h0.next hb1
    clear hb1 h0
    have g0 := cell_blk (j := 0) h1.g
    have g1 := cell_blk (j := 1) h1.g
    go_wp2_with fail
    refine (hen _).mono ?_
    rintro e w2 ⟨rfl, rfl⟩
    go_wp2_with fail
    refine (hfd _ (he.below h1.be)).mono ?_
    rintro e w3 ⟨rfl, hb3⟩
    have h3 := h1.next hb3
    have hx : Gr3 w n (.slice a es.length cap) w3.heap.size (.slice none 0 0) 0 (flatE []) (w3.alloc (.cells #[.int .i64 n, .slice none 0 0] 25)) :=
      ⟨h3.alloc _, heap_alloc_new _ _, World.ownsRow_nil _ _ _ _, h3.base⟩
    clear hb3 h1 g0 g1 hck hfd
    have g0 := cell_blk (j := 0) h3.g
    have g1 := cell_blk (j := 1) h3.g
    obtain ⟨H, hH⟩ : ∃ H, w3.heap.size = H := ⟨_, rfl⟩
    have k1 := cell_blk (j := 1) hx.g.g
    have he3 := he.below hx.g.be
    go_wp2_with fail
    rw [hH] at hx
    try rw [hH]
    obtain ⟨W3, hW3⟩ : ∃ W : World, W = w3.alloc (.cells #[.int .i64 n, .slice none 0 0] 25) := ⟨_, rfl⟩
    rw [← hW3] at hx he3 ⊢
    clear hW3 k1 g0 g1 h3 hH
    go_loopw [37] (fun i wr => ∃ k : Nat, k ≤ es.length ∧ i = .int .i64 k ∧ ∃ sl R, Hid (R = delE (es.take k) (min u v, max u v)) ∧ Gr3 w n (.slice a es.length cap) H sl R.length (flatE R) wr) (fun i _ => es.length - (intOf i).toNat)
    case atStart => exact ⟨0, Nat.zero_le _, rfl, _, [], rfl, hx⟩
    case round =>
      obtain ⟨k, hk, rfl, sl, R, HR, hS⟩ := hrel
      obtain ⟨av, cv, hvv⟩ := owns_shape hS.own
      subst hvv
      by_cases hlt : k < es.length
      · obtain ⟨b, off, x, y, rfl, _, _, htk, c0, c1⟩ := (he.below hS.g.be).at k hlt
        have hds := delE_snoc (es.take k) (min u v, max u v) (x, y)
        rw [← htk] at hds
        have hki : (k : Int) < es.length := by omega
        clear htk hx
        by_cases hxx : x = min u v
        · by_cases hyy : y = max u v
          · have HT : Hid (R = delE (es.take (k + 1)) (min u v, max u v)) := by show _ = _; rw [hds, if_pos (by rw [hxx, hyy]), List.append_nil, HR.out]
            clear hds HR
            subst hxx hyy
            go_wp2_with fail
            have e0 : ∀ z : Ext (wr.heap.size + 1) (wr.alloc (.cells #[.int .i64 (min u v), .int .i64 (max u v)] 39)), z.world.cell? ⟨wr.heap.size, 0, none⟩ = some (.int .i64 (min u v)) := fun z => cell_new z.below 0 _ rfl
            have e1 : ∀ z : Ext (wr.heap.size + 1) (wr.alloc (.cells #[.int .i64 (min u v), .int .i64 (max u v)] 39)), z.world.cell? ⟨wr.heap.size, 1, none⟩ = some (.int .i64 (max u v)) := fun z => cell_new z.below 1 _ rfl
            refine wp_region_ext (wr.heap.size + 1) (wr.alloc (.cells #[.int .i64 (min u v), .int .i64 (max u v)] 39)) (by kernel_rfl) (by kernel_rfl) (Below.refl _ _) ?_
            repeat (go_big_quiet_step ((go_at_call 132; exact Calls.ext_of (by simp) (edge_any u v _))))
            refine wpQuiet_nil ?_
            rintro wq ⟨⟨_, hq⟩, rfl⟩
            have hq2 : Below (wr.alloc (.cells #[.int .i64 (min u v), .int .i64 (max u v)] 39)).heap.size (wr.alloc (.cells #[.int .i64 (min u v), .int .i64 (max u v)] 39)) wq := by simpa using hq
            have hSq := (hS.alloc (.cells #[.int .i64 (min u v), .int .i64 (max u v)] 39)).next hq2
            clear e0 e1 hS c0 c1
            go_wp2_with fail
            go_roundw
            case rel => exact ⟨k + 1, by omega, by go_num, _, R, HT, hSq⟩
            case measure => simp [intOf]; omega
          · subst hxx
            have HT : Hid (R ++ [((min u v), y)] = delE (es.take (k + 1)) (min u v, max u v)) := by show _ = _; rw [hds, if_neg (fun e => by cases e; exact hyy rfl), HR.out]
            have hRl2 : (R ++ [((min u v), y)]).length ≤ 4096 := by rw [HT.out]; exact hdl _
            have hRl3 := hRl2
            rw [List.length_append] at hRl3
            clear hds HR
            go_wp2_with fail
            have e0 : ∀ z : Ext (wr.heap.size + 1) (wr.alloc (.cells #[.int .i64 (min u v), .int .i64 y] 39)), z.world.cell? ⟨wr.heap.size, 0, none⟩ = some (.int .i64 (min u v)) := fun z => cell_new z.below 0 _ rfl
            have e1 : ∀ z : Ext (wr.heap.size + 1) (wr.alloc (.cells #[.int .i64 (min u v), .int .i64 y] 39)), z.world.cell? ⟨wr.heap.size, 1, none⟩ = some (.int .i64 y) := fun z => cell_new z.below 1 _ rfl
            refine wp_region_ext (wr.heap.size + 1) (wr.alloc (.cells #[.int .i64 (min u v), .int .i64 y] 39)) (by kernel_rfl) (by kernel_rfl) (Below.refl _ _) ?_
            repeat (go_big_quiet_step ((go_at_call 132; exact Calls.ext_of (by simp) (edge_any u v _))))
            refine wpQuiet_nil ?_
            rintro wq ⟨⟨_, hq⟩, rfl⟩
            have hq2 : Below (wr.alloc (.cells #[.int .i64 (min u v), .int .i64 y] 39)).heap.size (wr.alloc (.cells #[.int .i64 (min u v), .int .i64 y] 39)) wq := by simpa using hq
            have hSq := (hS.alloc (.cells #[.int .i64 (min u v), .int .i64 y] 39)).next hq2
            have m0 : wq.cell? ⟨wr.heap.size, 0, none⟩ = some (.int .i64 (min u v)) := e0 ⟨wq, hq⟩
            have m1 : wq.cell? ⟨wr.heap.size, 1, none⟩ = some (.int .i64 y) := e1 ⟨wq, hq⟩
            clear e0 e1 hS c0 c1
            have hSA := hSq.alloc (.cells #[.int .i64 (min u v), .int .i64 y] 39)
            have h1 := cell_blk (j := 1) hSq.h
            have hl1 := edges_lit1 wq (min u v) y 39
            clear hSq hq hq2
            go_wp2_with (at_builtin; refine wpList_app_edges edgesT rfl _ _ rfl (H + 1) (.slice av R.length cv) _ R [((min u v), y)] rfl hSA.own rfl hl1 (by simp; omega) (by have := hSA.base; omega) ?_; intro v6 w6 hown6 hg6; rw [List.length_append, List.length_singleton] at hown6; obtain ⟨a6, c6, rfl⟩ := owns_shape hown6; have hH6 := grown_blk hg6 hSA.h (fun e => by have := (hSA.own.lt H e.symm).1; omega); have p1 := cell_blk (j := 1) hH6; have q1 := free_blk (j := 1) hH6)
            go_roundw
            case rel => exact ⟨k + 1, by omega, by go_num, _, R ++ [((min u v), y)], HT, by rw [List.length_append, List.length_singleton]; exact hSA.app hown6 hg6⟩
            case measure => simp [intOf]; omega
        · have HT : Hid (R ++ [(x, y)] = delE (es.take (k + 1)) (min u v, max u v)) := by show _ = _; rw [hds, if_neg (fun e => by cases e; exact hxx rfl), HR.out]
          have hRl2 : (R ++ [(x, y)]).length ≤ 4096 := by rw [HT.out]; exact hdl _
          have hRl3 := hRl2
          rw [List.length_append] at hRl3
          clear hds HR
          go_wp2_with fail
          have e0 : ∀ z : Ext (wr.heap.size + 1) (wr.alloc (.cells #[.int .i64 x, .int .i64 y] 39)), z.world.cell? ⟨wr.heap.size, 0, none⟩ = some (.int .i64 x) := fun z => cell_new z.below 0 _ rfl
          have e1 : ∀ z : Ext (wr.heap.size + 1) (wr.alloc (.cells #[.int .i64 x, .int .i64 y] 39)), z.world.cell? ⟨wr.heap.size, 1, none⟩ = some (.int .i64 y) := fun z => cell_new z.below 1 _ rfl
          refine wp_region_ext (wr.heap.size + 1) (wr.alloc (.cells #[.int .i64 x, .int .i64 y] 39)) (by kernel_rfl) (by kernel_rfl) (Below.refl _ _) ?_
          repeat (go_big_quiet_step ((go_at_call 132; exact Calls.ext_of (by simp) (edge_any u v _))))
          refine wpQuiet_nil ?_
          rintro wq ⟨⟨_, hq⟩, rfl⟩
          have hq2 : Below (wr.alloc (.cells #[.int .i64 x, .int .i64 y] 39)).heap.size (wr.alloc (.cells #[.int .i64 x, .int .i64 y] 39)) wq := by simpa using hq
          have hSq := (hS.alloc (.cells #[.int .i64 x, .int .i64 y] 39)).next hq2
          have m0 : wq.cell? ⟨wr.heap.size, 0, none⟩ = some (.int .i64 x) := e0 ⟨wq, hq⟩
          have m1 : wq.cell? ⟨wr.heap.size, 1, none⟩ = some (.int .i64 y) := e1 ⟨wq, hq⟩
          clear e0 e1 hS c0 c1
          have hSA := hSq.alloc (.cells #[.int .i64 x, .int .i64 y] 39)
          have h1 := cell_blk (j := 1) hSq.h
          have hl1 := edges_lit1 wq x y 39
          clear hSq hq hq2
          go_wp2_with (at_builtin; refine wpList_app_edges edgesT rfl _ _ rfl (H + 1) (.slice av R.length cv) _ R [(x, y)] rfl hSA.own rfl hl1 (by simp; omega) (by have := hSA.base; omega) ?_; intro v6 w6 hown6 hg6; rw [List.length_append, List.length_singleton] at hown6; obtain ⟨a6, c6, rfl⟩ := owns_shape hown6; have hH6 := grown_blk hg6 hSA.h (fun e => by have := (hSA.own.lt H e.symm).1; omega); have p1 := cell_blk (j := 1) hH6; have q1 := free_blk (j := 1) hH6)
          go_roundw
          case rel => exact ⟨k + 1, by omega, by go_num, _, R ++ [(x, y)], HT, by rw [List.length_append, List.length_singleton]; exact hSA.app hown6 hg6⟩
          case measure => simp [intOf]; omega
      · obtain rfl : k = es.length := by omega
        have hRD : R = D := by rw [HR.out, List.take_length]; exact HD.out
        subst hRD
        obtain ⟨a6, c6, hv6, he6, ha6⟩ := EdgesAt.of_owns hS.own (by have := hdl es.length; rw [List.take_length] at this; rw [HD.out] at this; omega)
        cases hv6
        have h0 := cell_blk (j := 0) hS.h
        have h1 := cell_blk (j := 1) hS.h
        have o0 := cell_blk (j := 0) hS.g.o
        have o1 := cell_blk (j := 1) hS.g.o
        have f0 := free_blk (j := 0) hS.g.o
        have f1 := free_blk (j := 1) hS.g.o
        have hHH := hS.hH
        obtain ⟨t0, t1, hef, hbf⟩ := hS.g.fin (N := n) he6 (fun p h => by have := ha6 p h; omega)
        clear HR hS
        go_wp2_with fail
        exact bodyPost_ret (v := .tuple #[.agg #[.int .i64 n, .slice av R.length cv], .int .i64 0]) (by simp [results, Tryd.results91, go_sem, t0, t1]) rfl ⟨av, cv, rfl, hef, (fun p h => by have := ha6 p h; omega), hbf⟩
end Go.Proofs.YtkknknehchnccaaDoor

namespace Go.Proofs.YtkknknehchnccaaDoor
open Go.RowKit Go.BigFrame

def cmpI : List Int → List Int → Int
  | x :: xs, y :: ys => if y < x then 1 else if x < y then -1 else cmpI xs ys
  | _, _ => 0
theorem cmpI_zero : ∀ (xs ys : List Int), xs.length = ys.length → (cmpI xs ys = 0 ↔ xs = ys) := by
  intro xs
  induction xs with
  | nil => intro ys h; cases ys with
    | nil => simp [cmpI]
    | cons y ys => simp at h
  | cons x xs ih =>
    intro ys h
    cases ys with
    | nil => simp at h
    | cons y ys =>
      unfold cmpI
      split
      · constructor
        · intro h; omega
        · intro h; obtain ⟨rfl, -⟩ := List.cons.inj h; omega
      · split
        · constructor
          · intro h; omega
          · intro h; obtain ⟨rfl, -⟩ := List.cons.inj h; omega
        · rw [ih ys (by simpa using h)]
          obtain rfl : x = y := by omega
          simp
theorem cmpI_drop (xs ys : List Int) (k : Nat) (x y : Int) (hx : xs[k]? = some x) (hy : ys[k]? = some y) : cmpI (xs.drop k) (ys.drop k) = if y < x then 1 else if x < y then -1 else cmpI (xs.drop (k + 1)) (ys.drop (k + 1)) := by
  obtain ⟨h1, rfl⟩ := List.getElem?_eq_some_iff.1 hx
  obtain ⟨h2, rfl⟩ := List.getElem?_eq_some_iff.1 hy
  rw [List.drop_eq_getElem_cons h1, List.drop_eq_getElem_cons h2]
  rfl
set_option maxRecDepth 100000 in
set_option maxHeartbeats 1600000 in
theorem icmp_any (a a2 : Option Addr) (cap cap2 : Nat) (xs ys : List Int) (w : World) (h1 : IntsAt w (.slice a xs.length cap) xs) (h2 : IntsAt w (.slice a2 ys.length cap2) ys) (hlen : xs.length = ys.length) :
    Calls Tryd.prog 62 #[.slice a xs.length cap, .slice a2 ys.length cap2] w fun e w' => e = .returned (.int .i64 (cmpI xs ys)) ∧ Below w.heap.size w w' := by
  have hl : ys.length ≤ 70368744177664 := by obtain ⟨_, _, hv, _, _, hl, _⟩ := h2; exact hl
  obtain ⟨C, hC⟩ : ∃ C, cmpI xs ys = C := ⟨_, rfl⟩
  rw [hC]
  have HC := Lib.hid hC
  have HLE := Lib.hid hlen
  have hself : decide (ys.length < ys.length) = false := by simp
  rw [hlen] at h1 ⊢
  clear hlen hC
  go_enter Tryd.func62, Tryd.ntmps62
  go_wp2_with fail
  go_loopw [8] (fun i wr => ∃ k : Nat, k ≤ ys.length ∧ i = .int .i64 k ∧ Hid (cmpI (xs.drop k) (ys.drop k) = C) ∧ Below w.heap.size w wr) (fun i _ => ys.length - (intOf i).toNat)
  case atStart => exact ⟨0, by omega, rfl, HC.out, Below.refl _ _⟩
  case round =>
    obtain ⟨k, hk, rfl, HR, hb⟩ := hrel
    by_cases hlt : k < ys.length
    · have h1' : IntsAt w (.slice a xs.length cap) xs := by rw [HLE.out]; exact h1
      obtain ⟨b, off, y, rfl, hy, -, c0⟩ := (h1'.below hb).at' k (by rw [HLE.out]; exact hlt)
      obtain ⟨b2, off2, y2, rfl, hy2, -, c2⟩ := (h2.below hb).at' k hlt
      have hR := HR.out
      rw [cmpI_drop xs ys k y y2 hy hy2] at hR
      have hd : decide ((ys.length : Int) ≤ k) = false := by simp; omega
      have hd2 : decide (ys.length ≤ k) = false := by simp; omega
      have hk3 : (k : Int) < ys.length := by omega
      clear hy hy2 h1' HR
      by_cases e1 : y2 < y
      · rw [if_pos e1] at hR
        subst hR
        have d1 : decide (y2 < y) = true := decide_eq_true e1
        clear e1
        go_wp2_with fail
        go_quiet (fail)
        go_wp2_with fail
        go_ret
        exact ⟨rfl, hb.drewN _⟩
      have d1 : decide (y2 < y) = false := decide_eq_false e1
      rw [if_neg e1] at hR
      by_cases e2 : y < y2
      · rw [if_pos e2] at hR
        subst hR
        have d2 : decide (y < y2) = true := decide_eq_true e2
        clear e1 e2
        go_wp2_with fail
        go_quiet (fail)
        go_wp2_with fail
        go_quiet (fail)
        go_wp2_with fail
        go_ret
        exact ⟨rfl, (hb.drewN _).drewN _⟩
      have d2 : decide (y < y2) = false := decide_eq_false e2
      rw [if_neg e2] at hR
      have HR2 := Lib.hid hR
      clear e1 e2 hR
      go_wp2_with fail
      go_quiet (fail)
      go_wp2_with fail
      go_quiet (fail)
      go_wp2_with fail
      go_roundw
      case rel => exact ⟨k + 1, by omega, by go_num, HR2.out, hb.drewN _⟩
      case measure => simp [intOf]; omega
    · obtain rfl : k = ys.length := by omega
      have hR := HR.out
      rw [show xs.drop ys.length = [] by rw [← HLE.out]; exact List.drop_length] at hR
      subst hR
      go_wp2_with fail
      go_ret
      exact ⟨by simp [cmpI], hb⟩
set_option maxRecDepth 100000 in
theorem isame_any (a a2 : Option Addr) (cap cap2 : Nat) (xs ys : List Int) (w : World) (h1 : IntsAt w (.slice a xs.length cap) xs) (h2 : IntsAt w (.slice a2 ys.length cap2) ys) :
    Calls Tryd.prog 17 #[.slice a xs.length cap, .slice a2 ys.length cap2] w fun e w' => e = .returned (.bool (decide (xs = ys))) ∧ Below w.heap.size w w' := by
  by_cases hlen : xs.length = ys.length
  · have hc := icmp_any a a2 cap cap2 xs ys w h1 h2 hlen
    have hz : (cmpI xs ys == 0) = decide (xs = ys) := by rw [Bool.eq_iff_iff, beq_iff_eq, decide_eq_true_eq]; exact cmpI_zero xs ys hlen
    obtain ⟨B, hB⟩ : ∃ B, decide (xs = ys) = B := ⟨_, rfl⟩
    rw [hB] at hz ⊢
    obtain ⟨C, hC⟩ : ∃ C, cmpI xs ys = C := ⟨_, rfl⟩
    rw [hC] at hc hz
    have d1 : ((xs.length : Int) == (ys.length : Int)) = true := by rw [beq_iff_eq]; omega
    clear hlen hB hC
    go_enter Tryd.func17, Tryd.ntmps17
    go_wp2_with (go_at_call 62; refine hc.mono ?_; rintro e w2 ⟨rfl, hb2⟩)
    go_ret
    exact ⟨rfl, hb2⟩
  · have d1 : ((xs.length : Int) == (ys.length : Int)) = false := by simp; omega
    rw [decide_eq_false (fun h => hlen (by rw [h]))]
    clear hlen
    go_enter Tryd.func17, Tryd.ntmps17
    go_wp2_with fail
    go_ret
    exact ⟨rfl, Below.refl _ _⟩
set_option maxRecDepth 100000 in
set_option maxHeartbeats 3200000 in
theorem rvalid11_any (n : Int) (a a2 : Option Addr) (cap c2 : Nat) (es : List E2) (l : List Int) (w : World) (he : EdgesAt w (.slice a es.length cap) es) (hi : IntsAt w (.slice a2 l.length c2) l) :
    Calls Tryd.prog 47 #[.agg #[.int .i64 n, .slice a es.length cap, .slice a2 l.length c2]] w fun e w' => e = .returned (.bool (crOk ⟨n, es, l⟩)) ∧ Below w.heap.size w w' := by
  have hb0 : Below w.heap.size w (w.alloc (.cells #[.int .i64 n, .slice a es.length cap, .slice a2 l.length c2] 62)) := (Below.refl _ _).alloc (Nat.le_refl _) _
  have hG0 := heap_alloc_new w (.cells #[.int .i64 n, .slice a es.length cap, .slice a2 l.length c2] 62)
  have hnu := fun W h1 => rnumbers10_any n a cap es W h1
  unfold TPost corX at hnu
  unfold crOk
  dsimp only
  obtain ⟨k0, k1, k2⟩ := cells3 hG0
  by_cases hC : checkS n es = 0
  case neg =>
    rw [if_pos hC] at hnu
    obtain ⟨C, hCC⟩ : ∃ C, checkS n es = C := ⟨_, rfl⟩
    rw [hCC] at hnu hC ⊢
    have d2 : (C == 0) = false := by simpa using hC
    rw [d2, Bool.false_and]
    clear hC hCC
    go_enter Tryd.func47, Tryd.ntmps47
    go_wp2_with fail
    refine (hnu _ (he.below hb0)).mono ?_
    rintro e w1 ⟨ai, ci, rfl, -, -, hb1⟩
    go_wp2_with fail
    go_ret
    exact ⟨rfl, hb0.trans (hb1.mono hb0.size)⟩
  rw [if_neg (by simpa using hC)] at hnu
  rw [hC, show ((0 : Int) == 0) = true from rfl, Bool.true_and]
  clear hC
  generalize corT es n.toNat = m at *
  dsimp only at hnu
  go_enter Tryd.func47, Tryd.ntmps47
  go_wp2_with fail
  refine (hnu _ (he.below hb0)).mono ?_
  rintro e w1 ⟨ai, ci, rfl, hi1, -, hb1⟩
  have hb01 := hb0.trans (hb1.mono hb0.size)
  have hG1 := lit_next' hb1 hG0
  clear k0 k1 k2
  obtain ⟨k0, k1, k2⟩ := cells3 hG1
  have heq := isame_any ai a2 ci c2 m l w1 hi1 (hi.below hb01)
  go_wp2_with (go_at_call 17; refine heq.mono ?_; rintro e w2 ⟨rfl, hb2⟩)
  go_ret
  exact ⟨rfl, hb01.trans (hb2.mono hb01.size)⟩
set_option maxRecDepth 100000 in
set_option maxHeartbeats 6400000 in
theorem rwrong11_any (n u v : Int) (a a2 : Option Addr) (cap c2 : Nat) (es : List E2) (l : List Int) (w : World) (he : EdgesAt w (.slice a es.length cap) es) (hi : IntsAt w (.slice a2 l.length c2) l) :
    Calls Tryd.prog 88 #[.agg #[.int .i64 n, .slice a es.length cap, .slice a2 l.length c2], .int .i64 u, .int .i64 v] w fun e w' => e = .returned (.int .i64 (crE ⟨n, es, l⟩ u v)) ∧ Below w.heap.size w w' := by
  have hb0 : Below w.heap.size w (w.alloc (.cells #[.int .i64 n, .slice a es.length cap, .slice a2 l.length c2] 62)) := (Below.refl _ _).alloc (Nat.le_refl _) _
  have hG0 := heap_alloc_new w (.cells #[.int .i64 n, .slice a es.length cap, .slice a2 l.length c2] 62)
  have hva := fun W h1 h2 => rvalid11_any n a a2 cap c2 es l W h1 h2
  unfold crE
  obtain ⟨k0, k1, k2⟩ := cells3 hG0
  cases hok : crOk ⟨n, es, l⟩ with
  | false =>
    rw [hok] at hva
    rw [if_pos rfl]
    clear hok
    go_enter Tryd.func88, Tryd.ntmps88
    go_wp2_with fail
    refine (hva _ (he.below hb0) (hi.below hb0)).mono ?_
    rintro e w1 ⟨rfl, hb1⟩
    go_wp2_with fail
    go_ret
    exact ⟨rfl, hb0.trans (hb1.mono hb0.size)⟩
  | true =>
  rw [hok] at hva
  rw [if_neg (by simp)]
  dsimp only
  clear hok
  by_cases c0 : u < 0
  · have d0 : decide (u < 0) = true := by simpa using c0
    rw [if_neg (fun h => by have := endsB_iff.1 h; omega)]
    clear c0
    go_enter Tryd.func88, Tryd.ntmps88
    go_wp2_with fail
    refine (hva _ (he.below hb0) (hi.below hb0)).mono ?_
    rintro e w1 ⟨rfl, hb1⟩
    have hG1 := lit_next' hb1 hG0
    clear k0 k1 k2
    obtain ⟨k0, k1, k2⟩ := cells3 hG1
    go_wp2_with fail
    go_ret
    exact ⟨rfl, hb0.trans (hb1.mono hb0.size)⟩
  have d0 : decide (u < 0) = false := by simpa using c0
  by_cases c1 : v < 0
  · have d1 : decide (v < 0) = true := by simpa using c1
    rw [if_neg (fun h => by have := endsB_iff.1 h; omega)]
    clear c0 c1
    go_enter Tryd.func88, Tryd.ntmps88
    go_wp2_with fail
    refine (hva _ (he.below hb0) (hi.below hb0)).mono ?_
    rintro e w1 ⟨rfl, hb1⟩
    have hG1 := lit_next' hb1 hG0
    clear k0 k1 k2
    obtain ⟨k0, k1, k2⟩ := cells3 hG1
    go_wp2_with fail
    go_ret
    exact ⟨rfl, hb0.trans (hb1.mono hb0.size)⟩
  have d1 : decide (v < 0) = false := by simpa using c1
  by_cases c2 : n ≤ u
  · have d2 : decide (n ≤ u) = true := by simpa using c2
    rw [if_neg (fun h => by have := endsB_iff.1 h; omega)]
    clear c0 c1 c2
    go_enter Tryd.func88, Tryd.ntmps88
    go_wp2_with fail
    refine (hva _ (he.below hb0) (hi.below hb0)).mono ?_
    rintro e w1 ⟨rfl, hb1⟩
    have hG1 := lit_next' hb1 hG0
    clear k0 k1 k2
    obtain ⟨k0, k1, k2⟩ := cells3 hG1
    go_wp2_with fail
    go_ret
    exact ⟨rfl, hb0.trans (hb1.mono hb0.size)⟩
  have d2 : decide (n ≤ u) = false := by simpa using c2
  by_cases c3 : n ≤ v
  · have d3 : decide (n ≤ v) = true := by simpa using c3
    rw [if_neg (fun h => by have := endsB_iff.1 h; omega)]
    clear c0 c1 c2 c3
    go_enter Tryd.func88, Tryd.ntmps88
    go_wp2_with fail
    refine (hva _ (he.below hb0) (hi.below hb0)).mono ?_
    rintro e w1 ⟨rfl, hb1⟩
    have hG1 := lit_next' hb1 hG0
    clear k0 k1 k2
    obtain ⟨k0, k1, k2⟩ := cells3 hG1
    go_wp2_with fail
    go_ret
    exact ⟨rfl, hb0.trans (hb1.mono hb0.size)⟩
  have d3 : decide (n ≤ v) = false := by simpa using c3
  by_cases c4 : u = v
  · have d4 : (u == v) = true := by simpa using c4
    rw [if_neg (fun h => by have := endsB_iff.1 h; omega)]
    clear c0 c1 c2 c3 c4
    go_enter Tryd.func88, Tryd.ntmps88
    go_wp2_with fail
    refine (hva _ (he.below hb0) (hi.below hb0)).mono ?_
    rintro e w1 ⟨rfl, hb1⟩
    have hG1 := lit_next' hb1 hG0
    clear k0 k1 k2
    obtain ⟨k0, k1, k2⟩ := cells3 hG1
    go_wp2_with fail
    go_ret
    exact ⟨rfl, hb0.trans (hb1.mono hb0.size)⟩
  have d4 : (u == v) = false := by simpa using c4
  rw [if_pos (endsB_iff.2 (by omega))]
  clear c0 c1 c2 c3 c4
  go_enter Tryd.func88, Tryd.ntmps88
  go_wp2_with fail
  refine (hva _ (he.below hb0) (hi.below hb0)).mono ?_
  rintro e w1 ⟨rfl, hb1⟩
  have hG1 := lit_next' hb1 hG0
  clear k0 k1 k2
  obtain ⟨k0, k1, k2⟩ := cells3 hG1
  go_wp2_with fail
  go_ret
  exact ⟨rfl, hb0.trans (hb1.mono hb0.size)⟩
theorem selL_snoc (k : Nat) (S : Nat → Bool) : selL (k + 1) S = selL k S ++ (if S k = true then [k] else []) := by
  unfold selL
  rw [List.range_succ, List.filter_append]
  congr 1
  cases h : S k <;> simp [h]
set_option maxRecDepth 100000 in
set_option maxHeartbeats 1600000 in
theorem rchanged_any (n : Nat) (a a2 : Option Addr) (cap c2 : Nat) (l m : List Int) (w : World) (h1 : IntsAt w (.slice a l.length cap) l) (h2 : IntsAt w (.slice a2 m.length c2) m) (hl : l.length = n) (hm : m.length = n) (hn : n ≤ 64) :
    Calls Tryd.prog 90 #[.slice a l.length cap, .slice a2 m.length c2] w fun e w' => ∃ a' c', e = .returned (.slice a' (chgL n l m).length c') ∧ IntsAt w' (.slice a' (chgL n l m).length c') (chgL n l m) ∧ (∀ p, a' = some p → w.heap.size ≤ p.block) ∧ Below w.heap.size w w' := by
  have HM := Lib.hid hm
  rw [hm] at h2 ⊢
  have HL := Lib.hid hl
  rw [hl] at h1 ⊢
  clear hl hm
  obtain ⟨S, hS⟩ : ∃ S : Nat → Bool, S = fun v => decide (l[v]?.getD 0 ≠ m[v]?.getD 0) := ⟨_, rfl⟩
  have hch : chgL n l m = castL (selL n S) := by rw [hS]; rfl
  rw [hch]
  have HS := Lib.hid hS
  clear hch hS
  go_enter Tryd.func90, Tryd.ntmps90
  go_wp2_with fail
  go_loopw [5, 9] (fun vo vi wr => ∃ k : Nat, k ≤ n ∧ vi = .int .i64 k ∧ (∃ P : List Int, Hid (P = castL (selL k S)) ∧ P.length ≤ k ∧ wr.ownsRow w.heap.size 3 1 vo P.length (intsV P)) ∧ Below w.heap.size w wr) (fun _ vi _ => n - (intOf vi).toNat)
  case atStart => exact ⟨0, Nat.zero_le _, rfl, ⟨[], (show _ = _ by simp [selL, castL]), Nat.le_refl _, World.ownsRow_nil _ _ _ _⟩, Below.refl _ _⟩
  case round =>
    obtain ⟨k, hk, rfl, ⟨P, HP, hPl, hown⟩, hb⟩ := hrel
    obtain ⟨ao, co, hvo⟩ := owns_shape hown
    subst hvo
    by_cases hlt : k < n
    · have hk3 : (k : Int) < n := by omega
      have h1' : IntsAt wr (.slice a l.length cap) l := by rw [HL.out]; exact h1.below hb
      have h2' : IntsAt wr (.slice a2 m.length c2) m := by rw [HM.out]; exact h2.below hb
      obtain ⟨b, off, y, rfl, hy, -, c0⟩ := h1'.at' k (by rw [HL.out]; exact hlt)
      obtain ⟨b2, off2, y2, rfl, hy2, -, c2'⟩ := h2'.at' k (by rw [HM.out]; exact hlt)
      have hSk : S k = (y != y2) := by rw [HS.out]; show decide (l[k]?.getD 0 ≠ m[k]?.getD 0) = _; rw [hy, hy2]; show decide (y ≠ y2) = _; by_cases h : y = y2 <;> simp [h]
      have htk := selL_snoc k S
      clear hy hy2 h1' h2'
      by_cases e : y = y2
      · have d1 : (y != y2) = false := by simpa using e
        rw [hSk, d1, if_neg (by simp), List.append_nil] at htk
        have HT : Hid (P = castL (selL (k + 1) S)) := (show _ = _ by rw [htk]; exact HP.out)
        clear e htk hSk
        go_wp2_with fail
        go_quiet (fail)
        go_wp2_with fail
        go_roundw
        case rel => exact ⟨k + 1, by omega, by go_num, ⟨P, HT.out, by omega, hown.kept (grown_of_below ((Below.refl wr.heap.size wr).drewN _)) (Classical.em _)⟩, hb.drewN _⟩
        case measure => simp [intOf]; omega
      · have d1 : (y != y2) = true := by simpa using e
        rw [hSk, d1, if_pos rfl] at htk
        have HT : Hid (P ++ [(k : Int)] = castL (selL (k + 1) S)) := (show _ = _ by rw [htk, castL_snoc, ← HP.out])
        clear e htk hSk
        go_wp2_with fail
        go_quiet (fail)
        have hownD := hown.kept (grown_of_below ((Below.refl wr.heap.size wr).drewN nq)) (Classical.em _)
        have hbD := hb.drewN nq
        go_wp2_with (at_builtin; refine wpList_app_ints intsT rfl _ _ rfl w.heap.size _ _ P [(k : Int)] rfl (hownD.alloc _) rfl (ints_lit1 _ _ _) (by simp; omega) (by have := hb.size; simp; omega) ?_; intro v6 w6 hown6 hg6)
        have hb6 := below_app' (hbD.alloc hbD.size _) (hownD.alloc _) hg6
        go_roundw
        case rel => exact ⟨k + 1, by omega, by go_num, ⟨P ++ [(k : Int)], HT.out, by simp; omega, hown6⟩, hb6⟩
        case measure => simp [intOf]; omega
    · obtain rfl : n = k := by omega
      have hPf := HP.out
      subst hPf
      obtain ⟨hi6, ho6⟩ := ints_of_owns hown (by omega)
      go_wp2_with fail
      go_ret
      exact ⟨ao, co, rfl, hi6, ho6, hb⟩
end Go.Proofs.YtkknknehchnccaaDoor

namespace Go.Proofs.YtkknknehchnccaaDoor
open Go.RowKit Go.BigFrame

theorem adj_add {n p q : Nat} {es : List E2} (hp : p < n) (hq : q < n) (hne : p ≠ q) : adjB (insE es (min (p : Int) q, max (p : Int) q)) = adjP es p q := by
  funext i j
  exact adjP_more (moreE_ins hp hq hne) (adj_pair ((insE_mem es _ _).2 (.inr rfl))) i j
theorem reg_ofS {n p q : Nat} {es : List E2} {l : List Int} {K : Nat} {L : List Nat} (hK : min (nfN l p) (nfN l q) = K) (h : RegS (adjP es p q) n (nfN l) K p q (fun x => decide (x ∈ L)) []) : ofS (castL L) = castL (selL n (regB es n l p q)) := by
  subst hK
  have hm := regS_end h
  refine asc_eq _ _ (ofS_asc _) (selL_asc _ _) fun y => ?_
  rw [ofS_mem]
  unfold castL
  rw [List.mem_map, List.mem_map]
  have hx : ∀ x, x ∈ L ↔ x ∈ selL n (regB es n l p q) := fun x => by
    have h1 := regB_of hm x
    rw [selL_mem (fun z hz => by rw [← regB_of hm z] at hz; exact (hm.reg.lev z hz).1), ← h1, decide_eq_true_eq]
  constructor
  · rintro ⟨x, h1, h2⟩; exact ⟨x, (hx x).1 h1, h2⟩
  · rintro ⟨x, h1, h2⟩; exact ⟨x, (hx x).2 h1, h2⟩
/-- what a node of the queue leads to is joined to it -/
theorem regS_queue {B : Nat → Nat → Bool} {n : Nat} {c : Nat → Nat} {k p q w i : Nat} {L N : List Nat} (h : RegS B n c k p q (fun x => decide (x ∈ L)) (L.drop i)) (hi : i < L.length) (hw : L[i]? = some w) (hN : ∀ x, x ∈ N ↔ x < n ∧ B w x = true) :
    RegS B n c k p q (fun x => decide (x ∈ L ++ N.filter (fun x => decide (c x = k) && !decide (x ∈ L)))) ((L ++ N.filter (fun x => decide (c x = k) && !decide (x ∈ L))).drop (i + 1)) := by
  have hd : L.drop i = w :: L.drop (i + 1) := by
    obtain ⟨h1, h2⟩ := List.getElem?_eq_some_iff.1 hw
    rw [List.drop_eq_getElem_cons h1, h2]
  have hd2 : (L ++ N.filter (fun x => decide (c x = k) && !decide (x ∈ L))).drop (i + 1) = L.drop (i + 1) ++ N.filter (fun x => decide (c x = k) && !decide (x ∈ L)) := by
    rw [List.drop_append_of_le_length (by omega)]
  rw [hd] at h
  refine regS_step h List.mem_cons_self (fun x => ?_) (fun x hx => ?_) (fun x hx hf => ?_) (fun x hx => ?_)
  · simp only [decide_eq_true_eq, List.mem_append, List.mem_filter, Bool.and_eq_true, Bool.not_eq_true', decide_eq_false_iff_not, hN]
    constructor
    · rintro (h1 | ⟨⟨h1, h2⟩, h3, _⟩)
      · exact .inl h1
      · exact .inr ⟨h1, h2, h3⟩
    · rintro (h1 | ⟨h1, h2, h3⟩)
      · exact .inl h1
      · by_cases hx : x ∈ L
        · exact .inl hx
        · exact .inr ⟨⟨h1, h2⟩, h3, hx⟩
  · rw [hd2]
    rcases List.mem_cons.1 hx with h1 | h1
    · exact .inl h1
    · exact .inr (List.mem_append_left _ h1)
  · rw [hd2]
    simp only [decide_eq_true_eq, decide_eq_false_iff_not] at hx hf
    rcases List.mem_append.1 hx with h1 | h1
    · exact absurd h1 hf
    · exact List.mem_append_right _ h1
  · rw [decide_eq_true_eq]
    exact List.mem_of_mem_drop hx
theorem queue_nodup {c : Nat → Nat} {k : Nat} {L N : List Nat} (hL : L.Nodup) (hN : N.Nodup) : (L ++ N.filter (fun x => decide (c x = k) && !decide (x ∈ L))).Nodup := by
  rw [List.nodup_append]
  refine ⟨hL, hN.filter _, fun a ha b hb e => ?_⟩
  subst e
  have := (List.mem_filter.1 hb).2
  simp [ha] at this
theorem nodup_take {N : List Nat} (h : N.Nodup) {t y : Nat} (hy : N[t]? = some y) : y ∉ N.take t := by
  intro hm
  obtain ⟨j, hj, e⟩ := List.mem_take_iff_getElem.1 hm
  obtain ⟨h1, h2⟩ := List.getElem?_eq_some_iff.1 hy
  have := (List.getElem_inj h).1 (e.trans h2.symm)
  omega
/-- a row that grows beside a list of numbers -/
structure QuL (w : World) (az : Option Addr) (zc : Nat) (Z : List Int) (vs : Value) (W : List Nat) (wr : World) : Prop where
  own : wr.ownsRow w.heap.size 3 1 vs (castL W).length (intsV (castL W))
  z : IntsAt wr (.slice az Z.length zc) Z
  zl : Z ≠ [] → ∀ p, az = some p → p.block < wr.heap.size ∧ vs.ownBlock ≠ some p.block
  be : Below w.heap.size w wr
theorem QuL.push {w wr w' : World} {zc : Nat} {az : Option Addr} {Z : List Int} {vs v' : Value} {W : List Nat} (h : QuL w az zc Z vs W wr) (x : Nat) (o : Obj) (hown : w'.ownsRow w.heap.size 3 1 v' (castL W ++ [(x : Int)]).length (intsV (castL W ++ [(x : Int)]))) (hg : (wr.alloc o).grownBy w' vs.ownBlock)
    (hat : v'.ownBlock = vs.ownBlock ∨ v'.ownBlock = some (wr.alloc o).heap.size) : QuL w az zc Z v' (W ++ [x]) w' := by
  have hb := (Below.refl wr.heap.size wr).alloc (Nat.le_refl _) o
  have hlt := fun k e => (h.own.lt k e).1
  have hs1 : (wr.alloc o).heap.size = wr.heap.size + 1 := by simp
  refine ⟨by rw [castL_snoc]; exact hown, ?_, fun hz p hp => ?_, (h.be.trans (hb.mono h.be.size)).grown hg (by have := h.be.size; omega) (fun k e => by have := hlt k e; omega)⟩
  · by_cases hz : Z = []
    · subst hz
      obtain ⟨a1, c1, e1, _, h1, _⟩ := h.z
      cases e1
      exact IntsAt.empty _ _ h1
    · refine (h.z.below hb).grown hg (fun k e n' c' p hp => ?_)
      have := (h.zl hz p (Value.slice.inj hp).1).2
      intro e2
      rw [e2] at this
      exact this e
  · obtain ⟨h1, h2⟩ := h.zl hz p hp
    refine ⟨by have := hg.size; omega, ?_⟩
    rcases hat with e | e
    · rw [e]; exact h2
    · rw [e]; intro e2; have := Option.some.inj e2; omega
set_option maxRecDepth 100000 in
set_option maxHeartbeats 6400000 in
theorem rregion11_any (n u v : Int) (a a2 : Option Addr) (cap c2 : Nat) (es : List E2) (l : List Int) (w : World) (he : EdgesAt w (.slice a es.length cap) es) (hi : IntsAt w (.slice a2 l.length c2) l) :
    Calls Tryd.prog 49 #[.agg #[.int .i64 n, .slice a es.length cap, .slice a2 l.length c2], .int .i64 u, .int .i64 v] w (TPost w (cregX ⟨n, es, l⟩ u v)) := by
  have hb0 : Below w.heap.size w (w.alloc (.cells #[.int .i64 n, .slice a es.length cap, .slice a2 l.length c2] 62)) := (Below.refl _ _).alloc (Nat.le_refl _) _
  have hG0 := heap_alloc_new w (.cells #[.int .i64 n, .slice a es.length cap, .slice a2 l.length c2] 62)
  have has := fun W h1 h2 => rwrong11_any n u v a a2 cap c2 es l W h1 h2
  unfold cregX TPost
  obtain ⟨C, hC⟩ : ∃ C, crE ⟨n, es, l⟩ u v = C := ⟨_, rfl⟩
  rw [hC] at has ⊢
  obtain ⟨k0, k1, k2⟩ := cells3 hG0
  by_cases hz : C = 0
  case neg =>
    rw [if_pos hz]
    have d1 : (C != 0) = true := by simpa using hz
    have d2 : (C == 0) = false := by simpa using hz
    clear hz hC
    go_enter Tryd.func49, Tryd.ntmps49
    go_wp2_with fail
    refine (has _ (he.below hb0) (hi.below hb0)).mono ?_
    rintro e w1 ⟨rfl, hb1⟩
    have hb01 := hb0.trans (hb1.mono hb0.size)
    go_wp2_with fail
    go_ret2
    exact ⟨none, 0, rfl, ints_nil _, fun p h => (by cases h), hb01⟩
  subst hz
  rw [if_neg (by simp)]
  obtain ⟨m, p, q, hv, hc, rfl, rfl, hp, hq, hne⟩ := crE_zero hC
  unfold crN at hc
  dsimp only at hc hv
  obtain ⟨rfl, -, hl⟩ := Cr.mk.inj hc
  clear hC hc
  dsimp only
  simp only [Int.toNat_natCast]
  have hll : l.length = m := by rw [hl]; exact corT_length es m
  have hnn : ∀ v, v < m → l[v]? = some (nfN l v : Int) := fun v hvm => by
    have h1 : v < l.length := by omega
    have h2 := nfN_cor (n := m) es hvm
    rw [← hl, List.getElem?_eq_getElem h1, Option.getD_some] at h2
    rw [List.getElem?_eq_getElem h1, h2]
  clear hl
  have hm64 : m ≤ 64 := by have := hv.2.1; omega
  have hlm : l.length ≤ m ∧ m ≤ l.length := by omega
  have HL := Lib.hid hll
  have HNN := Lib.hid hnn
  clear hll hnn
  obtain ⟨K, hK⟩ : ∃ K, min (nfN l p) (nfN l q) = K := ⟨_, rfl⟩
  have HK := Lib.hid hK
  obtain ⟨RG, hRG⟩ : ∃ M, castL (selL m (regB es m l p q)) = M := ⟨_, rfl⟩
  have HRG := Lib.hid hRG
  rw [hRG]
  clear hRG hK
  have hga := fun W h => radd_any (m : Int) a cap es (p : Int) (q : Int) W h
  obtain ⟨⟨fn, fs, fe⟩, hF⟩ : ∃ F, addX (m : Int) es p q = F := ⟨_, rfl⟩
  rw [hF] at hga
  unfold GrPost at hga
  dsimp only at hga
  have HF := Lib.hid hF
  clear hF
  go_enter Tryd.func49, Tryd.ntmps49
  go_wp2_with fail
  refine (has _ (he.below hb0) (hi.below hb0)).mono ?_
  rintro e w1 ⟨rfl, hb1⟩
  have hb01 := hb0.trans (hb1.mono hb0.size)
  have hG1 := lit_next' hb1 hG0
  clear k0 k1 k2
  obtain ⟨k0, k1, k2⟩ := cells3 hG1
  obtain ⟨hgx, hgb⟩ := box_new w1 #[.int .i64 m, .slice a es.length cap] 25
  have hb02 := hb01.trans (hgb.mono hb01.size)
  have hG2 := lit_next' hgb hG1
  obtain ⟨w2, hw2⟩ : ∃ W : World, W = w1.alloc (.cells #[.int .i64 m, .slice a es.length cap] 25) := ⟨_, rfl⟩
  obtain ⟨X, hX⟩ : ∃ X, w1.heap.size = X := ⟨_, rfl⟩
  rw [← hw2] at hgx hgb hb02 hG2
  rw [hX] at hgx
  have hwX : w.heap.size < X := by rw [← hX]; exact blk_lt hG1
  have HW2 := Lib.hid hw2
  have HX := Lib.hid hX
  clear hw2 hX hgb
  go_upto_region 5 with fail
  rw [← HW2.out, HX.out]
  obtain ⟨x0, x1⟩ := cells2 hgx
  clear k0 k1 k2
  go_wp2_with fail
  refine (hga w2 (he.below hb02)).mono ?_
  rintro e w3 ⟨ag, cg, rfl, hga3, hag, hb3⟩
  obtain ⟨hyx, hyb⟩ := box_new w3 #[.int .i64 fn, .slice ag fs.length cg] 25
  have hb34 := hb3.trans (hyb.mono hb3.size)
  have hb04 := hb02.trans (hb34.mono hb02.size)
  have hG4 := lit_next' hb34 hG2
  have hX4 := lit_next' hb34 hgx
  have hga4 := hga3.below hyb
  have hXY : X < w3.heap.size := blk_lt (lit_next' hb3 hgx)
  obtain ⟨w4, hw4⟩ : ∃ W : World, W = w3.alloc (.cells #[.int .i64 fn, .slice ag fs.length cg] 25) := ⟨_, rfl⟩
  obtain ⟨Y, hY⟩ : ∃ X, w3.heap.size = X := ⟨_, rfl⟩
  rw [← hw4] at hyx hyb hb34 hb04 hG4 hX4 hga4
  rw [hY] at hyx hXY
  have HW4 := Lib.hid hw4
  have HY := Lib.hid hY
  have hagX : ∀ p, ag = some p → w2.heap.size ≤ p.block := hag
  have hX2 : X < w2.heap.size := blk_lt hgx
  clear hw4 hY hga3 hb3 hyb hb1 hb01 hb02 hG0 hG1 hG2 hgx hb0 x0 x1 hga has hag hb34
  go_upto_region 6 with fail
  rw [← HW4.out, HY.out]
  go_upto_if 36 with fail
  go_cut [] from 37 to 37 (fun wx => ∃ (ag : Option Addr) (cg : Nat) (gs : List E2), Valid m gs ∧ Hid (adjB gs = adjP es p q) ∧ wx.heap[X]? = some (.cells #[.int .i64 m, .slice ag gs.length cg] 25 (0, 0)) ∧ EdgesAt wx (.slice ag gs.length cg) gs ∧ wx.heap[w.heap.size]? = some (.cells #[.int .i64 m, .slice a es.length cap, .slice a2 l.length c2] 62 (0, 0)) ∧ Below w.heap.size w wx)
  case first =>
    obtain ⟨x0, x1⟩ := cells2 hX4
    obtain ⟨y0, y1⟩ := cells2 hyx
    have hF := HF.out
    unfold addX at hF
    rw [crE_chg hv hp hq hne, if_neg (by simp)] at hF
    by_cases hm : (min (p : Int) q, max (p : Int) q) ∈ es
    · rw [if_pos hm] at hF
      obtain ⟨rfl, h2⟩ := Prod.mk.inj hF
      obtain ⟨rfl, rfl⟩ := Prod.mk.inj h2
      have hadj : Hid (adjB es = adjP es p q) := (show _ = _ from (adjP_there (adj_pair hm)).symm)
      clear hF h2 hm HF
      go_wp2_with fail
      go_meet
      exact ⟨a, cap, es, hv, hadj, hX4, he.below hb04, hG4, hb04⟩
    · rw [if_neg hm] at hF
      obtain ⟨rfl, h2⟩ := Prod.mk.inj hF
      obtain ⟨rfl, rfl⟩ := Prod.mk.inj h2
      have hadj : Hid (adjB (insE es (min (p : Int) q, max (p : Int) q)) = adjP es p q) := (show _ = _ from adj_add hp hq hne)
      have hvf := hv.ins _ (ends_pair hp hq hne)
      generalize insE es (min (p : Int) q, max (p : Int) q) = fs at *
      clear hF h2 hm HF
      have f0 := free_blk (j := 0) hX4
      have f1 := free_blk (j := 1) hX4
      have hfin := set_two (u := .int .i64 (m : Int)) (v := .slice ag fs.length cg) hX4
      have hg9 : w4.grownBy ((w4.setCell ⟨X, 0, none⟩ (.int .i64 (m : Int))).setCell ⟨X, 1, none⟩ (.slice ag fs.length cg)) (some X) := grown_trans grown_store grown_store
      have heX := hga4.grown hg9 (fun k e n' c' p hp => by cases e; have := hagX p (Value.slice.inj hp).1; omega)
      have hbX := hb04.grown hg9 hb04.size (fun k e => by cases e; omega)
      have hGX := grown_blk hg9 hG4 (fun e => by have := Option.some.inj e; omega)
      go_wp2_with fail
      go_meet
      exact ⟨ag, cg, fs, hvf, hadj, hfin, heX, hGX, hbX⟩
  case rest =>
  clear hX4 hga4 hyx hG4 hb04 HF hagX hX2 hXY
  obtain ⟨ag, cg, gs, hvg, HADJ, hX, hge, hG, hb⟩ := hcut
  obtain ⟨k0, k1, k2⟩ := cells3 hG
  obtain ⟨b2, o2, y, rfl, hy, -, -, c0⟩ := (hi.below hb).at p (by omega)
  obtain ⟨b2', o2', y', e', hy', -, -, c1⟩ := (hi.below hb).at q (by omega)
  cases e'
  rw [HNN.out p hp] at hy
  rw [HNN.out q hq] at hy'
  obtain rfl := Option.some.inj hy
  obtain rfl := Option.some.inj hy'
  have hmin : min ((nfN l p : Nat) : Int) (nfN l q : Int) = (K : Int) := by have := HK.out; omega
  have hl3 : (p : Int) < l.length := by omega
  have hl4 : (q : Int) < l.length := by omega
  clear hy hy'
  go_wp2_with fail
  go_quiet (fail)
  obtain ⟨w4, hw4⟩ : ∃ W : World, W = wc.drewN nq := ⟨_, rfl⟩
  have hb4 : Below w.heap.size w w4 := by rw [hw4]; exact hb.drewN _
  have hX4 : w4.heap[X]? = some (.cells #[.int .i64 m, .slice ag gs.length cg] 25 (0, 0)) := by rw [hw4]; exact hX
  have hG4 : w4.heap[w.heap.size]? = some (.cells #[.int .i64 m, .slice a es.length cap, .slice (some ⟨b2, o2, none⟩) l.length c2] 62 (0, 0)) := by rw [hw4]; exact hG
  have hge4 : EdgesAt w4 (.slice ag gs.length cg) gs := by rw [hw4]; exact hge.below ((Below.refl _ _).drewN _)
  rw [← hw4]
  clear hw4 hb hX hG hge k0 k1 k2 c0 c1 hmin hl3 hl4
  obtain ⟨hBB, hbb⟩ := box_new w4 #[.int .i64 p, .int .i64 q] 3
  have hb5 := hb4.trans (hbb.mono hb4.size)
  have hX5 := lit_next' hbb hX4
  have hG5 := lit_next' hbb hG4
  have hge5 := hge4.below hbb
  obtain ⟨w5, hw5⟩ : ∃ W : World, W = w4.alloc (.cells #[.int .i64 p, .int .i64 q] 3) := ⟨_, rfl⟩
  obtain ⟨B, hB⟩ : ∃ B, w4.heap.size = B := ⟨_, rfl⟩
  rw [← hw5] at hBB hb5 hX5 hG5 hge5
  rw [hB] at hBB
  have HW5 := Lib.hid hw5
  have HB := Lib.hid hB
  clear hw5 hB hb4 hX4 hG4 hge4 hbb
  go_upto_region 11 with fail
  rw [← HW5.out, HB.out]
  go_wp2_with fail
  go_loopw [13, 53] (fun vl vi wr => ∃ j : Nat, j ≤ 2 ∧ vi = .int .i64 j ∧ ∃ L : List Nat, Hid (L = ([p, q].take j).filter (fun x => decide (nfN l x = K))) ∧ L.length ≤ j ∧ wr.ownsRow w5.heap.size 3 1 vl (castL L).length (intsV (castL L)) ∧ Below w5.heap.size w5 wr) (fun _ vi _ => 2 - (intOf vi).toNat)
  case atStart => exact ⟨0, by omega, rfl, [], (show _ = _ from rfl), by simp, World.ownsRow_nil _ _ _ _, Below.refl _ _⟩
  case round =>
    obtain ⟨j, hj, rfl, L, HLL, hLj, hown, hbr⟩ := hrel
    obtain ⟨av, cv, hvs⟩ := owns_shape hown
    subst hvs
    by_cases hlt : j < 2
    · have hlt3 : (j : Int) < 2 := by omega
      obtain ⟨x, hx, hxn, hBx⟩ : ∃ x, [p, q][j]? = some x ∧ x < m ∧ wr.cell? ⟨B, j, none⟩ = some (.int .i64 x) := by
        have hBr := lit_next' hbr hBB
        rcases (show j = 0 ∨ j = 1 by omega) with rfl | rfl
        · exact ⟨p, rfl, hp, cell_blk hBr⟩
        · exact ⟨q, rfl, hq, cell_blk hBr⟩
      have htk := take_at _ _ _ hx
      obtain ⟨b3, o3, z, e3, hz, -, -, c0⟩ := ((hi.below hb5).below hbr).at x (by omega)
      cases e3
      rw [HNN.out x hxn] at hz
      obtain rfl := Option.some.inj hz
      have hxl : (x : Int) < l.length := by omega
      obtain ⟨k0, k1, k2⟩ := cells3 (lit_next' hbr hG5)
      have hLl : (castL L).length ≤ 64 := by rw [castL_length]; omega
      obtain ⟨V, hV⟩ : ∃ V, nfN l x = V := ⟨_, rfl⟩
      rw [hV] at c0
      by_cases hk : V = K
      · subst hk
        have HL2 : Hid (L ++ [x] = ([p, q].take (j + 1)).filter (fun x => decide (nfN l x = V))) := (show _ = _ by rw [htk, List.filter_append, ← HLL.out]; simp [hV])
        have hlx := ints_lit1 wr (x : Int) 3
        have hownA := hown.alloc (.cells #[.int .i64 (x : Int)] 3)
        have hbA := hbr.alloc hbr.size (.cells #[.int .i64 (x : Int)] 3)
        clear hz hV htk HLL hx
        go_wp2_with (at_builtin; refine wpList_app_ints intsT rfl _ _ rfl w5.heap.size (.slice av (castL L).length cv) _ (castL L) [(x : Int)] rfl hownA rfl hlx (by simp; omega) hbA.size ?_; intro v6 w6 hown6 hg6)
        have hb6 := hbA.grown hg6 hbA.size (fun g e => (hownA.lt g e).1)
        rw [← castL_snoc] at hown6
        go_roundw
        case rel => exact ⟨j + 1, by omega, by go_num, L ++ [x], HL2, by simp; omega, hown6, hb6⟩
        case measure => simp [intOf]; omega
      · have d1 : ((V : Int) == (K : Int)) = false := by simpa using (show ¬ (V : Int) = K by omega)
        have HL2 : Hid (L = ([p, q].take (j + 1)).filter (fun x => decide (nfN l x = K))) := (show _ = _ by rw [htk, List.filter_append, ← HLL.out]; simp [hV, hk])
        clear hz hV htk HLL hx hk
        go_wp2_with fail
        go_roundw
        case rel => exact ⟨j + 1, by omega, by go_num, L, HL2, by omega, hown, hbr⟩
        case measure => simp [intOf]; omega
    · obtain rfl : j = 2 := by omega
      have hmem : ∀ x, x ∈ L ↔ (x = p ∨ x = q) ∧ nfN l x = K := fun x => by
        rw [HLL.out, List.mem_filter, decide_eq_true_eq]; simp
      have hnd : Hid L.Nodup := (show L.Nodup by
        rw [HLL.out]
        exact (show [p, q].Nodup by simp [hne]).filter _)
      have hst : Hid (RegS (adjP es p q) m (nfN l) K p q (fun x => decide (x ∈ L)) (L.drop 0)) := (show RegS _ _ _ _ _ _ _ _ by
        rw [List.drop_zero]
        exact regS_start hp hq (fun x => by rw [decide_eq_true_eq]; exact hmem x) (fun x => by rw [decide_eq_true_eq]))
      clear hmem HLL
      go_wp2_with fail
      go_loopw [13, 16] (fun vl vi wr => ∃ (i : Nat) (L : List Nat), vi = .int .i64 i ∧ i ≤ L.length ∧ Hid (RegS (adjP es p q) m (nfN l) K p q (fun x => decide (x ∈ L)) (L.drop i)) ∧ Hid L.Nodup ∧ wr.ownsRow w5.heap.size 3 1 vl (castL L).length (intsV (castL L)) ∧ Below w5.heap.size w5 wr) (fun _ vi _ => m - (intOf vi).toNat)
      case atStart => exact ⟨0, L, rfl, Nat.zero_le _, hst, hnd, hown, hbr⟩
      case round =>
        clear hst hnd hown hbr
        obtain ⟨i, L, rfl, hiL, HS, HND, hown, hbr⟩ := hrel
        obtain ⟨av, cv, hvs⟩ := owns_shape hown
        subst hvs
        have hlev : ∀ x, x ∈ L → x < m := fun x hx => (HS.out.lev x (by simpa using hx)).1
        have hLm : L.length ≤ m := nodup_le m L HND.out hlev
        have HCL := Lib.hid (castL_length L)
        by_cases hlt : i < L.length
        · have hic : i < (castL L).length := by rw [HCL.out]; exact hlt
          have hic3 : (i : Int) < (castL L).length := by omega
          have hLl : (castL L).length ≤ 64 := by rw [HCL.out]; omega
          obtain ⟨wv, hwv⟩ : ∃ x, L[i]? = some x := ⟨_, List.getElem?_eq_getElem hlt⟩
          have hwm : wv < m := hlev wv (List.mem_of_getElem? hwv)
          obtain ⟨al, cl, e9, hil, hal⟩ := IntsAt.of_owns hown (by omega)
          cases e9
          obtain ⟨b4, o4, z, rfl, hz, -, -, c0⟩ := hil.at i hic
          obtain rfl : z = wv := by
            unfold castL at hz
            rw [List.getElem?_map, hwv] at hz
            exact (Option.some.inj hz).symm
          have hXr := lit_next' hbr hX5
          obtain ⟨x0, x1⟩ := cells2 hXr
          have hng := neigh_new (m : Int) ag cg gs (wv : Int) wr.drew (((hge5.below hbr)).below (Below.refl _ _).drew) hvg
          rw [neigh_eq hvg wv] at hng
          obtain ⟨N, hN⟩ : ∃ N, nbL gs m wv = N := ⟨_, rfl⟩
          have HN : Hid (∀ x, x ∈ N ↔ x < m ∧ adjP es p q wv x = true) := (show ∀ x, _ from fun x => by
            rw [← hN, ← HADJ.out]; unfold nbL; rw [List.mem_filter, List.mem_range])
          have HNN2 : Hid N.Nodup := (show N.Nodup by rw [← hN]; exact List.nodup_range.filter _)
          have hNm : N.length ≤ m := by rw [← hN]; unfold nbL; exact Nat.le_trans (List.length_filter_le _ _) (by simp)
          rw [hN] at hng
          have hng2 : Calls Tryd.prog 22 #[.agg #[.int .i64 m, .slice ag gs.length cg], .int .i64 wv] wr.drew (IntsNew wr.drew (castL N)) := hng
          clear hN hng hz
          have hSS : ∀ W : World, Below wr.heap.size wr W → W.cell? ⟨X, 0, none⟩ = some (.int .i64 m) ∧ W.cell? ⟨X, 1, none⟩ = some (.slice ag gs.length cg) ∧ W.cell? ⟨b4, o4 + i, none⟩ = some (.int .i64 wv) := fun W h => ⟨(h.cell (p := ⟨X, 0, none⟩) (cell_lt x0)).trans x0, (h.cell (p := ⟨X, 1, none⟩) (cell_lt x1)).trans x1, (h.cell (p := ⟨b4, o4 + i, none⟩) (cell_lt c0)).trans c0⟩
          have hbd : Below wr.heap.size wr wr.drew := (Below.refl _ _).drew
          go_wp2_with fail
          go_region_held3 (fun w' => w'.cell? ⟨X, 0, none⟩ = some (.int .i64 m) ∧ w'.cell? ⟨X, 1, none⟩ = some (.slice ag gs.length cg) ∧ w'.cell? ⟨b4, o4 + i, none⟩ = some (.int .i64 wv))
            (first
              | with_reducible exact hSS _ hbd
              | with_reducible exact hSS _ hb7)
            (first
              | (go_at_call 22; (with_reducible refine hng2.mono ?_); rintro e w7 ⟨an, cn, rfl, hin, hb78, han⟩; have hb7 := hbd.trans (hb78.mono hbd.size)))
          have hNl : (castL N).length ≤ 64 := by rw [castL_length]; omega
          have HCN := Lib.hid (castL_length N)
          have hzl : castL N ≠ [] → ∀ p, an = some p → p.block < w7.heap.size ∧ (Value.slice (some ⟨b4, o4, none⟩) (castL L).length cv).ownBlock ≠ some p.block := fun hz p hp => by
            obtain ⟨b6, o6, y6, e6, -, -, -, c6⟩ := hin.at 0 (List.length_pos_iff.2 hz)
            rw [e6] at hp
            obtain rfl := Option.some.inj hp
            refine ⟨cell_lt c6, fun e => ?_⟩
            have := (hown.lt _ e).2
            have := han _ e6
            have := hbd.size
            try dsimp only at this
            omega
          have hQ0 : QuL w5 an cn (castL N) (.slice (some ⟨b4, o4, none⟩) (castL L).length cv) L w7 := ⟨hown.kept (grown_of_below hb7) (Classical.em _), hin, hzl, hbr.trans (hb7.mono hbr.size)⟩
          clear hSS hin hil hzl hb78 hb7 hbd hng2 hXr x0 x1 c0 han
          go_wp2_with fail
          go_loopw [13, 82] (fun vl vi wr2 => ∃ t : Nat, t ≤ (castL N).length ∧ vi = .int .i64 t ∧ ∃ M : List Nat, Hid (M = L ++ (N.take t).filter (fun x => decide (nfN l x = K) && !decide (x ∈ L))) ∧ M.length ≤ m + t ∧ QuL w5 an cn (castL N) vl M wr2) (fun _ vi _ => (castL N).length - (intOf vi).toNat)
          case atStart => exact ⟨0, Nat.zero_le _, rfl, L, (show _ = _ by simp), by omega, hQ0⟩
          case round =>
            clear hQ0 hown
            obtain ⟨t, ht, rfl, M, HM, hMl, hQ⟩ := hrel
            obtain ⟨av, cv, hvs⟩ := owns_shape hQ.own
            subst hvs
            have hMl2 : (castL M).length ≤ 128 := by rw [castL_length]; have := HCN.out; omega
            by_cases hlt2 : t < (castL N).length
            · have hlt3 : (t : Int) < (castL N).length := by omega
              have hts : t < N.length := by rw [← HCN.out]; exact hlt2
              obtain ⟨y, hy⟩ : ∃ y, N[t]? = some y := ⟨_, List.getElem?_eq_getElem hts⟩
              have hyn : y < m := ((HN.out y).1 (List.mem_of_getElem? hy)).1
              obtain ⟨b6, o6, z, rfl, hz, -, -, c0⟩ := hQ.z.at t hlt2
              obtain rfl : z = y := by
                unfold castL at hz
                rw [List.getElem?_map, hy] at hz
                exact (Option.some.inj hz).symm
              have htk := take_at _ _ _ hy
              have hyt := nodup_take HNN2.out hy
              obtain ⟨b3, o3, z, e3, hz3, -, -, c3⟩ := ((hi.below hb5).below hQ.be).at y (by omega)
              cases e3
              rw [HNN.out y hyn] at hz3
              obtain rfl := Option.some.inj hz3
              have hyl : (y : Int) < l.length := by omega
              obtain ⟨k0, k1, k2⟩ := cells3 (lit_next' hQ.be hG5)
              have hmm : (y ∈ M) ↔ y ∈ L := by
                rw [HM.out, List.mem_append, List.mem_filter]
                exact ⟨fun h => h.elim id (fun h => absurd h.1 hyt), .inl⟩
              obtain ⟨am, cm, em, him, -⟩ := IntsAt.of_owns hQ.own (by omega)
              cases em
              have hhas := has_any av cv (castL M) (y : Int) wr him
              rw [show decide ((y : Int) ∈ castL M) = decide (y ∈ L) by rw [decide_eq_decide, mem_castL]; exact hmm] at hhas
              have hfl : (N.take (t + 1)).filter (fun x => decide (nfN l x = K) && !decide (x ∈ L)) = (N.take t).filter (fun x => decide (nfN l x = K) && !decide (x ∈ L)) ++ (if (decide (nfN l y = K) && !decide (y ∈ L)) = true then [y] else []) := by
                rw [htk, List.filter_append]
                congr 1
                cases hc : (decide (nfN l y = K) && !decide (y ∈ L)) <;> simp [hc]
              obtain ⟨V, hV⟩ : ∃ V, nfN l y = V := ⟨_, rfl⟩
              obtain ⟨D, hD⟩ : ∃ D, decide (y ∈ L) = D := ⟨_, rfl⟩
              rw [hV] at c3 hfl
              rw [hD] at hfl hhas
              by_cases hk : V = K
              · subst hk
                cases D
                · have HM2 : Hid (M ++ [y] = L ++ (N.take (t + 1)).filter (fun x => decide (nfN l x = V) && !decide (x ∈ L))) := (show _ = _ by rw [hfl, HM.out]; simp)
                  have hlx := ints_lit1 wr (y : Int) 3
                  have hownA := hQ.own.alloc (.cells #[.int .i64 (y : Int)] 3)
                  have hszA : w5.heap.size ≤ (wr.alloc (.cells #[.int .i64 (y : Int)] 3)).heap.size := by have := hQ.be.size; simp; omega
                  clear hz hV hD hfl htk HM hy hyt hmm him
                  go_wp2_with (first
                    | (go_at_call 52; refine hhas.mono ?_; rintro e w9 ⟨rfl, rfl⟩)
                    | (at_builtin; refine wpList_app_ints_at intsT rfl _ _ rfl w5.heap.size (.slice av (castL M).length cv) _ (castL M) [(y : Int)] rfl hownA rfl hlx (by simp; omega) hszA ?_; intro v9 w9 hown9 hg9 hat9))
                  have hQ2 := hQ.push y _ hown9 hg9 hat9
                  go_roundw
                  case rel => exact ⟨t + 1, by omega, by go_num, M ++ [y], HM2, by simp; omega, hQ2⟩
                  case measure => simp [intOf]; omega
                · have HM2 : Hid (M = L ++ (N.take (t + 1)).filter (fun x => decide (nfN l x = V) && !decide (x ∈ L))) := (show _ = _ by rw [hfl, HM.out]; simp)
                  clear hz hV hD hfl htk HM hy hyt hmm him
                  go_wp2_with (go_at_call 52; refine hhas.mono ?_; rintro e w9 ⟨rfl, rfl⟩)
                  go_roundw
                  case rel => exact ⟨t + 1, by omega, by go_num, M, HM2, by omega, hQ⟩
                  case measure => simp [intOf]; omega
              · have d1 : ((V : Int) == (K : Int)) = false := by simpa using (show ¬ (V : Int) = K by omega)
                have HM2 : Hid (M = L ++ (N.take (t + 1)).filter (fun x => decide (nfN l x = K) && !decide (x ∈ L))) := (show _ = _ by rw [hfl, HM.out]; simp [hk])
                clear hz hV hD hfl htk HM hy hyt hmm him hhas hk
                go_wp2_with fail
                go_roundw
                case rel => exact ⟨t + 1, by omega, by go_num, M, HM2, by omega, hQ⟩
                case measure => simp [intOf]; omega
            · have htN : t = N.length := by have := HCN.out; omega
              have hM2 : M = L ++ N.filter (fun x => decide (nfN l x = K) && !decide (x ∈ L)) := by rw [HM.out, htN, List.take_length]
              have hS2 := regS_queue HS.out hlt hwv HN.out
              have hN2 := queue_nodup (c := nfN l) (k := K) HND.out HNN2.out
              rw [← hM2] at hS2 hN2
              have HS2 := Lib.hid hS2
              have HN2 := Lib.hid hN2
              have hle : i + 1 ≤ M.length := by rw [hM2, List.length_append]; omega
              have hownQ := hQ.own
              have hbeQ := hQ.be
              clear hS2 hN2 hM2 hQ HM
              go_wp2_with fail
              go_roundw
              case rel => (repeat apply Exists.intro); exact ⟨⟨i + 1, M, by go_num, hle, HS2, HN2, hownQ, hbeQ⟩, rfl⟩
              case measure => simp [intOf]; omega
        · obtain rfl : L.length = i := by omega
          have hS := HS.out
          rw [List.drop_length] at hS
          have hres := reg_ofS HK.out hS
          rw [HRG.out] at hres
          have HRES := Lib.hid hres
          have hLl : (castL L).length ≤ 64 := by rw [HCL.out]; omega
          have hge3 : ¬ ((L.length : Nat) : Int) < ((castL L).length : Int) := by have := HCL.out; omega
          obtain ⟨al, cl, e9, hil, hal⟩ := IntsAt.of_owns hown (by omega)
          cases e9
          have hof := of_new av cv (castL L) wr hil (by omega)
          clear hres hS
          go_wp2_with fail
          refine hof.mono ?_
          rintro e w9 ⟨a9, c9, rfl, hi9, hb9, ho9⟩
          have hbe := hb5.trans (hbr.mono hb5.size)
          have hbe9 := hbe.trans (hb9.mono hbe.size)
          rw [HRES.out] at hi9 ⊢
          go_wp2_with fail
          go_ret2
          exact ⟨a9, c9, rfl, hi9, fun p hp => by have := ho9 p hp; have := hbe.size; omega, hbe9⟩
end Go.Proofs.YtkknknehchnccaaDoor

namespace Go.Proofs.YtkknknehchnccaaDoor
open Go.RowKit Go.BigFrame

set_option maxRecDepth 100000 in
set_option maxHeartbeats 6400000 in
theorem rinsert11_any (n u v : Int) (a a2 : Option Addr) (cap c2 : Nat) (es : List E2) (l : List Int) (w : World) (he : EdgesAt w (.slice a es.length cap) es) (hi : IntsAt w (.slice a2 l.length c2) l) :
    Calls Tryd.prog 50 #[.agg #[.int .i64 n, .slice a es.length cap, .slice a2 l.length c2], .int .i64 u, .int .i64 v] w (IPost w (cinsX ⟨n, es, l⟩ u v)) := by
  have h0 := Bx4.start w (.int .i64 n) (.slice a es.length cap) (.slice a2 l.length c2) (.int .i64 0) (.slice none 0 0) (.slice none 0 0)
  obtain ⟨wA, hwA⟩ : ∃ W : World, W = (w.alloc (.cells #[.int .i64 n, .slice a es.length cap, .slice a2 l.length c2] 62)).alloc (.cells #[.int .i64 0, .slice none 0 0, .slice none 0 0] 62) := ⟨_, rfl⟩
  rw [← hwA] at h0
  have HWA := Lib.hid hwA
  clear hwA
  have has := fun W h1 h2 => rwrong11_any n u v a a2 cap c2 es l W h1 h2
  unfold cinsX IPost
  obtain ⟨C, hC⟩ : ∃ C, crE ⟨n, es, l⟩ u v = C := ⟨_, rfl⟩
  rw [hC] at has ⊢
  obtain ⟨k0, k1, k2⟩ := cells3 h0.c
  by_cases hz : C = 0
  case neg =>
    rw [if_pos hz]
    have d1 : (C != 0) = true := by simpa using hz
    have d2 : (C == 0) = false := by simpa using hz
    clear hz hC
    go_enter Tryd.func50, Tryd.ntmps50
    go_wp2_with (rw [← HWA.out])
    refine (has wA (he.below h0.be) (hi.below h0.be)).mono ?_
    rintro e w1 ⟨rfl, hb1⟩
    have h1 := h0.next hb1
    obtain ⟨r0, r1, r2⟩ := cells3 h1.o
    obtain ⟨f0, f1, f2⟩ := frees3 h1.o
    have hF := h1.fin (.int .i64 0) (.slice none 0 0) (.slice none 0 0)
    have hbF := hF.be
    obtain ⟨t0, t1, t2⟩ := cells3 hF.o
    unfold set3 at t0 t1 t2 hbF
    clear hF h1 h0 hb1
    go_wp2_with fail
    exact bodyPost_ret (v := .tuple #[.agg #[.int .i64 0, .slice none 0 0, .slice none 0 0], .slice none 0 0, .int .i64 C]) (by simp [results, Tryd.results50, go_sem, t0, t1, t2]) rfl ⟨none, 0, none, 0, none, 0, rfl, CIn.void _ _, ints_nil _, fun p h => (by cases h), hbF⟩
  subst hz
  rw [if_neg (by simp)]
  obtain ⟨m, p, q, hv, hc, rfl, rfl, hp, hq, hne⟩ := crE_zero hC
  unfold crN at hc
  dsimp only at hc hv
  obtain ⟨rfl, -, rfl⟩ := Cr.mk.inj hc
  clear hC hc
  dsimp only
  simp only [Int.toNat_natCast]
  have hga := fun W h => radd_any (m : Int) a cap es (p : Int) (q : Int) W h
  have hch := crE_chg hv hp hq hne
  unfold GrPost addX at hga
  rw [hch, if_neg (by simp)] at hga
  by_cases hm : (min (p : Int) q, max (p : Int) q) ∈ es
  case pos =>
    rw [if_pos hm]
    rw [show (if (min (p : Int) q, max (p : Int) q) ∈ es then _ else _) = _ from if_pos hm] at hga
    dsimp only at hga
    simp only [List.length_nil] at hga
    go_enter Tryd.func50, Tryd.ntmps50
    go_wp2_with (rw [← HWA.out])
    refine (has wA (he.below h0.be) (hi.below h0.be)).mono ?_
    rintro e w1 ⟨rfl, hb1⟩
    have h1 := h0.next hb1
    clear k0 k1 k2
    obtain ⟨k0, k1, k2⟩ := cells3 h1.c
    go_wp2_with fail
    refine (hga w1 (he.below h1.be)).mono ?_
    rintro e w2 ⟨ag, cg, rfl, -, -, hb2⟩
    have h2 := h1.next hb2
    obtain ⟨-, hbb⟩ := box_new w2 #[.int .i64 0, .slice ag 0 cg] 25
    have h3 := h2.next hbb
    obtain ⟨w3, hw3⟩ : ∃ W : World, W = w2.alloc (.cells #[.int .i64 0, .slice ag 0 cg] 25) := ⟨_, rfl⟩
    rw [← hw3] at h3
    have HW3 := Lib.hid hw3
    obtain ⟨r0, r1, r2⟩ := cells3 h3.o
    obtain ⟨f0, f1, f2⟩ := frees3 h3.o
    have hF := h3.fin (.int .i64 0) (.slice none 0 0) (.slice none 0 0)
    have hbF := hF.be
    obtain ⟨t0, t1, t2⟩ := cells3 hF.o
    unfold set3 at t0 t1 t2 hbF
    have HBF := Lib.hid hbF
    clear hw3 hbF hF h3 h2 h1 h0 hb1 hb2 hbb k0 k1 k2 hch
    go_upto_region 5 with fail
    rw [← HW3.out]
    go_wp2_with fail
    exact bodyPost_ret (v := .tuple #[.agg #[.int .i64 0, .slice none 0 0, .slice none 0 0], .slice none 0 0, .int .i64 15]) (by simp [results, Tryd.results50, go_sem, t0, t1, t2]) rfl ⟨none, 0, none, 0, none, 0, rfl, CIn.void _ _, ints_nil _, fun p h => (by cases h), HBF.out⟩
  rw [if_neg hm]
  rw [show (if (min (p : Int) q, max (p : Int) q) ∈ es then _ else _) = _ from if_neg hm] at hga
  dsimp only at hga
  have hvf := hv.ins _ (ends_pair hp hq hne)
  have hm64 : m ≤ 64 := by have := hv.2.1; omega
  have hop := fun ag cg W h => ropen11_any (m : Int) ag cg (insE es (min (p : Int) q, max (p : Int) q)) W h
  rw [show copX (m : Int) (insE es (min (p : Int) q, max (p : Int) q)) = (crN m (insE es (min (p : Int) q, max (p : Int) q)), 0) by unfold copX; rw [(valid_iff _ _).2 hvf, if_neg (by simp)]; rfl] at hop
  have hchg := fun a3 c3 W h1 h2 => rchanged_any m a2 a3 c2 c3 (corT es m) (corT (insE es (min (p : Int) q, max (p : Int) q)) m) W h1 h2 (corT_length es m) (corT_length _ m) hm64
  unfold OPost crN at hop
  unfold crN
  dsimp only at hop ⊢
  generalize insE es (min (p : Int) q, max (p : Int) q) = fs at *
  generalize chgL m (corT es m) (corT fs m) = ch at *
  clear hm hch hvf
  generalize corT fs m = lf at *
  generalize corT es m = l at *
  go_enter Tryd.func50, Tryd.ntmps50
  go_wp2_with (rw [← HWA.out])
  refine (has wA (he.below h0.be) (hi.below h0.be)).mono ?_
  rintro e w1 ⟨rfl, hb1⟩
  have h1 := h0.next hb1
  clear k0 k1 k2
  obtain ⟨k0, k1, k2⟩ := cells3 h1.c
  go_wp2_with fail
  refine (hga w1 (he.below h1.be)).mono ?_
  rintro e w2 ⟨ag, cg, rfl, hga2, hag, hb2⟩
  have h2 := h1.next hb2
  obtain ⟨hbx, hbb⟩ := box_new w2 #[.int .i64 m, .slice ag fs.length cg] 25
  have h3 := h2.next hbb
  have hg3 := hga2.below hbb
  obtain ⟨w3, hw3⟩ : ∃ W : World, W = w2.alloc (.cells #[.int .i64 m, .slice ag fs.length cg] 25) := ⟨_, rfl⟩
  rw [← hw3] at hbx h3 hg3
  have HW3 := Lib.hid hw3
  clear hw3 k0 k1 k2 hb1 hb2 hbb h0 h1 h2
  obtain ⟨j0, j1⟩ := cells2 hbx
  go_wp2_with (rw [← HW3.out])
  refine (hop ag cg w3 hg3).mono ?_
  rintro e w4 ⟨ab, cb, a3, c3, rfl, hq4, hb4⟩
  have h4 := h3.next hb4
  have hz3 := h3.base
  obtain ⟨hcx, hcb⟩ := box_new w4 #[.int .i64 m, .slice ab fs.length cb, .slice a3 lf.length c3] 62
  have h5 := h4.next hcb
  have hq5 := hq4.below hcb
  have hz4 := hb4.size
  obtain ⟨X, hX⟩ : ∃ X, w4.heap.size = X := ⟨_, rfl⟩
  obtain ⟨w5, hw5⟩ : ∃ W : World, W = w4.alloc (.cells #[.int .i64 m, .slice ab fs.length cb, .slice a3 lf.length c3] 62) := ⟨_, rfl⟩
  rw [← hw5] at hcx h5 hq5
  rw [hX] at hcx hz4
  have HW5 := Lib.hid hw5
  have HX := Lib.hid hX
  clear hw5 hX hcb h4 h3 hb4 hg3 hga2 hq4 j0 j1 hbx hga hop
  have hc5d : w5.drew.heap[w.heap.size]? = _ := h5.c
  have ho5d : w5.drew.heap[w.heap.size + 1]? = _ := h5.o
  have hx5d : w5.drew.heap[X]? = _ := hcx
  have hbd : Below w5.heap.size w5 w5.drew := (Below.refl _ _).drew
  have hcg := hchg a3 c3 w5.drew ((hi.below h5.be).below hbd) (hq5.i.below hbd)
  have hS : ∀ W : World, W.heap[w.heap.size]? = some (.cells #[.int .i64 m, .slice a es.length cap, .slice a2 l.length c2] 62 (0, 0)) → W.heap[X]? = some (.cells #[.int .i64 m, .slice ab fs.length cb, .slice a3 lf.length c3] 62 (0, 0)) → W.cell? ⟨w.heap.size, 2, none⟩ = some (.slice a2 l.length c2) ∧ W.cell? ⟨X, 0, none⟩ = some (.int .i64 m) ∧ W.cell? ⟨X, 1, none⟩ = some (.slice ab fs.length cb) ∧ W.cell? ⟨X, 2, none⟩ = some (.slice a3 lf.length c3) := fun W h h' => ⟨(cells3 h).2.2, (cells3 h').1, (cells3 h').2.1, (cells3 h').2.2⟩
  go_upto_region 8 with fail
  rw [← HW5.out, HX.out]
  go_region_held3 (fun w' => w'.cell? ⟨w.heap.size, 2, none⟩ = some (.slice a2 l.length c2) ∧ w'.cell? ⟨X, 0, none⟩ = some (.int .i64 m) ∧ w'.cell? ⟨X, 1, none⟩ = some (.slice ab fs.length cb) ∧ w'.cell? ⟨X, 2, none⟩ = some (.slice a3 lf.length c3))
    (first
      | with_reducible exact hS _ hc6 hx6
      | with_reducible exact hS _ hc5d hx5d
      | with_reducible exact hSF)
    (first
      | (go_at_call 90; (with_reducible refine hcg.mono ?_); rintro _ w6 ⟨a4, c4, rfl, hi6, ha6, hb6⟩; have hc6 := lit_next' (w := w5.drew) hb6 hc5d; have hx6 := lit_next' (w := w5.drew) hb6 hx5d; have ho6 := lit_next' (w := w5.drew) hb6 ho5d; obtain ⟨s0, s1, s2⟩ := cells3 ho6; obtain ⟨q0, q1, q2⟩ := frees3 ho6; have hSF := hS (set3 w6 (w.heap.size + 1) (.int .i64 m) (.slice ab fs.length cb) (.slice a3 lf.length c3)) ((set3_other _ _ _ _ _ _ (by omega)).trans hc6) ((set3_other _ _ _ _ _ _ (by omega)).trans hx6); unfold set3 at hSF))
  have hgF := set3_grown w6 (w.heap.size + 1) (.int .i64 m) (.slice ab fs.length cb) (.slice a3 lf.length c3)
  have hF := set3_at ho6 (.int .i64 m) (.slice ab fs.length cb) (.slice a3 lf.length c3)
  have hb56 := hbd.trans (hb6.mono hbd.size)
  have hd5 : w5.drew.heap.size = w5.heap.size := rfl
  have hbF := (h5.be.trans (hb56.mono h5.be.size)).grown hgF (Nat.le_trans h5.be.size hb56.size) (fun k e => by cases e; omega)
  have hz5 := h5.base
  have hCF := ((hq5.below hb56).grown hgF (fun k e => by cases e; omega)).mono (show w.heap.size ≤ w3.heap.size by omega)
  have hiF := hi6.grown hgF (fun k e n' c' p hp => by cases e; have := ha6 p (Value.slice.inj hp).1; omega)
  have ha6' : ∀ p, a4 = some p → w.heap.size ≤ p.block := fun p hp => by have := ha6 p hp; omega
  obtain ⟨t0, t1, t2⟩ := cells3 hF
  unfold set3 at t0 t1 t2 hbF hCF hiF
  have HFF := Lib.hid (And.intro hCF (And.intro hiF hbF))
  clear hgF hF hbF hCF hiF hq5 hi6 h5 hb6 hb56 hc6 hx6 ho6 hSF
  go_wp2_with fail
  exact bodyPost_ret (v := .tuple #[.agg #[.int .i64 m, .slice ab fs.length cb, .slice a3 lf.length c3], .slice a4 ch.length c4, .int .i64 0]) (by simp [results, Tryd.results50, go_sem, t0, t1, t2]) rfl ⟨ab, cb, a3, c3, a4, c4, rfl, HFF.out.1, HFF.out.2.1, ha6', HFF.out.2.2⟩
set_option maxRecDepth 100000 in
set_option maxHeartbeats 6400000 in
theorem rdelete11_any (n u v : Int) (a a2 : Option Addr) (cap c2 : Nat) (es : List E2) (l : List Int) (w : World) (he : EdgesAt w (.slice a es.length cap) es) (hi : IntsAt w (.slice a2 l.length c2) l) :
    Calls Tryd.prog 51 #[.agg #[.int .i64 n, .slice a es.length cap, .slice a2 l.length c2], .int .i64 u, .int .i64 v] w (IPost w (cdelX ⟨n, es, l⟩ u v)) := by
  have h0 := Bx4.start w (.int .i64 n) (.slice a es.length cap) (.slice a2 l.length c2) (.int .i64 0) (.slice none 0 0) (.slice none 0 0)
  obtain ⟨wA, hwA⟩ : ∃ W : World, W = (w.alloc (.cells #[.int .i64 n, .slice a es.length cap, .slice a2 l.length c2] 62)).alloc (.cells #[.int .i64 0, .slice none 0 0, .slice none 0 0] 62) := ⟨_, rfl⟩
  rw [← hwA] at h0
  have HWA := Lib.hid hwA
  clear hwA
  have has := fun W h1 h2 => rwrong11_any n u v a a2 cap c2 es l W h1 h2
  unfold cdelX IPost
  obtain ⟨C, hC⟩ : ∃ C, crE ⟨n, es, l⟩ u v = C := ⟨_, rfl⟩
  rw [hC] at has ⊢
  obtain ⟨k0, k1, k2⟩ := cells3 h0.c
  by_cases hz : C = 0
  case neg =>
    rw [if_pos hz]
    have d1 : (C != 0) = true := by simpa using hz
    have d2 : (C == 0) = false := by simpa using hz
    clear hz hC
    go_enter Tryd.func51, Tryd.ntmps51
    go_wp2_with (rw [← HWA.out])
    refine (has wA (he.below h0.be) (hi.below h0.be)).mono ?_
    rintro e w1 ⟨rfl, hb1⟩
    have h1 := h0.next hb1
    obtain ⟨r0, r1, r2⟩ := cells3 h1.o
    obtain ⟨f0, f1, f2⟩ := frees3 h1.o
    have hF := h1.fin (.int .i64 0) (.slice none 0 0) (.slice none 0 0)
    have hbF := hF.be
    obtain ⟨t0, t1, t2⟩ := cells3 hF.o
    unfold set3 at t0 t1 t2 hbF
    clear hF h1 h0 hb1
    go_wp2_with fail
    exact bodyPost_ret (v := .tuple #[.agg #[.int .i64 0, .slice none 0 0, .slice none 0 0], .slice none 0 0, .int .i64 C]) (by simp [results, Tryd.results51, go_sem, t0, t1, t2]) rfl ⟨none, 0, none, 0, none, 0, rfl, CIn.void _ _, ints_nil _, fun p h => (by cases h), hbF⟩
  subst hz
  rw [if_neg (by simp)]
  obtain ⟨m, p, q, hv, hc, rfl, rfl, hp, hq, hne⟩ := crE_zero hC
  unfold crN at hc
  dsimp only at hc hv
  obtain ⟨rfl, -, rfl⟩ := Cr.mk.inj hc
  clear hC hc
  dsimp only
  simp only [Int.toNat_natCast]
  have hga := fun W h => rremove_any (m : Int) a cap es (p : Int) (q : Int) W h
  have hch := crE_chg hv hp hq hne
  unfold GrPost remX at hga
  rw [hch, if_neg (by simp)] at hga
  by_cases hm : (min (p : Int) q, max (p : Int) q) ∈ es
  case neg =>
    rw [if_neg hm]
    rw [show (if (min (p : Int) q, max (p : Int) q) ∈ es then _ else _) = _ from if_neg hm] at hga
    dsimp only at hga
    simp only [List.length_nil] at hga
    go_enter Tryd.func51, Tryd.ntmps51
    go_wp2_with (rw [← HWA.out])
    refine (has wA (he.below h0.be) (hi.below h0.be)).mono ?_
    rintro e w1 ⟨rfl, hb1⟩
    have h1 := h0.next hb1
    clear k0 k1 k2
    obtain ⟨k0, k1, k2⟩ := cells3 h1.c
    go_wp2_with fail
    refine (hga w1 (he.below h1.be)).mono ?_
    rintro e w2 ⟨ag, cg, rfl, -, -, hb2⟩
    have h2 := h1.next hb2
    obtain ⟨-, hbb⟩ := box_new w2 #[.int .i64 0, .slice ag 0 cg] 25
    have h3 := h2.next hbb
    obtain ⟨w3, hw3⟩ : ∃ W : World, W = w2.alloc (.cells #[.int .i64 0, .slice ag 0 cg] 25) := ⟨_, rfl⟩
    rw [← hw3] at h3
    have HW3 := Lib.hid hw3
    obtain ⟨r0, r1, r2⟩ := cells3 h3.o
    obtain ⟨f0, f1, f2⟩ := frees3 h3.o
    have hF := h3.fin (.int .i64 0) (.slice none 0 0) (.slice none 0 0)
    have hbF := hF.be
    obtain ⟨t0, t1, t2⟩ := cells3 hF.o
    unfold set3 at t0 t1 t2 hbF
    have HBF := Lib.hid hbF
    clear hw3 hbF hF h3 h2 h1 h0 hb1 hb2 hbb k0 k1 k2 hch
    go_upto_region 5 with fail
    rw [← HW3.out]
    go_wp2_with fail
    exact bodyPost_ret (v := .tuple #[.agg #[.int .i64 0, .slice none 0 0, .slice none 0 0], .slice none 0 0, .int .i64 7]) (by simp [results, Tryd.results51, go_sem, t0, t1, t2]) rfl ⟨none, 0, none, 0, none, 0, rfl, CIn.void _ _, ints_nil _, fun p h => (by cases h), HBF.out⟩
  rw [if_pos hm]
  rw [show (if (min (p : Int) q, max (p : Int) q) ∈ es then _ else _) = _ from if_pos hm] at hga
  dsimp only at hga
  have hvf := hv.del (min (p : Int) q, max (p : Int) q)
  have hm64 : m ≤ 64 := by have := hv.2.1; omega
  have hop := fun ag cg W h => ropen11_any (m : Int) ag cg (delE es (min (p : Int) q, max (p : Int) q)) W h
  rw [show copX (m : Int) (delE es (min (p : Int) q, max (p : Int) q)) = (crN m (delE es (min (p : Int) q, max (p : Int) q)), 0) by unfold copX; rw [(valid_iff _ _).2 hvf, if_neg (by simp)]; rfl] at hop
  have hchg := fun a3 c3 W h1 h2 => rchanged_any m a2 a3 c2 c3 (corT es m) (corT (delE es (min (p : Int) q, max (p : Int) q)) m) W h1 h2 (corT_length es m) (corT_length _ m) hm64
  unfold OPost crN at hop
  unfold crN
  dsimp only at hop ⊢
  generalize delE es (min (p : Int) q, max (p : Int) q) = fs at *
  generalize chgL m (corT es m) (corT fs m) = ch at *
  clear hm hch hvf
  generalize corT fs m = lf at *
  generalize corT es m = l at *
  go_enter Tryd.func51, Tryd.ntmps51
  go_wp2_with (rw [← HWA.out])
  refine (has wA (he.below h0.be) (hi.below h0.be)).mono ?_
  rintro e w1 ⟨rfl, hb1⟩
  have h1 := h0.next hb1
  clear k0 k1 k2
  obtain ⟨k0, k1, k2⟩ := cells3 h1.c
  go_wp2_with fail
  refine (hga w1 (he.below h1.be)).mono ?_
  rintro e w2 ⟨ag, cg, rfl, hga2, hag, hb2⟩
  have h2 := h1.next hb2
  obtain ⟨hbx, hbb⟩ := box_new w2 #[.int .i64 m, .slice ag fs.length cg] 25
  have h3 := h2.next hbb
  have hg3 := hga2.below hbb
  obtain ⟨w3, hw3⟩ : ∃ W : World, W = w2.alloc (.cells #[.int .i64 m, .slice ag fs.length cg] 25) := ⟨_, rfl⟩
  rw [← hw3] at hbx h3 hg3
  have HW3 := Lib.hid hw3
  clear hw3 k0 k1 k2 hb1 hb2 hbb h0 h1 h2
  obtain ⟨j0, j1⟩ := cells2 hbx
  go_wp2_with (rw [← HW3.out])
  refine (hop ag cg w3 hg3).mono ?_
  rintro e w4 ⟨ab, cb, a3, c3, rfl, hq4, hb4⟩
  have h4 := h3.next hb4
  have hz3 := h3.base
  obtain ⟨hcx, hcb⟩ := box_new w4 #[.int .i64 m, .slice ab fs.length cb, .slice a3 lf.length c3] 62
  have h5 := h4.next hcb
  have hq5 := hq4.below hcb
  have hz4 := hb4.size
  obtain ⟨X, hX⟩ : ∃ X, w4.heap.size = X := ⟨_, rfl⟩
  obtain ⟨w5, hw5⟩ : ∃ W : World, W = w4.alloc (.cells #[.int .i64 m, .slice ab fs.length cb, .slice a3 lf.length c3] 62) := ⟨_, rfl⟩
  rw [← hw5] at hcx h5 hq5
  rw [hX] at hcx hz4
  have HW5 := Lib.hid hw5
  have HX := Lib.hid hX
  clear hw5 hX hcb h4 h3 hb4 hg3 hga2 hq4 j0 j1 hbx hga hop
  have hc5d : w5.drew.heap[w.heap.size]? = _ := h5.c
  have ho5d : w5.drew.heap[w.heap.size + 1]? = _ := h5.o
  have hx5d : w5.drew.heap[X]? = _ := hcx
  have hbd : Below w5.heap.size w5 w5.drew := (Below.refl _ _).drew
  have hcg := hchg a3 c3 w5.drew ((hi.below h5.be).below hbd) (hq5.i.below hbd)
  have hS : ∀ W : World, W.heap[w.heap.size]? = some (.cells #[.int .i64 m, .slice a es.length cap, .slice a2 l.length c2] 62 (0, 0)) → W.heap[X]? = some (.cells #[.int .i64 m, .slice ab fs.length cb, .slice a3 lf.length c3] 62 (0, 0)) → W.cell? ⟨w.heap.size, 2, none⟩ = some (.slice a2 l.length c2) ∧ W.cell? ⟨X, 0, none⟩ = some (.int .i64 m) ∧ W.cell? ⟨X, 1, none⟩ = some (.slice ab fs.length cb) ∧ W.cell? ⟨X, 2, none⟩ = some (.slice a3 lf.length c3) := fun W h h' => ⟨(cells3 h).2.2, (cells3 h').1, (cells3 h').2.1, (cells3 h').2.2⟩
  go_upto_region 8 with fail
  rw [← HW5.out, HX.out]
  go_region_held3 (fun w' => w'.cell? ⟨w.heap.size, 2, none⟩ = some (.slice a2 l.length c2) ∧ w'.cell? ⟨X, 0, none⟩ = some (.int .i64 m) ∧ w'.cell? ⟨X, 1, none⟩ = some (.slice ab fs.length cb) ∧ w'.cell? ⟨X, 2, none⟩ = some (.slice a3 lf.length c3))
    (first
      | with_reducible exact hS _ hc6 hx6
      | with_reducible exact hS _ hc5d hx5d
      | with_reducible exact hSF)
    (first
      | (go_at_call 90; (with_reducible refine hcg.mono ?_); rintro _ w6 ⟨a4, c4, rfl, hi6, ha6, hb6⟩; have hc6 := lit_next' (w := w5.drew) hb6 hc5d; have hx6 := lit_next' (w := w5.drew) hb6 hx5d; have ho6 := lit_next' (w := w5.drew) hb6 ho5d; obtain ⟨s0, s1, s2⟩ := cells3 ho6; obtain ⟨q0, q1, q2⟩ := frees3 ho6; have hSF := hS (set3 w6 (w.heap.size + 1) (.int .i64 m) (.slice ab fs.length cb) (.slice a3 lf.length c3)) ((set3_other _ _ _ _ _ _ (by omega)).trans hc6) ((set3_other _ _ _ _ _ _ (by omega)).trans hx6); unfold set3 at hSF))
  have hgF := set3_grown w6 (w.heap.size + 1) (.int .i64 m) (.slice ab fs.length cb) (.slice a3 lf.length c3)
  have hF := set3_at ho6 (.int .i64 m) (.slice ab fs.length cb) (.slice a3 lf.length c3)
  have hb56 := hbd.trans (hb6.mono hbd.size)
  have hd5 : w5.drew.heap.size = w5.heap.size := rfl
  have hbF := (h5.be.trans (hb56.mono h5.be.size)).grown hgF (Nat.le_trans h5.be.size hb56.size) (fun k e => by cases e; omega)
  have hz5 := h5.base
  have hCF := ((hq5.below hb56).grown hgF (fun k e => by cases e; omega)).mono (show w.heap.size ≤ w3.heap.size by omega)
  have hiF := hi6.grown hgF (fun k e n' c' p hp => by cases e; have := ha6 p (Value.slice.inj hp).1; omega)
  have ha6' : ∀ p, a4 = some p → w.heap.size ≤ p.block := fun p hp => by have := ha6 p hp; omega
  obtain ⟨t0, t1, t2⟩ := cells3 hF
  unfold set3 at t0 t1 t2 hbF hCF hiF
  have HFF := Lib.hid (And.intro hCF (And.intro hiF hbF))
  clear hgF hF hbF hCF hiF hq5 hi6 h5 hb6 hb56 hc6 hx6 ho6 hSF
  go_wp2_with fail
  exact bodyPost_ret (v := .tuple #[.agg #[.int .i64 m, .slice ab fs.length cb, .slice a3 lf.length c3], .slice a4 ch.length c4, .int .i64 0]) (by simp [results, Tryd.results51, go_sem, t0, t1, t2]) rfl ⟨ab, cb, a3, c3, a4, c4, rfl, HFF.out.1, HFF.out.2.1, ha6', HFF.out.2.2⟩
end Go.Proofs.YtkknknehchnccaaDoor

namespace Go.Proofs.YtkknknehchnccaaDoor
open Go.RowKit Go.BigFrame

set_option maxRecDepth 100000 in
set_option maxHeartbeats 3200000 in
theorem rnumbers10_own (n : Nat) (a : Option Addr) (cap : Nat) (es : List E2) (w : World) (he : EdgesAt w (.slice a es.length cap) es) (hv : Valid n es) :
    Calls Tryd.prog 15 #[.agg #[.int .i64 n, .slice a es.length cap]] w fun e w' => ∃ g, e = .returned (.tuple #[.slice (some ⟨g, 0, none⟩) n n, .int .i64 0]) ∧ NumAt w' g (corT es n) ∧ w.heap.size ≤ g ∧ Below w.heap.size w w' := by
  have hb0 : Below w.heap.size w (w.alloc (.cells #[.int .i64 n, .slice a es.length cap] 25)) := (Below.refl _ _).alloc (Nat.le_refl _) _
  have hG0 := heap_alloc_new w (.cells #[.int .i64 n, .slice a es.length cap] 25)
  have hck := fun W h => check_any (n : Int) a cap es W h
  rw [(valid_iff n es).2 hv] at hck
  have hel := hv.length_le
  have hn64 := hv.2.1
  have hmk := make_ints n (by omega)
  go_enter Tryd.func15, Tryd.ntmps15
  go_wp2_with fail
  refine (hck _ (he.below hb0)).mono ?_
  rintro e w1 ⟨rfl, hb1⟩
  have hb01 := hb0.trans (hb1.mono hb0.size)
  have hG1 := lit_next' hb1 hG0
  have g1 : w1.cell? ⟨w.heap.size, 0, none⟩ = some (.int .i64 n) := by rw [cell_blk hG1]; rfl
  have hF0 : Hid (∀ x, x < n → (0 : Int) = min (corF es n x) (((1 : Nat) : Int) - 1)) := (show _ from fun x hx => by
    obtain ⟨c, hc⟩ := cor_nat es n x hx
    omega)
  clear hck hG0 hb0 hb1
  go_wp2_with fail
  have hN0 : NumAt (w1.alloc (.cells (intsV (List.replicate n 0)).toArray 3)) w1.heap.size (fnL n (fun _ => 0)) := by
    rw [← fnL_zero]; exact heap_alloc_new _ _
  have hbA := (Below.refl w1.heap.size w1).alloc (Nat.le_refl _) (.cells (intsV (List.replicate n 0)).toArray 3)
  obtain ⟨wA, hwA⟩ : ∃ W : World, W = w1.alloc (.cells (intsV (List.replicate n 0)).toArray 3) := ⟨_, rfl⟩
  rw [← hwA] at hN0 hbA ⊢
  obtain ⟨s0, hs0⟩ : ∃ s, w1.heap.size = s := ⟨_, rfl⟩
  have hws : w.heap.size ≤ s0 := by rw [← hs0]; exact hb01.size
  have HS := Lib.hid hs0
  rw [hs0] at hN0 hbA ⊢
  clear hwA hmk g1 hs0
  go_loopw [6] (fun vk wr => ∃ k : Nat, 1 ≤ k ∧ k ≤ 65 ∧ vk = .int .i64 k ∧ (∃ F, NumAt wr s0 (fnL n F) ∧ Hid (∀ x, x < n → F x = min (corF es n x) ((k : Int) - 1))) ∧ Below s0 w1 wr) (fun vk _ => 65 - (intOf vk).toNat)
  case atStart => exact ⟨1, Nat.le_refl _, by omega, rfl, ⟨_, hN0, hF0⟩, hbA⟩
  case round =>
    clear hN0 hF0 hbA
    obtain ⟨k, hk1, hk65, rfl, ⟨F, hN, HF⟩, hb⟩ := hrel
    have hbw : Below w1.heap.size w1 wr := by rw [HS.out]; exact hb
    have hb0w := hb01.trans (hbw.mono hb01.size)
    have hG := lit_next' hbw hG1
    have g0 : wr.cell? ⟨w.heap.size, 0, none⟩ = some (.int .i64 n) := by rw [cell_blk hG]; rfl
    have g1 : wr.cell? ⟨w.heap.size, 1, none⟩ = some (.slice a es.length cap) := by rw [cell_blk hG]; rfl
    by_cases hlt : k < n
    · have hlt3 : (k : Int) < n := by omega
      have htr := rcore10_any n (k : Int) a cap es _ (he.below hb0w) hv
      have hlen : (castL (corI es n k)).length ≤ n := by rw [castL_length]; exact selL_len _ _
      clear hG
      go_wp2_with fail
      refine htr.mono ?_
      rintro e w3 ⟨a3, c3, rfl, hi3, ha3, hb3⟩
      have hq3 : ∀ p, a3 = some p → p.block ≠ s0 := fun p hp => by have := ha3 p hp; have := blk_lt hN; omega
      have hb13 : Below s0 w1 w3 := hb.trans (hb3.mono (by have := hb.size; have := HS.out; omega))
      have hN3 : NumAt w3 _ _ := lit_next' hb3 hN
      have hoff3 : ∀ x, F x = F x := fun _ => rfl
      · have hF1 : Hid (∀ x, x < n → F x = if x ∈ (corI es n k).take 0 then (k : Int) else min (corF es n x) ((k : Int) - 1)) := (show _ from fun x hx => by rw [HF.out x hx]; simp)
        clear hN hoff3 htr HF
        go_wp2_with fail
        go_loopw [27] (fun vi wr => ∃ t : Nat, t ≤ (castL (corI es n k)).length ∧ vi = .int .i64 t ∧ (∃ F, NumAt wr s0 (fnL n F) ∧ Hid (∀ x, x < n → F x = if x ∈ (corI es n k).take t then (k : Int) else min (corF es n x) ((k : Int) - 1))) ∧ w3.grownBy wr (some s0)) (fun vi _ => (castL (corI es n k)).length - (intOf vi).toNat)
        case atStart => exact ⟨0, Nat.zero_le _, rfl, ⟨F, hN3, hF1⟩, grown_refl _ _⟩
        case round =>
          clear hN3 hF1
          obtain ⟨t, ht, rfl, ⟨F, hN, HF⟩, hgr⟩ := hrel
          by_cases hltt : t < (castL (corI es n k)).length
          · have hts : t < (corI es n k).length := by rw [castL_length] at hltt; exact hltt
            have hx : (corI es n k)[t]? = some ((corI es n k)[t]'hts) := List.getElem?_eq_getElem hts
            obtain ⟨x, hxx⟩ : ∃ x, ((corI es n k)[t]'hts) = x := ⟨_, rfl⟩
            rw [hxx] at hx
            have hxl := ((corI_mem es n k x).1 (List.mem_of_getElem? hx)).1
            have hiw := hi3.grown hgr (fun g e n' c' p hp => by cases e; exact hq3 p (Value.slice.inj hp).1)
            obtain ⟨b9, o9, z, rfl, hz, _, _, c0⟩ := hiw.at t hltt
            have hzx : z = x := by
              unfold castL at hz
              rw [List.getElem?_map, hx] at hz
              exact (Option.some.inj hz).symm
            subst hzx
            have hltt3 : (t : Int) < (castL (corI es n k)).length := by omega
            have hxl3 : (x : Int) < n := by omega
            have p0 := numAt_fn hN x hxl
            have pf : ∀ j, wr.frozen? ⟨s0, j, none⟩ = false := fun j => free_blk hN
            have hst := numAt_set hN x (k : Int)
            have hF2 : Hid (∀ y, y < n → (if y = x then (k : Int) else F y) = if y ∈ (corI es n k).take (t + 1) then (k : Int) else min (corF es n y) ((k : Int) - 1)) := (show _ from fun y hy => by
              rw [take_at _ _ _ hx]
              by_cases e : y = x
              · subst e; rw [if_pos rfl, if_pos (by simp)]
              · rw [if_neg e, HF.out y hy]
                simp only [List.mem_append, List.mem_singleton, e, or_false])
            have hgr2 : w3.grownBy (wr.setCell ⟨s0, x, none⟩ (.int .i64 (k : Int))) (some s0) := grown_trans hgr ⟨rfl, rfl, rfl, by simp, fun k _ hk => Below.heap_setCell _ _ _ _ (fun e => hk (by simp [e]))⟩
            clear hN HF hx hxx hts hz hiw
            go_wp2_with fail
            go_roundw
            case rel => exact ⟨t + 1, by omega, by go_num, ⟨_, hst, hF2⟩, hgr2⟩
            case measure => simp [intOf]; omega
          · obtain rfl : t = (castL (corI es n k)).length := by omega
            have hF3 : Hid (∀ x, x < n → F x = min (corF es n x) (((k + 1 : Nat) : Int) - 1)) := (show _ from fun x hx => by
              rw [HF.out x hx, castL_length, List.take_length]
              by_cases h : x ∈ corI es n k
              · rw [if_pos h]
                have := ((corI_mem es n k x).1 h).2
                omega
              · rw [if_neg h]
                rw [corI_mem] at h
                omega)
            have hb14 : Below s0 w1 wr := hb13.grown hgr (by have := hb13.size; have := HS.out; omega) (fun g e => by cases e; exact Nat.le_refl _)
            clear HF hgr
            go_wp2_with fail
            go_roundw
            case rel => exact ⟨k + 1, by omega, by omega, by go_num, ⟨F, hN, hF3⟩, hb14⟩
            case measure => simp [intOf]; omega
    · have hall : fnL n F = corT es n := fnL_congr _ _ _ fun x hx => by
        rw [HF.out x hx]
        have h := cor_lt hv x hx
        show min (corF es n x) _ = corF es n x
        omega
      rw [hall] at hN
      have hlt3 : ¬ (k : Int) < n := by omega
      have HN := Lib.hid hN
      clear hN hall
      go_wp2_with fail
      go_ret2
      exact ⟨s0, rfl, HN.out, hws, hb0w⟩
set_option maxRecDepth 100000 in
set_option maxHeartbeats 3200000 in
theorem ropen11_own (n : Nat) (a : Option Addr) (cap : Nat) (es : List E2) (w : World) (he : EdgesAt w (.slice a es.length cap) es) (hv : Valid n es) :
    Calls Tryd.prog 38 #[.agg #[.int .i64 n, .slice a es.length cap]] w fun e w' => ∃ a4 c4 g, e = .returned (.tuple #[.agg #[.int .i64 n, .slice a4 es.length c4, .slice (some ⟨g, 0, none⟩) n n], .int .i64 0]) ∧ EdgesAt w' (.slice a4 es.length c4) es ∧ NumAt w' g (corT es n) ∧ w.heap.size ≤ g ∧ (∀ p, a4 = some p → g < p.block) ∧ Below w.heap.size w w' := by
  have hnu := fun W h1 => rnumbers10_own n a cap es W h1 hv
  have hg0 := heap_alloc_new w (.cells #[.int .i64 n, .slice a es.length cap] 25)
  obtain ⟨wA, hwA⟩ : ∃ W : World, W = (w.alloc (.cells #[.int .i64 n, .slice a es.length cap] 25)).alloc (.cells #[.int .i64 0, .slice none 0 0, .slice none 0 0] 62) := ⟨_, rfl⟩
  have hGA : wA.heap[w.heap.size]? = some (.cells #[.int .i64 n, .slice a es.length cap] 25 (0, 0)) := by rw [hwA, Below.heap_alloc _ _ _ (by simp)]; exact hg0
  have hRA : wA.heap[w.heap.size + 1]? = some (.cells #[.int .i64 0, .slice none 0 0, .slice none 0 0] 62 (0, 0)) := by
    rw [hwA]
    have := heap_alloc_new (w.alloc (.cells #[.int .i64 n, .slice a es.length cap] 25)) (.cells #[.int .i64 0, .slice none 0 0, .slice none 0 0] 62)
    simpa using this
  have hbA : Below w.heap.size w wA := by rw [hwA]; exact ((Below.refl _ _).alloc (Nat.le_refl _) _).alloc (by simp) _
  have HWA := Lib.hid hwA
  clear hwA hg0
  obtain ⟨k0, k1⟩ := cells2 hGA
  have hel := hv.length_le
  have hn64 := hv.2.1
  generalize corT es n = l at *
  go_enter Tryd.func38, Tryd.ntmps38
  go_wp2_with (rw [← HWA.out])
  refine (hnu wA (he.below hbA)).mono ?_
  rintro e w1 ⟨g, rfl, hN1, hgA, hb1⟩
  have hG1 := lit_next' hb1 hGA
  have hR1 := lit_next' hb1 hRA
  have hbw1 := hbA.trans (hb1.mono hbA.size)
  have hzA : w.heap.size + 1 < wA.heap.size := blk_lt hRA
  have hcx : ∀ W : World, W.heap[w.heap.size]? = some (.cells #[.int .i64 n, .slice a es.length cap] 25 (0, 0)) → W.cell? ⟨w.heap.size, 0, none⟩ = some (.int .i64 n) ∧ W.cell? ⟨w.heap.size, 1, none⟩ = some (.slice a es.length cap) := fun W h => cells2 h
  have hG1d : w1.drew.heap[w.heap.size]? = some (.cells #[.int .i64 n, .slice a es.length cap] 25 (0, 0)) := hG1
  have hed := he.below hbw1.drew
  clear k0 k1 hGA hRA hnu
  go_wp2_with fail
  go_region_held3 (fun w' => w'.cell? ⟨w.heap.size, 0, none⟩ = some (.int .i64 n) ∧ w'.cell? ⟨w.heap.size, 1, none⟩ = some (.slice a es.length cap))
    (first
      | with_reducible exact hcx _ hG4
      | with_reducible exact hcx _ hG1d
      | with_reducible exact hcxF)
    (first
      | (refine step_app_edges edgesT rfl (.const (.slice none 0 0)) (.tmp 18) rfl w1.drew.heap.size (.slice none 0 0) (.slice a es.length cap) [] es rfl (by exact World.ownsRow_nil _ _ _ _) rfl (by exact hed) (by simp; omega) (Nat.le_refl _) ?_; intro x4 w4 hown4 hg4; have hb4 := below_of_grown hg4; simp only [List.nil_append] at hown4; obtain ⟨a4, c4, rfl, he4, ha4⟩ := EdgesAt.of_owns hown4 (by omega); have hG4 := lit_next' (w := w1.drew) hb4 hG1d; have hR4 := lit_next' (w := w1.drew) hb4 hR1; obtain ⟨s0, s1, s2⟩ := cells3 hR4; obtain ⟨q0, q1, q2⟩ := frees3 hR4; have hcxF := hcx _ ((set3_other w4 (w.heap.size + 1) w.heap.size (.int .i64 n) (.slice a4 es.length c4) (.slice (some ⟨g, 0, none⟩) n n) (by omega)).trans hG4); unfold set3 at hcxF))
  have hgF := set3_grown w4 (w.heap.size + 1) (.int .i64 n) (.slice a4 es.length c4) (.slice (some ⟨g, 0, none⟩) n n)
  have hF := set3_at hR4 (.int .i64 n) (.slice a4 es.length c4) (.slice (some ⟨g, 0, none⟩) n n)
  have hbF := (hbw1.drew.trans (hb4.mono hbw1.drew.size)).grown hgF (Nat.le_trans hbw1.drew.size hb4.size) (fun k e => by cases e; omega)
  have hd1 : w1.drew.heap.size = w1.heap.size := rfl
  have hs1 := hb1.size
  have hgl : g < w1.heap.size := blk_lt hN1
  have hN4 : NumAt w4 g l := lit_next' (w := w1.drew) hb4 hN1
  have hNF : NumAt (set3 w4 (w.heap.size + 1) (.int .i64 n) (.slice a4 es.length c4) (.slice (some ⟨g, 0, none⟩) n n)) g l := (set3_other _ _ _ _ _ _ (by omega)).trans hN4
  have hEF := he4.grown hgF (fun k e n' c' p hp => by cases e; have := ha4 p (Value.slice.inj hp).1; omega)
  have hap : ∀ p, a4 = some p → g < p.block := fun p hp => by have := ha4 p hp; omega
  have hwg : w.heap.size ≤ g := by omega
  obtain ⟨t0, t1, t2⟩ := cells3 hF
  unfold set3 at t0 t1 t2 hbF hNF hEF
  have HFF := Lib.hid (And.intro hEF (And.intro hNF hbF))
  clear hgF hF hbF hNF hEF hN4 hN1 hR4 hG4 hcxF he4
  go_wp2_with fail
  exact bodyPost_ret (v := .tuple #[.agg #[.int .i64 n, .slice a4 es.length c4, .slice (some ⟨g, 0, none⟩) n n], .int .i64 0]) (by simp [results, Tryd.results38, go_sem, t0, t1, t2]) rfl ⟨a4, c4, g, rfl, HFF.out.1, HFF.out.2.1, hwg, hap, HFF.out.2.2⟩
end Go.Proofs.YtkknknehchnccaaDoor

namespace Go.Proofs.YtkknknehchnccaaDoor
open Go.RowKit Go.BigFrame

/-- the box of the result, the box of the graph, and the deck -/
structure CoW (w : World) (b D n : Nat) (es : List E2) (a : Option Addr) (cap g : Nat) (l : List Int) (W : World) : Prop where
  d : DeckAt W b
  o : W.heap[w.heap.size]? = some (.cells #[.int .i64 0, .slice none 0 0, .slice none 0 0] 62 (0, 0))
  x : W.heap[D]? = some (.cells #[.int .i64 n, .slice a es.length cap, .slice (some ⟨g, 0, none⟩) n n] 62 (0, 0))
  e : EdgesAt W (.slice a es.length cap) es
  ea : ∀ p, a = some p → g < p.block
  i : NumAt W g l
  gr : w.grownBy W (some b)
  bw : b < w.heap.size
  wg : w.heap.size < g
  gD : g < D
section
variable {w W W' : World} {b D n : Nat} {es : List E2} {a : Option Addr} {cap g : Nat} {l : List Int}
theorem CoW.next (h : CoW w b D n es a cap g l W) (hd : DeckAt W' b) (hg : W.grownBy W' (some b)) : CoW w b D n es a cap g l W' :=
  ⟨hd, grown_blk hg h.o (fun e => by have := Option.some.inj e; have := h.bw; omega), grown_blk hg h.x (fun e => by have := Option.some.inj e; have := h.bw; have := h.wg; have := h.gD; omega),
    h.e.grown hg (fun k e n' c' p hp => by cases e; have := h.ea p (Value.slice.inj hp).1; have := h.bw; have := h.wg; omega), h.ea, grown_blk hg h.i (fun e => by have := Option.some.inj e; have := h.bw; have := h.wg; omega), grown_trans h.gr hg, h.bw, h.wg, h.gD⟩
theorem CoW.set (h : CoW w b D n es a cap g l W) (k : Nat) (x : Int) : CoW w b D n es a cap g (l.set k x) (W.setCell ⟨g, k, none⟩ (.int .i64 x)) := by
  have hg : W.grownBy (W.setCell ⟨g, k, none⟩ (.int .i64 x)) (some g) := grown_store
  have := h.bw
  have := h.wg
  have := h.gD
  exact ⟨h.d.kept hg (fun j e => by cases e; omega), grown_blk hg h.o (fun e => by have := Option.some.inj e; omega), grown_blk hg h.x (fun e => by have := Option.some.inj e; omega),
    h.e.grown hg (fun j e n' c' p hp => by cases e; have := h.ea p (Value.slice.inj hp).1; omega), h.ea, h.i.set k x, grown_new h.gr hg (fun j e => .inr (by cases e; omega)), h.bw, h.wg, h.gD⟩
end
def CoPost (b : Nat) (w : World) (e : Ending) (w' : World) : Prop :=
  ∃ (n : Nat) (es : List E2) (l : List Int) (a : Option Addr) (cap g : Nat), e = .returned (.agg #[.int .i64 n, .slice a es.length cap, .slice (some ⟨g, 0, none⟩) l.length n]) ∧ Valid n es ∧ n ≤ 8 ∧ l.length = n ∧ EdgesAt w' (.slice a es.length cap) es ∧ IntsAt w' (.slice (some ⟨g, 0, none⟩) l.length n) l ∧ (∀ p, a = some p → w.heap.size ≤ p.block) ∧ w.heap.size ≤ g ∧ DeckAt w' b ∧ w.grownBy w' (some b)
theorem CoW.post {w W : World} {b D n : Nat} {es : List E2} {a : Option Addr} {cap g : Nat} {l : List Int} (h : CoW w b D n es a cap g l W) (hv : Valid n es) (hn : n ≤ 8) (hl : l.length = n) :
    CoPost b w (.returned (.agg #[.int .i64 n, .slice a es.length cap, .slice (some ⟨g, 0, none⟩) n n])) (set3 W w.heap.size (.int .i64 n) (.slice a es.length cap) (.slice (some ⟨g, 0, none⟩) n n)) := by
  have hg := set3_grown W w.heap.size (.int .i64 n) (.slice a es.length cap) (.slice (some ⟨g, 0, none⟩) n n)
  have hi := h.i.ints (by omega)
  have := h.bw
  have := h.wg
  refine ⟨n, es, l, a, cap, g, by rw [hl], hv, hn, hl, h.e.grown hg (fun j e n' c' p hp => by cases e; have := h.ea p (Value.slice.inj hp).1; omega), ?_, fun p hp => by have := h.ea p hp; omega, by omega, h.d.kept hg (fun j e => by cases e; omega), grown_new h.gr hg (fun j e => .inr (by cases e; exact Nat.le_refl _))⟩
  rw [hl] at hi ⊢
  exact hi.grown hg (fun j e n' c' p hp => by cases e; have := (Value.slice.inj hp).1; cases this; dsimp only; omega)
set_option maxRecDepth 100000 in
set_option maxHeartbeats 6400000 in
theorem cores_any (b : Nat) (w : World) (hd : DeckAt w b) : Calls Tryd.prog 44 #[.pointer (some ⟨b, 0, none⟩)] w (CoPost b w) := by
  have hbw := hd.lt
  obtain ⟨hoA, hbA⟩ := box_new w #[.int .i64 0, .slice none 0 0, .slice none 0 0] 62
  have hdA := deck_below hd hbA
  go_enter Tryd.func44, Tryd.ntmps44
  go_wp2_with (first
    | (go_at_call 12; refine (mkgraph_any b 8 _ hdA (by omega) (by omega)).mono ?_; rintro e w2 ⟨n0, es, a2, cap2, rfl, he2, hv, hn8, hd2, hg2, ho2⟩))
  obtain ⟨n, rfl⟩ := Int.eq_ofNat_of_zero_le hv.1
  have hz0 : (w.alloc (.cells #[.int .i64 0, .slice none 0 0, .slice none 0 0] 62)).heap.size = w.heap.size + 1 := by simp
  have ho2' := grown_blk hg2 hoA (fun e => by have := Option.some.inj e; omega)
  have hgw := grown_trans (grown_none (grown_of_below hbA) : w.grownBy _ (some b)) hg2
  have hz2 := hg2.size
  refine (ropen11_own n a2 cap2 es _ he2 hv).mono ?_
  rintro e w3 ⟨a4, c4, g, rfl, he3, hi3, hwg, hag, hb3⟩
  obtain ⟨hx4, hb4⟩ := box_new w3 #[.int .i64 n, .slice a4 es.length c4, .slice (some ⟨g, 0, none⟩) n n] 62
  have hgl : g < w3.heap.size := blk_lt hi3
  have hn0 : n ≤ 8 := by omega
  have hS : CoW w b w3.heap.size n es a4 c4 g (corT es n) (w3.alloc (.cells #[.int .i64 n, .slice a4 es.length c4, .slice (some ⟨g, 0, none⟩) n n] 62)) :=
    ⟨deck_below (deck_below hd2 hb3) hb4, lit_next' hb4 (lit_next' hb3 ho2'), hx4, he3.below hb4, hag, lit_next' hb4 hi3, grown_trans hgw (grown_none (grown_trans (grown_of_below hb3) (grown_of_below hb4))), hbw, by omega, hgl⟩
  obtain ⟨W, hW⟩ : ∃ W : World, W = w3.alloc (.cells #[.int .i64 n, .slice a4 es.length c4, .slice (some ⟨g, 0, none⟩) n n] 62) := ⟨_, rfl⟩
  obtain ⟨D, hD⟩ : ∃ D, w3.heap.size = D := ⟨_, rfl⟩
  rw [← hW, hD] at hS
  have HW := Lib.hid hW
  have HD := Lib.hid hD
  have hlen := corT_length es n
  obtain ⟨l, hl⟩ : ∃ l, corT es n = l := ⟨_, rfl⟩
  have HLC := Lib.hid hl
  rw [hl] at hS hlen
  have HL := Lib.hid hlen
  clear hW hD hx4 hb4 hgl hb3 hi3 he3 hwg hag ho2' hgw hz2 hz0 hd2 hg2 he2 ho2 hdA hbA hoA hd hn8 hl
  go_upto_region 2 with fail
  rw [← HW.out, HD.out]
  obtain ⟨x0, x1, x2⟩ := cells3 hS.x
  by_cases hn : n = 0
  · have d1 : decide (0 < (n : Int)) = false := by simp; omega
    have d1' : decide (0 < n) = false := decide_eq_false (by omega)
    have d1'' : ¬ 0 < n := by omega
    have hP := hS.post hv hn0 hlen
    obtain ⟨r0, r1, r2⟩ := cells3 hS.o
    obtain ⟨f0, f1, f2⟩ := frees3 hS.o
    obtain ⟨t0, t1, t2⟩ := cells3 (set3_at hS.o (.int .i64 n) (.slice a4 es.length c4) (.slice (some ⟨g, 0, none⟩) n n))
    unfold set3 at t0 t1 t2 hP
    have HP := Lib.hid hP
    clear hP hS hlen hn
    go_wp2_with fail
    refine ⟨rfl, .agg #[.int .i64 n, .slice a4 es.length c4, .slice (some ⟨g, 0, none⟩) n n], ?_, ?_⟩
    · simp [results, Tryd.results44, go_sem, t0, t1, t2]
    · exact HP.out
  have d1 : decide (0 < (n : Int)) = true := by simp; omega
  have d1' : decide (0 < n) = true := decide_eq_true (by omega)
  have d1'' : 0 < n := by omega
  clear hlen
  go_wp2_with fail
  refine (next_any b 12 _ hS.d (by omega) (by omega)).mono ?_
  rintro _ w5 ⟨y, hy0, hy1, rfl, hd5, hg5⟩
  have hS5 := hS.next hd5 hg5
  clear hS x0 x1 x2 hd5 hg5
  obtain ⟨x0, x1, x2⟩ := cells3 hS5.x
  by_cases hy : y = 11
  · subst hy
    have hP := fun (l' : List Int) (hl' : l'.length = n) (W' : World) (h : CoW w b D n es a4 c4 g l' W') => h.post hv hn0 hl'
    have hSd := hS5.next (W' := w5.drew) (deck_below hS5.d (Below.refl _ _).drew) (grown_none (grown_of_below (Below.refl _ _).drew))
    have hnx := next_any b (n : Int) w5.drew hSd.d (by omega) (by omega)
    have hbd := fun (v : Int) (h : v ∈ l) => corT_bd hv v (HLC.out ▸ h)
    clear hS5
    go_wp2_with fail
    go_region_law (first
      | (go_simp; go_at_call 33; (with_reducible refine hnx.mono ?_); rintro _ w6 ⟨z, hz0, hz1, rfl, hd6, hg6⟩; have hS6 := hSd.next hd6 hg6; obtain ⟨z, rfl⟩ := Int.eq_ofNat_of_zero_le hz0; have hzn : (z : Int) < n := (by omega); have hzl : z < l.length := (by have := HL.out; omega); obtain ⟨v, hv9⟩ : ∃ v, l[z]? = some v := ⟨_, List.getElem?_eq_getElem hzl⟩; have hvb := hbd v (List.mem_of_getElem? hv9); have hw9 : IntKind.i64.wrap (v + 1) = v + 1 := (IntWalk.i64_in _ (by omega)); have p0 := hS6.i.cell z v hv9; have q0 : w6.frozen? ⟨g, z, none⟩ = false := free_blk hS6.i; obtain ⟨y0, y1, y2⟩ := cells3 hS6.x))
    all_goals
      have hS7 := hS6.set z (v + 1)
      have hP7 := hP (l.set z (v + 1)) (by rw [List.length_set]; exact HL.out) _ hS7
      obtain ⟨r0, r1, r2⟩ := cells3 hS7.o
      obtain ⟨s0, s1, s2⟩ := cells3 hS7.x
      obtain ⟨f0, f1, f2⟩ := frees3 hS7.o
      obtain ⟨t0, t1, t2⟩ := cells3 (set3_at hS7.o (.int .i64 n) (.slice a4 es.length c4) (.slice (some ⟨g, 0, none⟩) n n))
      unfold set3 at t0 t1 t2 hP7
      have HP := Lib.hid hP7
      clear hP hP7 hS6 hS7 hSd y0 y1 y2 p0 q0 hn
      go_wp2_with fail
      refine ⟨rfl, .agg #[.int .i64 n, .slice a4 es.length c4, .slice (some ⟨g, 0, none⟩) n n], ?_, ?_⟩
      · simp [results, Tryd.results44, go_sem, t0, t1, t2]
      · exact HP.out
  · have d2 : (y == 11) = false := by simpa using hy
    have hP := hS5.post hv hn0 HL.out
    obtain ⟨r0, r1, r2⟩ := cells3 hS5.o
    obtain ⟨f0, f1, f2⟩ := frees3 hS5.o
    obtain ⟨t0, t1, t2⟩ := cells3 (set3_at hS5.o (.int .i64 n) (.slice a4 es.length c4) (.slice (some ⟨g, 0, none⟩) n n))
    unfold set3 at t0 t1 t2 hP
    have HP := Lib.hid hP
    clear hP hS5 hy hn
    go_wp2_with fail
    refine ⟨rfl, .agg #[.int .i64 n, .slice a4 es.length c4, .slice (some ⟨g, 0, none⟩) n n], ?_, ?_⟩
    · simp [results, Tryd.results44, go_sem, t0, t1, t2]
    · exact HP.out
end Go.Proofs.YtkknknehchnccaaDoor

namespace Go.Proofs.YtkknknehchnccaaDoor
open Go.ChangeShapes Go.WideShapes Go.ChangeAt Go.RowKit Go.Deep

theorem list_three {α : Type} {l : List α} (h : l.length = 3) : ∃ a b c, l = [a, b, c] := by
  match l, h with
  | [a, b, c], _ => exact ⟨a, b, c, rfl⟩
section
variable {H : Type} {enc : TypeId × Value → H} {w : World}
theorem part_ofC {P : Program} {base n : Nat} {sp : Nat → Bool} {held : Bool} {fs : Array Field} {cs : List Value} {xs : List (DataW H × List MemPlace)} (h : ∀ (i : Nat) (f : Field), fs[i]? = some f → DataW.trod enc P w base sp held n f.type ((cs.drop f.offset).take (P.cellsOf f.type)) = xs[i]?)
    (i : Nat) (f : Field) (hi : fs[i]? = some f) (o k : Nat) (t : TypeId) (ho : f.offset = o) (ht : f.type = t) (hk : P.cellsOf t = k) (part : List Value) (hp : (cs.drop o).take k = part) (y : DataW H × List MemPlace) (hy : xs[i]? = some y) : DataW.trod enc P w base sp held n t part = some y := by
  have := h i f hi
  rw [ho, ht, hk, hp, hy] at this
  exact this
set_option maxRecDepth 100000 in
theorem cores_of_trod {base b0 : Nat} {sp : Nat → Bool} {held : Bool} {r : Reach} {v : Value} {d : DataW H} {p : List MemPlace} (hv : Value.okWide Tryd.prog w r b0 62 v) (h : DataW.Trod enc Tryd.prog w base sp held 62 v d p) :
    ∃ (n : Int) (a : Option Addr) (len cap : Nat) (b : Option Addr) (blen bcap : Nat) (es : List E2) (ns : List Int), v = .agg #[.int .i64 n, .slice a len cap, .slice b blen bcap] ∧ (len ≤ 100000 → es.length = len ∧ EdgesAt w (.slice a es.length cap) es) ∧ (blen ≤ 100000 → ns.length = blen ∧ IntsAt w (.slice b ns.length bcap) ns) := by
  obtain ⟨cs, rfl, hsz⟩ := okWide_struct Tryd.underlying62 hv
  obtain ⟨fuel, hf⟩ := h
  obtain ⟨xs, n, _, _, hlen, hxl, hg⟩ := DataW.trod_struct Tryd.underlying62 hf
  obtain ⟨l⟩ := cs
  have hll : l.length = 3 := by simpa using hsz.trans (show Tryd.prog.cellsOf 62 = 3 by kernel_rfl)
  obtain ⟨v0, v1, v4, rfl⟩ := list_three hll
  have hx4 : xs.length = 2 := hxl
  obtain ⟨y0, y3, rfl⟩ : ∃ a b, xs = [a, b] := by
    match xs, hx4 with
    | [a, b], _ => exact ⟨a, b, rfl⟩
  have c27 : Tryd.prog.cellsOf 25 = 2 := by kernel_rfl
  have c22 : Tryd.prog.cellsOf 22 = 1 := by kernel_rfl
  have g0 : DataW.trod enc Tryd.prog w base sp held n 25 [v0, v1] = some y0 := part_ofC hg 0 _ rfl 0 2 _ rfl rfl c27 _ rfl _ rfl
  have g3 : DataW.trod enc Tryd.prog w base sp held n 22 [v4] = some y3 := part_ofC hg 1 _ rfl 2 1 _ rfl rfl c22 _ rfl _ rfl
  obtain ⟨_, hq⟩ := field_one Tryd.underlying25 (by kernel_rfl) (by kernel_rfl) g0
  obtain ⟨m, y, hy⟩ := hq 0 _ v0 rfl rfl
  obtain ⟨z0, rfl⟩ : ∃ z, v0 = .int .i64 z := by
    obtain ⟨z, e, _⟩ := DataW.trod_int Tryd.underlying3 hy
    exact ⟨z, by simpa using e⟩
  obtain ⟨m', y', hy'⟩ := hq 1 _ v1 rfl rfl
  obtain ⟨ra, rn, rc, rfl, hrow⟩ := edges_of_trod hy'
  obtain ⟨b, bl, bc, rfl⟩ : ∃ b l c, v4 = .slice b l c := by
    rcases open_slice Tryd.underlying22 g3 with ⟨hcs, _⟩ | ⟨ad, len, cap, _, _, _, _, hcs, _⟩
    · exact ⟨none, 0, 0, by simpa using hcs⟩
    · exact ⟨some ad, len, cap, by simpa using hcs⟩
  obtain ⟨ns, hns⟩ := ints_of_trod (d := y3.1) (p := y3.2) (enc := enc) (w := w) (base := base) (sp := sp) (held := held) rfl (show DataW.Trod enc Tryd.prog w base sp held 22 (.slice b bl bc) y3.1 y3.2 from ⟨n, g3⟩)
  by_cases h6 : rn ≤ 100000
  · obtain ⟨es, h1, h2⟩ := hrow h6
    exact ⟨z0, ra, rn, rc, b, bl, bc, es, ns, rfl, fun _ => ⟨h1, h2⟩, hns⟩
  · exact ⟨z0, ra, rn, rc, b, bl, bc, [], ns, rfl, fun h => absurd h h6, hns⟩
end
end Go.Proofs.YtkknknehchnccaaDoor
