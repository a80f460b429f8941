/- The contracts of the reference's addition and removal of an edge, at any graph. The reference's Same for any two lists of numbers; the reference's Valid, wrong and changed on kept core numbers. Printed by wip/mkrefch.py. The contracts of the reference's Insert and Delete, for any graph and numbers. Printed by wip/mkrefid.py. ref10.Numbers and ref11.Open once more, for valid graphs: the numbers lie in a block of their own. Printed by wip/mkrefco.py. The contract of law11.cores: a graph with its core numbers, one of them wrong now and then. The contract of the reference's Steps: the edges that an event touches, for valid graphs and events that fit. The contract of the reference's Follow, for any graph and numbers. The contract of made events whose times go back now and then. The contract of made events once more, with the nodes' bounds. The walk of the law RepairFollows. What an argument that is an event reads as (the part of EvOpen that wants no PlainCard). The law on following events returns true for each event and each list of choices, and changes nothing that was there. -/
import Derived.Test.YtkknknehchnccaaDoorGrAdd
import Derived.Test.YtkknknehchnccaaDoorRef03Of
import Derived.Test.YtkknknehchnccaaDoorRefRep
import Derived.Deep.RegionHeld3
import Derived.Test.YtkknknehchnccaaDoorRepBack
import Derived.Deep.DeepCutAuto
import Derived.Deep.RegionLaw
import Derived.Test.YtkknknehchnccaaDoorScFol
import Derived.Test.YtkknknehchnccaaDoorScEv
import Derived.Test.YtkknknehchnccaaDoorArgOpen
import Derived.Test.YtkknknehchnccaaDoorSqCard
namespace Go.Proofs.YtkknknehchnccaaDoor
open Go.RowKit Go.BigFrame

theorem endsB_parts (n u v : Int) : endsB n u v = (decide (0 ≤ u) && (decide (0 ≤ v) && (decide (u < n) && (decide (v < n) && (u != v))))) := by
  rw [Bool.eq_iff_iff, endsB_iff]
  simp only [Bool.and_eq_true, decide_eq_true_eq, bne_iff_ne, ne_eq]
  constructor
  · rintro ⟨h1, h2, h3⟩; exact ⟨by omega, by omega, by omega, by omega, h1⟩
  · rintro ⟨h1, h2, h3, h4, h5⟩; exact ⟨h5, by omega, by omega⟩
theorem rends_any (n u v : Int) (w : World) : Calls Tryd.prog 130 #[.int .i64 n, .int .i64 u, .int .i64 v] w fun e w' => e = .returned (.bool (endsB n u v)) ∧ w = w' := by
  rw [endsB_parts]
  obtain ⟨B1, h1⟩ : ∃ B, decide (0 ≤ u) = B := ⟨_, rfl⟩
  obtain ⟨B2, h2⟩ : ∃ B, decide (0 ≤ v) = B := ⟨_, rfl⟩
  obtain ⟨B3, h3⟩ : ∃ B, decide (u < n) = B := ⟨_, rfl⟩
  obtain ⟨B4, h4⟩ : ∃ B, decide (v < n) = B := ⟨_, rfl⟩
  obtain ⟨B5, h5⟩ : ∃ B, (u != v) = B := ⟨_, rfl⟩
  rw [h1, h2, h3, h4, h5]
  cases B1
  case' true => cases B2
  case' true.true => cases B3
  case' true.true.true => cases B4
  all_goals
    go_enter Tryd.func130, Tryd.ntmps130
    go_wp2
    go_ret
    exact ⟨rfl, rfl⟩
theorem ff_pos : ∀ (es : List E2) (k : Nat) (t : E2), t ∈ es → 0 ≤ findFrom k es t := by
  intro es
  induction es with
  | nil => intro k t h; cases h
  | cons e es ih =>
    intro k t h
    unfold findFrom
    by_cases he : e = t
    · rw [if_pos he]; omega
    · rw [if_neg he]
      rcases List.mem_cons.1 h with h' | h'
      · exact absurd h'.symm he
      · exact ih (k + 1) t h'
set_option maxRecDepth 100000 in
set_option maxHeartbeats 3200000 in
theorem radd_any (n : Int) (a : Option Addr) (cap : Nat) (es : List E2) (u v : Int) (w : World) (he : EdgesAt w (.slice a es.length cap) es) :
    Calls Tryd.prog 89 #[.agg #[.int .i64 n, .slice a es.length cap], .int .i64 u, .int .i64 v] w (GrPost w (addX n es u v)) := by
  have hck := fun W h => check_any n a cap es W h
  have hen := fun W => rends_any n u v W
  have h0 := Gr2.start w n (.slice a es.length cap)
  unfold addX chgE
  obtain ⟨C, hC⟩ : ∃ C, checkS n es = C := ⟨_, rfl⟩
  rw [hC] at hck ⊢
  by_cases hz : C = 0
  case neg =>
    rw [if_pos hz, if_pos hz]
    have d1 : (C != 0) = true := by simpa using hz
    clear hC hz
    go_enter Tryd.func89, Tryd.ntmps89
    go_wp2_with fail
    refine (hck _ (he.below h0.be)).mono ?_
    rintro e w1 ⟨rfl, hb1⟩
    have h1 := h0.next hb1
    clear hb1 h0
    have o0 := cell_blk (j := 0) h1.o
    have o1 := cell_blk (j := 1) h1.o
    have f0 := free_blk (j := 0) h1.o
    have f1 := free_blk (j := 1) h1.o
    obtain ⟨t0, t1, hef, hbf⟩ := h1.fin (N := 0) (a := none) (cap := 0) (ys := []) (edges_nil w1) (fun p h => by cases h)
    simp only [List.length_nil] at t0 t1 hef hbf
    clear h1 hck
    go_wp2_with fail
    exact bodyPost_ret (v := .tuple #[.agg #[.int .i64 0, .slice none 0 0], .int .i64 C]) (by simp [results, Tryd.results89, go_sem, t0, t1]) rfl ⟨none, 0, rfl, hef, (fun p h => by cases h), hbf⟩
  subst hz
  have hv := (valid_iff n es).1 hC
  rw [if_neg (show ¬ ((0 : Int) ≠ 0) by simp)]
  obtain ⟨B, hB⟩ : ∃ B, endsB n u v = B := ⟨_, rfl⟩
  rw [hB] at hen ⊢
  cases B with
  | false =>
    rw [if_neg (show ¬ (false = true) by simp), if_pos (show (6 : Int) ≠ 0 by decide)]
    clear hB hC
    go_enter Tryd.func89, Tryd.ntmps89
    go_wp2_with fail
    refine (hck _ (he.below h0.be)).mono ?_
    rintro e w1 ⟨rfl, hb1⟩
    have h1 := h0.next hb1
    clear hb1 h0
    have g0 := cell_blk (j := 0) h1.g
    go_wp2_with fail
    refine (hen _).mono ?_
    rintro e w2 ⟨rfl, rfl⟩
    have o0 := cell_blk (j := 0) h1.o
    have o1 := cell_blk (j := 1) h1.o
    have f0 := free_blk (j := 0) h1.o
    have f1 := free_blk (j := 1) h1.o
    obtain ⟨t0, t1, hef, hbf⟩ := h1.fin (N := 0) (a := none) (cap := 0) (ys := []) (edges_nil w1) (fun p h => by cases h)
    simp only [List.length_nil] at t0 t1 hef hbf
    clear h1 hck
    go_wp2_with fail
    exact bodyPost_ret (v := .tuple #[.agg #[.int .i64 0, .slice none 0 0], .int .i64 6]) (by simp [results, Tryd.results89, go_sem, t0, t1]) rfl ⟨none, 0, rfl, hef, (fun p h => by cases h), hbf⟩
  | true =>
    rw [if_pos rfl, if_neg (show ¬ ((0 : Int) ≠ 0) by simp)]
    obtain ⟨hne, hmin, hmax⟩ := endsB_iff.1 hB
    by_cases hm : (min u v, max u v) ∈ es
    · rw [if_pos hm]
      have hfd := fun W h => find_any n a cap es u v W h hv
      have hs : 0 ≤ findS es u v := ff_pos es 0 _ hm
      obtain ⟨S, hS⟩ : ∃ S, findS es u v = S := ⟨_, rfl⟩
      rw [hS] at hfd hs
      have d2 : decide (S ≥ 0) = true := decide_eq_true hs
      clear hB hC hS hm hne hmin hmax
      go_enter Tryd.func89, Tryd.ntmps89
      go_wp2_with fail
      refine (hck _ (he.below h0.be)).mono ?_
      rintro e w1 ⟨rfl, hb1⟩
      have h1 := h0.next hb1
      clear hb1 h0
      have g0 := cell_blk (j := 0) h1.g
      have g1 := cell_blk (j := 1) h1.g
      go_wp2_with fail
      refine (hen _).mono ?_
      rintro e w2 ⟨rfl, rfl⟩
      go_wp2_with fail
      refine (hfd _ (he.below h1.be)).mono ?_
      rintro e w3 ⟨rfl, hb3⟩
      have h3 := h1.next hb3
      clear hb3 h1 g0 g1
      have o0 := cell_blk (j := 0) h3.o
      have o1 := cell_blk (j := 1) h3.o
      have f0 := free_blk (j := 0) h3.o
      have f1 := free_blk (j := 1) h3.o
      obtain ⟨t0, t1, hef, hbf⟩ := h3.fin (N := 0) (a := none) (cap := 0) (ys := []) (edges_nil w3) (fun p h => by cases h)
      simp only [List.length_nil] at t0 t1 hef hbf
      clear h3 hck hfd
      go_wp2_with fail
      exact bodyPost_ret (v := .tuple #[.agg #[.int .i64 0, .slice none 0 0], .int .i64 15]) (by simp [results, Tryd.results89, go_sem, t0, t1]) rfl ⟨none, 0, rfl, hef, (fun p h => by cases h), hbf⟩
    · rw [if_neg hm]
      refine (add_any n a cap es u v w he hv (by omega) (by omega) (by omega) (by omega) hne hm).mono ?_
      rintro e w' ⟨a1, c1, rfl, h1, h2, h3⟩
      exact ⟨a1, c1, rfl, h1, h3, h2⟩
/-- the boxes of a removal: the graph, the result, what is built -/
structure Gr3 (w : World) (n : Int) (sl : Value) (H : Nat) (v : Value) (k : Nat) (fl : List Value) (wr : World) : Prop where
  g : Gr2 w n sl wr
  h : wr.heap[H]? = some (.cells #[.int .i64 n, v] 25 (0, 0))
  own : wr.ownsRow (H + 1) 39 2 v k fl
  hH : w.heap.size + 2 ≤ H
section
variable {w wr w' : World} {n : Int} {sl : Value} {H : Nat} {v : Value} {k : Nat} {fl : List Value}
theorem Gr3.next (x : Gr3 w n sl H v k fl wr) (hb : Below wr.heap.size wr w') : Gr3 w n sl H v k fl w' := ⟨x.g.next hb, lit_next' hb x.h, x.own.kept (grown_of_below hb) (Classical.em _), x.hH⟩
theorem Gr3.alloc (x : Gr3 w n sl H v k fl wr) (o : Obj) : Gr3 w n sl H v k fl (wr.alloc o) := x.next ((Below.refl _ _).alloc (Nat.le_refl _) _)
theorem Gr3.app {v2 : Value} {k2 : Nat} {f2 : List Value} (x : Gr3 w n sl H v k fl wr) (hown : w'.ownsRow (H + 1) 39 2 v2 k2 f2) (hg : wr.grownBy w' v.ownBlock) :
    Gr3 w n sl H v2 k2 f2 (w'.setCell ⟨H, 1, none⟩ v2) := by
  have hl : ∀ b, v.ownBlock = some b → H + 1 ≤ b := fun b e => (x.own.lt b e).1
  have hH := x.hH
  have g1 : Gr2 w n sl w' := x.g.grown hg (fun b e => by have := hl b e; omega)
  have h1 : w'.heap[H]? = _ := grown_blk hg x.h (fun e => by have := hl H e.symm; omega)
  exact ⟨g1.grown grown_store (fun b e => by cases e; omega), heap_setCell_same w' H 1 _ _ _ h1, hown.kept grown_store (by
      cases hs : v2.ownBlock with
      | none => exact .inl rfl
      | some b => have := (hown.lt b hs).1; exact .inr (by intro e; have := Option.some.inj e; omega)), hH⟩
theorem Gr3.base (x : Gr3 w n sl H v k fl wr) : H + 1 ≤ wr.heap.size := blk_lt x.h
end
theorem delE_snoc (es : List E2) (t x : E2) : delE (es ++ [x]) t = delE es t ++ (if x = t then [] else [x]) := by
  unfold delE
  rw [List.filter_append]
  by_cases h : x = t
  · simp [h]
  · simp [h]
set_option maxRecDepth 100000 in
set_option maxHeartbeats 6400000 in
theorem rremove_any (n : Int) (a : Option Addr) (cap : Nat) (es : List E2) (u v : Int) (w : World) (he : EdgesAt w (.slice a es.length cap) es) :
    Calls Tryd.prog 91 #[.agg #[.int .i64 n, .slice a es.length cap], .int .i64 u, .int .i64 v] w (GrPost w (remX n es u v)) := by
  have hck := fun W h => check_any n a cap es W h
  have hen := fun W => rends_any n u v W
  have h0 := Gr2.start w n (.slice a es.length cap)
  unfold remX chgE
  obtain ⟨C, hC⟩ : ∃ C, checkS n es = C := ⟨_, rfl⟩
  rw [hC] at hck ⊢
  by_cases hz : C = 0
  case neg =>
    rw [if_pos hz, if_pos hz]
    have d1 : (C != 0) = true := by simpa using hz
    clear hC hz
    go_enter Tryd.func91, Tryd.ntmps91
    go_wp2_with fail
    refine (hck _ (he.below h0.be)).mono ?_
    rintro e w1 ⟨rfl, hb1⟩
    have h1 := h0.next hb1
    clear hb1 h0
    have o0 := cell_blk (j := 0) h1.o
    have o1 := cell_blk (j := 1) h1.o
    have f0 := free_blk (j := 0) h1.o
    have f1 := free_blk (j := 1) h1.o
    obtain ⟨t0, t1, hef, hbf⟩ := h1.fin (N := 0) (a := none) (cap := 0) (ys := []) (edges_nil w1) (fun p h => by cases h)
    simp only [List.length_nil] at t0 t1 hef hbf
    clear h1 hck
    go_wp2_with fail
    exact bodyPost_ret (v := .tuple #[.agg #[.int .i64 0, .slice none 0 0], .int .i64 C]) (by simp [results, Tryd.results91, go_sem, t0, t1]) rfl ⟨none, 0, rfl, hef, (fun p h => by cases h), hbf⟩
  subst hz
  have hv := (valid_iff n es).1 hC
  have hel := hv.length_le
  rw [if_neg (show ¬ ((0 : Int) ≠ 0) by simp)]
  obtain ⟨B, hB⟩ : ∃ B, endsB n u v = B := ⟨_, rfl⟩
  rw [hB] at hen ⊢
  cases B with
  | false =>
    rw [if_neg (show ¬ (false = true) by simp), if_pos (show (6 : Int) ≠ 0 by decide)]
    clear hB hC
    go_enter Tryd.func91, Tryd.ntmps91
    go_wp2_with fail
    refine (hck _ (he.below h0.be)).mono ?_
    rintro e w1 ⟨rfl, hb1⟩
    have h1 := h0.next hb1
    clear hb1 h0
    have g0 := cell_blk (j := 0) h1.g
    go_wp2_with fail
    refine (hen _).mono ?_
    rintro e w2 ⟨rfl, rfl⟩
    have o0 := cell_blk (j := 0) h1.o
    have o1 := cell_blk (j := 1) h1.o
    have f0 := free_blk (j := 0) h1.o
    have f1 := free_blk (j := 1) h1.o
    obtain ⟨t0, t1, hef, hbf⟩ := h1.fin (N := 0) (a := none) (cap := 0) (ys := []) (edges_nil w1) (fun p h => by cases h)
    simp only [List.length_nil] at t0 t1 hef hbf
    clear h1 hck
    go_wp2_with fail
    exact bodyPost_ret (v := .tuple #[.agg #[.int .i64 0, .slice none 0 0], .int .i64 6]) (by simp [results, Tryd.results91, go_sem, t0, t1]) rfl ⟨none, 0, rfl, hef, (fun p h => by cases h), hbf⟩
  | true =>
    rw [if_pos rfl, if_neg (show ¬ ((0 : Int) ≠ 0) by simp)]
    have hfd := fun W h => find_any n a cap es u v W h hv
    by_cases hm : (min u v, max u v) ∈ es
    case neg =>
      rw [if_neg hm]
      have hs : findS es u v = -1 := find_no u v es 0 hm
      rw [hs] at hfd
      clear hB hC hm
      go_enter Tryd.func91, Tryd.ntmps91
      go_wp2_with fail
      refine (hck _ (he.below h0.be)).mono ?_
      rintro e w1 ⟨rfl, hb1⟩
      have h1 := h0.next hb1
      clear hb1 h0
      have g0 := cell_blk (j := 0) h1.g
      have g1 := cell_blk (j := 1) h1.g
      go_wp2_with fail
      refine (hen _).mono ?_
      rintro e w2 ⟨rfl, rfl⟩
      go_wp2_with fail
      refine (hfd _ (he.below h1.be)).mono ?_
      rintro e w3 ⟨rfl, hb3⟩
      have h3 := h1.next hb3
      clear hb3 h1 g0 g1
      have o0 := cell_blk (j := 0) h3.o
      have o1 := cell_blk (j := 1) h3.o
      have f0 := free_blk (j := 0) h3.o
      have f1 := free_blk (j := 1) h3.o
      obtain ⟨t0, t1, hef, hbf⟩ := h3.fin (N := 0) (a := none) (cap := 0) (ys := []) (edges_nil w3) (fun p h => by cases h)
      simp only [List.length_nil] at t0 t1 hef hbf
      clear h3 hck hfd
      go_wp2_with fail
      exact bodyPost_ret (v := .tuple #[.agg #[.int .i64 0, .slice none 0 0], .int .i64 7]) (by simp [results, Tryd.results91, go_sem, t0, t1]) rfl ⟨none, 0, rfl, hef, (fun p h => by cases h), hbf⟩
    rw [if_pos hm]
    have hs : 0 ≤ findS es u v := ff_pos es 0 _ hm
    obtain ⟨S, hS⟩ : ∃ S, findS es u v = S := ⟨_, rfl⟩
    rw [hS] at hfd hs
    have d2 : decide (S < 0) = false := decide_eq_false (by omega)
    have hdl : ∀ k, (delE (es.take k) (min u v, max u v)).length ≤ 4096 := fun k => Nat.le_trans (List.length_filter_le _ _) (by rw [List.length_take]; omega)
    obtain ⟨D, hD⟩ : ∃ D, delE es (min u v, max u v) = D := ⟨_, rfl⟩
    rw [hD]
    have HD := Lib.hid hD
    clear hB hC hS hm hD
    go_enter Tryd.func91, Tryd.ntmps91
    go_wp2_with fail
    refine (hck _ (he.below h0.be)).mono ?_
    rintro e w1 ⟨rfl, hb1⟩
    have h1 := h0.next hb1
    clear hb1 h0
    have g0 := cell_blk (j := 0) h1.g
    have g1 := cell_blk (j := 1) h1.g
    go_wp2_with fail
    refine (hen _).mono ?_
    rintro e w2 ⟨rfl, rfl⟩
    go_wp2_with fail
    refine (hfd _ (he.below h1.be)).mono ?_
    rintro e w3 ⟨rfl, hb3⟩
    have h3 := h1.next hb3
    have hx : Gr3 w n (.slice a es.length cap) w3.heap.size (.slice none 0 0) 0 (flatE []) (w3.alloc (.cells #[.int .i64 n, .slice none 0 0] 25)) :=
      ⟨h3.alloc _, heap_alloc_new _ _, World.ownsRow_nil _ _ _ _, h3.base⟩
    clear hb3 h1 g0 g1 hck hfd
    have g0 := cell_blk (j := 0) h3.g
    have g1 := cell_blk (j := 1) h3.g
    obtain ⟨H, hH⟩ : ∃ H, w3.heap.size = H := ⟨_, rfl⟩
    have k1 := cell_blk (j := 1) hx.g.g
    have he3 := he.below hx.g.be
    go_wp2_with fail
    rw [hH] at hx
    try rw [hH]
    obtain ⟨W3, hW3⟩ : ∃ W : World, W = w3.alloc (.cells #[.int .i64 n, .slice none 0 0] 25) := ⟨_, rfl⟩
    rw [← hW3] at hx he3 ⊢
    clear hW3 k1 g0 g1 h3 hH
    go_loopw [37] (fun i wr => ∃ k : Nat, k ≤ es.length ∧ i = .int .i64 k ∧ ∃ sl R, Hid (R = delE (es.take k) (min u v, max u v)) ∧ Gr3 w n (.slice a es.length cap) H sl R.length (flatE R) wr) (fun i _ => es.length - (intOf i).toNat)
    case atStart => exact ⟨0, Nat.zero_le _, rfl, _, [], rfl, hx⟩
    case round =>
      obtain ⟨k, hk, rfl, sl, R, HR, hS⟩ := hrel
      obtain ⟨av, cv, hvv⟩ := owns_shape hS.own
      subst hvv
      by_cases hlt : k < es.length
      · obtain ⟨b, off, x, y, rfl, _, _, htk, c0, c1⟩ := (he.below hS.g.be).at k hlt
        have hds := delE_snoc (es.take k) (min u v, max u v) (x, y)
        rw [← htk] at hds
        have hki : (k : Int) < es.length := by omega
        clear htk hx
        by_cases hxx : x = min u v
        · by_cases hyy : y = max u v
          · have HT : Hid (R = delE (es.take (k + 1)) (min u v, max u v)) := by show _ = _; rw [hds, if_pos (by rw [hxx, hyy]), List.append_nil, HR.out]
            clear hds HR
            subst hxx hyy
            go_wp2_with fail
            have e0 : ∀ z : Ext (wr.heap.size + 1) (wr.alloc (.cells #[.int .i64 (min u v), .int .i64 (max u v)] 39)), z.world.cell? ⟨wr.heap.size, 0, none⟩ = some (.int .i64 (min u v)) := fun z => cell_new z.below 0 _ rfl
            have e1 : ∀ z : Ext (wr.heap.size + 1) (wr.alloc (.cells #[.int .i64 (min u v), .int .i64 (max u v)] 39)), z.world.cell? ⟨wr.heap.size, 1, none⟩ = some (.int .i64 (max u v)) := fun z => cell_new z.below 1 _ rfl
            refine wp_region_ext (wr.heap.size + 1) (wr.alloc (.cells #[.int .i64 (min u v), .int .i64 (max u v)] 39)) (by kernel_rfl) (by kernel_rfl) (Below.refl _ _) ?_
            repeat (go_big_quiet_step ((go_at_call 132; exact Calls.ext_of (by simp) (edge_any u v _))))
            refine wpQuiet_nil ?_
            rintro wq ⟨⟨_, hq⟩, rfl⟩
            have hq2 : Below (wr.alloc (.cells #[.int .i64 (min u v), .int .i64 (max u v)] 39)).heap.size (wr.alloc (.cells #[.int .i64 (min u v), .int .i64 (max u v)] 39)) wq := by simpa using hq
            have hSq := (hS.alloc (.cells #[.int .i64 (min u v), .int .i64 (max u v)] 39)).next hq2
            clear e0 e1 hS c0 c1
            go_wp2_with fail
            go_roundw
            case rel => exact ⟨k + 1, by omega, by go_num, _, R, HT, hSq⟩
            case measure => simp [intOf]; omega
          · subst hxx
            have HT : Hid (R ++ [((min u v), y)] = delE (es.take (k + 1)) (min u v, max u v)) := by show _ = _; rw [hds, if_neg (fun e => by cases e; exact hyy rfl), HR.out]
            have hRl2 : (R ++ [((min u v), y)]).length ≤ 4096 := by rw [HT.out]; exact hdl _
            have hRl3 := hRl2
            rw [List.length_append] at hRl3
            clear hds HR
            go_wp2_with fail
            have e0 : ∀ z : Ext (wr.heap.size + 1) (wr.alloc (.cells #[.int .i64 (min u v), .int .i64 y] 39)), z.world.cell? ⟨wr.heap.size, 0, none⟩ = some (.int .i64 (min u v)) := fun z => cell_new z.below 0 _ rfl
            have e1 : ∀ z : Ext (wr.heap.size + 1) (wr.alloc (.cells #[.int .i64 (min u v), .int .i64 y] 39)), z.world.cell? ⟨wr.heap.size, 1, none⟩ = some (.int .i64 y) := fun z => cell_new z.below 1 _ rfl
            refine wp_region_ext (wr.heap.size + 1) (wr.alloc (.cells #[.int .i64 (min u v), .int .i64 y] 39)) (by kernel_rfl) (by kernel_rfl) (Below.refl _ _) ?_
            repeat (go_big_quiet_step ((go_at_call 132; exact Calls.ext_of (by simp) (edge_any u v _))))
            refine wpQuiet_nil ?_
            rintro wq ⟨⟨_, hq⟩, rfl⟩
            have hq2 : Below (wr.alloc (.cells #[.int .i64 (min u v), .int .i64 y] 39)).heap.size (wr.alloc (.cells #[.int .i64 (min u v), .int .i64 y] 39)) wq := by simpa using hq
            have hSq := (hS.alloc (.cells #[.int .i64 (min u v), .int .i64 y] 39)).next hq2
            have m0 : wq.cell? ⟨wr.heap.size, 0, none⟩ = some (.int .i64 (min u v)) := e0 ⟨wq, hq⟩
            have m1 : wq.cell? ⟨wr.heap.size, 1, none⟩ = some (.int .i64 y) := e1 ⟨wq, hq⟩
            clear e0 e1 hS c0 c1
            have hSA := hSq.alloc (.cells #[.int .i64 (min u v), .int .i64 y] 39)
            have h1 := cell_blk (j := 1) hSq.h
            have hl1 := edges_lit1 wq (min u v) y 39
            clear hSq hq hq2
            go_wp2_with (at_builtin; refine wpList_app_edges edgesT rfl _ _ rfl (H + 1) (.slice av R.length cv) _ R [((min u v), y)] rfl hSA.own rfl hl1 (by simp; omega) (by have := hSA.base; omega) ?_; intro v6 w6 hown6 hg6; rw [List.length_append, List.length_singleton] at hown6; obtain ⟨a6, c6, rfl⟩ := owns_shape hown6; have hH6 := grown_blk hg6 hSA.h (fun e => by have := (hSA.own.lt H e.symm).1; omega); have p1 := cell_blk (j := 1) hH6; have q1 := free_blk (j := 1) hH6)
            go_roundw
            case rel => exact ⟨k + 1, by omega, by go_num, _, R ++ [((min u v), y)], HT, by rw [List.length_append, List.length_singleton]; exact hSA.app hown6 hg6⟩
            case measure => simp [intOf]; omega
        · have HT : Hid (R ++ [(x, y)] = delE (es.take (k + 1)) (min u v, max u v)) := by show _ = _; rw [hds, if_neg (fun e => by cases e; exact hxx rfl), HR.out]
          have hRl2 : (R ++ [(x, y)]).length ≤ 4096 := by rw [HT.out]; exact hdl _
          have hRl3 := hRl2
          rw [List.length_append] at hRl3
          clear hds HR
          go_wp2_with fail
          have e0 : ∀ z : Ext (wr.heap.size + 1) (wr.alloc (.cells #[.int .i64 x, .int .i64 y] 39)), z.world.cell? ⟨wr.heap.size, 0, none⟩ = some (.int .i64 x) := fun z => cell_new z.below 0 _ rfl
          have e1 : ∀ z : Ext (wr.heap.size + 1) (wr.alloc (.cells #[.int .i64 x, .int .i64 y] 39)), z.world.cell? ⟨wr.heap.size, 1, none⟩ = some (.int .i64 y) := fun z => cell_new z.below 1 _ rfl
          refine wp_region_ext (wr.heap.size + 1) (wr.alloc (.cells #[.int .i64 x, .int .i64 y] 39)) (by kernel_rfl) (by kernel_rfl) (Below.refl _ _) ?_
          repeat (go_big_quiet_step ((go_at_call 132; exact Calls.ext_of (by simp) (edge_any u v _))))
          refine wpQuiet_nil ?_
          rintro wq ⟨⟨_, hq⟩, rfl⟩
          have hq2 : Below (wr.alloc (.cells #[.int .i64 x, .int .i64 y] 39)).heap.size (wr.alloc (.cells #[.int .i64 x, .int .i64 y] 39)) wq := by simpa using hq
          have hSq := (hS.alloc (.cells #[.int .i64 x, .int .i64 y] 39)).next hq2
          have m0 : wq.cell? ⟨wr.heap.size, 0, none⟩ = some (.int .i64 x) := e0 ⟨wq, hq⟩
          have m1 : wq.cell? ⟨wr.heap.size, 1, none⟩ = some (.int .i64 y) := e1 ⟨wq, hq⟩
          clear e0 e1 hS c0 c1
          have hSA := hSq.alloc (.cells #[.int .i64 x, .int .i64 y] 39)
          have h1 := cell_blk (j := 1) hSq.h
          have hl1 := edges_lit1 wq x y 39
          clear hSq hq hq2
          go_wp2_with (at_builtin; refine wpList_app_edges edgesT rfl _ _ rfl (H + 1) (.slice av R.length cv) _ R [(x, y)] rfl hSA.own rfl hl1 (by simp; omega) (by have := hSA.base; omega) ?_; intro v6 w6 hown6 hg6; rw [List.length_append, List.length_singleton] at hown6; obtain ⟨a6, c6, rfl⟩ := owns_shape hown6; have hH6 := grown_blk hg6 hSA.h (fun e => by have := (hSA.own.lt H e.symm).1; omega); have p1 := cell_blk (j := 1) hH6; have q1 := free_blk (j := 1) hH6)
          go_roundw
          case rel => exact ⟨k + 1, by omega, by go_num, _, R ++ [(x, y)], HT, by rw [List.length_append, List.length_singleton]; exact hSA.app hown6 hg6⟩
          case measure => simp [intOf]; omega
      · obtain rfl : k = es.length := by omega
        have hRD : R = D := by rw [HR.out, List.take_length]; exact HD.out
        subst hRD
        obtain ⟨a6, c6, hv6, he6, ha6⟩ := EdgesAt.of_owns hS.own (by have := hdl es.length; rw [List.take_length] at this; rw [HD.out] at this; omega)
        cases hv6
        have h0 := cell_blk (j := 0) hS.h
        have h1 := cell_blk (j := 1) hS.h
        have o0 := cell_blk (j := 0) hS.g.o
        have o1 := cell_blk (j := 1) hS.g.o
        have f0 := free_blk (j := 0) hS.g.o
        have f1 := free_blk (j := 1) hS.g.o
        have hHH := hS.hH
        obtain ⟨t0, t1, hef, hbf⟩ := hS.g.fin (N := n) he6 (fun p h => by have := ha6 p h; omega)
        clear HR hS
        go_wp2_with fail
        exact bodyPost_ret (v := .tuple #[.agg #[.int .i64 n, .slice av R.length cv], .int .i64 0]) (by simp [results, Tryd.results91, go_sem, t0, t1]) rfl ⟨av, cv, rfl, hef, (fun p h => by have := ha6 p h; omega), hbf⟩
end Go.Proofs.YtkknknehchnccaaDoor

namespace Go.Proofs.YtkknknehchnccaaDoor
open Go.RowKit Go.BigFrame

def cmpI : List Int → List Int → Int
  | x :: xs, y :: ys => if y < x then 1 else if x < y then -1 else cmpI xs ys
  | _, _ => 0
theorem cmpI_zero : ∀ (xs ys : List Int), xs.length = ys.length → (cmpI xs ys = 0 ↔ xs = ys) := by
  intro xs
  induction xs with
  | nil => intro ys h; cases ys with
    | nil => simp [cmpI]
    | cons y ys => simp at h
  | cons x xs ih =>
    intro ys h
    cases ys with
    | nil => simp at h
    | cons y ys =>
      unfold cmpI
      split
      · constructor
        · intro h; omega
        · intro h; obtain ⟨rfl, -⟩ := List.cons.inj h; omega
      · split
        · constructor
          · intro h; omega
          · intro h; obtain ⟨rfl, -⟩ := List.cons.inj h; omega
        · rw [ih ys (by simpa using h)]
          obtain rfl : x = y := by omega
          simp
theorem cmpI_drop (xs ys : List Int) (k : Nat) (x y : Int) (hx : xs[k]? = some x) (hy : ys[k]? = some y) : cmpI (xs.drop k) (ys.drop k) = if y < x then 1 else if x < y then -1 else cmpI (xs.drop (k + 1)) (ys.drop (k + 1)) := by
  obtain ⟨h1, rfl⟩ := List.getElem?_eq_some_iff.1 hx
  obtain ⟨h2, rfl⟩ := List.getElem?_eq_some_iff.1 hy
  rw [List.drop_eq_getElem_cons h1, List.drop_eq_getElem_cons h2]
  rfl
set_option maxRecDepth 100000 in
set_option maxHeartbeats 1600000 in
theorem icmp_any (a a2 : Option Addr) (cap cap2 : Nat) (xs ys : List Int) (w : World) (h1 : IntsAt w (.slice a xs.length cap) xs) (h2 : IntsAt w (.slice a2 ys.length cap2) ys) (hlen : xs.length = ys.length) :
    Calls Tryd.prog 62 #[.slice a xs.length cap, .slice a2 ys.length cap2] w fun e w' => e = .returned (.int .i64 (cmpI xs ys)) ∧ Below w.heap.size w w' := by
  have hl : ys.length ≤ 70368744177664 := by obtain ⟨_, _, hv, _, _, hl, _⟩ := h2; exact hl
  obtain ⟨C, hC⟩ : ∃ C, cmpI xs ys = C := ⟨_, rfl⟩
  rw [hC]
  have HC := Lib.hid hC
  have HLE := Lib.hid hlen
  have hself : decide (ys.length < ys.length) = false := by simp
  rw [hlen] at h1 ⊢
  clear hlen hC
  go_enter Tryd.func62, Tryd.ntmps62
  go_wp2_with fail
  go_loopw [8] (fun i wr => ∃ k : Nat, k ≤ ys.length ∧ i = .int .i64 k ∧ Hid (cmpI (xs.drop k) (ys.drop k) = C) ∧ Below w.heap.size w wr) (fun i _ => ys.length - (intOf i).toNat)
  case atStart => exact ⟨0, by omega, rfl, HC.out, Below.refl _ _⟩
  case round =>
    obtain ⟨k, hk, rfl, HR, hb⟩ := hrel
    by_cases hlt : k < ys.length
    · have h1' : IntsAt w (.slice a xs.length cap) xs := by rw [HLE.out]; exact h1
      obtain ⟨b, off, y, rfl, hy, -, c0⟩ := (h1'.below hb).at' k (by rw [HLE.out]; exact hlt)
      obtain ⟨b2, off2, y2, rfl, hy2, -, c2⟩ := (h2.below hb).at' k hlt
      have hR := HR.out
      rw [cmpI_drop xs ys k y y2 hy hy2] at hR
      have hd : decide ((ys.length : Int) ≤ k) = false := by simp; omega
      have hd2 : decide (ys.length ≤ k) = false := by simp; omega
      have hk3 : (k : Int) < ys.length := by omega
      clear hy hy2 h1' HR
      by_cases e1 : y2 < y
      · rw [if_pos e1] at hR
        subst hR
        have d1 : decide (y2 < y) = true := decide_eq_true e1
        clear e1
        go_wp2_with fail
        go_quiet (fail)
        go_wp2_with fail
        go_ret
        exact ⟨rfl, hb.drewN _⟩
      have d1 : decide (y2 < y) = false := decide_eq_false e1
      rw [if_neg e1] at hR
      by_cases e2 : y < y2
      · rw [if_pos e2] at hR
        subst hR
        have d2 : decide (y < y2) = true := decide_eq_true e2
        clear e1 e2
        go_wp2_with fail
        go_quiet (fail)
        go_wp2_with fail
        go_quiet (fail)
        go_wp2_with fail
        go_ret
        exact ⟨rfl, (hb.drewN _).drewN _⟩
      have d2 : decide (y < y2) = false := decide_eq_false e2
      rw [if_neg e2] at hR
      have HR2 := Lib.hid hR
      clear e1 e2 hR
      go_wp2_with fail
      go_quiet (fail)
      go_wp2_with fail
      go_quiet (fail)
      go_wp2_with fail
      go_roundw
      case rel => exact ⟨k + 1, by omega, by go_num, HR2.out, hb.drewN _⟩
      case measure => simp [intOf]; omega
    · obtain rfl : k = ys.length := by omega
      have hR := HR.out
      rw [show xs.drop ys.length = [] by rw [← HLE.out]; exact List.drop_length] at hR
      subst hR
      go_wp2_with fail
      go_ret
      exact ⟨by simp [cmpI], hb⟩
set_option maxRecDepth 100000 in
theorem isame_any (a a2 : Option Addr) (cap cap2 : Nat) (xs ys : List Int) (w : World) (h1 : IntsAt w (.slice a xs.length cap) xs) (h2 : IntsAt w (.slice a2 ys.length cap2) ys) :
    Calls Tryd.prog 17 #[.slice a xs.length cap, .slice a2 ys.length cap2] w fun e w' => e = .returned (.bool (decide (xs = ys))) ∧ Below w.heap.size w w' := by
  by_cases hlen : xs.length = ys.length
  · have hc := icmp_any a a2 cap cap2 xs ys w h1 h2 hlen
    have hz : (cmpI xs ys == 0) = decide (xs = ys) := by rw [Bool.eq_iff_iff, beq_iff_eq, decide_eq_true_eq]; exact cmpI_zero xs ys hlen
    obtain ⟨B, hB⟩ : ∃ B, decide (xs = ys) = B := ⟨_, rfl⟩
    rw [hB] at hz ⊢
    obtain ⟨C, hC⟩ : ∃ C, cmpI xs ys = C := ⟨_, rfl⟩
    rw [hC] at hc hz
    have d1 : ((xs.length : Int) == (ys.length : Int)) = true := by rw [beq_iff_eq]; omega
    clear hlen hB hC
    go_enter Tryd.func17, Tryd.ntmps17
    go_wp2_with (go_at_call 62; refine hc.mono ?_; rintro e w2 ⟨rfl, hb2⟩)
    go_ret
    exact ⟨rfl, hb2⟩
  · have d1 : ((xs.length : Int) == (ys.length : Int)) = false := by simp; omega
    rw [decide_eq_false (fun h => hlen (by rw [h]))]
    clear hlen
    go_enter Tryd.func17, Tryd.ntmps17
    go_wp2_with fail
    go_ret
    exact ⟨rfl, Below.refl _ _⟩
set_option maxRecDepth 100000 in
set_option maxHeartbeats 3200000 in
theorem rvalid11_any (n : Int) (a a2 : Option Addr) (cap c2 : Nat) (es : List E2) (l : List Int) (w : World) (he : EdgesAt w (.slice a es.length cap) es) (hi : IntsAt w (.slice a2 l.length c2) l) :
    Calls Tryd.prog 47 #[.agg #[.int .i64 n, .slice a es.length cap, .slice a2 l.length c2]] w fun e w' => e = .returned (.bool (crOk ⟨n, es, l⟩)) ∧ Below w.heap.size w w' := by
  have hb0 : Below w.heap.size w (w.alloc (.cells #[.int .i64 n, .slice a es.length cap, .slice a2 l.length c2] 62)) := (Below.refl _ _).alloc (Nat.le_refl _) _
  have hG0 := heap_alloc_new w (.cells #[.int .i64 n, .slice a es.length cap, .slice a2 l.length c2] 62)
  have hnu := fun W h1 => rnumbers10_any n a cap es W h1
  unfold TPost corX at hnu
  unfold crOk
  dsimp only
  obtain ⟨k0, k1, k2⟩ := cells3 hG0
  by_cases hC : checkS n es = 0
  case neg =>
    rw [if_pos hC] at hnu
    obtain ⟨C, hCC⟩ : ∃ C, checkS n es = C := ⟨_, rfl⟩
    rw [hCC] at hnu hC ⊢
    have d2 : (C == 0) = false := by simpa using hC
    rw [d2, Bool.false_and]
    clear hC hCC
    go_enter Tryd.func47, Tryd.ntmps47
    go_wp2_with fail
    refine (hnu _ (he.below hb0)).mono ?_
    rintro e w1 ⟨ai, ci, rfl, -, -, hb1⟩
    go_wp2_with fail
    go_ret
    exact ⟨rfl, hb0.trans (hb1.mono hb0.size)⟩
  rw [if_neg (by simpa using hC)] at hnu
  rw [hC, show ((0 : Int) == 0) = true from rfl, Bool.true_and]
  clear hC
  generalize corT es n.toNat = m at *
  dsimp only at hnu
  go_enter Tryd.func47, Tryd.ntmps47
  go_wp2_with fail
  refine (hnu _ (he.below hb0)).mono ?_
  rintro e w1 ⟨ai, ci, rfl, hi1, -, hb1⟩
  have hb01 := hb0.trans (hb1.mono hb0.size)
  have hG1 := lit_next' hb1 hG0
  clear k0 k1 k2
  obtain ⟨k0, k1, k2⟩ := cells3 hG1
  have heq := isame_any ai a2 ci c2 m l w1 hi1 (hi.below hb01)
  go_wp2_with (go_at_call 17; refine heq.mono ?_; rintro e w2 ⟨rfl, hb2⟩)
  go_ret
  exact ⟨rfl, hb01.trans (hb2.mono hb01.size)⟩
set_option maxRecDepth 100000 in
set_option maxHeartbeats 6400000 in
theorem rwrong11_any (n u v : Int) (a a2 : Option Addr) (cap c2 : Nat) (es : List E2) (l : List Int) (w : World) (he : EdgesAt w (.slice a es.length cap) es) (hi : IntsAt w (.slice a2 l.length c2) l) :
    Calls Tryd.prog 88 #[.agg #[.int .i64 n, .slice a es.length cap, .slice a2 l.length c2], .int .i64 u, .int .i64 v] w fun e w' => e = .returned (.int .i64 (crE ⟨n, es, l⟩ u v)) ∧ Below w.heap.size w w' := by
  have hb0 : Below w.heap.size w (w.alloc (.cells #[.int .i64 n, .slice a es.length cap, .slice a2 l.length c2] 62)) := (Below.refl _ _).alloc (Nat.le_refl _) _
  have hG0 := heap_alloc_new w (.cells #[.int .i64 n, .slice a es.length cap, .slice a2 l.length c2] 62)
  have hva := fun W h1 h2 => rvalid11_any n a a2 cap c2 es l W h1 h2
  unfold crE
  obtain ⟨k0, k1, k2⟩ := cells3 hG0
  cases hok : crOk ⟨n, es, l⟩ with
  | false =>
    rw [hok] at hva
    rw [if_pos rfl]
    clear hok
    go_enter Tryd.func88, Tryd.ntmps88
    go_wp2_with fail
    refine (hva _ (he.below hb0) (hi.below hb0)).mono ?_
    rintro e w1 ⟨rfl, hb1⟩
    go_wp2_with fail
    go_ret
    exact ⟨rfl, hb0.trans (hb1.mono hb0.size)⟩
  | true =>
  rw [hok] at hva
  rw [if_neg (by simp)]
  dsimp only
  clear hok
  by_cases c0 : u < 0
  · have d0 : decide (u < 0) = true := by simpa using c0
    rw [if_neg (fun h => by have := endsB_iff.1 h; omega)]
    clear c0
    go_enter Tryd.func88, Tryd.ntmps88
    go_wp2_with fail
    refine (hva _ (he.below hb0) (hi.below hb0)).mono ?_
    rintro e w1 ⟨rfl, hb1⟩
    have hG1 := lit_next' hb1 hG0
    clear k0 k1 k2
    obtain ⟨k0, k1, k2⟩ := cells3 hG1
    go_wp2_with fail
    go_ret
    exact ⟨rfl, hb0.trans (hb1.mono hb0.size)⟩
  have d0 : decide (u < 0) = false := by simpa using c0
  by_cases c1 : v < 0
  · have d1 : decide (v < 0) = true := by simpa using c1
    rw [if_neg (fun h => by have := endsB_iff.1 h; omega)]
    clear c0 c1
    go_enter Tryd.func88, Tryd.ntmps88
    go_wp2_with fail
    refine (hva _ (he.below hb0) (hi.below hb0)).mono ?_
    rintro e w1 ⟨rfl, hb1⟩
    have hG1 := lit_next' hb1 hG0
    clear k0 k1 k2
    obtain ⟨k0, k1, k2⟩ := cells3 hG1
    go_wp2_with fail
    go_ret
    exact ⟨rfl, hb0.trans (hb1.mono hb0.size)⟩
  have d1 : decide (v < 0) = false := by simpa using c1
  by_cases c2 : n ≤ u
  · have d2 : decide (n ≤ u) = true := by simpa using c2
    rw [if_neg (fun h => by have := endsB_iff.1 h; omega)]
    clear c0 c1 c2
    go_enter Tryd.func88, Tryd.ntmps88
    go_wp2_with fail
    refine (hva _ (he.below hb0) (hi.below hb0)).mono ?_
    rintro e w1 ⟨rfl, hb1⟩
    have hG1 := lit_next' hb1 hG0
    clear k0 k1 k2
    obtain ⟨k0, k1, k2⟩ := cells3 hG1
    go_wp2_with fail
    go_ret
    exact ⟨rfl, hb0.trans (hb1.mono hb0.size)⟩
  have d2 : decide (n ≤ u) = false := by simpa using c2
  by_cases c3 : n ≤ v
  · have d3 : decide (n ≤ v) = true := by simpa using c3
    rw [if_neg (fun h => by have := endsB_iff.1 h; omega)]
    clear c0 c1 c2 c3
    go_enter Tryd.func88, Tryd.ntmps88
    go_wp2_with fail
    refine (hva _ (he.below hb0) (hi.below hb0)).mono ?_
    rintro e w1 ⟨rfl, hb1⟩
    have hG1 := lit_next' hb1 hG0
    clear k0 k1 k2
    obtain ⟨k0, k1, k2⟩ := cells3 hG1
    go_wp2_with fail
    go_ret
    exact ⟨rfl, hb0.trans (hb1.mono hb0.size)⟩
  have d3 : decide (n ≤ v) = false := by simpa using c3
  by_cases c4 : u = v
  · have d4 : (u == v) = true := by simpa using c4
    rw [if_neg (fun h => by have := endsB_iff.1 h; omega)]
    clear c0 c1 c2 c3 c4
    go_enter Tryd.func88, Tryd.ntmps88
    go_wp2_with fail
    refine (hva _ (he.below hb0) (hi.below hb0)).mono ?_
    rintro e w1 ⟨rfl, hb1⟩
    have hG1 := lit_next' hb1 hG0
    clear k0 k1 k2
    obtain ⟨k0, k1, k2⟩ := cells3 hG1
    go_wp2_with fail
    go_ret
    exact ⟨rfl, hb0.trans (hb1.mono hb0.size)⟩
  have d4 : (u == v) = false := by simpa using c4
  rw [if_pos (endsB_iff.2 (by omega))]
  clear c0 c1 c2 c3 c4
  go_enter Tryd.func88, Tryd.ntmps88
  go_wp2_with fail
  refine (hva _ (he.below hb0) (hi.below hb0)).mono ?_
  rintro e w1 ⟨rfl, hb1⟩
  have hG1 := lit_next' hb1 hG0
  clear k0 k1 k2
  obtain ⟨k0, k1, k2⟩ := cells3 hG1
  go_wp2_with fail
  go_ret
  exact ⟨rfl, hb0.trans (hb1.mono hb0.size)⟩
theorem selL_snoc (k : Nat) (S : Nat → Bool) : selL (k + 1) S = selL k S ++ (if S k = true then [k] else []) := by
  unfold selL
  rw [List.range_succ, List.filter_append]
  congr 1
  cases h : S k <;> simp [h]
set_option maxRecDepth 100000 in
set_option maxHeartbeats 1600000 in
theorem rchanged_any (n : Nat) (a a2 : Option Addr) (cap c2 : Nat) (l m : List Int) (w : World) (h1 : IntsAt w (.slice a l.length cap) l) (h2 : IntsAt w (.slice a2 m.length c2) m) (hl : l.length = n) (hm : m.length = n) (hn : n ≤ 64) :
    Calls Tryd.prog 90 #[.slice a l.length cap, .slice a2 m.length c2] w fun e w' => ∃ a' c', e = .returned (.slice a' (chgL n l m).length c') ∧ IntsAt w' (.slice a' (chgL n l m).length c') (chgL n l m) ∧ (∀ p, a' = some p → w.heap.size ≤ p.block) ∧ Below w.heap.size w w' := by
  have HM := Lib.hid hm
  rw [hm] at h2 ⊢
  have HL := Lib.hid hl
  rw [hl] at h1 ⊢
  clear hl hm
  obtain ⟨S, hS⟩ : ∃ S : Nat → Bool, S = fun v => decide (l[v]?.getD 0 ≠ m[v]?.getD 0) := ⟨_, rfl⟩
  have hch : chgL n l m = castL (selL n S) := by rw [hS]; rfl
  rw [hch]
  have HS := Lib.hid hS
  clear hch hS
  go_enter Tryd.func90, Tryd.ntmps90
  go_wp2_with fail
  go_loopw [5, 9] (fun vo vi wr => ∃ k : Nat, k ≤ n ∧ vi = .int .i64 k ∧ (∃ P : List Int, Hid (P = castL (selL k S)) ∧ P.length ≤ k ∧ wr.ownsRow w.heap.size 3 1 vo P.length (intsV P)) ∧ Below w.heap.size w wr) (fun _ vi _ => n - (intOf vi).toNat)
  case atStart => exact ⟨0, Nat.zero_le _, rfl, ⟨[], (show _ = _ by simp [selL, castL]), Nat.le_refl _, World.ownsRow_nil _ _ _ _⟩, Below.refl _ _⟩
  case round =>
    obtain ⟨k, hk, rfl, ⟨P, HP, hPl, hown⟩, hb⟩ := hrel
    obtain ⟨ao, co, hvo⟩ := owns_shape hown
    subst hvo
    by_cases hlt : k < n
    · have hk3 : (k : Int) < n := by omega
      have h1' : IntsAt wr (.slice a l.length cap) l := by rw [HL.out]; exact h1.below hb
      have h2' : IntsAt wr (.slice a2 m.length c2) m := by rw [HM.out]; exact h2.below hb
      obtain ⟨b, off, y, rfl, hy, -, c0⟩ := h1'.at' k (by rw [HL.out]; exact hlt)
      obtain ⟨b2, off2, y2, rfl, hy2, -, c2'⟩ := h2'.at' k (by rw [HM.out]; exact hlt)
      have hSk : S k = (y != y2) := by rw [HS.out]; show decide (l[k]?.getD 0 ≠ m[k]?.getD 0) = _; rw [hy, hy2]; show decide (y ≠ y2) = _; by_cases h : y = y2 <;> simp [h]
      have htk := selL_snoc k S
      clear hy hy2 h1' h2'
      by_cases e : y = y2
      · have d1 : (y != y2) = false := by simpa using e
        rw [hSk, d1, if_neg (by simp), List.append_nil] at htk
        have HT : Hid (P = castL (selL (k + 1) S)) := (show _ = _ by rw [htk]; exact HP.out)
        clear e htk hSk
        go_wp2_with fail
        go_quiet (fail)
        go_wp2_with fail
        go_roundw
        case rel => exact ⟨k + 1, by omega, by go_num, ⟨P, HT.out, by omega, hown.kept (grown_of_below ((Below.refl wr.heap.size wr).drewN _)) (Classical.em _)⟩, hb.drewN _⟩
        case measure => simp [intOf]; omega
      · have d1 : (y != y2) = true := by simpa using e
        rw [hSk, d1, if_pos rfl] at htk
        have HT : Hid (P ++ [(k : Int)] = castL (selL (k + 1) S)) := (show _ = _ by rw [htk, castL_snoc, ← HP.out])
        clear e htk hSk
        go_wp2_with fail
        go_quiet (fail)
        have hownD := hown.kept (grown_of_below ((Below.refl wr.heap.size wr).drewN nq)) (Classical.em _)
        have hbD := hb.drewN nq
        go_wp2_with (at_builtin; refine wpList_app_ints intsT rfl _ _ rfl w.heap.size _ _ P [(k : Int)] rfl (hownD.alloc _) rfl (ints_lit1 _ _ _) (by simp; omega) (by have := hb.size; simp; omega) ?_; intro v6 w6 hown6 hg6)
        have hb6 := below_app' (hbD.alloc hbD.size _) (hownD.alloc _) hg6
        go_roundw
        case rel => exact ⟨k + 1, by omega, by go_num, ⟨P ++ [(k : Int)], HT.out, by simp; omega, hown6⟩, hb6⟩
        case measure => simp [intOf]; omega
    · obtain rfl : n = k := by omega
      have hPf := HP.out
      subst hPf
      obtain ⟨hi6, ho6⟩ := ints_of_owns hown (by omega)
      go_wp2_with fail
      go_ret
      exact ⟨ao, co, rfl, hi6, ho6, hb⟩
end Go.Proofs.YtkknknehchnccaaDoor

namespace Go.Proofs.YtkknknehchnccaaDoor
open Go.RowKit Go.BigFrame

set_option maxRecDepth 100000 in
set_option maxHeartbeats 6400000 in
theorem rinsert11_any (n u v : Int) (a a2 : Option Addr) (cap c2 : Nat) (es : List E2) (l : List Int) (w : World) (he : EdgesAt w (.slice a es.length cap) es) (hi : IntsAt w (.slice a2 l.length c2) l) :
    Calls Tryd.prog 50 #[.agg #[.int .i64 n, .slice a es.length cap, .slice a2 l.length c2], .int .i64 u, .int .i64 v] w (IPost w (cinsX ⟨n, es, l⟩ u v)) := by
  have h0 := Bx4.start w (.int .i64 n) (.slice a es.length cap) (.slice a2 l.length c2) (.int .i64 0) (.slice none 0 0) (.slice none 0 0)
  obtain ⟨wA, hwA⟩ : ∃ W : World, W = (w.alloc (.cells #[.int .i64 n, .slice a es.length cap, .slice a2 l.length c2] 62)).alloc (.cells #[.int .i64 0, .slice none 0 0, .slice none 0 0] 62) := ⟨_, rfl⟩
  rw [← hwA] at h0
  have HWA := Lib.hid hwA
  clear hwA
  have has := fun W h1 h2 => rwrong11_any n u v a a2 cap c2 es l W h1 h2
  unfold cinsX IPost
  obtain ⟨C, hC⟩ : ∃ C, crE ⟨n, es, l⟩ u v = C := ⟨_, rfl⟩
  rw [hC] at has ⊢
  obtain ⟨k0, k1, k2⟩ := cells3 h0.c
  by_cases hz : C = 0
  case neg =>
    rw [if_pos hz]
    have d1 : (C != 0) = true := by simpa using hz
    have d2 : (C == 0) = false := by simpa using hz
    clear hz hC
    go_enter Tryd.func50, Tryd.ntmps50
    go_wp2_with (rw [← HWA.out])
    refine (has wA (he.below h0.be) (hi.below h0.be)).mono ?_
    rintro e w1 ⟨rfl, hb1⟩
    have h1 := h0.next hb1
    obtain ⟨r0, r1, r2⟩ := cells3 h1.o
    obtain ⟨f0, f1, f2⟩ := frees3 h1.o
    have hF := h1.fin (.int .i64 0) (.slice none 0 0) (.slice none 0 0)
    have hbF := hF.be
    obtain ⟨t0, t1, t2⟩ := cells3 hF.o
    unfold set3 at t0 t1 t2 hbF
    clear hF h1 h0 hb1
    go_wp2_with fail
    exact bodyPost_ret (v := .tuple #[.agg #[.int .i64 0, .slice none 0 0, .slice none 0 0], .slice none 0 0, .int .i64 C]) (by simp [results, Tryd.results50, go_sem, t0, t1, t2]) rfl ⟨none, 0, none, 0, none, 0, rfl, CIn.void _ _, ints_nil _, fun p h => (by cases h), hbF⟩
  subst hz
  rw [if_neg (by simp)]
  obtain ⟨m, p, q, hv, hc, rfl, rfl, hp, hq, hne⟩ := crE_zero hC
  unfold crN at hc
  dsimp only at hc hv
  obtain ⟨rfl, -, rfl⟩ := Cr.mk.inj hc
  clear hC hc
  dsimp only
  simp only [Int.toNat_natCast]
  have hga := fun W h => radd_any (m : Int) a cap es (p : Int) (q : Int) W h
  have hch := crE_chg hv hp hq hne
  unfold GrPost addX at hga
  rw [hch, if_neg (by simp)] at hga
  by_cases hm : (min (p : Int) q, max (p : Int) q) ∈ es
  case pos =>
    rw [if_pos hm]
    rw [show (if (min (p : Int) q, max (p : Int) q) ∈ es then _ else _) = _ from if_pos hm] at hga
    dsimp only at hga
    simp only [List.length_nil] at hga
    go_enter Tryd.func50, Tryd.ntmps50
    go_wp2_with (rw [← HWA.out])
    refine (has wA (he.below h0.be) (hi.below h0.be)).mono ?_
    rintro e w1 ⟨rfl, hb1⟩
    have h1 := h0.next hb1
    clear k0 k1 k2
    obtain ⟨k0, k1, k2⟩ := cells3 h1.c
    go_wp2_with fail
    refine (hga w1 (he.below h1.be)).mono ?_
    rintro e w2 ⟨ag, cg, rfl, -, -, hb2⟩
    have h2 := h1.next hb2
    obtain ⟨-, hbb⟩ := box_new w2 #[.int .i64 0, .slice ag 0 cg] 25
    have h3 := h2.next hbb
    obtain ⟨w3, hw3⟩ : ∃ W : World, W = w2.alloc (.cells #[.int .i64 0, .slice ag 0 cg] 25) := ⟨_, rfl⟩
    rw [← hw3] at h3
    have HW3 := Lib.hid hw3
    obtain ⟨r0, r1, r2⟩ := cells3 h3.o
    obtain ⟨f0, f1, f2⟩ := frees3 h3.o
    have hF := h3.fin (.int .i64 0) (.slice none 0 0) (.slice none 0 0)
    have hbF := hF.be
    obtain ⟨t0, t1, t2⟩ := cells3 hF.o
    unfold set3 at t0 t1 t2 hbF
    have HBF := Lib.hid hbF
    clear hw3 hbF hF h3 h2 h1 h0 hb1 hb2 hbb k0 k1 k2 hch
    go_upto_region 5 with fail
    rw [← HW3.out]
    go_wp2_with fail
    exact bodyPost_ret (v := .tuple #[.agg #[.int .i64 0, .slice none 0 0, .slice none 0 0], .slice none 0 0, .int .i64 15]) (by simp [results, Tryd.results50, go_sem, t0, t1, t2]) rfl ⟨none, 0, none, 0, none, 0, rfl, CIn.void _ _, ints_nil _, fun p h => (by cases h), HBF.out⟩
  rw [if_neg hm]
  rw [show (if (min (p : Int) q, max (p : Int) q) ∈ es then _ else _) = _ from if_neg hm] at hga
  dsimp only at hga
  have hvf := hv.ins _ (ends_pair hp hq hne)
  have hm64 : m ≤ 64 := by have := hv.2.1; omega
  have hop := fun ag cg W h => ropen11_any (m : Int) ag cg (insE es (min (p : Int) q, max (p : Int) q)) W h
  rw [show copX (m : Int) (insE es (min (p : Int) q, max (p : Int) q)) = (crN m (insE es (min (p : Int) q, max (p : Int) q)), 0) by unfold copX; rw [(valid_iff _ _).2 hvf, if_neg (by simp)]; rfl] at hop
  have hchg := fun a3 c3 W h1 h2 => rchanged_any m a2 a3 c2 c3 (corT es m) (corT (insE es (min (p : Int) q, max (p : Int) q)) m) W h1 h2 (corT_length es m) (corT_length _ m) hm64
  unfold OPost crN at hop
  unfold crN
  dsimp only at hop ⊢
  generalize insE es (min (p : Int) q, max (p : Int) q) = fs at *
  generalize chgL m (corT es m) (corT fs m) = ch at *
  clear hm hch hvf
  generalize corT fs m = lf at *
  generalize corT es m = l at *
  go_enter Tryd.func50, Tryd.ntmps50
  go_wp2_with (rw [← HWA.out])
  refine (has wA (he.below h0.be) (hi.below h0.be)).mono ?_
  rintro e w1 ⟨rfl, hb1⟩
  have h1 := h0.next hb1
  clear k0 k1 k2
  obtain ⟨k0, k1, k2⟩ := cells3 h1.c
  go_wp2_with fail
  refine (hga w1 (he.below h1.be)).mono ?_
  rintro e w2 ⟨ag, cg, rfl, hga2, hag, hb2⟩
  have h2 := h1.next hb2
  obtain ⟨hbx, hbb⟩ := box_new w2 #[.int .i64 m, .slice ag fs.length cg] 25
  have h3 := h2.next hbb
  have hg3 := hga2.below hbb
  obtain ⟨w3, hw3⟩ : ∃ W : World, W = w2.alloc (.cells #[.int .i64 m, .slice ag fs.length cg] 25) := ⟨_, rfl⟩
  rw [← hw3] at hbx h3 hg3
  have HW3 := Lib.hid hw3
  clear hw3 k0 k1 k2 hb1 hb2 hbb h0 h1 h2
  obtain ⟨j0, j1⟩ := cells2 hbx
  go_wp2_with (rw [← HW3.out])
  refine (hop ag cg w3 hg3).mono ?_
  rintro e w4 ⟨ab, cb, a3, c3, rfl, hq4, hb4⟩
  have h4 := h3.next hb4
  have hz3 := h3.base
  obtain ⟨hcx, hcb⟩ := box_new w4 #[.int .i64 m, .slice ab fs.length cb, .slice a3 lf.length c3] 62
  have h5 := h4.next hcb
  have hq5 := hq4.below hcb
  have hz4 := hb4.size
  obtain ⟨X, hX⟩ : ∃ X, w4.heap.size = X := ⟨_, rfl⟩
  obtain ⟨w5, hw5⟩ : ∃ W : World, W = w4.alloc (.cells #[.int .i64 m, .slice ab fs.length cb, .slice a3 lf.length c3] 62) := ⟨_, rfl⟩
  rw [← hw5] at hcx h5 hq5
  rw [hX] at hcx hz4
  have HW5 := Lib.hid hw5
  have HX := Lib.hid hX
  clear hw5 hX hcb h4 h3 hb4 hg3 hga2 hq4 j0 j1 hbx hga hop
  have hc5d : w5.drew.heap[w.heap.size]? = _ := h5.c
  have ho5d : w5.drew.heap[w.heap.size + 1]? = _ := h5.o
  have hx5d : w5.drew.heap[X]? = _ := hcx
  have hbd : Below w5.heap.size w5 w5.drew := (Below.refl _ _).drew
  have hcg := hchg a3 c3 w5.drew ((hi.below h5.be).below hbd) (hq5.i.below hbd)
  have hS : ∀ W : World, W.heap[w.heap.size]? = some (.cells #[.int .i64 m, .slice a es.length cap, .slice a2 l.length c2] 62 (0, 0)) → W.heap[X]? = some (.cells #[.int .i64 m, .slice ab fs.length cb, .slice a3 lf.length c3] 62 (0, 0)) → W.cell? ⟨w.heap.size, 2, none⟩ = some (.slice a2 l.length c2) ∧ W.cell? ⟨X, 0, none⟩ = some (.int .i64 m) ∧ W.cell? ⟨X, 1, none⟩ = some (.slice ab fs.length cb) ∧ W.cell? ⟨X, 2, none⟩ = some (.slice a3 lf.length c3) := fun W h h' => ⟨(cells3 h).2.2, (cells3 h').1, (cells3 h').2.1, (cells3 h').2.2⟩
  go_upto_region 8 with fail
  rw [← HW5.out, HX.out]
  go_region_held3 (fun w' => w'.cell? ⟨w.heap.size, 2, none⟩ = some (.slice a2 l.length c2) ∧ w'.cell? ⟨X, 0, none⟩ = some (.int .i64 m) ∧ w'.cell? ⟨X, 1, none⟩ = some (.slice ab fs.length cb) ∧ w'.cell? ⟨X, 2, none⟩ = some (.slice a3 lf.length c3))
    (first
      | with_reducible exact hS _ hc6 hx6
      | with_reducible exact hS _ hc5d hx5d
      | with_reducible exact hSF)
    (first
      | (go_at_call 90; (with_reducible refine hcg.mono ?_); rintro _ w6 ⟨a4, c4, rfl, hi6, ha6, hb6⟩; have hc6 := lit_next' (w := w5.drew) hb6 hc5d; have hx6 := lit_next' (w := w5.drew) hb6 hx5d; have ho6 := lit_next' (w := w5.drew) hb6 ho5d; obtain ⟨s0, s1, s2⟩ := cells3 ho6; obtain ⟨q0, q1, q2⟩ := frees3 ho6; have hSF := hS (set3 w6 (w.heap.size + 1) (.int .i64 m) (.slice ab fs.length cb) (.slice a3 lf.length c3)) ((set3_other _ _ _ _ _ _ (by omega)).trans hc6) ((set3_other _ _ _ _ _ _ (by omega)).trans hx6); unfold set3 at hSF))
  have hgF := set3_grown w6 (w.heap.size + 1) (.int .i64 m) (.slice ab fs.length cb) (.slice a3 lf.length c3)
  have hF := set3_at ho6 (.int .i64 m) (.slice ab fs.length cb) (.slice a3 lf.length c3)
  have hb56 := hbd.trans (hb6.mono hbd.size)
  have hd5 : w5.drew.heap.size = w5.heap.size := rfl
  have hbF := (h5.be.trans (hb56.mono h5.be.size)).grown hgF (Nat.le_trans h5.be.size hb56.size) (fun k e => by cases e; omega)
  have hz5 := h5.base
  have hCF := ((hq5.below hb56).grown hgF (fun k e => by cases e; omega)).mono (show w.heap.size ≤ w3.heap.size by omega)
  have hiF := hi6.grown hgF (fun k e n' c' p hp => by cases e; have := ha6 p (Value.slice.inj hp).1; omega)
  have ha6' : ∀ p, a4 = some p → w.heap.size ≤ p.block := fun p hp => by have := ha6 p hp; omega
  obtain ⟨t0, t1, t2⟩ := cells3 hF
  unfold set3 at t0 t1 t2 hbF hCF hiF
  have HFF := Lib.hid (And.intro hCF (And.intro hiF hbF))
  clear hgF hF hbF hCF hiF hq5 hi6 h5 hb6 hb56 hc6 hx6 ho6 hSF
  go_wp2_with fail
  exact bodyPost_ret (v := .tuple #[.agg #[.int .i64 m, .slice ab fs.length cb, .slice a3 lf.length c3], .slice a4 ch.length c4, .int .i64 0]) (by simp [results, Tryd.results50, go_sem, t0, t1, t2]) rfl ⟨ab, cb, a3, c3, a4, c4, rfl, HFF.out.1, HFF.out.2.1, ha6', HFF.out.2.2⟩
set_option maxRecDepth 100000 in
set_option maxHeartbeats 6400000 in
theorem rdelete11_any (n u v : Int) (a a2 : Option Addr) (cap c2 : Nat) (es : List E2) (l : List Int) (w : World) (he : EdgesAt w (.slice a es.length cap) es) (hi : IntsAt w (.slice a2 l.length c2) l) :
    Calls Tryd.prog 51 #[.agg #[.int .i64 n, .slice a es.length cap, .slice a2 l.length c2], .int .i64 u, .int .i64 v] w (IPost w (cdelX ⟨n, es, l⟩ u v)) := by
  have h0 := Bx4.start w (.int .i64 n) (.slice a es.length cap) (.slice a2 l.length c2) (.int .i64 0) (.slice none 0 0) (.slice none 0 0)
  obtain ⟨wA, hwA⟩ : ∃ W : World, W = (w.alloc (.cells #[.int .i64 n, .slice a es.length cap, .slice a2 l.length c2] 62)).alloc (.cells #[.int .i64 0, .slice none 0 0, .slice none 0 0] 62) := ⟨_, rfl⟩
  rw [← hwA] at h0
  have HWA := Lib.hid hwA
  clear hwA
  have has := fun W h1 h2 => rwrong11_any n u v a a2 cap c2 es l W h1 h2
  unfold cdelX IPost
  obtain ⟨C, hC⟩ : ∃ C, crE ⟨n, es, l⟩ u v = C := ⟨_, rfl⟩
  rw [hC] at has ⊢
  obtain ⟨k0, k1, k2⟩ := cells3 h0.c
  by_cases hz : C = 0
  case neg =>
    rw [if_pos hz]
    have d1 : (C != 0) = true := by simpa using hz
    have d2 : (C == 0) = false := by simpa using hz
    clear hz hC
    go_enter Tryd.func51, Tryd.ntmps51
    go_wp2_with (rw [← HWA.out])
    refine (has wA (he.below h0.be) (hi.below h0.be)).mono ?_
    rintro e w1 ⟨rfl, hb1⟩
    have h1 := h0.next hb1
    obtain ⟨r0, r1, r2⟩ := cells3 h1.o
    obtain ⟨f0, f1, f2⟩ := frees3 h1.o
    have hF := h1.fin (.int .i64 0) (.slice none 0 0) (.slice none 0 0)
    have hbF := hF.be
    obtain ⟨t0, t1, t2⟩ := cells3 hF.o
    unfold set3 at t0 t1 t2 hbF
    clear hF h1 h0 hb1
    go_wp2_with fail
    exact bodyPost_ret (v := .tuple #[.agg #[.int .i64 0, .slice none 0 0, .slice none 0 0], .slice none 0 0, .int .i64 C]) (by simp [results, Tryd.results51, go_sem, t0, t1, t2]) rfl ⟨none, 0, none, 0, none, 0, rfl, CIn.void _ _, ints_nil _, fun p h => (by cases h), hbF⟩
  subst hz
  rw [if_neg (by simp)]
  obtain ⟨m, p, q, hv, hc, rfl, rfl, hp, hq, hne⟩ := crE_zero hC
  unfold crN at hc
  dsimp only at hc hv
  obtain ⟨rfl, -, rfl⟩ := Cr.mk.inj hc
  clear hC hc
  dsimp only
  simp only [Int.toNat_natCast]
  have hga := fun W h => rremove_any (m : Int) a cap es (p : Int) (q : Int) W h
  have hch := crE_chg hv hp hq hne
  unfold GrPost remX at hga
  rw [hch, if_neg (by simp)] at hga
  by_cases hm : (min (p : Int) q, max (p : Int) q) ∈ es
  case neg =>
    rw [if_neg hm]
    rw [show (if (min (p : Int) q, max (p : Int) q) ∈ es then _ else _) = _ from if_neg hm] at hga
    dsimp only at hga
    simp only [List.length_nil] at hga
    go_enter Tryd.func51, Tryd.ntmps51
    go_wp2_with (rw [← HWA.out])
    refine (has wA (he.below h0.be) (hi.below h0.be)).mono ?_
    rintro e w1 ⟨rfl, hb1⟩
    have h1 := h0.next hb1
    clear k0 k1 k2
    obtain ⟨k0, k1, k2⟩ := cells3 h1.c
    go_wp2_with fail
    refine (hga w1 (he.below h1.be)).mono ?_
    rintro e w2 ⟨ag, cg, rfl, -, -, hb2⟩
    have h2 := h1.next hb2
    obtain ⟨-, hbb⟩ := box_new w2 #[.int .i64 0, .slice ag 0 cg] 25
    have h3 := h2.next hbb
    obtain ⟨w3, hw3⟩ : ∃ W : World, W = w2.alloc (.cells #[.int .i64 0, .slice ag 0 cg] 25) := ⟨_, rfl⟩
    rw [← hw3] at h3
    have HW3 := Lib.hid hw3
    obtain ⟨r0, r1, r2⟩ := cells3 h3.o
    obtain ⟨f0, f1, f2⟩ := frees3 h3.o
    have hF := h3.fin (.int .i64 0) (.slice none 0 0) (.slice none 0 0)
    have hbF := hF.be
    obtain ⟨t0, t1, t2⟩ := cells3 hF.o
    unfold set3 at t0 t1 t2 hbF
    have HBF := Lib.hid hbF
    clear hw3 hbF hF h3 h2 h1 h0 hb1 hb2 hbb k0 k1 k2 hch
    go_upto_region 5 with fail
    rw [← HW3.out]
    go_wp2_with fail
    exact bodyPost_ret (v := .tuple #[.agg #[.int .i64 0, .slice none 0 0, .slice none 0 0], .slice none 0 0, .int .i64 7]) (by simp [results, Tryd.results51, go_sem, t0, t1, t2]) rfl ⟨none, 0, none, 0, none, 0, rfl, CIn.void _ _, ints_nil _, fun p h => (by cases h), HBF.out⟩
  rw [if_pos hm]
  rw [show (if (min (p : Int) q, max (p : Int) q) ∈ es then _ else _) = _ from if_pos hm] at hga
  dsimp only at hga
  have hvf := hv.del (min (p : Int) q, max (p : Int) q)
  have hm64 : m ≤ 64 := by have := hv.2.1; omega
  have hop := fun ag cg W h => ropen11_any (m : Int) ag cg (delE es (min (p : Int) q, max (p : Int) q)) W h
  rw [show copX (m : Int) (delE es (min (p : Int) q, max (p : Int) q)) = (crN m (delE es (min (p : Int) q, max (p : Int) q)), 0) by unfold copX; rw [(valid_iff _ _).2 hvf, if_neg (by simp)]; rfl] at hop
  have hchg := fun a3 c3 W h1 h2 => rchanged_any m a2 a3 c2 c3 (corT es m) (corT (delE es (min (p : Int) q, max (p : Int) q)) m) W h1 h2 (corT_length es m) (corT_length _ m) hm64
  unfold OPost crN at hop
  unfold crN
  dsimp only at hop ⊢
  generalize delE es (min (p : Int) q, max (p : Int) q) = fs at *
  generalize chgL m (corT es m) (corT fs m) = ch at *
  clear hm hch hvf
  generalize corT fs m = lf at *
  generalize corT es m = l at *
  go_enter Tryd.func51, Tryd.ntmps51
  go_wp2_with (rw [← HWA.out])
  refine (has wA (he.below h0.be) (hi.below h0.be)).mono ?_
  rintro e w1 ⟨rfl, hb1⟩
  have h1 := h0.next hb1
  clear k0 k1 k2
  obtain ⟨k0, k1, k2⟩ := cells3 h1.c
  go_wp2_with fail
  refine (hga w1 (he.below h1.be)).mono ?_
  rintro e w2 ⟨ag, cg, rfl, hga2, hag, hb2⟩
  have h2 := h1.next hb2
  obtain ⟨hbx, hbb⟩ := box_new w2 #[.int .i64 m, .slice ag fs.length cg] 25
  have h3 := h2.next hbb
  have hg3 := hga2.below hbb
  obtain ⟨w3, hw3⟩ : ∃ W : World, W = w2.alloc (.cells #[.int .i64 m, .slice ag fs.length cg] 25) := ⟨_, rfl⟩
  rw [← hw3] at hbx h3 hg3
  have HW3 := Lib.hid hw3
  clear hw3 k0 k1 k2 hb1 hb2 hbb h0 h1 h2
  obtain ⟨j0, j1⟩ := cells2 hbx
  go_wp2_with (rw [← HW3.out])
  refine (hop ag cg w3 hg3).mono ?_
  rintro e w4 ⟨ab, cb, a3, c3, rfl, hq4, hb4⟩
  have h4 := h3.next hb4
  have hz3 := h3.base
  obtain ⟨hcx, hcb⟩ := box_new w4 #[.int .i64 m, .slice ab fs.length cb, .slice a3 lf.length c3] 62
  have h5 := h4.next hcb
  have hq5 := hq4.below hcb
  have hz4 := hb4.size
  obtain ⟨X, hX⟩ : ∃ X, w4.heap.size = X := ⟨_, rfl⟩
  obtain ⟨w5, hw5⟩ : ∃ W : World, W = w4.alloc (.cells #[.int .i64 m, .slice ab fs.length cb, .slice a3 lf.length c3] 62) := ⟨_, rfl⟩
  rw [← hw5] at hcx h5 hq5
  rw [hX] at hcx hz4
  have HW5 := Lib.hid hw5
  have HX := Lib.hid hX
  clear hw5 hX hcb h4 h3 hb4 hg3 hga2 hq4 j0 j1 hbx hga hop
  have hc5d : w5.drew.heap[w.heap.size]? = _ := h5.c
  have ho5d : w5.drew.heap[w.heap.size + 1]? = _ := h5.o
  have hx5d : w5.drew.heap[X]? = _ := hcx
  have hbd : Below w5.heap.size w5 w5.drew := (Below.refl _ _).drew
  have hcg := hchg a3 c3 w5.drew ((hi.below h5.be).below hbd) (hq5.i.below hbd)
  have hS : ∀ W : World, W.heap[w.heap.size]? = some (.cells #[.int .i64 m, .slice a es.length cap, .slice a2 l.length c2] 62 (0, 0)) → W.heap[X]? = some (.cells #[.int .i64 m, .slice ab fs.length cb, .slice a3 lf.length c3] 62 (0, 0)) → W.cell? ⟨w.heap.size, 2, none⟩ = some (.slice a2 l.length c2) ∧ W.cell? ⟨X, 0, none⟩ = some (.int .i64 m) ∧ W.cell? ⟨X, 1, none⟩ = some (.slice ab fs.length cb) ∧ W.cell? ⟨X, 2, none⟩ = some (.slice a3 lf.length c3) := fun W h h' => ⟨(cells3 h).2.2, (cells3 h').1, (cells3 h').2.1, (cells3 h').2.2⟩
  go_upto_region 8 with fail
  rw [← HW5.out, HX.out]
  go_region_held3 (fun w' => w'.cell? ⟨w.heap.size, 2, none⟩ = some (.slice a2 l.length c2) ∧ w'.cell? ⟨X, 0, none⟩ = some (.int .i64 m) ∧ w'.cell? ⟨X, 1, none⟩ = some (.slice ab fs.length cb) ∧ w'.cell? ⟨X, 2, none⟩ = some (.slice a3 lf.length c3))
    (first
      | with_reducible exact hS _ hc6 hx6
      | with_reducible exact hS _ hc5d hx5d
      | with_reducible exact hSF)
    (first
      | (go_at_call 90; (with_reducible refine hcg.mono ?_); rintro _ w6 ⟨a4, c4, rfl, hi6, ha6, hb6⟩; have hc6 := lit_next' (w := w5.drew) hb6 hc5d; have hx6 := lit_next' (w := w5.drew) hb6 hx5d; have ho6 := lit_next' (w := w5.drew) hb6 ho5d; obtain ⟨s0, s1, s2⟩ := cells3 ho6; obtain ⟨q0, q1, q2⟩ := frees3 ho6; have hSF := hS (set3 w6 (w.heap.size + 1) (.int .i64 m) (.slice ab fs.length cb) (.slice a3 lf.length c3)) ((set3_other _ _ _ _ _ _ (by omega)).trans hc6) ((set3_other _ _ _ _ _ _ (by omega)).trans hx6); unfold set3 at hSF))
  have hgF := set3_grown w6 (w.heap.size + 1) (.int .i64 m) (.slice ab fs.length cb) (.slice a3 lf.length c3)
  have hF := set3_at ho6 (.int .i64 m) (.slice ab fs.length cb) (.slice a3 lf.length c3)
  have hb56 := hbd.trans (hb6.mono hbd.size)
  have hd5 : w5.drew.heap.size = w5.heap.size := rfl
  have hbF := (h5.be.trans (hb56.mono h5.be.size)).grown hgF (Nat.le_trans h5.be.size hb56.size) (fun k e => by cases e; omega)
  have hz5 := h5.base
  have hCF := ((hq5.below hb56).grown hgF (fun k e => by cases e; omega)).mono (show w.heap.size ≤ w3.heap.size by omega)
  have hiF := hi6.grown hgF (fun k e n' c' p hp => by cases e; have := ha6 p (Value.slice.inj hp).1; omega)
  have ha6' : ∀ p, a4 = some p → w.heap.size ≤ p.block := fun p hp => by have := ha6 p hp; omega
  obtain ⟨t0, t1, t2⟩ := cells3 hF
  unfold set3 at t0 t1 t2 hbF hCF hiF
  have HFF := Lib.hid (And.intro hCF (And.intro hiF hbF))
  clear hgF hF hbF hCF hiF hq5 hi6 h5 hb6 hb56 hc6 hx6 ho6 hSF
  go_wp2_with fail
  exact bodyPost_ret (v := .tuple #[.agg #[.int .i64 m, .slice ab fs.length cb, .slice a3 lf.length c3], .slice a4 ch.length c4, .int .i64 0]) (by simp [results, Tryd.results51, go_sem, t0, t1, t2]) rfl ⟨ab, cb, a3, c3, a4, c4, rfl, HFF.out.1, HFF.out.2.1, ha6', HFF.out.2.2⟩
end Go.Proofs.YtkknknehchnccaaDoor

namespace Go.Proofs.YtkknknehchnccaaDoor
open Go.RowKit Go.BigFrame

set_option maxRecDepth 100000 in
set_option maxHeartbeats 3200000 in
theorem rnumbers10_own (n : Nat) (a : Option Addr) (cap : Nat) (es : List E2) (w : World) (he : EdgesAt w (.slice a es.length cap) es) (hv : Valid n es) :
    Calls Tryd.prog 15 #[.agg #[.int .i64 n, .slice a es.length cap]] w fun e w' => ∃ g, e = .returned (.tuple #[.slice (some ⟨g, 0, none⟩) n n, .int .i64 0]) ∧ NumAt w' g (corT es n) ∧ w.heap.size ≤ g ∧ Below w.heap.size w w' := by
  have hb0 : Below w.heap.size w (w.alloc (.cells #[.int .i64 n, .slice a es.length cap] 25)) := (Below.refl _ _).alloc (Nat.le_refl _) _
  have hG0 := heap_alloc_new w (.cells #[.int .i64 n, .slice a es.length cap] 25)
  have hck := fun W h => check_any (n : Int) a cap es W h
  rw [(valid_iff n es).2 hv] at hck
  have hel := hv.length_le
  have hn64 := hv.2.1
  have hmk := make_ints n (by omega)
  go_enter Tryd.func15, Tryd.ntmps15
  go_wp2_with fail
  refine (hck _ (he.below hb0)).mono ?_
  rintro e w1 ⟨rfl, hb1⟩
  have hb01 := hb0.trans (hb1.mono hb0.size)
  have hG1 := lit_next' hb1 hG0
  have g1 : w1.cell? ⟨w.heap.size, 0, none⟩ = some (.int .i64 n) := by rw [cell_blk hG1]; rfl
  have hF0 : Hid (∀ x, x < n → (0 : Int) = min (corF es n x) (((1 : Nat) : Int) - 1)) := (show _ from fun x hx => by
    obtain ⟨c, hc⟩ := cor_nat es n x hx
    omega)
  clear hck hG0 hb0 hb1
  go_wp2_with fail
  have hN0 : NumAt (w1.alloc (.cells (intsV (List.replicate n 0)).toArray 3)) w1.heap.size (fnL n (fun _ => 0)) := by
    rw [← fnL_zero]; exact heap_alloc_new _ _
  have hbA := (Below.refl w1.heap.size w1).alloc (Nat.le_refl _) (.cells (intsV (List.replicate n 0)).toArray 3)
  obtain ⟨wA, hwA⟩ : ∃ W : World, W = w1.alloc (.cells (intsV (List.replicate n 0)).toArray 3) := ⟨_, rfl⟩
  rw [← hwA] at hN0 hbA ⊢
  obtain ⟨s0, hs0⟩ : ∃ s, w1.heap.size = s := ⟨_, rfl⟩
  have hws : w.heap.size ≤ s0 := by rw [← hs0]; exact hb01.size
  have HS := Lib.hid hs0
  rw [hs0] at hN0 hbA ⊢
  clear hwA hmk g1 hs0
  go_loopw [6] (fun vk wr => ∃ k : Nat, 1 ≤ k ∧ k ≤ 65 ∧ vk = .int .i64 k ∧ (∃ F, NumAt wr s0 (fnL n F) ∧ Hid (∀ x, x < n → F x = min (corF es n x) ((k : Int) - 1))) ∧ Below s0 w1 wr) (fun vk _ => 65 - (intOf vk).toNat)
  case atStart => exact ⟨1, Nat.le_refl _, by omega, rfl, ⟨_, hN0, hF0⟩, hbA⟩
  case round =>
    clear hN0 hF0 hbA
    obtain ⟨k, hk1, hk65, rfl, ⟨F, hN, HF⟩, hb⟩ := hrel
    have hbw : Below w1.heap.size w1 wr := by rw [HS.out]; exact hb
    have hb0w := hb01.trans (hbw.mono hb01.size)
    have hG := lit_next' hbw hG1
    have g0 : wr.cell? ⟨w.heap.size, 0, none⟩ = some (.int .i64 n) := by rw [cell_blk hG]; rfl
    have g1 : wr.cell? ⟨w.heap.size, 1, none⟩ = some (.slice a es.length cap) := by rw [cell_blk hG]; rfl
    by_cases hlt : k < n
    · have hlt3 : (k : Int) < n := by omega
      have htr := rcore10_any n (k : Int) a cap es _ (he.below hb0w) hv
      have hlen : (castL (corI es n k)).length ≤ n := by rw [castL_length]; exact selL_len _ _
      clear hG
      go_wp2_with fail
      refine htr.mono ?_
      rintro e w3 ⟨a3, c3, rfl, hi3, ha3, hb3⟩
      have hq3 : ∀ p, a3 = some p → p.block ≠ s0 := fun p hp => by have := ha3 p hp; have := blk_lt hN; omega
      have hb13 : Below s0 w1 w3 := hb.trans (hb3.mono (by have := hb.size; have := HS.out; omega))
      have hN3 : NumAt w3 _ _ := lit_next' hb3 hN
      have hoff3 : ∀ x, F x = F x := fun _ => rfl
      · have hF1 : Hid (∀ x, x < n → F x = if x ∈ (corI es n k).take 0 then (k : Int) else min (corF es n x) ((k : Int) - 1)) := (show _ from fun x hx => by rw [HF.out x hx]; simp)
        clear hN hoff3 htr HF
        go_wp2_with fail
        go_loopw [27] (fun vi wr => ∃ t : Nat, t ≤ (castL (corI es n k)).length ∧ vi = .int .i64 t ∧ (∃ F, NumAt wr s0 (fnL n F) ∧ Hid (∀ x, x < n → F x = if x ∈ (corI es n k).take t then (k : Int) else min (corF es n x) ((k : Int) - 1))) ∧ w3.grownBy wr (some s0)) (fun vi _ => (castL (corI es n k)).length - (intOf vi).toNat)
        case atStart => exact ⟨0, Nat.zero_le _, rfl, ⟨F, hN3, hF1⟩, grown_refl _ _⟩
        case round =>
          clear hN3 hF1
          obtain ⟨t, ht, rfl, ⟨F, hN, HF⟩, hgr⟩ := hrel
          by_cases hltt : t < (castL (corI es n k)).length
          · have hts : t < (corI es n k).length := by rw [castL_length] at hltt; exact hltt
            have hx : (corI es n k)[t]? = some ((corI es n k)[t]'hts) := List.getElem?_eq_getElem hts
            obtain ⟨x, hxx⟩ : ∃ x, ((corI es n k)[t]'hts) = x := ⟨_, rfl⟩
            rw [hxx] at hx
            have hxl := ((corI_mem es n k x).1 (List.mem_of_getElem? hx)).1
            have hiw := hi3.grown hgr (fun g e n' c' p hp => by cases e; exact hq3 p (Value.slice.inj hp).1)
            obtain ⟨b9, o9, z, rfl, hz, _, _, c0⟩ := hiw.at t hltt
            have hzx : z = x := by
              unfold castL at hz
              rw [List.getElem?_map, hx] at hz
              exact (Option.some.inj hz).symm
            subst hzx
            have hltt3 : (t : Int) < (castL (corI es n k)).length := by omega
            have hxl3 : (x : Int) < n := by omega
            have p0 := numAt_fn hN x hxl
            have pf : ∀ j, wr.frozen? ⟨s0, j, none⟩ = false := fun j => free_blk hN
            have hst := numAt_set hN x (k : Int)
            have hF2 : Hid (∀ y, y < n → (if y = x then (k : Int) else F y) = if y ∈ (corI es n k).take (t + 1) then (k : Int) else min (corF es n y) ((k : Int) - 1)) := (show _ from fun y hy => by
              rw [take_at _ _ _ hx]
              by_cases e : y = x
              · subst e; rw [if_pos rfl, if_pos (by simp)]
              · rw [if_neg e, HF.out y hy]
                simp only [List.mem_append, List.mem_singleton, e, or_false])
            have hgr2 : w3.grownBy (wr.setCell ⟨s0, x, none⟩ (.int .i64 (k : Int))) (some s0) := grown_trans hgr ⟨rfl, rfl, rfl, by simp, fun k _ hk => Below.heap_setCell _ _ _ _ (fun e => hk (by simp [e]))⟩
            clear hN HF hx hxx hts hz hiw
            go_wp2_with fail
            go_roundw
            case rel => exact ⟨t + 1, by omega, by go_num, ⟨_, hst, hF2⟩, hgr2⟩
            case measure => simp [intOf]; omega
          · obtain rfl : t = (castL (corI es n k)).length := by omega
            have hF3 : Hid (∀ x, x < n → F x = min (corF es n x) (((k + 1 : Nat) : Int) - 1)) := (show _ from fun x hx => by
              rw [HF.out x hx, castL_length, List.take_length]
              by_cases h : x ∈ corI es n k
              · rw [if_pos h]
                have := ((corI_mem es n k x).1 h).2
                omega
              · rw [if_neg h]
                rw [corI_mem] at h
                omega)
            have hb14 : Below s0 w1 wr := hb13.grown hgr (by have := hb13.size; have := HS.out; omega) (fun g e => by cases e; exact Nat.le_refl _)
            clear HF hgr
            go_wp2_with fail
            go_roundw
            case rel => exact ⟨k + 1, by omega, by omega, by go_num, ⟨F, hN, hF3⟩, hb14⟩
            case measure => simp [intOf]; omega
    · have hall : fnL n F = corT es n := fnL_congr _ _ _ fun x hx => by
        rw [HF.out x hx]
        have h := cor_lt hv x hx
        show min (corF es n x) _ = corF es n x
        omega
      rw [hall] at hN
      have hlt3 : ¬ (k : Int) < n := by omega
      have HN := Lib.hid hN
      clear hN hall
      go_wp2_with fail
      go_ret2
      exact ⟨s0, rfl, HN.out, hws, hb0w⟩
set_option maxRecDepth 100000 in
set_option maxHeartbeats 3200000 in
theorem ropen11_own (n : Nat) (a : Option Addr) (cap : Nat) (es : List E2) (w : World) (he : EdgesAt w (.slice a es.length cap) es) (hv : Valid n es) :
    Calls Tryd.prog 38 #[.agg #[.int .i64 n, .slice a es.length cap]] w fun e w' => ∃ a4 c4 g, e = .returned (.tuple #[.agg #[.int .i64 n, .slice a4 es.length c4, .slice (some ⟨g, 0, none⟩) n n], .int .i64 0]) ∧ EdgesAt w' (.slice a4 es.length c4) es ∧ NumAt w' g (corT es n) ∧ w.heap.size ≤ g ∧ (∀ p, a4 = some p → g < p.block) ∧ Below w.heap.size w w' := by
  have hnu := fun W h1 => rnumbers10_own n a cap es W h1 hv
  have hg0 := heap_alloc_new w (.cells #[.int .i64 n, .slice a es.length cap] 25)
  obtain ⟨wA, hwA⟩ : ∃ W : World, W = (w.alloc (.cells #[.int .i64 n, .slice a es.length cap] 25)).alloc (.cells #[.int .i64 0, .slice none 0 0, .slice none 0 0] 62) := ⟨_, rfl⟩
  have hGA : wA.heap[w.heap.size]? = some (.cells #[.int .i64 n, .slice a es.length cap] 25 (0, 0)) := by rw [hwA, Below.heap_alloc _ _ _ (by simp)]; exact hg0
  have hRA : wA.heap[w.heap.size + 1]? = some (.cells #[.int .i64 0, .slice none 0 0, .slice none 0 0] 62 (0, 0)) := by
    rw [hwA]
    have := heap_alloc_new (w.alloc (.cells #[.int .i64 n, .slice a es.length cap] 25)) (.cells #[.int .i64 0, .slice none 0 0, .slice none 0 0] 62)
    simpa using this
  have hbA : Below w.heap.size w wA := by rw [hwA]; exact ((Below.refl _ _).alloc (Nat.le_refl _) _).alloc (by simp) _
  have HWA := Lib.hid hwA
  clear hwA hg0
  obtain ⟨k0, k1⟩ := cells2 hGA
  have hel := hv.length_le
  have hn64 := hv.2.1
  generalize corT es n = l at *
  go_enter Tryd.func38, Tryd.ntmps38
  go_wp2_with (rw [← HWA.out])
  refine (hnu wA (he.below hbA)).mono ?_
  rintro e w1 ⟨g, rfl, hN1, hgA, hb1⟩
  have hG1 := lit_next' hb1 hGA
  have hR1 := lit_next' hb1 hRA
  have hbw1 := hbA.trans (hb1.mono hbA.size)
  have hzA : w.heap.size + 1 < wA.heap.size := blk_lt hRA
  have hcx : ∀ W : World, W.heap[w.heap.size]? = some (.cells #[.int .i64 n, .slice a es.length cap] 25 (0, 0)) → W.cell? ⟨w.heap.size, 0, none⟩ = some (.int .i64 n) ∧ W.cell? ⟨w.heap.size, 1, none⟩ = some (.slice a es.length cap) := fun W h => cells2 h
  have hG1d : w1.drew.heap[w.heap.size]? = some (.cells #[.int .i64 n, .slice a es.length cap] 25 (0, 0)) := hG1
  have hed := he.below hbw1.drew
  clear k0 k1 hGA hRA hnu
  go_wp2_with fail
  go_region_held3 (fun w' => w'.cell? ⟨w.heap.size, 0, none⟩ = some (.int .i64 n) ∧ w'.cell? ⟨w.heap.size, 1, none⟩ = some (.slice a es.length cap))
    (first
      | with_reducible exact hcx _ hG4
      | with_reducible exact hcx _ hG1d
      | with_reducible exact hcxF)
    (first
      | (refine step_app_edges edgesT rfl (.const (.slice none 0 0)) (.tmp 18) rfl w1.drew.heap.size (.slice none 0 0) (.slice a es.length cap) [] es rfl (by exact World.ownsRow_nil _ _ _ _) rfl (by exact hed) (by simp; omega) (Nat.le_refl _) ?_; intro x4 w4 hown4 hg4; have hb4 := below_of_grown hg4; simp only [List.nil_append] at hown4; obtain ⟨a4, c4, rfl, he4, ha4⟩ := EdgesAt.of_owns hown4 (by omega); have hG4 := lit_next' (w := w1.drew) hb4 hG1d; have hR4 := lit_next' (w := w1.drew) hb4 hR1; obtain ⟨s0, s1, s2⟩ := cells3 hR4; obtain ⟨q0, q1, q2⟩ := frees3 hR4; have hcxF := hcx _ ((set3_other w4 (w.heap.size + 1) w.heap.size (.int .i64 n) (.slice a4 es.length c4) (.slice (some ⟨g, 0, none⟩) n n) (by omega)).trans hG4); unfold set3 at hcxF))
  have hgF := set3_grown w4 (w.heap.size + 1) (.int .i64 n) (.slice a4 es.length c4) (.slice (some ⟨g, 0, none⟩) n n)
  have hF := set3_at hR4 (.int .i64 n) (.slice a4 es.length c4) (.slice (some ⟨g, 0, none⟩) n n)
  have hbF := (hbw1.drew.trans (hb4.mono hbw1.drew.size)).grown hgF (Nat.le_trans hbw1.drew.size hb4.size) (fun k e => by cases e; omega)
  have hd1 : w1.drew.heap.size = w1.heap.size := rfl
  have hs1 := hb1.size
  have hgl : g < w1.heap.size := blk_lt hN1
  have hN4 : NumAt w4 g l := lit_next' (w := w1.drew) hb4 hN1
  have hNF : NumAt (set3 w4 (w.heap.size + 1) (.int .i64 n) (.slice a4 es.length c4) (.slice (some ⟨g, 0, none⟩) n n)) g l := (set3_other _ _ _ _ _ _ (by omega)).trans hN4
  have hEF := he4.grown hgF (fun k e n' c' p hp => by cases e; have := ha4 p (Value.slice.inj hp).1; omega)
  have hap : ∀ p, a4 = some p → g < p.block := fun p hp => by have := ha4 p hp; omega
  have hwg : w.heap.size ≤ g := by omega
  obtain ⟨t0, t1, t2⟩ := cells3 hF
  unfold set3 at t0 t1 t2 hbF hNF hEF
  have HFF := Lib.hid (And.intro hEF (And.intro hNF hbF))
  clear hgF hF hbF hNF hEF hN4 hN1 hR4 hG4 hcxF he4
  go_wp2_with fail
  exact bodyPost_ret (v := .tuple #[.agg #[.int .i64 n, .slice a4 es.length c4, .slice (some ⟨g, 0, none⟩) n n], .int .i64 0]) (by simp [results, Tryd.results38, go_sem, t0, t1, t2]) rfl ⟨a4, c4, g, rfl, HFF.out.1, HFF.out.2.1, hwg, hap, HFF.out.2.2⟩
end Go.Proofs.YtkknknehchnccaaDoor

namespace Go.Proofs.YtkknknehchnccaaDoor
open Go.RowKit Go.BigFrame

/-- the box of the result, the box of the graph, and the deck -/
structure CoW (w : World) (b D n : Nat) (es : List E2) (a : Option Addr) (cap g : Nat) (l : List Int) (W : World) : Prop where
  d : DeckAt W b
  o : W.heap[w.heap.size]? = some (.cells #[.int .i64 0, .slice none 0 0, .slice none 0 0] 62 (0, 0))
  x : W.heap[D]? = some (.cells #[.int .i64 n, .slice a es.length cap, .slice (some ⟨g, 0, none⟩) n n] 62 (0, 0))
  e : EdgesAt W (.slice a es.length cap) es
  ea : ∀ p, a = some p → g < p.block
  i : NumAt W g l
  gr : w.grownBy W (some b)
  bw : b < w.heap.size
  wg : w.heap.size < g
  gD : g < D
section
variable {w W W' : World} {b D n : Nat} {es : List E2} {a : Option Addr} {cap g : Nat} {l : List Int}
theorem CoW.next (h : CoW w b D n es a cap g l W) (hd : DeckAt W' b) (hg : W.grownBy W' (some b)) : CoW w b D n es a cap g l W' :=
  ⟨hd, grown_blk hg h.o (fun e => by have := Option.some.inj e; have := h.bw; omega), grown_blk hg h.x (fun e => by have := Option.some.inj e; have := h.bw; have := h.wg; have := h.gD; omega),
    h.e.grown hg (fun k e n' c' p hp => by cases e; have := h.ea p (Value.slice.inj hp).1; have := h.bw; have := h.wg; omega), h.ea, grown_blk hg h.i (fun e => by have := Option.some.inj e; have := h.bw; have := h.wg; omega), grown_trans h.gr hg, h.bw, h.wg, h.gD⟩
theorem CoW.set (h : CoW w b D n es a cap g l W) (k : Nat) (x : Int) : CoW w b D n es a cap g (l.set k x) (W.setCell ⟨g, k, none⟩ (.int .i64 x)) := by
  have hg : W.grownBy (W.setCell ⟨g, k, none⟩ (.int .i64 x)) (some g) := grown_store
  have := h.bw
  have := h.wg
  have := h.gD
  exact ⟨h.d.kept hg (fun j e => by cases e; omega), grown_blk hg h.o (fun e => by have := Option.some.inj e; omega), grown_blk hg h.x (fun e => by have := Option.some.inj e; omega),
    h.e.grown hg (fun j e n' c' p hp => by cases e; have := h.ea p (Value.slice.inj hp).1; omega), h.ea, h.i.set k x, grown_new h.gr hg (fun j e => .inr (by cases e; omega)), h.bw, h.wg, h.gD⟩
end
def CoPost (b : Nat) (w : World) (e : Ending) (w' : World) : Prop :=
  ∃ (n : Nat) (es : List E2) (l : List Int) (a : Option Addr) (cap g : Nat), e = .returned (.agg #[.int .i64 n, .slice a es.length cap, .slice (some ⟨g, 0, none⟩) l.length n]) ∧ Valid n es ∧ n ≤ 8 ∧ l.length = n ∧ EdgesAt w' (.slice a es.length cap) es ∧ IntsAt w' (.slice (some ⟨g, 0, none⟩) l.length n) l ∧ (∀ p, a = some p → w.heap.size ≤ p.block) ∧ w.heap.size ≤ g ∧ DeckAt w' b ∧ w.grownBy w' (some b)
theorem CoW.post {w W : World} {b D n : Nat} {es : List E2} {a : Option Addr} {cap g : Nat} {l : List Int} (h : CoW w b D n es a cap g l W) (hv : Valid n es) (hn : n ≤ 8) (hl : l.length = n) :
    CoPost b w (.returned (.agg #[.int .i64 n, .slice a es.length cap, .slice (some ⟨g, 0, none⟩) n n])) (set3 W w.heap.size (.int .i64 n) (.slice a es.length cap) (.slice (some ⟨g, 0, none⟩) n n)) := by
  have hg := set3_grown W w.heap.size (.int .i64 n) (.slice a es.length cap) (.slice (some ⟨g, 0, none⟩) n n)
  have hi := h.i.ints (by omega)
  have := h.bw
  have := h.wg
  refine ⟨n, es, l, a, cap, g, by rw [hl], hv, hn, hl, h.e.grown hg (fun j e n' c' p hp => by cases e; have := h.ea p (Value.slice.inj hp).1; omega), ?_, fun p hp => by have := h.ea p hp; omega, by omega, h.d.kept hg (fun j e => by cases e; omega), grown_new h.gr hg (fun j e => .inr (by cases e; exact Nat.le_refl _))⟩
  rw [hl] at hi ⊢
  exact hi.grown hg (fun j e n' c' p hp => by cases e; have := (Value.slice.inj hp).1; cases this; dsimp only; omega)
set_option maxRecDepth 100000 in
set_option maxHeartbeats 6400000 in
theorem cores_any (b : Nat) (w : World) (hd : DeckAt w b) : Calls Tryd.prog 44 #[.pointer (some ⟨b, 0, none⟩)] w (CoPost b w) := by
  have hbw := hd.lt
  obtain ⟨hoA, hbA⟩ := box_new w #[.int .i64 0, .slice none 0 0, .slice none 0 0] 62
  have hdA := deck_below hd hbA
  go_enter Tryd.func44, Tryd.ntmps44
  go_wp2_with (first
    | (go_at_call 12; refine (mkgraph_any b 8 _ hdA (by omega) (by omega)).mono ?_; rintro e w2 ⟨n0, es, a2, cap2, rfl, he2, hv, hn8, hd2, hg2, ho2⟩))
  obtain ⟨n, rfl⟩ := Int.eq_ofNat_of_zero_le hv.1
  have hz0 : (w.alloc (.cells #[.int .i64 0, .slice none 0 0, .slice none 0 0] 62)).heap.size = w.heap.size + 1 := by simp
  have ho2' := grown_blk hg2 hoA (fun e => by have := Option.some.inj e; omega)
  have hgw := grown_trans (grown_none (grown_of_below hbA) : w.grownBy _ (some b)) hg2
  have hz2 := hg2.size
  refine (ropen11_own n a2 cap2 es _ he2 hv).mono ?_
  rintro e w3 ⟨a4, c4, g, rfl, he3, hi3, hwg, hag, hb3⟩
  obtain ⟨hx4, hb4⟩ := box_new w3 #[.int .i64 n, .slice a4 es.length c4, .slice (some ⟨g, 0, none⟩) n n] 62
  have hgl : g < w3.heap.size := blk_lt hi3
  have hn0 : n ≤ 8 := by omega
  have hS : CoW w b w3.heap.size n es a4 c4 g (corT es n) (w3.alloc (.cells #[.int .i64 n, .slice a4 es.length c4, .slice (some ⟨g, 0, none⟩) n n] 62)) :=
    ⟨deck_below (deck_below hd2 hb3) hb4, lit_next' hb4 (lit_next' hb3 ho2'), hx4, he3.below hb4, hag, lit_next' hb4 hi3, grown_trans hgw (grown_none (grown_trans (grown_of_below hb3) (grown_of_below hb4))), hbw, by omega, hgl⟩
  obtain ⟨W, hW⟩ : ∃ W : World, W = w3.alloc (.cells #[.int .i64 n, .slice a4 es.length c4, .slice (some ⟨g, 0, none⟩) n n] 62) := ⟨_, rfl⟩
  obtain ⟨D, hD⟩ : ∃ D, w3.heap.size = D := ⟨_, rfl⟩
  rw [← hW, hD] at hS
  have HW := Lib.hid hW
  have HD := Lib.hid hD
  have hlen := corT_length es n
  obtain ⟨l, hl⟩ : ∃ l, corT es n = l := ⟨_, rfl⟩
  have HLC := Lib.hid hl
  rw [hl] at hS hlen
  have HL := Lib.hid hlen
  clear hW hD hx4 hb4 hgl hb3 hi3 he3 hwg hag ho2' hgw hz2 hz0 hd2 hg2 he2 ho2 hdA hbA hoA hd hn8 hl
  go_upto_region 2 with fail
  rw [← HW.out, HD.out]
  obtain ⟨x0, x1, x2⟩ := cells3 hS.x
  by_cases hn : n = 0
  · have d1 : decide (0 < (n : Int)) = false := by simp; omega
    have d1' : decide (0 < n) = false := decide_eq_false (by omega)
    have d1'' : ¬ 0 < n := by omega
    have hP := hS.post hv hn0 hlen
    obtain ⟨r0, r1, r2⟩ := cells3 hS.o
    obtain ⟨f0, f1, f2⟩ := frees3 hS.o
    obtain ⟨t0, t1, t2⟩ := cells3 (set3_at hS.o (.int .i64 n) (.slice a4 es.length c4) (.slice (some ⟨g, 0, none⟩) n n))
    unfold set3 at t0 t1 t2 hP
    have HP := Lib.hid hP
    clear hP hS hlen hn
    go_wp2_with fail
    refine ⟨rfl, .agg #[.int .i64 n, .slice a4 es.length c4, .slice (some ⟨g, 0, none⟩) n n], ?_, ?_⟩
    · simp [results, Tryd.results44, go_sem, t0, t1, t2]
    · exact HP.out
  have d1 : decide (0 < (n : Int)) = true := by simp; omega
  have d1' : decide (0 < n) = true := decide_eq_true (by omega)
  have d1'' : 0 < n := by omega
  clear hlen
  go_wp2_with fail
  refine (next_any b 12 _ hS.d (by omega) (by omega)).mono ?_
  rintro _ w5 ⟨y, hy0, hy1, rfl, hd5, hg5⟩
  have hS5 := hS.next hd5 hg5
  clear hS x0 x1 x2 hd5 hg5
  obtain ⟨x0, x1, x2⟩ := cells3 hS5.x
  by_cases hy : y = 11
  · subst hy
    have hP := fun (l' : List Int) (hl' : l'.length = n) (W' : World) (h : CoW w b D n es a4 c4 g l' W') => h.post hv hn0 hl'
    have hSd := hS5.next (W' := w5.drew) (deck_below hS5.d (Below.refl _ _).drew) (grown_none (grown_of_below (Below.refl _ _).drew))
    have hnx := next_any b (n : Int) w5.drew hSd.d (by omega) (by omega)
    have hbd := fun (v : Int) (h : v ∈ l) => corT_bd hv v (HLC.out ▸ h)
    clear hS5
    go_wp2_with fail
    go_region_law (first
      | (go_simp; go_at_call 33; (with_reducible refine hnx.mono ?_); rintro _ w6 ⟨z, hz0, hz1, rfl, hd6, hg6⟩; have hS6 := hSd.next hd6 hg6; obtain ⟨z, rfl⟩ := Int.eq_ofNat_of_zero_le hz0; have hzn : (z : Int) < n := (by omega); have hzl : z < l.length := (by have := HL.out; omega); obtain ⟨v, hv9⟩ : ∃ v, l[z]? = some v := ⟨_, List.getElem?_eq_getElem hzl⟩; have hvb := hbd v (List.mem_of_getElem? hv9); have hw9 : IntKind.i64.wrap (v + 1) = v + 1 := (IntWalk.i64_in _ (by omega)); have p0 := hS6.i.cell z v hv9; have q0 : w6.frozen? ⟨g, z, none⟩ = false := free_blk hS6.i; obtain ⟨y0, y1, y2⟩ := cells3 hS6.x))
    all_goals
      have hS7 := hS6.set z (v + 1)
      have hP7 := hP (l.set z (v + 1)) (by rw [List.length_set]; exact HL.out) _ hS7
      obtain ⟨r0, r1, r2⟩ := cells3 hS7.o
      obtain ⟨s0, s1, s2⟩ := cells3 hS7.x
      obtain ⟨f0, f1, f2⟩ := frees3 hS7.o
      obtain ⟨t0, t1, t2⟩ := cells3 (set3_at hS7.o (.int .i64 n) (.slice a4 es.length c4) (.slice (some ⟨g, 0, none⟩) n n))
      unfold set3 at t0 t1 t2 hP7
      have HP := Lib.hid hP7
      clear hP hP7 hS6 hS7 hSd y0 y1 y2 p0 q0 hn
      go_wp2_with fail
      refine ⟨rfl, .agg #[.int .i64 n, .slice a4 es.length c4, .slice (some ⟨g, 0, none⟩) n n], ?_, ?_⟩
      · simp [results, Tryd.results44, go_sem, t0, t1, t2]
      · exact HP.out
  · have d2 : (y == 11) = false := by simpa using hy
    have hP := hS5.post hv hn0 HL.out
    obtain ⟨r0, r1, r2⟩ := cells3 hS5.o
    obtain ⟨f0, f1, f2⟩ := frees3 hS5.o
    obtain ⟨t0, t1, t2⟩ := cells3 (set3_at hS5.o (.int .i64 n) (.slice a4 es.length c4) (.slice (some ⟨g, 0, none⟩) n n))
    unfold set3 at t0 t1 t2 hP
    have HP := Lib.hid hP
    clear hP hS5 hy hn
    go_wp2_with fail
    refine ⟨rfl, .agg #[.int .i64 n, .slice a4 es.length c4, .slice (some ⟨g, 0, none⟩) n n], ?_, ?_⟩
    · simp [results, Tryd.results44, go_sem, t0, t1, t2]
    · exact HP.out
end Go.Proofs.YtkknknehchnccaaDoor

namespace Go.Proofs.YtkknknehchnccaaDoor
open Go.RowKit Go.BigFrame

theorem ff_neg : ∀ (es : List E2) (k : Nat) (t : E2), t ∉ es → findFrom k es t < 0 := by
  intro es
  induction es with
  | nil => intro k t _; show (-1 : Int) < 0; omega
  | cons x es ih =>
    intro k t h
    unfold findFrom
    rw [if_neg (fun e => h (by rw [e]; exact List.mem_cons_self))]
    exact ih _ _ fun h' => h (List.mem_cons_of_mem _ h')
theorem find_adj {n : Nat} {es : List E2} (hv : Valid n es) (u v : Nat) : decide (0 ≤ findS es (u : Int) v) = adjB es u v ∧ decide (findS es (u : Int) v < 0) = !adjB es u v := by
  rw [min_adj hv]
  by_cases h : (min (u : Int) v, max (u : Int) v) ∈ es
  · have := ff_pos es 0 _ h
    rw [decide_eq_true h]
    exact ⟨decide_eq_true this, decide_eq_false (by unfold findS; omega)⟩
  · have := ff_neg es 0 _ h
    rw [decide_eq_false h]
    exact ⟨decide_eq_false (by unfold findS; omega), decide_eq_true this⟩
def StPost (w : World) (k : Int) (ts : List E2) (e : Ending) (w' : World) : Prop := ∃ a c B, e = .returned (.tuple #[.slice a ts.length c, .bool B]) ∧ (ts ≠ [] → B = decide (k = 1)) ∧ EdgesAt w' (.slice a ts.length c) ts ∧ (∀ p, a = some p → w.heap.size ≤ p.block) ∧ Below w.heap.size w w'
set_option maxRecDepth 100000 in
set_option maxHeartbeats 3200000 in
theorem rsteps_any (n u v : Nat) (k t wt lb sg : Int) (a : Option Addr) (cap : Nat) (es : List E2) (w : World) (he : EdgesAt w (.slice a es.length cap) es) (hv : Valid n es) (hk : k = 1 ∨ k = 2 ∨ k = 3) :
    Calls Tryd.prog 97 #[.agg #[.int .i64 n, .slice a es.length cap], .agg #[.int .i64 k, .int .i64 t, .int .i64 u, .int .i64 v, .int .i64 wt, .int .i64 lb, .int .i64 sg]] w (StPost w k (touE es ⟨k, t, u, v, wt, lb, sg⟩)) := by
  have hel := hv.length_le
  obtain ⟨wA, hwA⟩ : ∃ W : World, W = (w.alloc (.cells #[.int .i64 n, .slice a es.length cap] 25)).alloc (.cells #[.int .i64 k, .int .i64 t, .int .i64 u, .int .i64 v, .int .i64 wt, .int .i64 lb, .int .i64 sg] 78) := ⟨_, rfl⟩
  have hGA : wA.heap[w.heap.size]? = some (.cells #[.int .i64 n, .slice a es.length cap] 25 (0, 0)) := by rw [hwA, Below.heap_alloc _ _ _ (by simp)]; exact heap_alloc_new _ _
  have hEA : wA.heap[w.heap.size + 1]? = some (.cells #[.int .i64 k, .int .i64 t, .int .i64 u, .int .i64 v, .int .i64 wt, .int .i64 lb, .int .i64 sg] 78 (0, 0)) := by
    rw [hwA]
    have := heap_alloc_new (w.alloc (.cells #[.int .i64 n, .slice a es.length cap] 25)) (.cells #[.int .i64 k, .int .i64 t, .int .i64 u, .int .i64 v, .int .i64 wt, .int .i64 lb, .int .i64 sg] 78)
    simpa using this
  have hbA : Below w.heap.size w wA := by rw [hwA]; exact ((Below.refl _ _).alloc (Nat.le_refl _) _).alloc (by simp) _
  have HWA := Lib.hid hwA
  have hfi := find_any (n : Int) a cap es u v wA (he.below hbA) hv
  obtain ⟨hfa, hfb⟩ := find_adj hv u v
  obtain ⟨FF, hFF⟩ : ∃ F, findS es (u : Int) v = F := ⟨_, rfl⟩
  rw [hFF] at hfi hfa hfb
  clear hFF
  have g0 := cell_blk (j := 0) hGA
  have g1 := cell_blk (j := 1) hGA
  have e0 := cell_blk (j := 0) hEA
  have e2 := cell_blk (j := 2) hEA
  have e3 := cell_blk (j := 3) hEA
  clear hwA
  unfold touE
  dsimp only
  rw [Int.toNat_natCast, Int.toNat_natCast]
  obtain ⟨B, hB⟩ : ∃ B, adjB es u v = B := ⟨_, rfl⟩
  rw [hB] at hfa hfb ⊢
  clear hB
  by_cases h3 : k = 3
  · subst h3
    rw [if_pos rfl]
    have HF : Hid (∀ x : E2, (decide (x.1 = (u : Int)) || decide (x.2 = (u : Int))) = ((x.1 == (u : Int)) || (x.2 == (u : Int)))) := (show ∀ x : E2, _ from fun x => by
      rw [Bool.eq_iff_iff]; simp)
    obtain ⟨f, hf⟩ : ∃ f : E2 → Bool, (fun x : E2 => decide (x.1 = (u : Int)) || decide (x.2 = (u : Int))) = f := ⟨_, rfl⟩
    rw [hf]
    have HFF : Hid (∀ x : E2, f x = ((x.1 == (u : Int)) || (x.2 == (u : Int)))) := (show ∀ x : E2, _ from fun x => by rw [← hf]; exact HF.out x)
    clear hf HF
    go_enter Tryd.func97, Tryd.ntmps97
    go_wp2_with (rw [← HWA.out])
    refine hfi.mono ?_
    rintro _ w0 ⟨rfl, hb0⟩
    have hE0 := lit_next' hb0 hEA
    have hb00 := hbA.trans (hb0.mono hbA.size)
    obtain ⟨-, hbb⟩ := box_new w0 #[.int .i64 (min (u : Int) v), .int .i64 (max (u : Int) v)] 39
    obtain ⟨w1, hw1⟩ : ∃ W : World, W = w0.alloc (.cells #[.int .i64 (min (u : Int) v), .int .i64 (max (u : Int) v)] 39) := ⟨_, rfl⟩
    rw [← hw1] at hbb
    have HW1 := Lib.hid hw1
    have hb1 := hb0.trans (hbb.mono hb0.size)
    clear hw1 hbb e0 e2 e3
    have e0 := cell_blk (j := 0) hE0
    have e2 := cell_blk (j := 2) hE0
    have e3 := cell_blk (j := 3) hE0
    go_upto_region 3 with fail
    rw [← HW1.out]
    have hG1 := lit_next' hb1 hGA
    have hE1 := lit_next' hb1 hEA
    have hb01 := hbA.trans (hb1.mono hbA.size)
    clear hb0 hE0 hb00
    clear g0 g1 e0 e2 e3 hGA hEA hbA hb1 hfi
    have e0 := cell_blk (j := 0) hE1
    have g1 := cell_blk (j := 1) hG1
    have hz1 : w.heap.size + 2 ≤ w1.heap.size := blk_lt hE1
    go_wp2_with fail
    go_loopw [8, 55] (fun vo vi wr => ∃ t : Nat, t ≤ es.length ∧ vi = .int .i64 t ∧ (∃ P : List E2, Hid (P = (es.take t).filter f) ∧ P.length ≤ t ∧ wr.ownsRow w1.heap.size 39 2 vo P.length (flatE P)) ∧ Below w1.heap.size w1 wr) (fun _ vi _ => es.length - (intOf vi).toNat)
    case atStart => exact ⟨0, Nat.zero_le _, rfl, ⟨[], (show _ = _ by simp), Nat.le_refl _, World.ownsRow_nil _ _ _ _⟩, Below.refl _ _⟩
    case round =>
      clear e0 g1
      obtain ⟨t, ht, rfl, ⟨P, HP, hPl, hown⟩, hb⟩ := hrel
      obtain ⟨ao, co, hvo⟩ := owns_shape hown
      subst hvo
      have hE := lit_next' hb hE1
      by_cases hlt : t < es.length
      · have hlt3 : (t : Int) < es.length := by omega
        obtain ⟨b9, o9, x, y, rfl, hx, -, -, c0, c1⟩ := (he.below (hb01.trans (hb.mono hb01.size))).at t hlt
        have htk : (es.take (t + 1)).filter f = P ++ (if f (x, y) = true then [(x, y)] else []) := by
          rw [take_at _ _ _ hx, List.filter_append, ← HP.out]
          congr 1
          cases hf : f (x, y) <;> simp [hf]
        have hfx := HFF.out (x, y)
        dsimp only at hfx
        obtain ⟨wX, hwX⟩ : ∃ W : World, W = wr.alloc (.cells #[.int .i64 x, .int .i64 y] 39) := ⟨_, rfl⟩
        have hbX : Below wr.heap.size wr wX := by rw [hwX]; exact (Below.refl _ _).alloc (Nat.le_refl _) _
        have hXX : wX.heap[wr.heap.size]? = some (.cells #[.int .i64 x, .int .i64 y] 39 (0, 0)) := by rw [hwX]; exact heap_alloc_new _ _
        have hEX := lit_next' hbX hE
        have hownX := hown.kept (grown_of_below hbX) (Classical.em _)
        have e2 := cell_blk (j := 2) hEX
        obtain ⟨x0, x1⟩ := cells2 hXX
        have HWX := Lib.hid hwX
        obtain ⟨X, hX⟩ : ∃ X, wr.heap.size = X := ⟨_, rfl⟩
        have HX := Lib.hid hX
        rw [hX] at x0 x1
        have hb1X := hb.trans (hbX.mono hb.size)
        have hlx := edges_lit1 wX x y 39
        have hownA := hownX.alloc (.cells #[.int .i64 x, .int .i64 y] 39)
        have hbA2 := hb1X.alloc hb1X.size (.cells #[.int .i64 x, .int .i64 y] 39)
        clear hwX hX hXX hEX hownX hE hx
        by_cases hxu : x = u
        · have d1 : (x == (u : Int)) = true := by simpa using hxu
          rw [d1, Bool.true_or] at hfx
          rw [hfx, if_pos rfl] at htk
          have HT := Lib.hid htk
          clear htk hfx hxu
          go_upto_region 12 with fail
          rw [← HWX.out, HX.out]
          go_wp2_with (at_builtin; refine wpList_app_edges edgesT rfl _ _ rfl w1.heap.size (.slice ao P.length co) _ P [(x, y)] rfl hownA rfl hlx (by simp; omega) hbA2.size ?_; intro v6 w6 hown6 hg6)
          have hb6 := hbA2.grown hg6 hbA2.size (fun g e => (hownA.lt g e).1)
          obtain ⟨a6, c6, hv6⟩ := owns_shape hown6
          subst hv6
          go_wp2_with fail
          go_roundw
          case rel => exact ⟨t + 1, by omega, by go_num, ⟨P ++ [(x, y)], HT.out.symm, by simp; omega, hown6⟩, hb6⟩
          case measure => simp [intOf]; omega
        · have d1 : (x == (u : Int)) = false := by simpa using hxu
          by_cases hyu : y = u
          · have d2 : (y == (u : Int)) = true := by simpa using hyu
            rw [d1, d2, Bool.false_or] at hfx
            rw [hfx, if_pos rfl] at htk
            have HT := Lib.hid htk
            clear htk hfx hxu hyu
            go_upto_region 12 with fail
            rw [← HWX.out, HX.out]
            go_wp2_with (at_builtin; refine wpList_app_edges edgesT rfl _ _ rfl w1.heap.size (.slice ao P.length co) _ P [(x, y)] rfl hownA rfl hlx (by simp; omega) hbA2.size ?_; intro v6 w6 hown6 hg6)
            have hb6 := hbA2.grown hg6 hbA2.size (fun g e => (hownA.lt g e).1)
            obtain ⟨a6, c6, hv6⟩ := owns_shape hown6
            subst hv6
            go_wp2_with fail
            go_roundw
            case rel => exact ⟨t + 1, by omega, by go_num, ⟨P ++ [(x, y)], HT.out.symm, by simp; omega, hown6⟩, hb6⟩
            case measure => simp [intOf]; omega
          · have d2 : (y == (u : Int)) = false := by simpa using hyu
            rw [d1, d2, Bool.false_or] at hfx
            rw [hfx, if_neg (by simp), List.append_nil] at htk
            have HT := Lib.hid htk
            have hownX2 := hown.kept (grown_of_below hbX) (Classical.em _)
            clear htk hfx hxu hyu
            go_upto_region 12 with fail
            rw [← HWX.out, HX.out]
            go_wp2_with fail
            go_roundw
            case rel => exact ⟨t + 1, by omega, by go_num, ⟨P, HT.out.symm, by omega, hownX2⟩, hb1X⟩
            case measure => simp [intOf]; omega
      · obtain rfl : es.length = t := by omega
        have hPf : P = es.filter f := by rw [HP.out, List.take_length]
        subst hPf
        obtain ⟨a6, c6, hv6, hi6, ho6⟩ := EdgesAt.of_owns hown (by omega)
        cases hv6
        go_wp2_with fail
        go_ret2
        exact ⟨ao, co, false, rfl, (fun _ => rfl), hi6, fun p hp => by have := ho6 p hp; omega, hb01.trans (hb.mono hb01.size)⟩
  · rw [if_neg h3]
    have hk2 : k = 1 ∨ k = 2 := by omega
    clear hk h3
    rcases hk2 with rfl | rfl
    · rw [decide_eq_false (show ¬ (1 : Int) = 2 by omega)]
      cases B
      all_goals
        go_enter Tryd.func97, Tryd.ntmps97
        go_wp2_with (rw [← HWA.out])
        refine hfi.mono ?_
        rintro _ w0 ⟨rfl, hb0⟩
        have hE0 := lit_next' hb0 hEA
        have hb00 := hbA.trans (hb0.mono hbA.size)
        obtain ⟨hxx, hbb⟩ := box_new w0 #[.int .i64 (min (u : Int) v), .int .i64 (max (u : Int) v)] 39
        obtain ⟨w1, hw1⟩ : ∃ W : World, W = w0.alloc (.cells #[.int .i64 (min (u : Int) v), .int .i64 (max (u : Int) v)] 39) := ⟨_, rfl⟩
        obtain ⟨X, hX⟩ : ∃ X, w0.heap.size = X := ⟨_, rfl⟩
        rw [← hw1] at hxx hbb
        rw [hX] at hxx
        have HW1 := Lib.hid hw1
        have HX := Lib.hid hX
        have hE1 := lit_next' hbb hE0
        have hb01 := hb00.trans (hbb.mono hb00.size)
        clear hw1 hX hbb g0 g1 e0 e2 e3
        have e0 := cell_blk (j := 0) hE0
        have e2 := cell_blk (j := 2) hE0
        have e3 := cell_blk (j := 3) hE0
        go_upto_region 3 with fail
        rw [← HW1.out, HX.out]
        clear e0 e2 e3
        have e0 := cell_blk (j := 0) hE1
        obtain ⟨x0, x1⟩ := cells2 hxx
        have hlx := edges_lit1 w1 (min (u : Int) v) (max (u : Int) v) 39
        have hbB := hb01.alloc hb01.size (.cells #[.int .i64 (min (u : Int) v), .int .i64 (max (u : Int) v)] 39)
        have hz := hb01.size
        clear hGA hEA hbA hb0 hb00 hE0 hE1 hxx
        go_wp2_with fail
        go_ret2
        first
          | exact ⟨none, 0, false, rfl, (fun h => absurd rfl h), edges_nil _, (fun p hp => by cases hp), hb01⟩
          | exact ⟨some ⟨w1.heap.size, 0, none⟩, 1, true, rfl, (fun _ => rfl), hlx, (fun p hp => by cases hp; exact hz), hbB⟩
    · rw [decide_eq_true (show (2 : Int) = 2 from rfl)]
      cases B
      all_goals
        go_enter Tryd.func97, Tryd.ntmps97
        go_wp2_with (rw [← HWA.out])
        refine hfi.mono ?_
        rintro _ w0 ⟨rfl, hb0⟩
        have hE0 := lit_next' hb0 hEA
        have hb00 := hbA.trans (hb0.mono hbA.size)
        obtain ⟨hxx, hbb⟩ := box_new w0 #[.int .i64 (min (u : Int) v), .int .i64 (max (u : Int) v)] 39
        obtain ⟨w1, hw1⟩ : ∃ W : World, W = w0.alloc (.cells #[.int .i64 (min (u : Int) v), .int .i64 (max (u : Int) v)] 39) := ⟨_, rfl⟩
        obtain ⟨X, hX⟩ : ∃ X, w0.heap.size = X := ⟨_, rfl⟩
        rw [← hw1] at hxx hbb
        rw [hX] at hxx
        have HW1 := Lib.hid hw1
        have HX := Lib.hid hX
        have hE1 := lit_next' hbb hE0
        have hb01 := hb00.trans (hbb.mono hb00.size)
        clear hw1 hX hbb g0 g1 e0 e2 e3
        have e0 := cell_blk (j := 0) hE0
        have e2 := cell_blk (j := 2) hE0
        have e3 := cell_blk (j := 3) hE0
        go_upto_region 3 with fail
        rw [← HW1.out, HX.out]
        clear e0 e2 e3
        have e0 := cell_blk (j := 0) hE1
        obtain ⟨x0, x1⟩ := cells2 hxx
        have hlx := edges_lit1 w1 (min (u : Int) v) (max (u : Int) v) 39
        have hbB := hb01.alloc hb01.size (.cells #[.int .i64 (min (u : Int) v), .int .i64 (max (u : Int) v)] 39)
        have hz := hb01.size
        clear hGA hEA hbA hb0 hb00 hE0 hE1 hxx
        go_wp2_with fail
        go_ret2
        first
          | exact ⟨none, 0, false, rfl, (fun h => absurd rfl h), edges_nil _, (fun p hp => by cases hp), hb01⟩
          | exact ⟨some ⟨w1.heap.size, 0, none⟩, 1, false, rfl, (fun _ => rfl), hlx, (fun p hp => by cases hp; exact hz), hbB⟩
end Go.Proofs.YtkknknehchnccaaDoor

namespace Go.Proofs.YtkknknehchnccaaDoor
open Go.RowKit Go.BigFrame

theorem cdel_gone {n p q : Nat} {es : List E2} (hv : Valid n es) (hp : p < n) (hq : q < n) (hne : p ≠ q) (hm : (min (p : Int) q, max (p : Int) q) ∉ es) : cdelX ⟨n, es, corT es n⟩ p q = (Cr.zero, [], 7) := by
  unfold cdelX
  rw [if_neg (by rw [crE_ok hv hp hq hne]; simp)]
  dsimp only
  rw [if_neg hm]
set_option maxRecDepth 100000 in
set_option maxHeartbeats 6400000 in
theorem rfollow_any (n : Int) (a a2 av : Option Addr) (cap c2 cv : Nat) (es : List E2) (l : List Int) (evs : List Ev) (w : World) (he : EdgesAt w (.slice a es.length cap) es) (hi : IntsAt w (.slice a2 l.length c2) l) (hr : RowAt encEv w (.slice av evs.length cv) evs) (hlen : evs.length ≤ 1000) :
    Calls Tryd.prog 55 #[.agg #[.int .i64 n, .slice a es.length cap, .slice a2 l.length c2], .slice av evs.length cv] w (FPost w (folX ⟨n, es, l⟩ evs)) := by
  have h0 := Bx4.start w (.int .i64 n) (.slice a es.length cap) (.slice a2 l.length c2) (.int .i64 0) (.slice none 0 0) (.slice none 0 0)
  obtain ⟨wA, hwA⟩ : ∃ W : World, W = (w.alloc (.cells #[.int .i64 n, .slice a es.length cap, .slice a2 l.length c2] 62)).alloc (.cells #[.int .i64 0, .slice none 0 0, .slice none 0 0] 62) := ⟨_, rfl⟩
  rw [← hwA] at h0
  have HWA := Lib.hid hwA
  clear hwA
  have hva := fun W h1 h2 => rvalid11_any n a a2 cap c2 es l W h1 h2
  unfold folX FPost
  dsimp only
  obtain ⟨k0, k1, k2⟩ := cells3 h0.c
  cases hok : crOk ⟨n, es, l⟩ with
  | false =>
    rw [hok] at hva
    rw [if_pos rfl]
    clear hok
    go_enter Tryd.func55, Tryd.ntmps55
    go_wp2_with (rw [← HWA.out])
    refine (hva wA (he.below h0.be) (hi.below h0.be)).mono ?_
    rintro e w1 ⟨rfl, hb1⟩
    have h1 := h0.next hb1
    obtain ⟨r0, r1, r2⟩ := cells3 h1.o
    obtain ⟨f0, f1, f2⟩ := frees3 h1.o
    have hF := h1.fin (.int .i64 0) (.slice none 0 0) (.slice none 0 0)
    have hbF := hF.be
    obtain ⟨t0, t1, t2⟩ := cells3 hF.o
    unfold set3 at t0 t1 t2 hbF
    clear hF h1 h0 hb1
    go_wp2_with fail
    exact bodyPost_ret (v := .tuple #[.agg #[.int .i64 0, .slice none 0 0, .slice none 0 0], .int .i64 0, .int .i64 12]) (by simp [results, Tryd.results55, go_sem, t0, t1, t2]) rfl ⟨none, 0, none, 0, rfl, CIn.void _ _, hbF⟩
  | true =>
  rw [hok] at hva
  rw [if_neg (by simp)]
  obtain ⟨m, hv, hc⟩ := (crOk_iff _).1 hok
  dsimp only at hv hc
  obtain ⟨rfl, -, rfl⟩ := Cr.mk.inj hc
  clear hok hc
  rw [Int.toNat_natCast]
  have hn : m ≤ 64 := by have := hv.2.1; omega
  have hel := hv.length_le
  obtain ⟨K, hK⟩ : ∃ K, folF m (es, 0) evs = K := ⟨_, rfl⟩
  rw [hK]
  have HK := Lib.hid hK
  clear hK
  obtain ⟨RES, hRES⟩ : ∃ R, (if K.2.2 ≠ 0 then (Cr.zero, (0 : Int), K.2.2) else (crN m K.1, K.2.1, 0)) = R := ⟨_, rfl⟩
  rw [hRES]
  have HRES := Lib.hid hRES
  clear hRES
  go_enter Tryd.func55, Tryd.ntmps55
  go_wp2_with (rw [← HWA.out])
  refine (hva wA (he.below h0.be) (hi.below h0.be)).mono ?_
  rintro e w1 ⟨rfl, hb1⟩
  have h1 := h0.next hb1
  clear h0 hb1 k0 k1 k2
  obtain ⟨k0, k1, k2⟩ := cells3 h1.c
  have hop := ropen11_any (m : Int) a cap es w1 (he.below h1.be)
  rw [show copX (m : Int) es = (crN m es, 0) by unfold copX; rw [(valid_iff _ _).2 hv, if_neg (by simp)]; rfl] at hop
  go_wp2_with fail
  refine hop.mono ?_
  rintro e w2 ⟨aE, cE, aI, cI, rfl, hq2, hb2⟩
  unfold crN at hq2 ⊢
  dsimp only at hq2 ⊢
  have h2 := h1.next hb2
  have hz1 := h1.base
  clear k0 k1 k2
  obtain ⟨k0, k1, k2⟩ := cells3 h2.c
  obtain ⟨f0, f1, f2⟩ := frees3 h2.c
  have hW := FolW.set h2 ⟨hq2.e, hq2.i, (fun p h => by have := hq2.ea p h; omega), (fun p h => by have := hq2.ia p h; omega)⟩
  obtain ⟨w3, hw3⟩ : ∃ W : World, W = set3 w2 w.heap.size (.int .i64 m) (.slice aE es.length cE) (.slice aI (corT es m).length cI) := ⟨_, rfl⟩
  rw [← hw3] at hW
  unfold set3 at hw3
  have HW3 := Lib.hid hw3
  clear hw3 h2 hq2 hop hz1
  go_upto_region 5 with fail
  rw [← HW3.out]
  clear h1 k0 k1 k2 f0 f1 f2
  go_wp2_with fail
  go_loopw [7, 30] (fun vn vi wr => ∃ (i : Nat) (c : Int) (ys : List E2) (a4 a5 : Option Addr) (c4 c5 : Nat), i ≤ evs.length ∧ vi = .int .i64 i ∧ vn = .int .i64 c ∧ 0 ≤ c ∧ c ≤ 262144 * (i : Int) ∧ Valid m ys ∧ Hid (folF m (ys, c) (evs.drop i) = K) ∧ FolW w m ys a4 c4 a5 c5 wr) (fun _ vi _ => evs.length - (intOf vi).toNat)
  case atStart => exact ⟨0, 0, es, aE, aI, cE, cI, Nat.zero_le _, rfl, rfl, Int.le_refl _, by simp, hv, HK.out, hW⟩
  case round =>
    clear hv hW he hi hva hel
    obtain ⟨i, c, ys, a4, a5, c4, c5, hil, rfl, rfl, hc0, hc1, hvy, HR, hW⟩ := hrel
    by_cases hlt : i < evs.length
    · have hi3 : (i : Int) < evs.length := by omega
      obtain ⟨bb, off, x, rfl, hx, hcap, e0, e1, e2, e3, e4, e5, e6⟩ := ev_at (hr.below hW.b.be) i hlt
      have hR := HR.out
      rw [fol_drop m _ evs i x hx] at hR
      have hfi := fun W => rcheck_any x W
      have hfsd : fitS (m : Int) x = if evS x ≠ 0 then evS x else if (m : Int) ≤ x.u ∨ (m : Int) ≤ x.v then 6 else 0 := rfl
      have hfp := fun h => fit_parts hn (e := x) h
      have hok := fun h => tou_ok (e := x) hvy h
      have htl := tou_len hvy x
      obtain ⟨k, t, u, v, wt, lb, sg⟩ := x
      unfold Ev.cells at hfi
      dsimp only at hfi hfp hfsd e0 e1 e2 e3 e4 e5 e6
      obtain ⟨F, hF⟩ : ∃ F, evS ⟨k, t, u, v, wt, lb, sg⟩ = F := ⟨_, rfl⟩
      rw [hF] at hfi hfsd
      obtain ⟨hXX, hbX⟩ := box_new wr #[.int .i64 k, .int .i64 t, .int .i64 u, .int .i64 v, .int .i64 wt, .int .i64 lb, .int .i64 sg] 78
      obtain ⟨wX, hwX⟩ : ∃ W : World, W = wr.alloc (.cells #[.int .i64 k, .int .i64 t, .int .i64 u, .int .i64 v, .int .i64 wt, .int .i64 lb, .int .i64 sg] 78) := ⟨_, rfl⟩
      rw [← hwX] at hXX hbX
      have HWX := Lib.hid hwX
      have hWX := hW.next hbX
      have hzr := hW.b.base
      obtain ⟨X, hX⟩ : ∃ X, wr.heap.size = X := ⟨_, rfl⟩
      have HX := Lib.hid hX
      rw [hX] at hXX hzr
      have x0 := cell_blk (j := 0) hXX
      have x1 := cell_blk (j := 1) hXX
      have x2 := cell_blk (j := 2) hXX
      have x3 := cell_blk (j := 3) hXX
      have x4 := cell_blk (j := 4) hXX
      have x5 := cell_blk (j := 5) hXX
      have x6 := cell_blk (j := 6) hXX
      obtain ⟨g0, g1, g2⟩ := cells3 hWX.b.c
      clear hwX hX hx hF hW hbX
      by_cases hz : F = 0
      case neg =>
        rw [if_pos hz] at hfsd
        rw [hfsd, if_pos hz] at hR
        subst hR
        have d1 : (F != 0) = true := by simpa using hz
        have hres : RES = (Cr.zero, 0, F) := by rw [← HRES.out]; exact if_pos hz
        subst hres
        clear hz hfp hok hvy hfsd
        go_upto_region 8 with fail
        rw [← HWX.out, HX.out]
        go_wp2_with fail
        refine (hfi wX).mono ?_
        rintro e w2 ⟨rfl, hb2⟩
        have h2 := (hWX.next hb2).b
        obtain ⟨r0, r1, r2⟩ := cells3 h2.o
        obtain ⟨f0, f1, f2⟩ := frees3 h2.o
        have hF := h2.fin (.int .i64 0) (.slice none 0 0) (.slice none 0 0)
        have hbF := hF.be
        obtain ⟨t0, t1, t2⟩ := cells3 hF.o
        unfold set3 at t0 t1 t2 hbF
        clear hF h2 hb2 hWX x0 x1 x2 x3 x4 x5 x6 g0 g1 g2
        go_wp2_with fail
        exact bodyPost_ret (v := .tuple #[.agg #[.int .i64 0, .slice none 0 0, .slice none 0 0], .int .i64 0, .int .i64 F]) (by simp [results, Tryd.results55, go_sem, t0, t1, t2]) rfl ⟨none, 0, none, 0, rfl, CIn.void _ _, hbF⟩
      subst hz
      rw [if_neg (by simp)] at hfsd
      by_cases hcu : (m : Int) ≤ u
      · have hfs6 : fitS (m : Int) ⟨k, t, u, v, wt, lb, sg⟩ = 6 := by rw [hfsd]; exact if_pos (.inl hcu)
        rw [hfs6, if_pos (by simp)] at hR
        subst hR
        have hres : RES = (Cr.zero, 0, 6) := by rw [← HRES.out]; exact if_pos (by simp)
        subst hres
        have d1 : decide ((m : Int) ≤ u) = true := decide_eq_true hcu
        clear hcu
        clear hfp hok hvy hfsd hfs6
        go_upto_region 8 with fail
        rw [← HWX.out, HX.out]
        go_wp2_with fail
        refine (hfi wX).mono ?_
        rintro e w2 ⟨rfl, hb2⟩
        have h2 := (hWX.next hb2).b
        have hX2 := lit_next' hb2 hXX
        clear x0 x1 x2 x3 x4 x5 x6 g0 g1 g2
        have x2 := cell_blk (j := 2) hX2
        have x3 := cell_blk (j := 3) hX2
        obtain ⟨g0, g1, g2⟩ := cells3 h2.c
        obtain ⟨r0, r1, r2⟩ := cells3 h2.o
        obtain ⟨f0, f1, f2⟩ := frees3 h2.o
        have hF := h2.fin (.int .i64 0) (.slice none 0 0) (.slice none 0 0)
        have hbF := hF.be
        obtain ⟨t0, t1, t2⟩ := cells3 hF.o
        unfold set3 at t0 t1 t2 hbF
        clear hF h2 hb2 hWX
        go_wp2_with fail
        exact bodyPost_ret (v := .tuple #[.agg #[.int .i64 0, .slice none 0 0, .slice none 0 0], .int .i64 0, .int .i64 6]) (by simp [results, Tryd.results55, go_sem, t0, t1, t2]) rfl ⟨none, 0, none, 0, rfl, CIn.void _ _, hbF⟩
      have d1 : decide ((m : Int) ≤ u) = false := decide_eq_false hcu
      by_cases hcv : (m : Int) ≤ v
      · have hfs6 : fitS (m : Int) ⟨k, t, u, v, wt, lb, sg⟩ = 6 := by rw [hfsd]; exact if_pos (.inr hcv)
        rw [hfs6, if_pos (by simp)] at hR
        subst hR
        have hres : RES = (Cr.zero, 0, 6) := by rw [← HRES.out]; exact if_pos (by simp)
        subst hres
        have d2 : decide ((m : Int) ≤ v) = true := decide_eq_true hcv
        clear hcu hcv
        clear hfp hok hvy hfsd hfs6
        go_upto_region 8 with fail
        rw [← HWX.out, HX.out]
        go_wp2_with fail
        refine (hfi wX).mono ?_
        rintro e w2 ⟨rfl, hb2⟩
        have h2 := (hWX.next hb2).b
        have hX2 := lit_next' hb2 hXX
        clear x0 x1 x2 x3 x4 x5 x6 g0 g1 g2
        have x2 := cell_blk (j := 2) hX2
        have x3 := cell_blk (j := 3) hX2
        obtain ⟨g0, g1, g2⟩ := cells3 h2.c
        obtain ⟨r0, r1, r2⟩ := cells3 h2.o
        obtain ⟨f0, f1, f2⟩ := frees3 h2.o
        have hF := h2.fin (.int .i64 0) (.slice none 0 0) (.slice none 0 0)
        have hbF := hF.be
        obtain ⟨t0, t1, t2⟩ := cells3 hF.o
        unfold set3 at t0 t1 t2 hbF
        clear hF h2 hb2 hWX
        go_wp2_with fail
        exact bodyPost_ret (v := .tuple #[.agg #[.int .i64 0, .slice none 0 0, .slice none 0 0], .int .i64 0, .int .i64 6]) (by simp [results, Tryd.results55, go_sem, t0, t1, t2]) rfl ⟨none, 0, none, 0, rfl, CIn.void _ _, hbF⟩
      have d2 : decide ((m : Int) ≤ v) = false := decide_eq_false hcv
      rw [if_neg (by omega)] at hfsd
      rw [hfsd] at hR hfp hok
      rw [if_neg (by simp)] at hR
      clear hcu hcv hfsd
      obtain ⟨u, v, rfl, rfl, hum, hvm, hkk, -⟩ := hfp rfl
      have d3 : decide (m ≤ u) = false := decide_eq_false (by omega)
      have d4 : decide (m ≤ v) = false := decide_eq_false (by omega)
      have hoo := hok rfl
      clear hok
      have htw := fun W h => rsteps_any m u v k t wt lb sg a4 c4 ys W h hvy hkk
      unfold StPost at htw
      obtain ⟨E, hE⟩ : ∃ E, evF m (ys, c) ⟨k, t, (u : Int), (v : Int), wt, lb, sg⟩ = E := ⟨_, rfl⟩
      rw [hE] at hR
      unfold evF at hE
      dsimp only at hE
      unfold insK at hE hoo
      dsimp only at hE hoo
      obtain ⟨ts, hts⟩ : ∃ ts, touE ys ⟨k, t, (u : Int), (v : Int), wt, lb, sg⟩ = ts := ⟨_, rfl⟩
      rw [hts] at hE hoo htl htw
      have HE := Lib.hid hE
      have HRR := Lib.hid hR
      clear hE hR hts hfp
      go_upto_region 8 with fail
      rw [← HWX.out, HX.out]
      go_wp2_with fail
      refine (hfi wX).mono ?_
      rintro e w2 ⟨rfl, hb2⟩
      have hW2 := hWX.next hb2
      have hX2 := lit_next' hb2 hXX
      clear x0 x1 x2 x3 x4 x5 x6 g0 g1 g2 hXX hWX hb2
      have x0 := cell_blk (j := 0) hX2
      have x1 := cell_blk (j := 1) hX2
      have x2 := cell_blk (j := 2) hX2
      have x3 := cell_blk (j := 3) hX2
      have x4 := cell_blk (j := 4) hX2
      have x5 := cell_blk (j := 5) hX2
      have x6 := cell_blk (j := 6) hX2
      obtain ⟨g0, g1, g2⟩ := cells3 hW2.b.c
      go_wp2_with fail
      refine (htw w2 hW2.c.e).mono ?_
      rintro e w3 ⟨at_, ct, BB, rfl, hBB, hts, hat, hb3⟩
      have HBB := Lib.hid hBB
      clear hBB
      have hW3 := hW2.next hb3
      have hX3 := lit_next' hb3 hX2
      have hz2 := hW2.b.base
      clear x0 x1 x2 x3 x4 x5 x6 g0 g1 g2 hX2 hW2 hb3 hfi htw
      go_wp2_with fail
      go_loopw [7, 64] (fun vn vj wq => ∃ (j : Nat) (c' : Int) (zs : List E2) (a6 a7 : Option Addr) (c6 c7 : Nat), j ≤ ts.length ∧ vj = .int .i64 j ∧ vn = .int .i64 c' ∧ 0 ≤ c' ∧ c' ≤ c + 64 * (j : Int) ∧ OkT m (decide (k = 1)) zs (ts.drop j) ∧ Hid ((ts.drop j).foldl (stpF m (decide (k = 1))) (zs, c') = E) ∧ FolW w m zs a6 c6 a7 c7 wq ∧ w3.grownBy wq (some w.heap.size)) (fun _ vj _ => ts.length - (intOf vj).toNat)
      case atStart => exact ⟨0, c, ys, a4, a5, c4, c5, Nat.zero_le _, rfl, rfl, hc0, by simp, hoo, HE.out, hW3, grown_refl _ _⟩
      case round =>
        clear hoo hW3 hvy
        obtain ⟨j, c', zs, a6, a7, c6, c7, hjl, rfl, rfl, hc0', hc1', hoz, HZ, hQ, hgq⟩ := hrel
        by_cases hjt : j < ts.length
        · have hj3 : (j : Int) < ts.length := by omega
          obtain ⟨b9, o9, xx, y, rfl, hx, -, -, q0, q1⟩ := (hts.grown hgq (fun g e n c p ep => by cases e; have := hat p (Value.slice.inj ep).1; omega)).at j hjt
          have hvz := hoz.v
          have hoz' := okt_drop hx hoz
          have HZ' := HZ.out
          rw [stp_drop m _ _ ts j _ hx] at HZ'
          rw [stp_one] at HZ'
          have hXq := grown_blk hgq hX3 (fun e => by have := Option.some.inj e; omega)
          obtain ⟨hPP, hbP⟩ := box_new wr #[.int .i64 xx, .int .i64 y] 39
          obtain ⟨wP, hwP⟩ : ∃ W : World, W = wr.alloc (.cells #[.int .i64 xx, .int .i64 y] 39) := ⟨_, rfl⟩
          rw [← hwP] at hPP hbP
          have hP := hQ.next hbP
          have hXP := lit_next' hbP hXq
          have hgP := hgq.trans' hbP
          have HWP := Lib.hid hwP
          clear hwP hQ hgq hXq hbP hx hoz HZ
          have x0 := cell_blk (j := 0) hXP
          obtain ⟨y0, y1⟩ := cells2 hPP
          obtain ⟨g0, g1, g2⟩ := cells3 hP.b.c
          by_cases hk1 : k = 1
          · have dk : (k == 1) = true := by simpa using hk1
            have hkd : decide (k = 1) = true := by simpa using hk1
            have hbb : BB = true := by rw [HBB.out (fun h => by rw [h] at hjt; simp at hjt)]; exact hkd
            subst hbb
            rw [hkd] at hoz' HZ'
            obtain ⟨hxi, hxn, hxy, hon⟩ := hoz'.step
            obtain ⟨p, hp⟩ := Int.eq_ofNat_of_zero_le hxi.1
            obtain ⟨q, hq⟩ := Int.eq_ofNat_of_zero_le (show 0 ≤ y by have := hxi.1; have := hxi.2.1; dsimp only at *; omega)
            dsimp only at hp hq
            subst hp hq
            have hpn : p < m := by have := hxi.2.1; have := hxi.2.2; dsimp only at *; omega
            have hqn : q < m := by have := hxi.2.2; dsimp only at *; omega
            have hpq : p ≠ q := by have := hxi.2.1; dsimp only at *; omega
            have hpp : (min (p : Int) q, max (p : Int) q) = ((p : Int), (q : Int)) := by have := hxi.2.1; dsimp only at *; rw [show min (p : Int) q = p by omega, show max (p : Int) q = q by omega]
            have hdel := fun W h1 h2 => rdelete11_any (m : Int) (p : Int) (q : Int) a6 a7 c6 c7 zs (corT zs m) W h1 h2
            rw [cdel_gone hvz hpn hqn hpq (by rw [hpp]; exact hxn rfl)] at hdel
            have hins := fun W h1 h2 => rinsert11_any (m : Int) (p : Int) (q : Int) a6 a7 c6 c7 zs (corT zs m) W h1 h2
            rw [cins_ok hvz hpn hqn hpq (by rw [hpp]; exact hxn rfl)] at hins
            rw [hpp] at hins
            unfold stpE at HZ' hon
            rw [if_pos rfl] at HZ' hon
            obtain ⟨fs, hfs⟩ : ∃ fs, insE zs ((p : Int), (q : Int)) = fs := ⟨_, rfl⟩
            rw [hfs] at hins HZ' hon
            have hcl := chgL_len m (corT zs m) (corT fs m)
            obtain ⟨ch, hchg⟩ : ∃ ch, chgL m (corT zs m) (corT fs m) = ch := ⟨_, rfl⟩
            rw [hchg] at hins HZ' hcl
            unfold crN at hins
            have HZZ := Lib.hid HZ'
            have HON := Lib.hid hon
            have v1 : IntKind.i64.wrap (c' + (ch.length : Int)) = c' + (ch.length : Int) := IntWalk.i64_in _ (by omega)
            have HKD := Lib.hid hkd
            clear hfs hchg hxi hxn hxy hon hoz' HZ' hkd hpp hpq hpn hqn hvz hk1
            go_upto_region 17 with fail
            rw [← HWP.out]
            go_wp2_with fail
            refine (hdel wP hP.c.e hP.c.i).mono ?_
            rintro e w7 ⟨b8, d8, b9, d9, b10, d10, rfl, -, -, -, hb7⟩
            unfold Cr.zero
            dsimp only [List.length_nil]
            have h7 := hP.b.next hb7
            have hE7 := hP.c.e.below hb7
            have hI7 := hP.c.i.below hb7
            have hzP := hP.b.base
            have hP7 := lit_next' hb7 hPP
            obtain ⟨hdx, hdb⟩ := box_new w7 #[.int .i64 0, .slice b8 0 d8, .slice b9 0 d9] 62
            have h8 := h7.next hdb
            have hE8 := hE7.below hdb
            have hI8 := hI7.below hdb
            have hP8 := lit_next' hdb hP7
            have hg8 := (hgP.trans' hb7).trans' hdb
            have hgs := hgP.size
            have hzz := hb7.size
            obtain ⟨D, hD⟩ : ∃ D, w7.heap.size = D := ⟨_, rfl⟩
            obtain ⟨w8, hw8⟩ : ∃ W : World, W = w7.alloc (.cells #[.int .i64 0, .slice b8 0 d8, .slice b9 0 d9] 62) := ⟨_, rfl⟩
            rw [← hw8] at hdx h8 hE8 hI8 hP8 hg8
            rw [hD] at hdx hzz
            have HW8 := Lib.hid hw8
            have HD := Lib.hid hD
            clear hw8 hD h7 hdb hb7 hXP hPP hP hgP x0 y0 y1 g0 g1 g2 hE7 hI7 hP7 hdel
            go_upto_region 18 with fail
            rw [← HW8.out, HD.out]
            obtain ⟨g0, g1, g2⟩ := cells3 h8.c
            obtain ⟨y0, y1⟩ := cells2 hP8
            go_wp2_with fail
            refine (hins w8 hE8 hI8).mono ?_
            rintro e w9 ⟨ag, cg, a3, c3, a8, c8, rfl, hq9, hi9, -, hb9⟩
            dsimp only at hq9 hi9 ⊢
            have h9 := h8.next hb9
            have hd9 := lit_next' hb9 hdx
            obtain ⟨z0, z1, z2⟩ := cells3 hd9
            obtain ⟨f0, f1, f2⟩ := frees3 hd9
            have hDl : D < w8.heap.size := blk_lt hdx
            have hz8 := h8.base
            have hg9 := set3_grown w9 D (.int .i64 m) (.slice ag fs.length cg) (.slice a3 (corT fs m).length c3)
            have hdx' := set3_at hd9 (.int .i64 m) (.slice ag fs.length cg) (.slice a3 (corT fs m).length c3)
            have h10 := h9.grown hg9 (fun k e => by cases e; omega)
            have hq10 := (hq9.grown hg9 (fun k e => by cases e; exact hDl)).mono (show w.heap.size + 2 ≤ w8.heap.size by omega)
            have hg10 := grown_new (hg8.trans' hb9) hg9 (fun g e => .inr (by cases e; omega))
            obtain ⟨w10, hw10⟩ : ∃ W : World, W = set3 w9 D (.int .i64 m) (.slice ag fs.length cg) (.slice a3 (corT fs m).length c3) := ⟨_, rfl⟩
            rw [← hw10] at hdx' h10 hq10 hg10
            unfold set3 at hw10
            have HW10 := Lib.hid hw10
            clear hw10 hd9 hg9 h9 h8 hdx hq9 hi9 hg8 hb9 hE8 hI8 hP8 hins g0 g1 g2 y0 y1
            go_upto_region 20 with fail
            rw [← HW10.out]
            clear z0 z1 z2 f0 f1 f2
            obtain ⟨z0, z1, z2⟩ := cells3 hdx'
            obtain ⟨g0, g1, g2⟩ := cells3 h10.c
            obtain ⟨f0, f1, f2⟩ := frees3 h10.c
            have hF := FolW.set h10 hq10
            have hgF := hg10.trans'' (set3_grown w10 w.heap.size (.int .i64 m) (.slice ag fs.length cg) (.slice a3 (corT fs m).length c3))
            unfold set3 at hF hgF
            have HFF := Lib.hid (And.intro hF hgF)
            clear hF hgF h10 hg10
            go_wp2_with fail
            go_roundw
            case rel => exact ⟨j + 1, c' + (ch.length : Int), fs, ag, a3, cg, c3, by omega, by go_num, rfl, by omega, by push_cast; omega, (by rw [HKD.out]; exact HON.out), (show _ = _ by rw [HKD.out]; exact HZZ.out), HFF.out.1, HFF.out.2⟩
            case measure => simp [intOf]; omega
          · have dk : (k == 1) = false := by simpa using hk1
            have hkd : decide (k = 1) = false := by simpa using hk1
            have hbb : BB = false := by rw [HBB.out (fun h => by rw [h] at hjt; simp at hjt)]; exact hkd
            subst hbb
            rw [hkd] at hoz' HZ'
            obtain ⟨hxi, hxn, hxy, hon⟩ := hoz'.step
            obtain ⟨p, hp⟩ := Int.eq_ofNat_of_zero_le hxi.1
            obtain ⟨q, hq⟩ := Int.eq_ofNat_of_zero_le (show 0 ≤ y by have := hxi.1; have := hxi.2.1; dsimp only at *; omega)
            dsimp only at hp hq
            subst hp hq
            have hpn : p < m := by have := hxi.2.1; have := hxi.2.2; dsimp only at *; omega
            have hqn : q < m := by have := hxi.2.2; dsimp only at *; omega
            have hpq : p ≠ q := by have := hxi.2.1; dsimp only at *; omega
            have hpp : (min (p : Int) q, max (p : Int) q) = ((p : Int), (q : Int)) := by have := hxi.2.1; dsimp only at *; rw [show min (p : Int) q = p by omega, show max (p : Int) q = q by omega]
            have hdel := fun W h1 h2 => rdelete11_any (m : Int) (p : Int) (q : Int) a6 a7 c6 c7 zs (corT zs m) W h1 h2
            rw [cdel_ok hvz hpn hqn hpq (by rw [hpp]; exact hxy rfl)] at hdel
            rw [hpp] at hdel
            unfold stpE at HZ' hon
            rw [if_neg (by simp)] at HZ' hon
            obtain ⟨fs, hfs⟩ : ∃ fs, delE zs ((p : Int), (q : Int)) = fs := ⟨_, rfl⟩
            rw [hfs] at hdel HZ' hon
            have hcl := chgL_len m (corT zs m) (corT fs m)
            obtain ⟨ch, hchg⟩ : ∃ ch, chgL m (corT zs m) (corT fs m) = ch := ⟨_, rfl⟩
            rw [hchg] at hdel HZ' hcl
            unfold crN at hdel
            have HZZ := Lib.hid HZ'
            have HON := Lib.hid hon
            have v1 : IntKind.i64.wrap (c' + (ch.length : Int)) = c' + (ch.length : Int) := IntWalk.i64_in _ (by omega)
            have HKD := Lib.hid hkd
            clear hfs hchg hxi hxn hxy hon hoz' HZ' hkd hpp hpq hpn hqn hvz hk1
            go_upto_region 17 with fail
            rw [← HWP.out]
            go_wp2_with fail
            refine (hdel wP hP.c.e hP.c.i).mono ?_
            rintro e w7 ⟨ag, cg, a3, c3, a8, c8, rfl, hq7, hi8, -, hb7⟩
            dsimp only at hq7 hi8 ⊢
            have h7 := hP.b.next hb7
            have hzP := hP.b.base
            obtain ⟨hdx, hdb⟩ := box_new w7 #[.int .i64 m, .slice ag fs.length cg, .slice a3 (corT fs m).length c3] 62
            have h8 := h7.next hdb
            have hq8 := hq7.below hdb
            have hg8 := (hgP.trans' hb7).trans' hdb
            obtain ⟨D, hD⟩ : ∃ D, w7.heap.size = D := ⟨_, rfl⟩
            obtain ⟨w8, hw8⟩ : ∃ W : World, W = w7.alloc (.cells #[.int .i64 m, .slice ag fs.length cg, .slice a3 (corT fs m).length c3] 62) := ⟨_, rfl⟩
            rw [← hw8] at hdx h8 hq8 hg8
            rw [hD] at hdx
            have HW8 := Lib.hid hw8
            have HD := Lib.hid hD
            clear hw8 hD h7 hq7 hdb hb7 hXP hPP hP hgP x0 y0 y1 g0 g1 g2
            go_upto_region 18 with fail
            rw [← HW8.out, HD.out]
            obtain ⟨z0, z1, z2⟩ := cells3 hdx
            obtain ⟨g0, g1, g2⟩ := cells3 h8.c
            obtain ⟨f0, f1, f2⟩ := frees3 h8.c
            have hF := FolW.set h8 (hq8.mono hzP)
            have hgF := hg8.trans'' (set3_grown w8 w.heap.size (.int .i64 m) (.slice ag fs.length cg) (.slice a3 (corT fs m).length c3))
            unfold set3 at hF hgF
            have HFF := Lib.hid (And.intro hF hgF)
            clear hF hgF h8 hg8
            go_wp2_with fail
            go_roundw
            case rel => exact ⟨j + 1, c' + (ch.length : Int), fs, ag, a3, cg, c3, by omega, by go_num, rfl, by omega, by push_cast; omega, (by rw [HKD.out]; exact HON.out), (show _ = _ by rw [HKD.out]; exact HZZ.out), HFF.out.1, HFF.out.2⟩
            case measure => simp [intOf]; omega
        · obtain rfl : ts.length = j := by omega
          have hZ := HZ.out
          rw [List.drop_length] at hZ
          have hR := HRR.out
          rw [← hZ] at hR
          have HR2 := Lib.hid hR
          have hvz := hoz.v
          clear hZ hR hoz
          go_wp2_with fail
          go_roundw
          case rel => exact ⟨i + 1, c', zs, a6, a7, c6, c7, by omega, by go_num, rfl, hc0', by push_cast; omega, hvz, HR2.out, hQ⟩
          case measure => simp [intOf]; omega
    · obtain rfl : evs.length = i := by omega
      have hR := HR.out
      rw [List.drop_length] at hR
      subst hR
      have hres : RES = (crN m ys, c, 0) := by rw [← HRES.out]; exact if_neg (by simp [folF])
      subst hres
      obtain ⟨g0, g1, g2⟩ := cells3 hW.b.c
      obtain ⟨f0, f1, f2⟩ := frees3 hW.b.o
      obtain ⟨r0, r1, r2⟩ := cells3 hW.b.o
      have hF := hW.b.fin (.int .i64 m) (.slice a4 ys.length c4) (.slice a5 (corT ys m).length c5)
      have hCF := (hW.c.grown (set3_grown wr (w.heap.size + 1) (.int .i64 m) (.slice a4 ys.length c4) (.slice a5 (corT ys m).length c5)) (fun k e => by cases e; omega)).mono (show w.heap.size ≤ w.heap.size + 2 by omega)
      have hbF := hF.be
      obtain ⟨t0, t1, t2⟩ := cells3 hF.o
      unfold set3 at t0 t1 t2 hbF hCF
      have HFF := Lib.hid (And.intro hCF hbF)
      clear hF hCF hbF hW
      go_wp2_with fail
      exact bodyPost_ret (v := .tuple #[.agg #[.int .i64 m, .slice a4 ys.length c4, .slice a5 (corT ys m).length c5], .int .i64 c, .int .i64 0]) (by simp [results, Tryd.results55, go_sem, t0, t1, t2]) rfl ⟨a4, c4, a5, c5, rfl, HFF.out.1, HFF.out.2⟩
end Go.Proofs.YtkknknehchnccaaDoor

namespace Go.Proofs.YtkknknehchnccaaDoor
open Go.RowKit Go.BigFrame

def MixPost (b : Nat) (most : Int) (w : World) (e : Ending) (w' : World) : Prop := ∃ a cap l, e = .returned (.slice a l.length cap) ∧ RowAt encEv w' (.slice a l.length cap) l ∧ (∀ x ∈ l, evS x = 0) ∧ (l.length : Int) ≤ most ∧ DeckAt w' b ∧ w.grownBy w' (some b) ∧ ∀ p, a = some p → w.heap.size ≤ p.block
theorem own_next {W W' : World} {base T k n m b cap : Nat} {a : Option Addr} {xs : List Value} (ho : W.ownsRow base T k (.slice a m cap) n xs) (hb : b < base) (hg : W.grownBy W' (some b)) : W'.ownsRow base T k (.slice a m cap) n xs :=
  ho.kept hg (by
    cases a with
    | none => exact .inl rfl
    | some p => right; intro e; have := ho.lt p.block rfl; have := Option.some.inj e; omega)
theorem lit_ev' (w : World) (e : Ev) (T : Nat) : RowAt encEv (w.alloc (.cells e.cells T)) (.slice (some ⟨w.heap.size, 0, none⟩) 1 1) [e] := rows_lit1 w e T _ rfl
set_option maxRecDepth 100000 in
set_option maxHeartbeats 3200000 in
theorem mixed_any (b : Nat) (n most : Int) (w : World) (hd : DeckAt w b) (hn : 2 ≤ n) (hn64 : n ≤ 64) (h0 : 0 ≤ most) (h1 : most ≤ 1000) :
    Calls Tryd.prog 53 #[.pointer (some ⟨b, 0, none⟩), .int .i64 n, .int .i64 most] w (MixPost b most w) := by
  have hbw := hd.lt
  have hn1 : 1 < n := by omega
  go_enter Tryd.func53, Tryd.ntmps53
  go_wp2_with fail
  refine (next_any b (most + 1) _ hd (by omega) (by omega)).mono ?_
  rintro e w1 ⟨K, hK0, hK1, rfl, hd1, hg1⟩
  go_wp2_with fail
  go_loopw [7, 8, 9] (fun vl vt vk wr => ∃ (l : List Ev) (t k : Int), vt = .int .i64 t ∧ vk = .int .i64 k ∧ 0 ≤ k ∧ (l.length : Int) + k = K ∧ 0 ≤ t ∧ t ≤ 5 + 2 * (l.length : Int) ∧ wr.ownsRow w.heap.size 78 encEv.k vl l.length (flatR encEv l) ∧ Hid (∀ x ∈ l, evS x = 0) ∧ DeckAt wr b ∧ w.grownBy wr (some b)) (fun _ _ k _ => (intOf k).toNat)
  case atStart => exact ⟨[], 5, K, rfl, rfl, hK0, by simp, by omega, by simp, World.ownsRow_nil _ _ _ _, (show _ from fun x hx => by cases hx), hd1, hg1⟩
  case round =>
    clear hd hd1 hg1
    obtain ⟨l, t, k, rfl, rfl, hk0, hlk, ht0, ht1, hown, HA, hdk, hgr⟩ := hrel
    obtain ⟨a7, cap7, hv7⟩ := owns_shape hown
    subst hv7
    by_cases hk : 0 < k
    · go_wp2_with fail
      refine (next_any b 7 _ hdk (by omega) (by omega)).mono ?_
      rintro e w2 ⟨y, hy0, hy1, rfl, hd2, hg2⟩
      have hown2 := own_next hown hbw hg2
      have hgr2 := grown_trans hgr hg2
      clear hown hgr hdk hg2
      have v1 : IntKind.i64.wrap (t - y) = t - y := IntWalk.i64_in _ (by omega)
      go_wp2_with fail
      all_goals
        refine (event_any b n _ _ hd2 hn hn64 (by omega) (by omega)).mono ?_
        rintro e w3 ⟨x, rfl, hx0, -, -, -, -, -, hd3, hg3⟩
        have hown3 := own_next hown2 hbw hg3
        have hgr3 := grown_trans hgr2 hg3
        have hlx := lit_ev' w3 x 78
        have hownA := hown3.alloc (.cells x.cells 78)
        clear hown2 hgr2 hd2 hg3
        unfold Ev.cells at hlx hownA ⊢
        have hd3A := hd3.alloc (.cells x.cells 78)
        have hgrA := grown_trans hgr3 (World.grownBy_alloc w3 (.cells x.cells 78) (some b))
        unfold Ev.cells at hd3A hgrA
        go_wp2_with (at_builtin; refine wpList_app_rows evRT rfl _ _ rfl w.heap.size (.slice a7 l.length cap7) _ l [x] rfl hownA rfl hlx (by simp; omega) (by simp; omega) hgrA.size ?_; intro v6 w6 hown6 hg6)
        have hblk : ∀ g, (Value.slice a7 l.length cap7).ownBlock = some g → b < g ∧ w.heap.size ≤ g := fun g e => by have := hownA.lt g e; omega
        have hd6 := hd3A.kept hg6 (fun g e => (hblk g e).1)
        have hgr6 := grown_new hgrA hg6 (fun g e => .inr (hblk g e).2)
        obtain ⟨a6, cap6, hv6⟩ := owns_shape hown6
        subst hv6
        refine (next_any b 3 _ hd6 (by omega) (by omega)).mono ?_
        rintro e w7 ⟨z, hz0, hz1, rfl, hd7, hg7⟩
        have hown7 := hown6.kept hg7 (by
          cases a6 with
          | none => exact .inl rfl
          | some p => right; intro e; have := hown6.lt p.block rfl; have := Option.some.inj e; omega)
        have hgr7 := grown_trans hgr6 hg7
        clear hown3 hownA hown6 hgrA hgr6 hd6 hg6 hg7 hd3 hgr3 hlx hd3A
        go_wp2_with fail
        go_roundw
        case rel => exact ⟨l ++ [x], t + z, k - 1, rfl, rfl, by omega, by simp; omega, by omega, by simp; omega, (by simpa using hown7), (show _ from fun x' hx' => by
          rcases List.mem_append.1 hx' with h | h
          · exact HA.out x' h
          · rw [List.mem_singleton.1 h]; exact hx0), hd7, hgr7⟩
        case measure => simp [intOf]; omega
    · obtain rfl : k = 0 := by omega
      obtain ⟨a1, c1, e1, hr1, p1⟩ := RowAt.of_owns hown (by omega)
      cases e1
      go_wp2_with fail
      go_ret
      exact ⟨a7, cap7, l, rfl, hr1, HA.out, by omega, hdk, hgr, p1⟩
end Go.Proofs.YtkknknehchnccaaDoor

namespace Go.Proofs.YtkknknehchnccaaDoor
open Go.RowKit Go.BigFrame

def MixIn (b : Nat) (n most : Int) (w : World) (e : Ending) (w' : World) : Prop := ∃ a cap l, e = .returned (.slice a l.length cap) ∧ RowAt encEv w' (.slice a l.length cap) l ∧ (∀ x ∈ l, evS x = 0 ∧ x.u < n ∧ x.v < n) ∧ (l.length : Int) ≤ most ∧ DeckAt w' b ∧ w.grownBy w' (some b) ∧ ∀ p, a = some p → w.heap.size ≤ p.block
set_option maxRecDepth 100000 in
set_option maxHeartbeats 3200000 in
theorem mixed_in (b : Nat) (n most : Int) (w : World) (hd : DeckAt w b) (hn : 2 ≤ n) (hn64 : n ≤ 64) (h0 : 0 ≤ most) (h1 : most ≤ 1000) :
    Calls Tryd.prog 53 #[.pointer (some ⟨b, 0, none⟩), .int .i64 n, .int .i64 most] w (MixIn b n most w) := by
  have hbw := hd.lt
  have hn1 : 1 < n := by omega
  go_enter Tryd.func53, Tryd.ntmps53
  go_wp2_with fail
  refine (next_any b (most + 1) _ hd (by omega) (by omega)).mono ?_
  rintro e w1 ⟨K, hK0, hK1, rfl, hd1, hg1⟩
  go_wp2_with fail
  go_loopw [7, 8, 9] (fun vl vt vk wr => ∃ (l : List Ev) (t k : Int), vt = .int .i64 t ∧ vk = .int .i64 k ∧ 0 ≤ k ∧ (l.length : Int) + k = K ∧ 0 ≤ t ∧ t ≤ 5 + 2 * (l.length : Int) ∧ wr.ownsRow w.heap.size 78 encEv.k vl l.length (flatR encEv l) ∧ Hid (∀ x ∈ l, evS x = 0 ∧ x.u < n ∧ x.v < n) ∧ DeckAt wr b ∧ w.grownBy wr (some b)) (fun _ _ k _ => (intOf k).toNat)
  case atStart => exact ⟨[], 5, K, rfl, rfl, hK0, by simp, by omega, by simp, World.ownsRow_nil _ _ _ _, (show _ from fun x hx => by cases hx), hd1, hg1⟩
  case round =>
    clear hd hd1 hg1
    obtain ⟨l, t, k, rfl, rfl, hk0, hlk, ht0, ht1, hown, HA, hdk, hgr⟩ := hrel
    obtain ⟨a7, cap7, hv7⟩ := owns_shape hown
    subst hv7
    by_cases hk : 0 < k
    · go_wp2_with fail
      refine (next_any b 7 _ hdk (by omega) (by omega)).mono ?_
      rintro e w2 ⟨y, hy0, hy1, rfl, hd2, hg2⟩
      have hown2 := own_next hown hbw hg2
      have hgr2 := grown_trans hgr hg2
      clear hown hgr hdk hg2
      have v1 : IntKind.i64.wrap (t - y) = t - y := IntWalk.i64_in _ (by omega)
      go_wp2_with fail
      all_goals
        refine (event_any b n _ _ hd2 hn hn64 (by omega) (by omega)).mono ?_
        rintro e w3 ⟨x, rfl, hx0', -, -, hxu, -, hxv, hd3, hg3⟩
        have hx0 := Lib.hid (And.intro hx0' (And.intro hxu hxv))
        clear hx0' hxu hxv
        have hown3 := own_next hown2 hbw hg3
        have hgr3 := grown_trans hgr2 hg3
        have hlx := lit_ev' w3 x 78
        have hownA := hown3.alloc (.cells x.cells 78)
        clear hown2 hgr2 hd2 hg3
        unfold Ev.cells at hlx hownA ⊢
        have hd3A := hd3.alloc (.cells x.cells 78)
        have hgrA := grown_trans hgr3 (World.grownBy_alloc w3 (.cells x.cells 78) (some b))
        unfold Ev.cells at hd3A hgrA
        go_wp2_with (at_builtin; refine wpList_app_rows evRT rfl _ _ rfl w.heap.size (.slice a7 l.length cap7) _ l [x] rfl hownA rfl hlx (by simp; omega) (by simp; omega) hgrA.size ?_; intro v6 w6 hown6 hg6)
        have hblk : ∀ g, (Value.slice a7 l.length cap7).ownBlock = some g → b < g ∧ w.heap.size ≤ g := fun g e => by have := hownA.lt g e; omega
        have hd6 := hd3A.kept hg6 (fun g e => (hblk g e).1)
        have hgr6 := grown_new hgrA hg6 (fun g e => .inr (hblk g e).2)
        obtain ⟨a6, cap6, hv6⟩ := owns_shape hown6
        subst hv6
        refine (next_any b 3 _ hd6 (by omega) (by omega)).mono ?_
        rintro e w7 ⟨z, hz0, hz1, rfl, hd7, hg7⟩
        have hown7 := hown6.kept hg7 (by
          cases a6 with
          | none => exact .inl rfl
          | some p => right; intro e; have := hown6.lt p.block rfl; have := Option.some.inj e; omega)
        have hgr7 := grown_trans hgr6 hg7
        clear hown3 hownA hown6 hgrA hgr6 hd6 hg6 hg7 hd3 hgr3 hlx hd3A
        go_wp2_with fail
        go_roundw
        case rel => exact ⟨l ++ [x], t + z, k - 1, rfl, rfl, by omega, by simp; omega, by omega, by simp; omega, (by simpa using hown7), (show _ from fun x' hx' => by
          rcases List.mem_append.1 hx' with h | h
          · exact HA.out x' h
          · rw [List.mem_singleton.1 h]; exact hx0.out), hd7, hgr7⟩
        case measure => simp [intOf]; omega
    · obtain rfl : k = 0 := by omega
      obtain ⟨a1, c1, e1, hr1, p1⟩ := RowAt.of_owns hown (by omega)
      cases e1
      go_wp2_with fail
      go_ret
      exact ⟨a7, cap7, l, rfl, hr1, HA.out, by omega, hdk, hgr, p1⟩
end Go.Proofs.YtkknknehchnccaaDoor

namespace Go.Proofs.YtkknknehchnccaaDoor
open Go.RowKit Go.BigFrame

theorem ListAt.belowE {w w' : World} {a : Option Addr} {len : Nat} (h : ListAt w a len) (hb : Below w.heap.size w w') : ListAt w' a len := ⟨h.1, fun j hj => by
  obtain ⟨c, off, x, ha, hc, hx⟩ := h.2 j hj
  exact ⟨c, off, x, ha, (hb.cell (p := ⟨c, off + j, none⟩) (cell_lt hc)).trans hc, hx⟩⟩
set_option maxRecDepth 100000 in
set_option maxHeartbeats 12800000 in
theorem repairFollows_law (re : Ev) (a : Option Addr) (len cap : Nat) (w : World) (hl : ListAt w a len) (hT : TzAt w) :
    Calls Tryd.prog 10 #[.agg re.cells, .slice a len cap] w fun e w' => e = .returned (.bool true) ∧ Below w.heap.size w w' := by
  obtain ⟨k, t, u, v, wt, lb, sg⟩ := re
  unfold Ev.cells
  dsimp only
  obtain ⟨hxE, hbE⟩ := box_new w #[.int .i64 k, .int .i64 t, .int .i64 u, .int .i64 v, .int .i64 wt, .int .i64 lb, .int .i64 sg] 78
  obtain ⟨-, hbD⟩ := box_new (w.alloc (.cells #[.int .i64 k, .int .i64 t, .int .i64 u, .int .i64 v, .int .i64 wt, .int .i64 lb, .int .i64 sg] 78)) #[.slice a len cap, .int .i64 0] 86
  have hdk := deck_new (cap := cap) (hl.belowE hbE)
  have hz0 : (w.alloc (.cells #[.int .i64 k, .int .i64 t, .int .i64 u, .int .i64 v, .int .i64 wt, .int .i64 lb, .int .i64 sg] 78)).heap.size = w.heap.size + 1 := by simp
  rw [hz0] at hdk
  have hxD := lit_next' hbD hxE
  have hb1 := hbE.trans (hbD.mono hbE.size)
  clear hbE hbD hxE hl hz0
  go_enter Tryd.func10, Tryd.ntmps10
  go_wp2_with (first
    | (go_at_call 13; refine (new_any _ _ _ _).mono ?_; rintro e w' ⟨rfl, rfl⟩))
  refine (cores_any (w.heap.size + 1) _ hdk).mono ?_
  rintro e w2 ⟨n, es, l, a4, c4, g, rfl, hv, hn8, hll, he, hi, hea, hgw, hd2, hg2⟩
  have hbw := hdk.lt
  have hx2 := grown_blk hg2 hxD (fun e => by have := Option.some.inj e; omega)
  have hb2 := hb1.grown hg2 hb1.size (fun k e => by cases e; omega)
  have hz2 := hd2.lt
  obtain ⟨hcx, hcb⟩ := box_new w2 #[.int .i64 n, .slice a4 es.length c4, .slice (some ⟨g, 0, none⟩) l.length n] 62
  have hq2 : CIn w2 (w.heap.size + 1 + 1) a4 c4 es (some ⟨g, 0, none⟩) n l := ⟨he, hi, fun p hp => by have := hea p hp; omega, fun p hp => by cases hp; dsimp only; omega⟩
  have hS : RbW w (w.heap.size + 1) w2.heap.size n es a4 c4 (some ⟨g, 0, none⟩) n l (w2.alloc (.cells #[.int .i64 n, .slice a4 es.length c4, .slice (some ⟨g, 0, none⟩) l.length n] 62)) :=
    ⟨hd2.alloc _, hcx, hq2.below hcb, hb2.alloc hb2.size _, hz2, by omega⟩
  have hx3 := lit_next' hcb hx2
  obtain ⟨W3, hW3⟩ : ∃ W : World, W = w2.alloc (.cells #[.int .i64 n, .slice a4 es.length c4, .slice (some ⟨g, 0, none⟩) l.length n] 62) := ⟨_, rfl⟩
  obtain ⟨Q, hQ⟩ : ∃ Q, w2.heap.size = Q := ⟨_, rfl⟩
  rw [← hW3] at hx3
  rw [← hW3, hQ] at hS
  have HW3 := Lib.hid hW3
  have HQ := Lib.hid hQ
  have HLL := Lib.hid hll
  have hmx : 2 ≤ max 2 (n : Int) ∧ max 2 (n : Int) ≤ 64 := by omega
  clear hW3 hQ hcx hcb hq2 hz2 hb2 hx2 hd2 hg2 he hi hea hgw hxD hb1 hdk hbw hll
  go_upto_region 3 with fail
  rw [← HW3.out, HQ.out]
  obtain ⟨x0, x1, x2⟩ := cells3 hS.x
  go_wp2_with fail
  all_goals
    refine (mixed_in (w.heap.size + 1) _ 10 _ hS.d (by omega) (by omega) (by omega) (by omega)).mono ?_
    rintro _ w4 ⟨av, cv, L, rfl, hr, -, hLl, hd4, hg4, -⟩
    have hS4 := hS.next hd4 hg4
    have hx4 := grown_blk hg4 hx3 (fun e => by have := Option.some.inj e; omega)
    clear hS hx3 hd4 hg4 x0 x1 x2
    go_upto_region 4 with fail
    have hLlen : L.length ≤ 10 := by omega
    have hbd : Below w4.heap.size w4 w4.drew := (Below.refl _ _).drew
    have hrd := hr.below hbd
    obtain ⟨-, hbz⟩ := box_new w4 #[.int .i64 k, .int .i64 t, .int .i64 u, .int .i64 v, .int .i64 wt, .int .i64 lb, .int .i64 sg] 78
    have hbzd := hbz.drew
    have hrz := hr.below hbzd
    have hxd : w4.drew.heap[w.heap.size]? = _ := hx4
    have hlz := (lit_ev' w4 ⟨k, t, u, v, wt, lb, sg⟩ 78).below (Below.refl _ _).drew
    have hlit := fun W => lit_ev' W ⟨k, t, u, v, wt, lb, sg⟩ 78
    unfold Ev.cells at hlz hlit
    dsimp only at hlz hlit
    have e0 := cell_blk (j := 0) hx4
    have e1 := cell_blk (j := 1) hx4
    have e2 := cell_blk (j := 2) hx4
    have e3 := cell_blk (j := 3) hx4
    have e4 := cell_blk (j := 4) hx4
    have e5 := cell_blk (j := 5) hx4
    have e6 := cell_blk (j := 6) hx4
    go_cut [32, 33, 34] from 26 to 34 (fun sv lv iv wx => ∃ (B : Nat) (a5 : Option Addr) (c5 : Nat), sv = .slice (some ⟨B, 0, none⟩) 3 3 ∧ lv = .int .i64 3 ∧ iv = .int .i64 0 ∧ wx.heap[B]? = some (.cells #[.slice av L.length cv, .slice none 0 0, .slice a5 (L.length + 1) c5] 79 (0, 0)) ∧ RowAt encEv wx (.slice a5 (L.length + 1) c5) (L ++ [⟨k, t, u, v, wt, lb, sg⟩]) ∧ Below w4.heap.size w4 wx)
    case first =>
      go_region_law (first
        | (refine step_app_rows evRT rfl (.const (.slice none 0 0)) (.tmp 27) rfl w4.heap.size (.slice none 0 0) (.slice av L.length cv) [] L rfl (by exact World.ownsRow_nil _ _ _ _) rfl (by exact hrd) (by simp; omega) (by simp; omega) (by exact hbd.size) ?_; intro v5 w5 hown5 hg5; simp only [List.nil_append] at hown5; obtain ⟨a5, c5, hv5⟩ := owns_shape hown5; subst hv5; have hb5 := hbd.trans ((below_of_grown hg5).mono hbd.size); have hx5 := lit_next' hb5 hx4; have p0 := cell_blk (j := 0) hx5; have p1 := cell_blk (j := 1) hx5; have p2 := cell_blk (j := 2) hx5; have p3 := cell_blk (j := 3) hx5; have p4 := cell_blk (j := 4) hx5; have p5 := cell_blk (j := 5) hx5; have p6 := cell_blk (j := 6) hx5; have hownA := hown5.alloc (.cells #[.int .i64 k, .int .i64 t, .int .i64 u, .int .i64 v, .int .i64 wt, .int .i64 lb, .int .i64 sg] 78); have hlA := hlit w5)
        | (refine step_app_rows evRT rfl (.const (.slice none 0 0)) (.tmp 27) rfl w4.heap.size (.slice none 0 0) (.slice av L.length cv) [] L rfl (by exact World.ownsRow_nil _ _ _ _) rfl (by exact hrz) (by simp; omega) (by simp; omega) (by exact hbzd.size) ?_; intro v5 w5 hown5 hg5; simp only [List.nil_append] at hown5; obtain ⟨a5, c5, hv5⟩ := owns_shape hown5; subst hv5; have hb5 := hbzd.trans ((below_of_grown hg5).mono hbzd.size); have hownA := hown5; have hlA := hlz.below (below_of_grown hg5))
        | (refine step_app_rows evRT rfl (.tmp 28) (.tmp 30) rfl w4.heap.size (.slice a5 L.length c5) _ L [⟨k, t, u, v, wt, lb, sg⟩] rfl hownA rfl hlA (by simp; omega) (by simp; omega) (by have := hb5.size; simp; omega) ?_; intro v6 w6 hown6 hg6; simp only [List.length_append, List.length_cons, List.length_nil, Nat.zero_add] at hown6; obtain ⟨a6, c6, hv6⟩ := owns_shape hown6; subst hv6))
      all_goals
        have hb6 : Below w4.heap.size w4 w6 := (by first | exact hb5.grown hg6 hb5.size (fun g e => (hownA.lt g e).1) | exact (hb5.alloc hb5.size _).grown hg6 (hb5.alloc hb5.size _).size (fun g e => (hownA.lt g e).1))
        have hlen7 : (L ++ [(⟨k, t, u, v, wt, lb, sg⟩ : Ev)]).length = L.length + 1 := by simp
        obtain ⟨a7, c7, hv7, hr7, -⟩ := RowAt.of_owns (xs := L ++ [(⟨k, t, u, v, wt, lb, sg⟩ : Ev)]) (by rw [hlen7]; exact hown6) (by rw [hlen7]; omega)
        rw [hlen7] at hv7 hr7
        cases hv7
        go_wp2_with fail
        go_meet
        exact ⟨w6.heap.size, a6, c6, rfl, rfl, rfl, heap_alloc_new _ _, hr7.below ((Below.refl _ _).alloc (Nat.le_refl _) _), hb6.alloc hb6.size _⟩
    case rest =>
    obtain ⟨B, a5, c5, rfl, rfl, rfl, hB, hr5, hb5⟩ := hcut
    have hSc := hS4.below hb5
    have hrc := hr.below hb5
    clear hbd hrd hbz hbzd hrz hxd hlz hlit e0 e1 e2 e3 e4 e5 e6 hS4 hx4 hr hb5
    go_wp2_with fail
    go_loopw [34] (fun vi wr => ∃ j : Nat, j ≤ 3 ∧ vi = .int .i64 j ∧ Below wc.heap.size wc wr) (fun vi _ => 3 - (intOf vi).toNat)
    case atStart => exact ⟨0, Nat.zero_le _, rfl, Below.refl _ _⟩
    case round =>
      obtain ⟨j, hj, rfl, hbj⟩ := hrel
      have hS := hSc.below hbj
      by_cases hlt : j < 3
      · have hBr := lit_next' hbj hB
        obtain ⟨ax, cx, LL, hcell, hrow, hLL⟩ : ∃ (ax : Option Addr) (cx : Nat) (LL : List Ev), wr.cell? ⟨B, j, none⟩ = some (.slice ax LL.length cx) ∧ RowAt encEv wr (.slice ax LL.length cx) LL ∧ LL.length ≤ 1000 := by
          rcases (show j = 0 ∨ j = 1 ∨ j = 2 by omega) with rfl | rfl | rfl
          · exact ⟨av, cv, L, cell_blk hBr, hrc.below hbj, by omega⟩
          · exact ⟨none, 0, [], cell_blk hBr, RowAt.void (fun _ => rfl), by simp⟩
          · exact ⟨a5, c5, L ++ [⟨k, t, u, v, wt, lb, sg⟩], by rw [cell_blk hBr]; simp, by have h := hr5.below hbj; simpa using h, by simp; omega⟩
        have hj3 : (j : Int) < 3 := by omega
        have hf1 := rpfollow_any n a4 (some ⟨g, 0, none⟩) ax c4 n cx es l LL wr hS.q.e hS.q.i hrow hLL (hT.below hS.be)
        have hf2 := fun W h1 h2 h3 => rfollow_any n a4 (some ⟨g, 0, none⟩) ax c4 n cx es l LL W h1 h2 h3 hLL
        obtain ⟨FX, hFX⟩ : ∃ F, folX ⟨n, es, l⟩ LL = F := ⟨_, rfl⟩
        rw [hFX] at hf1 hf2
        obtain ⟨⟨xn, xes, xl⟩, xc, xf⟩ := FX
        unfold FPost at hf1 hf2
        dsimp only at hf1 hf2
        have n1 : (xc != xc) = false := by simp
        have n2 : (xf != xf) = false := by simp
        clear hFX hBr
        obtain ⟨x0, x1, x2⟩ := cells3 hS.x
        go_wp2_with fail
        refine hf1.mono ?_
        rintro _ w6 ⟨b1, d1, b2, d2, rfl, hq6, hb6⟩
        obtain ⟨hcx, hcb⟩ := box_new w6 #[.int .i64 xn, .slice b1 xes.length d1, .slice b2 xl.length d2] 62
        have hb67 := hb6.trans (hcb.mono hb6.size)
        have hq7 := hq6.below hcb
        obtain ⟨w7, hw7⟩ : ∃ W : World, W = w6.alloc (.cells #[.int .i64 xn, .slice b1 xes.length d1, .slice b2 xl.length d2] 62) := ⟨_, rfl⟩
        obtain ⟨X, hX⟩ : ∃ X, w6.heap.size = X := ⟨_, rfl⟩
        rw [← hw7] at hcx hb67 hq7
        rw [hX] at hcx
        have HW7 := Lib.hid hw7
        have HX := Lib.hid hX
        have hS7 := hS.below hb67
        have hrow7 := hrow.below hb67
        have hbj7 := hbj.trans (hb67.mono hbj.size)
        clear hw7 hX hcb hb6 hq6 hf1 hb67 hrow hS hbj hcell x0 x1 x2
        go_upto_region 8 with fail
        rw [← HW7.out, HX.out]
        obtain ⟨x0, x1, x2⟩ := cells3 hS7.x
        go_wp2_with fail
        refine (hf2 w7 hS7.q.e hS7.q.i hrow7).mono ?_
        rintro _ w8 ⟨b3, d3, b4, d4, rfl, hq8, hb8⟩
        obtain ⟨hdx, hdb⟩ := box_new w8 #[.int .i64 xn, .slice b3 xes.length d3, .slice b4 xl.length d4] 62
        have hb89 := hb8.trans (hdb.mono hb8.size)
        have hq9 := hq8.below hdb
        obtain ⟨w9, hw9⟩ : ∃ W : World, W = w8.alloc (.cells #[.int .i64 xn, .slice b3 xes.length d3, .slice b4 xl.length d4] 62) := ⟨_, rfl⟩
        obtain ⟨Y, hY⟩ : ∃ X, w8.heap.size = X := ⟨_, rfl⟩
        rw [← hw9] at hdx hb89 hq9
        rw [hY] at hdx
        have HW9 := Lib.hid hw9
        have HY := Lib.hid hY
        have hx9 := lit_next' hb89 hcx
        have hp9 := hq7.below hb89
        have hbj9 := hbj7.trans (hb89.mono hbj7.size)
        clear hw9 hY hdb hb8 hq8 hf2 hb89 hrow7 hS7 hbj7 x0 x1 x2 hq7 hcx
        go_upto_region 9 with fail
        rw [← HW9.out, HY.out]
        obtain ⟨x0, x1, x2⟩ := cells3 hx9
        obtain ⟨y0, y1, y2⟩ := cells3 hdx
        have hsm := rsame11_same xn b1 b2 b3 b4 d1 d2 d3 d4 xes xl w9 hp9.e hp9.i hq9.e hq9.i
        go_wp2_with fail
        refine hsm.mono ?_
        rintro _ w10 ⟨rfl, hb10⟩
        have hbjz := hbj9.trans (hb10.mono hbj9.size)
        clear hsm hb10 hbj9 x0 x1 x2 y0 y1 y2 hx9 hdx hp9 hq9
        go_wp2_with fail
        go_roundw
        case rel => exact ⟨j + 1, by omega, by go_num, hbjz⟩
        case measure => simp [intOf]; omega
      · obtain rfl : j = 3 := by omega
        have hbe := hS.be
        go_wp2_with fail
        refine (awake11_any wr (hT.below hbe)).mono ?_
        rintro _ wz ⟨rfl, hbz⟩
        go_wp2_with fail
        go_ret
        exact ⟨rfl, hbe.trans (hbz.mono hbe.size)⟩
end Go.Proofs.YtkknknehchnccaaDoor

namespace Go.Proofs.YtkknknehchnccaaDoor
open Go.ChangeShapes Go.WideShapes Go.ChangeAt Go.RowKit Go.Deep

theorem list_seven {α : Type} {l : List α} (h : l.length = 7) : ∃ a b c d e f g, l = [a, b, c, d, e, f, g] := by
  match l, h with
  | [a, b, c, d, e, f, g], _ => exact ⟨a, b, c, d, e, f, g, rfl⟩
section
variable {H : Type} {enc : TypeId × Value → H} {w : World}
set_option maxRecDepth 100000 in
/-- the cells of an event -/
theorem ev_of_trod {base : Nat} {sp : Nat → Bool} {held : Bool} {fuel : Nat} {cs : List Value} {x : DataW H × List MemPlace} (h : DataW.trod enc Tryd.prog w base sp held fuel 78 cs = some x) : ∃ e : Ev, cs = e.cells.toList := by
  obtain ⟨hl, hf⟩ := field_one Tryd.underlying78 (by kernel_rfl) (by kernel_rfl) h
  obtain ⟨v0, v1, v2, v3, v4, v5, v6, rfl⟩ := list_seven hl
  have g : ∀ (i : Nat) (f : Field) (v : Value), (Tryd.prog.underlying f.type = some (.int .i64)) → (∃ n y, DataW.trod enc Tryd.prog w base sp held n f.type [v] = some y) → ∃ z, v = .int .i64 z := fun i f v ht ⟨n, y, hy⟩ => by
    obtain ⟨z, e, _⟩ := DataW.trod_int ht hy
    exact ⟨z, by simpa using e⟩
  obtain ⟨z0, rfl⟩ := g 0 _ _ Tryd.underlying3 (hf 0 _ v0 rfl rfl)
  obtain ⟨z1, rfl⟩ := g 1 _ _ Tryd.underlying3 (hf 1 _ v1 rfl rfl)
  obtain ⟨z2, rfl⟩ := g 2 _ _ Tryd.underlying3 (hf 2 _ v2 rfl rfl)
  obtain ⟨z3, rfl⟩ := g 3 _ _ Tryd.underlying3 (hf 3 _ v3 rfl rfl)
  obtain ⟨z4, rfl⟩ := g 4 _ _ Tryd.underlying3 (hf 4 _ v4 rfl rfl)
  obtain ⟨z5, rfl⟩ := g 5 _ _ Tryd.underlying3 (hf 5 _ v5 rfl rfl)
  obtain ⟨z6, rfl⟩ := g 6 _ _ Tryd.underlying3 (hf 6 _ v6 rfl rfl)
  exact ⟨⟨z0, z1, z2, z3, z4, z5, z6⟩, rfl⟩
set_option maxRecDepth 100000 in
/-- an event by value -/
theorem ev_of_arg {base b0 : Nat} {sp : Nat → Bool} {held : Bool} {r : Reach} {v : Value} {d : DataW H} {p : List MemPlace} (hv : Value.okWide Tryd.prog w r b0 78 v) (h : DataW.Trod enc Tryd.prog w base sp held 78 v d p) : ∃ e : Ev, v = .agg e.cells := by
  obtain ⟨cs, rfl, _⟩ := okWide_struct Tryd.underlying78 hv
  obtain ⟨fuel, hf⟩ := h
  obtain ⟨e, he⟩ := ev_of_trod hf
  exact ⟨e, by rw [show cs = e.cells from by have h1 : cs.toList = e.cells.toList := he; exact Array.toList_inj.1 h1]⟩
end
end Go.Proofs.YtkknknehchnccaaDoor

namespace Go.Proofs.YtkknknehchnccaaDoor.repairFollows
open Go.ChangeShapes Go.WideShapes Go.ChangeAt Go.RowKit

theorem laid_met (os : Os) : laidMet Tryd.prog Rows.repairFollowsRow.laid ((tzWorld os).forCall (fun _ _ => 0) ⟨#[], #[.agg #[.int .i64 0, .int .i64 0, .int .i64 0, .int .i64 0, .int .i64 0, .int .i64 0, .int .i64 0], .slice none 0 0], []⟩).memory :=
  laidMet_of_run' 8 (by kernel_rfl) (by kernel_rfl)
theorem reads (os : Os) {H : Type} (enc : TypeId × Value → H) : ∃ places, DataW.whole enc Tryd.prog ((tzWorld os).forCall (fun _ _ => 0) ⟨#[], #[.agg #[.int .i64 0, .int .i64 0, .int .i64 0, .int .i64 0, .int .i64 0, .int .i64 0, .int .i64 0], .slice none 0 0], []⟩).memory Tryd.f10.params.toList Rows.repairFollowsSpec.vars false #[Value.agg #[.int .i64 0, .int .i64 0, .int .i64 0, .int .i64 0, .int .i64 0, .int .i64 0, .int .i64 0], Value.slice none 0 0].toList 8 = some ([.agg [.lit (.int .i64 0), .lit (.int .i64 0), .lit (.int .i64 0), .lit (.int .i64 0), .lit (.int .i64 0), .lit (.int .i64 0), .lit (.int .i64 0)], .nil], [], places) :=
  ⟨[], by kernel_rfl⟩

set_option maxRecDepth 100000 in
theorem lifted (os : Os) (started : os.Started) (H : Type) (enc : TypeId × Value → H) (F : Stop.Interp) :
    ReturnsInHanded {} Tryd.checked os 10 .any ((OpenSpec.ofChange Rows.repairFollowsSpec).preRow enc Tryd.prog Tryd.f10 Rows.repairFollowsRow.domain false Rows.repairFollowsRow.laid) (((OpenSpec.ofChange Rows.repairFollowsSpec).at F).post enc Tryd.prog Tryd.f10 false true false false) := by
  obtain ⟨places, hx⟩ := reads os enc
  refine returnsInHanded_of_row (C := Tryd.checked) (s := OpenSpec.ofChange Rows.repairFollowsSpec) ownG started (by kernel_rfl) Tryd.func10
    (witness_row_at (enc := enc) (C := Tryd.checked) false (tzWorld os) #[.agg #[.int .i64 0, .int .i64 0, .int .i64 0, .int .i64 0, .int .i64 0, .int .i64 0, .int .i64 0], .slice none 0 0] rfl (by kernel_rfl) (by kernel_rfl) (by kernel_rfl)
      (OpenSpec.preRow_of_cond 8 hx (by kernel_rfl) (fun k hk => by cases hk) (by kernel_rfl) (laid_met os))) ?_
  intro W base args ds gs before hval0 hW _ _ _ hL _ _
  have hval : ∀ (j : Nat) t v, Tryd.f10.params[j]? = some t → args[j]? = some v → Value.okWide Tryd.prog W .any base t v := hval0
  have hW' := hW
  obtain ⟨p, q, hA0, hV, rfl, hfz, hnd⟩ := hW
  have hA : DataW.TrodAll enc Tryd.prog W 0 (fun _ => true) true Tryd.f10.params.toList args.toList ds p := hA0
  rw [Tryd.params10] at hA hval
  obtain ⟨v0, vs0, d0, ds0, p0, q0, hargs, rfl, rfl, h0, r0⟩ := trodAll_cons hA
  obtain ⟨v1, vs1, d1, ds1, p1, q1, rfl, rfl, rfl, h1, r1⟩ := trodAll_cons r0
  obtain ⟨rfl, rfl, rfl⟩ := trodAll_nil r1
  obtain rfl : args = #[v0, v1] := by cases args; simp_all
  obtain ⟨rfl, rfl⟩ := trodVars_none hV
  have k0 := h0
  have lt0 : ∀ x ∈ p0, x.block < W.heap.size := by obtain ⟨m, hm⟩ := k0; exact DataW.trod_lt m _ _ _ hm
  obtain ⟨e0, rfl⟩ := ev_of_arg (hval 0 78 v0 rfl rfl) h0
  obtain ⟨a1, len1, cap1, rfl⟩ := okWide_slice Tryd.underlying22 (hval 1 22 v1 rfl rfl)
  have k1 := h1
  have lt1 : ∀ x ∈ p1, x.block < W.heap.size := by obtain ⟨m, hm⟩ := k1; exact DataW.trod_lt m _ _ _ hm
  clear hA0 hval0
  refine (repairFollows_law e0 a1 len1 cap1 W (list_from_trod h1) (tz_of_laid hL)).mono fun e W' ⟨he, bel⟩ => ?_
  subst he
  exact ⟨_, rfl, _, _, _, [], _, [], hW', trodAll_mk1 (shut_bool Tryd.underlying4 _), (trodAll_cons_mk (Below.trod laidOutG (by kernel_rfl) (of_decide_eq_true (by kernel_rfl)) k0 bel lt0) (trodAll_cons_mk (Below.trod laidOutG (by kernel_rfl) (of_decide_eq_true (by kernel_rfl)) k1 bel lt1) trodAll_mk0)), rfl, bel.frame _, fun h => by cases h⟩

theorem said : Rows.RepairFollowsSaid :=
  OpenClaim.holds_of_cond 10 Tryd.f10 rfl rfl rfl rfl rfl rfl rfl ⟨rfl, rfl, rfl, rfl, rfl⟩ rfl rfl rfl rfl rfl (by kernel_rfl) Tryd.func10 (by kernel_rfl)
    (of_decide_eq_true (by kernel_rfl)) (by unfold Func.isWrapper; first | (rw [if_pos (by decide +kernel)]; kernel_rfl) | (rw [if_neg (by decide +kernel)]; exact ⟨rfl, rfl⟩))
    (fun os started H enc _ F => by rw [OpenClaim.pre_eq_preRow]; exact lifted os started H enc F)

theorem plain (f : FuncId) (fn : Func) (hf : Tryd.pinned.checked.prog.funcNamed "cohesion/cohesionlaw11.RepairFollows" = some f) (hfn : Tryd.pinned.checked.prog.funcs[f]? = some fn) :
    false = Tryd.pinned.checked.prog.looks [] ∧ ∀ (j : Nat) t, fn.params[j]? = some t → Tryd.pinned.checked.prog.wantsStandIn t = false := by
  obtain rfl : f = 10 := Option.some.inj ((show Tryd.prog.funcNamed "cohesion/cohesionlaw11.RepairFollows" = some 10 by kernel_rfl).symm.trans hf) |>.symm
  obtain rfl : fn = Tryd.f10 := (Option.some.inj (Tryd.func10.symm.trans hfn)).symm
  refine ⟨by kernel_rfl, fun j t ht => ?_⟩
  rw [Tryd.params10] at ht
  have hm := Array.mem_of_getElem? ht
  have ho : t = 78 ∨ t = 22 := by simpa using hm
  rcases ho with rfl | rfl
  · exact (show Tryd.prog.wantsStandIn 78 = false by kernel_rfl)
  · exact (show Tryd.prog.wantsStandIn 22 = false by kernel_rfl)

/-- THE CARD. -/
theorem card : Rows.RepairFollowsCardSaid :=
  Claim7.holds_tied_plain_at .later [] _ _ _ _ said (fun _ h => by cases h) (by kernel_rfl) (fun _ h => by cases h) repairFollows_row_tie rfl ⟨rfl, rfl⟩ (by kernel_rfl) rfl plain (by kernel_rfl)
#print axioms card
end Go.Proofs.YtkknknehchnccaaDoor.repairFollows
