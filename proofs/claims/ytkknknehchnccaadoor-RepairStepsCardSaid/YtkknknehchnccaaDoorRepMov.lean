/- Boxes of a graph with its core numbers; the contract of the numbers that are moved. -/
import Derived.Test.YtkknknehchnccaaDoorRepReg
import Derived.Deep.RegionLaw
namespace Go.Proofs.YtkknknehchnccaaDoor
open Go.RowKit Go.BigFrame

/-- a whole struct of three cells is stored -/
def set3 (W : World) (g : Nat) (x0 x1 x2 : Value) : World := ((W.setCell ⟨g, 0, none⟩ x0).setCell ⟨g, 1, none⟩ x1).setCell ⟨g, 2, none⟩ x2
theorem set3_grown (W : World) (g : Nat) (x0 x1 x2 : Value) : W.grownBy (set3 W g x0 x1 x2) (some g) := grown_trans (grown_trans grown_store grown_store) grown_store
theorem set3_at {W : World} {g T : Nat} {y0 y1 y2 : Value} (h : W.heap[g]? = some (.cells #[y0, y1, y2] T (0, 0))) (x0 x1 x2 : Value) : (set3 W g x0 x1 x2).heap[g]? = some (.cells #[x0, x1, x2] T (0, 0)) := by
  unfold set3
  rw [heap_setCell_same _ _ _ _ _ _ (heap_setCell_same _ _ _ _ _ _ (heap_setCell_same _ _ _ _ _ _ h))]
  rfl
theorem set3_other (W : World) (g k : Nat) (x0 x1 x2 : Value) (h : k ≠ g) : (set3 W g x0 x1 x2).heap[k]? = W.heap[k]? := by
  unfold set3
  rw [Below.heap_setCell _ _ _ _ h, Below.heap_setCell _ _ _ _ h, Below.heap_setCell _ _ _ _ h]
theorem cells3 {w : World} {g T : Nat} {x y z : Value} (h : w.heap[g]? = some (.cells #[x, y, z] T (0, 0))) : w.cell? ⟨g, 0, none⟩ = some x ∧ w.cell? ⟨g, 1, none⟩ = some y ∧ w.cell? ⟨g, 2, none⟩ = some z :=
  ⟨by rw [cell_blk h]; rfl, by rw [cell_blk h]; rfl, by rw [cell_blk h]; rfl⟩
theorem cells2 {w : World} {g T : Nat} {x y : Value} (h : w.heap[g]? = some (.cells #[x, y] T (0, 0))) : w.cell? ⟨g, 0, none⟩ = some x ∧ w.cell? ⟨g, 1, none⟩ = some y :=
  ⟨by rw [cell_blk h]; rfl, by rw [cell_blk h]; rfl⟩
theorem frees3 {w : World} {g T : Nat} {cs : Array Value} (h : w.heap[g]? = some (.cells cs T (0, 0))) : w.frozen? ⟨g, 0, none⟩ = false ∧ w.frozen? ⟨g, 1, none⟩ = false ∧ w.frozen? ⟨g, 2, none⟩ = false :=
  ⟨free_blk h, free_blk h, free_blk h⟩
theorem set3_size (W : World) (g : Nat) (x0 x1 x2 : Value) : (set3 W g x0 x1 x2).heap.size = W.heap.size := by unfold set3; simp
/-- an owned row of numbers reads so -/
theorem ints_of_owns {w : World} {base : Nat} {a : Option Addr} {c : Nat} {xs : List Int} (h : w.ownsRow base 3 1 (.slice a xs.length c) xs.length (intsV xs)) (hl : xs.length ≤ 1000000) : IntsAt w (.slice a xs.length c) xs ∧ ∀ p, a = some p → base ≤ p.block := by
  obtain ⟨a', c', hv, hi, hb⟩ := IntsAt.of_owns h (by omega)
  cases hv
  exact ⟨hi, hb⟩
theorem upL_none (n : Nat) (l : List Int) (hl : l.length = n) (S : Nat → Bool) (d : Int) (hS : ∀ x, S x = false) : upL n l S d = l := by
  apply List.ext_getElem?
  intro j
  by_cases hj : j < n
  · unfold upL
    rw [List.getElem?_map, List.getElem?_range hj]
    simp only [Option.map_some, hS j]
    rw [if_neg (by simp), List.getElem?_eq_getElem (by omega)]; rfl
  · rw [List.getElem?_eq_none (by rw [upL_length]; omega), List.getElem?_eq_none (by omega)]
theorem upL_set (n : Nat) (l : List Int) (S : Nat → Bool) (d : Int) (x : Nat) (hxn : x < n) : (upL n l S d).set x ((l[x]?.getD 0) + d) = upL n l (fun y => S y || decide (y = x)) d := by
  apply List.ext_getElem?
  intro j
  by_cases hj : j < n
  · rw [List.getElem?_set, upL_length]
    by_cases e : x = j
    · subst e
      rw [if_pos rfl, if_pos hxn]
      unfold upL
      rw [List.getElem?_map, List.getElem?_range hj]
      simp
    · rw [if_neg e]
      unfold upL
      rw [List.getElem?_map, List.getElem?_map, List.getElem?_range hj]
      have : ¬ j = x := fun h => e h.symm
      simp [this]
  · rw [List.getElem?_eq_none (by rw [List.length_set, upL_length]; omega), List.getElem?_eq_none (by rw [upL_length]; omega)]
theorem upL_congr (n : Nat) (l : List Int) (S T : Nat → Bool) (d : Int) (h : ∀ x, x < n → S x = T x) : upL n l S d = upL n l T d := List.map_congr_left fun x hx => by rw [h x (List.mem_range.1 hx)]
/-- numbers in new blocks, and a list -/
def MovPost (w : World) (n : Nat) (sl : Value) (L Z : List Int) (e : Ending) (w' : World) : Prop :=
  ∃ a3 c3 a4 c4, e = .returned (.tuple #[.agg #[.int .i64 n, sl, .slice a3 L.length c3], .slice a4 Z.length c4]) ∧ IntsAt w' (.slice a3 L.length c3) L ∧ IntsAt w' (.slice a4 Z.length c4) Z ∧ (∀ p, a3 = some p → w.heap.size ≤ p.block) ∧ (∀ p, a4 = some p → w.heap.size ≤ p.block) ∧ Below w.heap.size w w'
set_option maxRecDepth 100000 in
set_option maxHeartbeats 3200000 in
theorem moved_any (n0 n : Nat) (e0 : Value) (ag : Option Addr) (mg cg : Nat) (a2 : Option Addr) (c2 : Nat) (l : List Int) (S : Nat → Bool) (d : Int) (w : World) (hi : IntsAt w (.slice a2 l.length c2) l) (hl : l.length = n) (hn : n ≤ 64) (hS : ∀ x, S x = true → x < n)
    (hd : -1 ≤ d ∧ d ≤ 1) (hb : ∀ x ∈ l, -100 ≤ x ∧ x ≤ 100) (hT : TzAt w) :
    Calls Tryd.prog 123 #[.agg #[.int .i64 n0, e0, .slice a2 l.length c2], .agg #[.int .i64 n, .slice ag mg cg], .int .u64 (mskN S n : Int), .int .i64 d] w (MovPost w n (.slice ag mg cg) (upL n l S d) (castL (selL n S))) := by
  have hll : l.length ≤ n ∧ n ≤ l.length := by omega
  have HL := Lib.hid hl
  have HS := Lib.hid hS
  have HB := Lib.hid hb
  have hml := mskN_lt S n hn
  have hlist := fun W h => list_any (mskN S n) hml W h
  rw [mskN_list S n hn] at hlist
  obtain ⟨SM, hSM⟩ : ∃ M, mskN S n = M := ⟨_, rfl⟩
  rw [hSM] at hlist ⊢
  obtain ⟨Z, hZ⟩ : ∃ Z, selL n S = Z := ⟨_, rfl⟩
  have hZm : ∀ x, x ∈ Z ↔ S x = true := fun x => by rw [← hZ]; exact selL_mem hS x
  have hZn : Z.Nodup := by rw [← hZ]; exact selL_nodup _ _
  have hZl : Z.length ≤ n := by rw [← hZ]; exact selL_len _ _
  rw [hZ] at hlist ⊢
  have hUL := upL_length n l S d
  have hU0 : upL n l (fun y => decide (y ∈ Z.take 0)) d = l := upL_none n l hl _ d (fun x => by simp)
  have hUE : upL n l (fun y => decide (y ∈ Z)) d = upL n l S d := upL_congr n l _ _ d fun x _ => by rw [Bool.eq_iff_iff, decide_eq_true_eq]; exact hZm x
  have HU0 := Lib.hid hU0
  have HUE := Lib.hid hUE
  have HUL := Lib.hid hUL
  have HZM := Lib.hid hZm
  have hcl := iclone_any a2 c2 l
  clear hl hS hb hSM hZ hZm hU0 hUE hUL
  have hC0 := heap_alloc_new w (.cells #[.int .i64 n0, e0, .slice a2 l.length c2] 62)
  obtain ⟨wA, hwA⟩ : ∃ W : World, W = ((w.alloc (.cells #[.int .i64 n0, e0, .slice a2 l.length c2] 62)).alloc (.cells #[.int .i64 n, .slice ag mg cg] 25)).alloc (.cells #[.int .i64 0, .slice none 0 0, .slice none 0 0] 62) := ⟨_, rfl⟩
  have hzA : wA.heap.size = w.heap.size + 3 := by rw [hwA]; simp
  have hbA : Below w.heap.size w wA := by rw [hwA]; exact (((Below.refl _ _).alloc (Nat.le_refl _) _).alloc (by simp) _).alloc (by simp; omega) _
  have hCA : wA.heap[w.heap.size]? = some (.cells #[.int .i64 n0, e0, .slice a2 l.length c2] 62 (0, 0)) := by
    rw [hwA, Below.heap_alloc _ _ _ (by simp; omega), Below.heap_alloc _ _ _ (by simp)]; exact hC0
  have hGA : wA.heap[w.heap.size + 1]? = some (.cells #[.int .i64 n, .slice ag mg cg] 25 (0, 0)) := by
    rw [hwA, Below.heap_alloc _ _ _ (by simp)]
    have := heap_alloc_new (w.alloc (.cells #[.int .i64 n0, e0, .slice a2 l.length c2] 62)) (.cells #[.int .i64 n, .slice ag mg cg] 25)
    simpa using this
  have hRA : wA.heap[w.heap.size + 1 + 1]? = some (.cells #[.int .i64 0, .slice none 0 0, .slice none 0 0] 62 (0, 0)) := by
    rw [hwA]
    have := heap_alloc_new ((w.alloc (.cells #[.int .i64 n0, e0, .slice a2 l.length c2] 62)).alloc (.cells #[.int .i64 n, .slice ag mg cg] 25)) (.cells #[.int .i64 0, .slice none 0 0, .slice none 0 0] 62)
    simpa using this
  have HWA := Lib.hid hwA
  clear hC0 hwA
  go_enter Tryd.func123, Tryd.ntmps123
  obtain ⟨k0, k1, k2⟩ := cells3 hCA
  go_wp2_with (rw [← HWA.out])
  refine (hcl wA (hi.below hbA) (by omega)).mono ?_
  rintro e w1 ⟨vx, rfl, hown, hb1⟩
  have hbw1 := hbA.trans (hb1.mono hbA.size)
  have hG1 := lit_next' hb1 hGA
  have hR1 := lit_next' hb1 hRA
  rw [hzA] at hown
  have hz1 : w.heap.size + 3 ≤ w1.heap.size := by have := hb1.size; omega
  obtain ⟨ax, cx, hvx⟩ := owns_shape hown
  subst hvx
  clear k0 k1 k2 hCA hGA hRA hb1 hbA hcl
  go_wp2_with fail
  refine (hlist w1 (hT.below hbw1)).mono ?_
  rintro e w2 ⟨vz, rfl, hownz, hb2⟩
  have hzl : (castL Z).length = Z.length := castL_length Z
  obtain ⟨az, cz, rfl, hiz, haz⟩ := IntsAt.of_owns hownz (by omega)
  have hbw2 := hbw1.trans (hb2.mono hbw1.size)
  have hG2 := lit_next' hb2 hG1
  have hR2 := lit_next' hb2 hR1
  have hown2 := hown.kept (grown_of_below hb2) (Classical.em _)
  have hxl : ∀ k, (Value.slice ax l.length cx).ownBlock = some k → w.heap.size + 3 ≤ k ∧ k < w1.heap.size := fun k e => hown.lt k e
  have hz2 : w.heap.size + 3 ≤ w2.heap.size := by have := hb2.size; omega
  have hnz : ∀ p, az = some p → ∀ k, (Value.slice ax l.length cx).ownBlock = some k → p.block ≠ k := fun p hp k e => by have := haz p hp; have := (hxl k e).2; omega
  have hxl2 : ∀ k, (Value.slice ax l.length cx).ownBlock = some k → w.heap.size + 3 ≤ k := fun k e => (hxl k e).1
  rw [← HU0.out] at hown2
  have hown2' : w2.ownsRow (w.heap.size + 3) 3 1 (.slice ax l.length cx) l.length (intsV (upL n l (fun y => decide (y ∈ Z.take 0)) d)) := by
    have h1 := HUL.out
    have h2 := HL.out
    have h3 : (upL n l (fun y => decide (y ∈ Z.take 0)) d).length = l.length := by rw [upL_length]; omega
    rw [h3] at hown2
    exact hown2
  have HZL := Lib.hid hzl
  clear hown hown2 hownz haz hb2 hbw1 hG1 hR1 hzl hxl
  go_wp2_with fail
  go_loopw [19] (fun vi wr => ∃ t : Nat, t ≤ (castL Z).length ∧ vi = .int .i64 t ∧ wr.ownsRow (w.heap.size + 3) 3 1 (.slice ax l.length cx) l.length (intsV (upL n l (fun y => decide (y ∈ Z.take t)) d)) ∧ w2.grownBy wr (Value.slice ax l.length cx).ownBlock) (fun vi _ => (castL Z).length - (intOf vi).toNat)
  case atStart => exact ⟨0, Nat.zero_le _, rfl, hown2', World.grownBy.refl _ _⟩
  case round =>
    clear hown2'
    obtain ⟨t, ht, rfl, hown, hg⟩ := hrel
    have hiw := hiz.grown hg (fun k e n' c' p hp => hnz p (Value.slice.inj hp).1 k e)
    by_cases hlt : t < (castL Z).length
    · have hlt3 : (t : Int) < (castL Z).length := by omega
      have hts : t < Z.length := by have := HZL.out; omega
      have hx : Z[t]? = some (Z[t]'hts) := List.getElem?_eq_getElem hts
      obtain ⟨x, hxx⟩ : ∃ x, (Z[t]'hts) = x := ⟨_, rfl⟩
      rw [hxx] at hx
      have hxn : x < n := HS.out x ((HZM.out x).1 (List.mem_of_getElem? hx))
      obtain ⟨b9, o9, z, rfl, hz9, _, _, c0⟩ := hiw.at t hlt
      have hzx : z = x := by
        unfold castL at hz9
        rw [List.getElem?_map, hx] at hz9
        exact (Option.some.inj hz9).symm
      subst hzx
      have htk := take_at _ _ _ hx
      have hnin : decide (x ∈ Z.take t) = false := decide_eq_false fun h => nodup_drop2 hZn t x hx h
      obtain ⟨gx, cpx, hvs, hbx, hcpx, hgxl, hfz, hcell⟩ := ownsI_at hown (by omega)
      cases hvs
      have hxl3 : (x : Int) < l.length := by omega
      have hge : l[x]? = some (l[x]?.getD 0) := by rw [List.getElem?_eq_getElem (by omega)]; rfl
      have hlb := HB.out (l[x]?.getD 0) (List.mem_of_getElem? hge)
      have c1 := hcell x (l[x]?.getD 0) (by
        unfold upL
        rw [List.getElem?_map, List.getElem?_range hxn, Option.map_some]
        show some (if decide (x ∈ Z.take t) = true then _ else _) = _
        rw [hnin]; rfl)
      have hst := ownsI_set hown x (l[x]?.getD 0 + d)
      rw [upL_set n l _ d x hxn, upL_congr n l _ (fun y => decide (y ∈ Z.take (t + 1))) d (fun y _ => by
        rw [htk, Bool.eq_iff_iff]
        simp only [Bool.or_eq_true, decide_eq_true_eq, List.mem_append, List.mem_singleton])] at hst
      have hg2 : w2.grownBy (wr.setCell ⟨gx, x, none⟩ (.int .i64 (l[x]?.getD 0 + d))) (some gx) := grown_trans hg ⟨rfl, rfl, rfl, by simp, fun k _ hk => Below.heap_setCell _ _ _ _ (fun e => hk (by simp [e]))⟩
      obtain ⟨V, hV⟩ : ∃ V, l[x]?.getD 0 = V := ⟨_, rfl⟩
      rw [hV] at c1 hlb hst hg2
      clear hge hV htk hnin hz9 hx hxx hcell hown hg hiw
      go_wp2_with fail
      go_roundw
      case rel => exact ⟨t + 1, by omega, by go_num, hst, hg2⟩
      case measure => simp [intOf]; omega
    · obtain rfl : (castL Z).length = t := by omega
      have hfin : upL n l (fun y => decide (y ∈ Z.take (castL Z).length)) d = upL n l S d := by
        rw [HZL.out, List.take_length]; exact HUE.out
      rw [hfin] at hown
      have hbk := fun k e => (hxl2 k e)
      have hGr := grown_blk hg hG2 (by intro e; have := hxl2 _ e.symm; omega)
      have hRr := grown_blk hg hR2 (by intro e; have := hxl2 _ e.symm; omega)
      have hbwr := hbw2.grown hg hbw2.size (fun k e => by have := hxl2 k e; omega)
      obtain ⟨k0, k1⟩ := cells2 hGr
      obtain ⟨r0, r1, r2⟩ := cells3 hRr
      obtain ⟨f0, f1, f2⟩ := frees3 hRr
      have hownL : wr.ownsRow (w.heap.size + 3) 3 1 (.slice ax (upL n l S d).length cx) (upL n l S d).length (intsV (upL n l S d)) := by
        have h1 : (upL n l S d).length = l.length := by rw [HUL.out, HL.out]
        rw [h1]; exact hown
      obtain ⟨hiL, haL⟩ := ints_of_owns hownL (by rw [HUL.out]; omega)
      have hret : ∀ a4 c4, Ending.returned (.tuple #[.agg #[.int .i64 n, .slice ag mg cg, .slice ax l.length cx], .slice a4 (castL Z).length c4]) = Ending.returned (.tuple #[.agg #[.int .i64 n, .slice ag mg cg, .slice ax (upL n l S d).length cx], .slice a4 (castL Z).length c4]) := fun a4 c4 => by rw [HUL.out, HL.out]
      have HRET := Lib.hid hret
      clear hret hownL hfin hiz hiw hG2 hR2 hg hbw2 hnz
      have hlistA := hlist wr.drew (hT.below hbwr.drew)
      go_wp2_with fail
      go_region_law (first
        | (go_simp; go_at_call 65; (with_reducible refine hlistA.mono ?_); rintro e w7 ⟨vz, rfl, hownz, hb7⟩; have hG7 := lit_next' (w := wr.drew) hb7 hGr; have hR7 := lit_next' (w := wr.drew) hb7 hRr; obtain ⟨p0, p1⟩ := cells2 hG7; obtain ⟨s0, s1, s2⟩ := cells3 hR7; obtain ⟨q0, q1, q2⟩ := frees3 hR7; obtain ⟨a4, c4, rfl, hi4, ha4⟩ := IntsAt.of_owns hownz (by have := HZL.out; omega)))
      all_goals
        have hgF := set3_grown w7 (w.heap.size + 1 + 1) (.int .i64 n) (.slice ag mg cg) (.slice ax l.length cx)
        have hF3 := set3_at hR7 (.int .i64 n) (.slice ag mg cg) (.slice ax l.length cx)
        have hiF := (IntsAt.below (w := wr.drew) hiL hb7).grown hgF (fun k e n' c' p hp => by cases e; have := haL p (Value.slice.inj hp).1; omega)
        have hi4F := hi4.grown hgF (fun k e n' c' p hp => by cases e; have := ha4 p (Value.slice.inj hp).1; have hd : wr.drew.heap.size = wr.heap.size := rfl; have := blk_lt hRr; omega)
        have hbF := ((hbwr.drew).trans (hb7.mono hbwr.drew.size)).grown hgF (Nat.le_trans hbwr.drew.size hb7.size) (fun k e => by cases e; omega)
        have ha4' : ∀ p, a4 = some p → w.heap.size ≤ p.block := fun p hp => by have := ha4 p hp; have := hbwr.drew.size; omega
        have haL' : ∀ p, ax = some p → w.heap.size ≤ p.block := fun p hp => by have := haL p hp; omega
        have HFF := Lib.hid (And.intro hiF (And.intro hi4F hbF))
        obtain ⟨t0, t1, t2⟩ := cells3 hF3
        unfold set3 at t0 t1 t2
        clear hgF hF3 hiF hi4F hbF hiL hownz hi4
        go_wp2_with fail
        exact bodyPost_ret (v := .tuple #[.agg #[.int .i64 n, .slice ag mg cg, .slice ax l.length cx], .slice a4 (castL Z).length c4]) (by simp [results, Tryd.results123, go_sem, t0, t1, t2]) rfl
          ⟨ax, cx, a4, c4, HRET.out a4 c4, HFF.out.1, HFF.out.2.1, haL', ha4', HFF.out.2.2⟩
end Go.Proofs.YtkknknehchnccaaDoor
