/- ref38.Copy of a valid world, ref38.Deliver (printed by wip/mkr8dlv.py). ref38.Start of a valid graph and plan (printed by wip/mkr8sta.py). ref38.Ready, Mod, Play, Finish of valid worlds (printed by wip/mkr8ply.py). ref37.Same, ref38.Same of equal plans and worlds. -/
import Derived.Test.YtdkmdcdoiaelfaaGreatR8Lrn
namespace Go.Proofs.YtdkmdcdoiaelfaaGreat
open Go.RowKit Go.BigFrame

section
variable {w w' : World} {lo : Nat} {I : Ix → Prop} {ad : Ix → Nat × Nat} {vs : Ix → Value} {TE kk len : Ix → Nat} {cs : Ix → List Value}
/-- a cell is given up: what is stored there is no concern of the others -/
theorem GridA.drop (h : GridA w lo I ad vs TE kk len cs) {i : Ix} (hi : I i) (v : Value) : GridA (w.setCell ⟨(ad i).1, (ad i).2, none⟩ v) lo (fun x => I x ∧ x ≠ i) ad vs TE kk len cs := by
  have hst : w.grownBy (w.setCell ⟨(ad i).1, (ad i).2, none⟩ v) (some (ad i).1) := grown_store
  refine ⟨fun x hx => h.low x hx.1, fun x hx => ?_, fun x hx => ?_, fun x hx => (h.own x hx.1).kept hst (.inr (h.off x i hx.1 hi)), fun x y hx hy => h.off x y hx.1 hy.1, fun x y hx hy => h.apart x y hx.1 hy.1, fun x y hx hy => h.dist x y hx.1 hy.1⟩
  · rw [World.cell?_setCell_other]
    · exact h.cell x hx.1
    · intro e2
      refine h.dist x i hx.1 hi hx.2 ?_
      have := Addr.mk.inj e2
      exact Prod.ext this.1.symm this.2.1.symm
  · rw [World.frozen?_setCell]; exact h.free x hx.1
end
/-- a world that is read cell by cell -/
theorem wld_read {w : World} {n P KB BB cK cB : Nat} {es : List E2} {ow : Nat → Nat} {hv : List Int} {W : WdP} {R cR : Nat → Nat} {ae ao ah : Option Addr} {ce co ch : Nat} (sk : Nat → Value) (sb : Nat → Nat → Value) (hP : P ≤ 64) (hcK : P ≤ cK) (hcB : P ≤ cB)
    (hE : EdgesAt w (.slice ae es.length ce) es) (hO : IntsAt w (.slice ao n co) (owI n ow)) (hH : IntsAt w (.slice ah hv.length ch) hv) (hK : ∀ j, j < P → w.cell? ⟨KB, j, none⟩ = some (sk j) ∧ IntsAt w (sk j) (W.kn j))
    (hR : ∀ r, r < P → w.cell? ⟨BB, r, none⟩ = some (.slice (some ⟨R r, 0, none⟩) P (cR r)) ∧ P ≤ cR r) (hB : ∀ r t, r < P → t < P → w.cell? ⟨R r, t, none⟩ = some (sb r t) ∧ RowAt encM w (sb r t) (W.bx r t)) : WldAt w (.agg #[.int .i64 (n : Int), .slice ae es.length ce, .int .i64 (P : Int), .slice ao n co, .slice ah hv.length ch, .slice (some ⟨KB, 0, none⟩) P cK, .slice (some ⟨BB, 0, none⟩) P cB]) (wdL n P es ow hv W) := by
  have hk : KnA w (.slice (some ⟨KB, 0, none⟩) P cK) ((List.range P).map W.kn) := NestA.cells sk W.kn (by omega) hcK (fun j hj => (hK j hj).1) (fun j hj => by
    obtain ⟨a, c, e, -⟩ := (hK j hj).2
    rw [e]; rfl) (fun j hj => (hK j hj).2)
  have hbx : BoxA w (.slice (some ⟨BB, 0, none⟩) P cB) ((List.range P).map fun r => (List.range P).map (W.bx r)) := NestA.cells (R := BoxR) (fun r => .slice (some ⟨R r, 0, none⟩) P (cR r)) (fun r => (List.range P).map (W.bx r)) (by omega) hcB (fun r hr => (hR r hr).1) (fun _ _ => rfl) (fun r hr =>
    NestA.cells (R := RowAt encM) (sb r) (W.bx r) (by omega) (hR r hr).2 (fun t ht => (hB r t hr ht).1) (fun t ht => by
      obtain ⟨a, c, e, -⟩ := (hB r t hr ht).2
      rw [e]; rfl) (fun t ht => (hB r t hr ht).2))
  have h := WldAt.of (ah := ah) hE (by rw [owI_length]; exact hO) hH hk hbx
  rw [owI_length] at h
  exact h
theorem WldAt.shapeH {w : World} {v : Value} {n P : Nat} {es : List E2} {ow : Nat → Nat} {hv : List Int} {W : WdP} (h : WldAt w v (wdL n P es ow hv W)) : ∃ (ae ao ah ak ab : Option Addr) (ce co ch ck cb : Nat), v = .agg #[.int .i64 (n : Int), .slice ae es.length ce, .int .i64 (P : Int), .slice ao n co, .slice ah hv.length ch, .slice ak P ck, .slice ab P cb] ∧ EdgesAt w (.slice ae es.length ce) es ∧ IntsAt w (.slice ao n co) (owI n ow) ∧ IntsAt w (.slice ah hv.length ch) hv ∧ KnA w (.slice ak P ck) ((List.range P).map W.kn) ∧ BoxA w (.slice ab P cb) (bxL P W) := by
  obtain ⟨ae, ao, ah, ak, ab, ce, co, ch, ck, cb, rfl, h1, h2, h3, h4, h5⟩ := h
  have hkl : (wdL n P es ow hv W).kn.length = P := by simp [wdL]
  have hbl : (wdL n P es ow hv W).bx.length = P := by simp [wdL]
  have hol : (wdL n P es ow hv W).ow.length = n := owI_length n ow
  rw [hkl] at h4 ⊢
  rw [hbl] at h5 ⊢
  rw [hol] at h2 ⊢
  exact ⟨ae, ao, ah, ak, ab, ce, co, ch, ck, cb, rfl, h1, h2, h3, h4, h5⟩
/-- graph and plan of a world that stays -/
theorem stb_parts {D : Nat → Prop} {w : World} {n P : Nat} {es : List E2} {ow : Nat → Nat} {hv : List Int} {W : WdP} {ae ao ah ak ab : Option Addr} {ce co ch ck cb : Nat} (h : Stb D w fun U => WldAt U (.agg #[.int .i64 (n : Int), .slice ae es.length ce, .int .i64 (P : Int), .slice ao n co, .slice ah hv.length ch, .slice ak P ck, .slice ab P cb]) (wdL n P es ow hv W)) : (Stb D w fun U => EdgesAt U (.slice ae es.length ce) es) ∧ (Stb D w fun U => IntsAt U (.slice ao n co) (owI n ow)) ∧ Stb D w fun U => IntsAt U (.slice ah hv.length ch) hv := by
  refine ⟨fun U g => ?_, fun U g => ?_, fun U g => ?_⟩
  all_goals
    obtain ⟨ae', ao', ah', ak', ab', ce', co', ch', ck', cb', e, h1, h2, h3, -⟩ := (h U g).shapeH
    cases e
    assumption
/-- a world of one's own stays what it is while blocks below it change -/
theorem OwnW.readS {D : Nat → Prop} {w : World} {n lo P KB BB cK cB : Nat} {R cR : Nat → Nat} {vs : Ix → Value} {es : List E2} {ow : Nat → Nat} {hv : List Int} {W : WdP} {ae ao ah : Option Addr} {ce co ch : Nat} (h : OwnW w lo P KB BB cK cB R cR vs W.kn W.bx) (hP : P ≤ 64) (hkl : ∀ j, j < P → (W.kn j).length ≤ 1000000) (hbl : ∀ r t, r < P → t < P → (W.bx r t).length ≤ 1000000)
    (hE : Stb D w fun U => EdgesAt U (.slice ae es.length ce) es) (hO : Stb D w fun U => IntsAt U (.slice ao n co) (owI n ow)) (hH : Stb D w fun U => IntsAt U (.slice ah hv.length ch) hv) (hD : ∀ b, D b → b < lo) : Stb D w fun U => WldAt U (.agg #[.int .i64 (n : Int), .slice ae es.length ce, .int .i64 (P : Int), .slice ao n co, .slice ah hv.length ch, .slice (some ⟨KB, 0, none⟩) P cK, .slice (some ⟨BB, 0, none⟩) P cB]) (wdL n P es ow hv W) := fun U g => by
  have hnd : ∀ b, lo ≤ b → ¬ D b := fun b hb hd => by have := hD b hd; omega
  have hcl : ∀ x, CpI P P 0 x → U.cell? ⟨(CpA KB R x).1, (CpA KB R x).2, none⟩ = some (vs x) := fun x hx => g.cell (h.grid.cell x hx) (hnd _ (h.grid.low x hx))
  refine wld_read (R := R) (cR := cR) (fun j => vs (0, j)) (fun r t => vs (r + 2, t)) hP h.cK h.cB (hE U g) (hO U g) (hH U g) (fun j hj => ?_) (fun r hr => ⟨g.cell (h.out r hr).1 (hnd _ h.low), (h.out r hr).2⟩) (fun r t hr ht => ?_)
  · have h0 : CpI P P 0 (0, j) := .inl ⟨rfl, hj⟩
    obtain ⟨a', c', e, h', -⟩ := IntsAt.of_owns (owns_fr (GW.kn h.grid h0) g (fun b e => hnd _ ((GW.kn h.grid h0).lt b e).1)) (by have := hkl j hj; omega)
    exact ⟨hcl _ h0, by show IntsAt U (vs (0, j)) _; rw [e]; exact h'⟩
  · have h0 := cpI_box hr ht
    obtain ⟨a', c', e, h', -⟩ := RowAt.of_owns (E := encM) (owns_fr (GW.box h.grid h0) g (fun b e => hnd _ ((GW.box h.grid h0).lt b e).1)) (by have := hbl r t hr ht; omega)
    exact ⟨hcl _ h0, by show RowAt encM U (vs (r + 2, t)) _; rw [e]; exact h'⟩
/-- ref38.Copy of a valid world -/
theorem copy38G_any (n P : Nat) (es : List E2) (ow : Nat → Nat) (hv : List Int) (W : WdP) (ae ao ah ak ab : Option Addr) (ce co ch ck cb : Nat) (w : World) (hG : GoodW n P es ow hv W) (hk : KnA w (.slice ak P ck) ((List.range P).map W.kn)) (hb : BoxA w (.slice ab P cb) (bxL P W)) :
    Calls Tryz.prog 49 #[.agg #[.int .i64 (n : Int), .slice ae es.length ce, .int .i64 (P : Int), .slice ao n co, .slice ah hv.length ch, .slice ak P ck, .slice ab P cb]] w fun e w' => ∃ KB BB cK cB R cR vs, e = .returned (.agg #[.int .i64 (n : Int), .slice ae es.length ce, .int .i64 (P : Int), .slice ao n co, .slice ah hv.length ch, .slice (some ⟨KB, 0, none⟩) P cK, .slice (some ⟨BB, 0, none⟩) P cB]) ∧ OwnW w' w.heap.size P KB BB cK cB R cR vs W.kn W.bx ∧ Below w.heap.size w w' := by
  have hP8 := hG.hP
  have hkl : ((List.range P).map W.kn).length = P := by simp
  have hbl := bxL_len P W
  have hn64 : n ≤ 64 := by have := hG.hg.2.1; omega
  have h := copy38_any n P ae ao ah ak ab es.length n hv.length ce co ch ck cb ((List.range P).map W.kn) (bxL P W) w (by rw [hkl]; omega) (by rw [hbl]; omega) (by rw [hkl]; exact hk) (fun l hl => by
    obtain ⟨j, hj, rfl⟩ := List.mem_map.1 hl
    have := hG.vld.len j (List.mem_range.1 hj)
    omega) (by rw [hbl]; exact hb) (fun r hr => by
    obtain ⟨j, hj, rfl⟩ := List.mem_map.1 hr
    rw [List.length_map, List.length_range]; omega) (fun r hr m hm => by
    obtain ⟨j, hj, rfl⟩ := List.mem_map.1 hr
    obtain ⟨t, ht, rfl⟩ := List.mem_map.1 hm
    exact hG.bl j t (List.mem_range.1 hj) (List.mem_range.1 ht))
  rw [hkl, hbl] at h
  refine h.mono ?_
  rintro e w' ⟨vs, rfl, hr, hb'⟩
  obtain ⟨KB, BB, cK, cB, R, cR, eK, eB, hO⟩ := RowsS.world hr hP8.1 (fun r hr => by rw [bxL_rowD P W r hr]; simp)
  refine ⟨KB, BB, cK, cB, R, cR, vs, by rw [eK, eB], ⟨GW.congrKB hO.grid (fun t ht => ?_) (fun r t hrt => ?_), hO.out, hO.cK, hO.cB, hO.low, hO.offA, hO.offV⟩, hb'⟩
  · have ht2 : t < P := by rcases ht with h | h <;> simp at h; exact h
    unfold knF
    rw [getD_at (by rw [List.getElem?_map, List.getElem?_range ht2]; rfl)]
  · have h2 : r < P ∧ t < P := by rcases hrt with h | h <;> simp at h; omega
    unfold bxF
    rw [bxL_box P W r t h2.1 h2.2]
/-- the owners' slice of a world -/
def owOf : Value → Value
  | .agg a => a.toList.getD 3 .nilIface
  | v => v
set_option linter.unusedSimpArgs false in
set_option maxRecDepth 100000 in
set_option maxHeartbeats 6400000 in
theorem del38O_any (n P i j : Nat) (es : List E2) (ow : Nat → Nat) (hv : List Int) (W : WdP) (m : Msg) (r : List Msg) (v : Value) (D : Nat → Prop) (w : World) (hG : GoodW n P es ow hv W) (hS : Stb D w fun U => WldAt U v (wdL n P es ow hv W)) (hD : ∀ b, D b → b < w.heap.size) (hi : i < P) (hj : j < P) (hb : W.bx i j = m :: r) (hbl : ∀ a b, a < P → b < P → (W.bx a b).length ≤ 900000) :
    Calls Tryz.prog 25 #[v, .int .i64 (i : Int), .int .i64 (j : Int)] w fun e w' => ∃ v', e = .returned (.tuple #[v', .int .i64 0]) ∧ (Stb D w' fun U => WldAt U v' (wdL n P es ow hv (dlvP es n P ow W i j))) ∧ Below w.heap.size w w' ∧ owOf v' = owOf v := by
  have hP8 := hG.hP
  have hn64 : n ≤ 64 := by have := hG.hg.2.1; omega
  have hi3 : (i : Int) < P := by omega
  have hj3 : (j : Int) < P := by omega
  have hi0 : decide ((i : Int) < 0) = false := by simp
  have hj0 : decide ((j : Int) < 0) = false := by simp
  have hi4 : decide ((P : Int) ≤ i) = false := by simp; omega
  have hj4 : decide ((P : Int) ≤ j) = false := by simp; omega
  obtain ⟨hij, hm0, hm1, -, hm3, hm4⟩ := hG.vld.msg i j hi hj m (by rw [hb]; exact List.mem_cons_self)
  obtain ⟨u, hu⟩ : ∃ u : Nat, m.1 = (u : Int) := ⟨m.1.toNat, by omega⟩
  have hun : u < n := by omega
  have hrl : r.length ≤ 900000 := by have := hbl i j hi hj; rw [hb] at this; simp at this; omega
  obtain ⟨ae, ao, ah, ak, ab, ce, co, ch, ck, cb, rfl, hE, hO, hH, hK, hB⟩ := hS.now.shapeH
  obtain ⟨hSE, hSO, hSH⟩ := stb_parts hS
  obtain ⟨hX0, hb0⟩ := boxG_new w #[.int .i64 (n : Int), .slice ae es.length ce, .int .i64 (P : Int), .slice ao n co, .slice ah hv.length ch, .slice ak P ck, .slice ab P cb] 36
  obtain ⟨w1, hw1⟩ : ∃ V : World, V = w.alloc (.cells #[.int .i64 (n : Int), .slice ae es.length ce, .int .i64 (P : Int), .slice ao n co, .slice ah hv.length ch, .slice ak P ck, .slice ab P cb] 36) := ⟨_, rfl⟩
  have hz1 : w1.heap.size = w.heap.size + 1 := by rw [hw1]; simp
  rw [← hw1] at hX0 hb0
  obtain ⟨hZ0, hb1⟩ := boxG_new w1 #[.int .i64 0, .slice none 0 0, .int .i64 0, .slice none 0 0, .slice none 0 0, .slice none 0 0, .slice none 0 0] 36
  obtain ⟨wA, hwA⟩ : ∃ V : World, V = w1.alloc (.cells #[.int .i64 0, .slice none 0 0, .int .i64 0, .slice none 0 0, .slice none 0 0, .slice none 0 0, .slice none 0 0] 36) := ⟨_, rfl⟩
  have hzA : wA.heap.size = w.heap.size + 2 := by rw [hwA]; simp [hz1]
  rw [← hwA] at hZ0 hb1
  have hX1 := lit_next' hb1 hX0
  have hbA := hb0.trans (hb1.mono hb0.size)
  obtain ⟨X, hX⟩ : ∃ X, w.heap.size = X := ⟨_, rfl⟩
  rw [hz1] at hZ0
  rw [hX] at hX1 hZ0 hzA
  have HX := Lib.hid hX
  have hwA2 : wA = (w.alloc (.cells #[.int .i64 (n : Int), .slice ae es.length ce, .int .i64 (P : Int), .slice ao n co, .slice ah hv.length ch, .slice ak P ck, .slice ab P cb] 36)).alloc (.cells #[.int .i64 0, .slice none 0 0, .int .i64 0, .slice none 0 0, .slice none 0 0, .slice none 0 0, .slice none 0 0] 36) := by rw [hwA, hw1]
  have HWA := Lib.hid hwA2
  have hval := valid38_any (wdL n P es ow hv W) (.agg #[.int .i64 (n : Int), .slice ae es.length ce, .int .i64 (P : Int), .slice ao n co, .slice ah hv.length ch, .slice ak P ck, .slice ab P cb]) wA (hS.now.below hbA) (fun r hr m hm => by
    obtain ⟨a, ha, rfl⟩ := List.mem_map.1 hr
    obtain ⟨t, ht, rfl⟩ := List.mem_map.1 hm
    exact hG.bl a t (List.mem_range.1 ha) (List.mem_range.1 ht))
  rw [hG.val] at hval
  clear hX0 hb0 hb1 hz1 hw1 hwA hwA2 w1
  obtain ⟨x0, x1, x2, x3, x4, x5, x6⟩ := cells7 hX1
  have HU := Lib.hid hu
  clear hu hm0 hm1 hX
  go_enter Tryz.func25, Tryz.ntmps25
  go_upto_region 1 with fail
  rw [← HWA.out, HX.out]
  go_wp2_with fail
  refine hval.mono ?_
  rintro e w2 ⟨rfl, hb2⟩
  have hbw2 := hbA.trans (hb2.mono hbA.size)
  have hX2 := lit_next' hb2 hX1
  have hZ2 := lit_next' hb2 hZ0
  have hB2 := hB.below hbw2
  have hcp := copy38G_any n P es ow hv W ae ao ah ak ab ce co ch ck cb w2 hG (hK.below hbw2) hB2
  obtain ⟨-, hcb, bb, ob, ⟨sa, sl, sc⟩, rfl, hcB, hR⟩ := (show BoxA w2 (.slice ab (bxL P W).length cb) (bxL P W) by rw [bxL_len]; exact hB2).at i _ (bxL_row P W i hi)
  obtain ⟨hsl, hsc, -⟩ := NestA.len hR
  rw [List.length_map, List.length_range] at hsl
  obtain rfl := hsl.symm
  obtain ⟨-, -, bm, om, ⟨ma, ml, mc⟩, rfl, hcM, hM⟩ := hR.at j (W.bx i j) (by rw [List.getElem?_map, List.getElem?_range hj]; rfl)
  obtain rfl : ml = (W.bx i j).length := RowAt.lenE hM
  rw [hb] at hcM
  change w2.cell? ⟨bb, ob + i, none⟩ = some (.slice (some ⟨bm, om, none⟩) P sc) at hcB
  change w2.cell? ⟨bm, om + j, none⟩ = some (.slice ma (r.length + 1) mc) at hcM
  have hne : decide (((r.length + 1 : Nat) : Int) = 0) = false := by simp; omega
  have hne2 : ((((r.length + 1 : Nat) : Int)) == 0) = false := by simp; omega
  clear hval x0 x1 x2 x3 x4 x5 x6 hX1 hZ0 hB2 hR hM
  obtain ⟨x0, x1, x2, x3, x4, x5, x6⟩ := cells7 hX2
  go_wp2_with fail
  refine hcp.mono ?_
  rintro e w3 ⟨KB, BB, cK, cB, R, cR, vs, rfl, hOW, hb3⟩
  have hbw3 := hbw2.trans (hb3.mono hbw2.size)
  obtain ⟨hY4, hb4⟩ := boxG_new w3 #[.int .i64 (n : Int), .slice ae es.length ce, .int .i64 (P : Int), .slice ao n co, .slice ah hv.length ch, .slice (some ⟨KB, 0, none⟩) P cK, .slice (some ⟨BB, 0, none⟩) P cB] 36
  obtain ⟨w4, hw4⟩ : ∃ V : World, V = w3.alloc (.cells #[.int .i64 (n : Int), .slice ae es.length ce, .int .i64 (P : Int), .slice ao n co, .slice ah hv.length ch, .slice (some ⟨KB, 0, none⟩) P cK, .slice (some ⟨BB, 0, none⟩) P cB] 36) := ⟨_, rfl⟩
  have hz4 : w4.heap.size = w3.heap.size + 1 := by rw [hw4]; simp
  rw [← hw4] at hY4 hb4
  have HW4 := Lib.hid hw4
  obtain ⟨Y, hY⟩ : ∃ Y, w3.heap.size = Y := ⟨_, rfl⟩
  obtain ⟨lo, hlo⟩ : ∃ l, w2.heap.size = l := ⟨_, rfl⟩
  have hloY : lo ≤ Y := by have := hb3.size; omega
  have hXlo : X + 1 < lo := by have := hb2.size; omega
  rw [hlo] at hOW
  rw [hY] at hY4 hz4
  have HY := Lib.hid hY
  have HLO := Lib.hid hlo
  go_upto_region 8 with fail
  rw [← HW4.out]
  -- the message
  have hG3 := hOW.grid
  have hbi := cpI_box hi hj
  have hd : ∀ x, CpI P P 0 x → ∀ b, (vs x).ownBlock = some b → b < Y := fun x hx b e => by rw [← hY]; exact ((hG3.own x hx).lt b e).2
  have hl : ∀ x, CpI P P 0 x → lo ≤ (CpA KB R x).1 ∧ (CpA KB R x).1 < Y := fun x hx => ⟨hG3.low x hx, by rw [← hY]; exact hG3.lt x hx⟩
  have hBBY : BB < Y := by rw [← hY]; exact cell_lt (hOW.out i hi).1
  have hG4 := hG3.below hb4
  have hout4 : ∀ a, a < P → w4.cell? ⟨BB, a, none⟩ = some (.slice (some ⟨R a, 0, none⟩) P (cR a)) := fun a ha => (hb4.cell (p := ⟨BB, a, none⟩) (by rw [hY]; exact hBBY)).trans (hOW.out a ha).1
  have hownM := GW.box (r := i) (t := j) hG4 hbi
  rw [hb] at hownM
  obtain ⟨g, cap, hvM, hcap, hgl, hgs, g0, g1, g2, hrow⟩ := ownsM_cons hownM (by omega)
  rw [HU.out] at g0
  have cM := hG4.cell _ hbi
  rw [hvM] at cM
  change w4.cell? ⟨R i, j, none⟩ = _ at cM
  have cBi := hout4 i hi
  obtain ⟨hM5, hb5⟩ := boxG_new w4 #[.int .i64 (u : Int), .int .i64 m.2.1, .bool m.2.2] 89
  obtain ⟨w5, hw5⟩ : ∃ V : World, V = w4.alloc (.cells #[.int .i64 (u : Int), .int .i64 m.2.1, .bool m.2.2] 89) := ⟨_, rfl⟩
  have hz5 : w5.heap.size = Y + 2 := by rw [hw5]; simp [hz4]
  rw [← hw5] at hM5 hb5
  rw [hz4] at hM5
  have HW5 := Lib.hid hw5
  have hz4' := Lib.hid hz4
  obtain ⟨y0, y1, y2, y3, y4, y5, y6⟩ := cells7 hY4
  have hgY : g < Y := hd _ hbi g (by rw [hvM]; rfl)
  clear hw5 hw4 hz4 x0 x1 x2 x3 x4 x5 x6 hcB hcM hcp
  go_upto_region 9 with fail
  rw [← HW5.out, hz4'.out]
  have hY5 := lit_next' hb5 hY4
  have hG5 := hG4.below hb5
  have c5 : ∀ b o' q, w4.cell? ⟨b, o', none⟩ = some q → w5.cell? ⟨b, o', none⟩ = some q := fun b o' q h => (hb5.cell (p := ⟨b, o', none⟩) (cell_lt h)).trans h
  have hBi5 := c5 _ _ _ cBi
  have hM5c := c5 _ _ _ cM
  obtain ⟨ga, hga⟩ : ∃ a : Option Addr, (if cap = 1 then some ⟨g, 0, none⟩ else some ⟨g, 3, none⟩) = a := ⟨_, rfl⟩
  have hrow5 : RowAt encM w5 (.slice ga r.length (cap - 1)) r := by
    rw [← hga]
    by_cases e : cap = 1
    · rw [if_pos e]
      obtain rfl : r = [] := List.eq_nil_of_length_eq_zero (by omega)
      exact RowAt.void (by simp)
    · rw [if_neg e]; exact hrow.below hb5
  have hgab : ∀ p, ga = some p → p.block = g := fun p e => by
    rw [← hga] at e
    split at e <;> (cases e; rfl)
  have h1le : (1 : Int) ≤ (r.length : Int) + 1 := by omega
  have f5 : w5.frozen? ⟨R i, j, none⟩ = false := hG5.free _ hbi
  obtain ⟨y0', y1', y2', y3', y4', y5', y6'⟩ := cells7 hY5
  refine wp_region_heldK (k := 16) (S := fun b W => (W.cell? ⟨Y, 6, none⟩ = some (.slice (some ⟨BB, 0, none⟩) P cB) ∧ W.cell? ⟨BB, i, none⟩ = some (.slice (some ⟨R i, 0, none⟩) P (cR i))) ∧ (match b with | false => W.cell? ⟨R i, j, none⟩ = some (.slice (some ⟨g, 0, none⟩) (r.length + 1) cap) | true => True)) (by kernel_rfl) ?_
  have hS0 : (w5.drew.cell? ⟨Y, 6, none⟩ = some (.slice (some ⟨BB, 0, none⟩) P cB) ∧ w5.drew.cell? ⟨BB, i, none⟩ = some (.slice (some ⟨R i, 0, none⟩) P (cR i))) ∧ w5.drew.cell? ⟨R i, j, none⟩ = some (.slice (some ⟨g, 0, none⟩) (r.length + 1) cap) := ⟨⟨y6', hBi5⟩, hM5c⟩
  refine tkA 0 (.pointer (some ⟨Y, 6, none⟩)) true rfl (fun _ h => ⟨h.1, trivial⟩) false hS0 ?_
  refine tkA 1 (.slice (some ⟨BB, 0, none⟩) P cB) true rfl (fun _ h => ⟨h.1, trivial⟩) false hS0 ?_
  refine tkA 2 (.int .i64 (i : Int)) true rfl (fun _ h => ⟨h.1, trivial⟩) false hS0 ?_
  refine tkA 3 (.pointer (some ⟨BB, i, none⟩)) true rfl (fun _ h => ⟨h.1, trivial⟩) false hS0 ?_
  refine tkA 4 (.slice (some ⟨R i, 0, none⟩) P (cR i)) true rfl (fun _ h => ⟨h.1, trivial⟩) false hS0 ?_
  refine tkA 5 (.int .i64 (j : Int)) true rfl (fun _ h => ⟨h.1, trivial⟩) false hS0 ?_
  refine tkA 6 (.pointer (some ⟨Y, 6, none⟩)) true rfl (fun _ h => ⟨h.1, trivial⟩) false hS0 ?_
  refine tkA 7 (.slice (some ⟨BB, 0, none⟩) P cB) true rfl (fun _ h => ⟨h.1, trivial⟩) false hS0 ?_
  refine tkA 8 (.int .i64 (i : Int)) true rfl (fun _ h => ⟨h.1, trivial⟩) false hS0 ?_
  refine tkA 9 (.pointer (some ⟨BB, i, none⟩)) true rfl (fun _ h => ⟨h.1, trivial⟩) false hS0 ?_
  refine tkA 10 (.slice (some ⟨R i, 0, none⟩) P (cR i)) true rfl (fun _ h => ⟨h.1, trivial⟩) false hS0 ?_
  refine tkA 11 (.int .i64 (j : Int)) true rfl (fun _ h => ⟨h.1, trivial⟩) false hS0 ?_
  refine tkA 12 (.pointer (some ⟨R i, j, none⟩)) true rfl (fun _ h => ⟨h.1, trivial⟩) false hS0 ?_
  refine tkA 13 (.slice (some ⟨g, 0, none⟩) (r.length + 1) cap) false rfl (fun _ h => ⟨h.1, trivial⟩) false hS0 ?_
  refine tkA 14 (.slice ga r.length (cap - 1)) true rfl (fun _ h => ⟨h.1, trivial⟩) false hS0 ?_
  refine tkA 15 (.pointer (some ⟨R i, j, none⟩)) true rfl (fun _ h => ⟨h.1, trivial⟩) false hS0 ?_
  try simp only [Act.put, List.setIfInBounds_toArray, List.set_cons_zero, List.set_cons_succ]
  refine wpAnyK_one (i := 16) (by kernel_rfl) rfl (by rfl) (b := true) (by kernel_rfl) (fun K hK => ?_)
  go_simp
  have hYR : Y ≠ R i := by have := (hl _ hbi).2; change R i < Y at this; omega
  have hRB0 : BB ≠ R i := fun e => hOW.offA _ hbi e.symm
  have nn : ∀ z b o' q, b ≠ R i → w5.cell? ⟨b, o', none⟩ = some q → (w5.setCell ⟨R i, j, none⟩ z).cell? ⟨b, o', none⟩ = some q := fun z b o' q h1 h2 => (World.cell?_setCell_far _ _ _ _ (by first | exact fun e => h1 e | exact fun e => h1 e.symm)).trans h2
  refine hK.out _ _ ⟨⟨nn _ _ _ _ hYR y6', nn _ _ _ _ hRB0 hBi5⟩, trivial⟩ (wpAnyK_done (by kernel_rfl) ?_ _)
  clear nn hS0 hRB0 hYR
  obtain ⟨w6, hw6⟩ : ∃ V : World, V = (w5.setCell ⟨R i, j, none⟩ (.slice ga r.length (cap - 1))).drew := ⟨_, rfl⟩
  have HW6 := Lib.hid hw6
  have hRi := hl _ hbi
  change lo ≤ R i ∧ R i < Y at hRi
  have hg6 : w5.grownBy w6 (some (R i)) := by rw [hw6]; exact grown_trans grown_store (grown_none (grown_of_below (Below.refl _ _).drew))
  have hF56 : Fr (fun b => b = R i) w5 w6 := (Fr.refl _ _).grown hg6 (fun b e => .inl (Option.some.inj e).symm)
  have hG6 : GW w6 lo (fun x => CpI P P 0 x ∧ x ≠ (i + 2, j)) (CpA KB R) vs W.kn (fun _ => []) W.bx := by rw [hw6]; exact (GridA.drop hG5 hbi _).below (Below.refl _ _).drew
  have cT6 : w6.cell? ⟨R i, j, none⟩ = some (.slice ga r.length (cap - 1)) := by rw [hw6]; exact World.cell?_setCell_same _ _ _ hM5c
  have hY6 := hF56.blk hY5 (by omega)
  have hM6 := hF56.blk hM5 (by omega)
  have hZ5 := lit_next' hb5 (lit_next' hb4 (lit_next' hb3 hZ2))
  have hZ6 := hF56.blk hZ5 (by omega)
  have hRB : BB ≠ R i := fun e => hOW.offA _ hbi e.symm
  have hgR : g ≠ R i := fun e => hG3.off _ _ hbi hbi (by rw [hvM]; show some g = some (R i); rw [e])
  have hrow6 : RowAt encM w6 (.slice ga r.length (cap - 1)) r := hF56.row hrow5 (fun n' c' p e q => by
    have e2 := (Value.slice.inj e).1
    rw [hgab p e2] at q
    exact hgR q)
  have hout6 : ∀ a, a < P → w6.cell? ⟨BB, a, none⟩ = some (.slice (some ⟨R a, 0, none⟩) P (cR a)) := fun a ha => hF56.cell (c5 _ _ _ (hout4 a ha)) hRB
  have hbw6 : Below w.heap.size w w6 := ((hbw3.trans (hb4.mono hbw3.size)).trans (hb5.mono (hbw3.trans (hb4.mono hbw3.size)).size)).grown hg6 (hbw3.trans ((hb4.trans (hb5.mono hb4.size)).mono hbw3.size)).size (fun k e => by cases e; rw [HX.out]; omega)
  -- Learn
  have hLd : ∀ b, lrnD KB (R j) P j vs b → lo ≤ b ∧ b < Y := fun b h => by
    rcases h with h | h | h | ⟨t, ht, h⟩
    · subst h; exact hl (0, j) (.inl ⟨rfl, hj⟩)
    · exact ⟨((hG3.own (0, j) (.inl ⟨rfl, hj⟩)).lt b h).1, hd _ (.inl ⟨rfl, hj⟩) b h⟩
    · subst h; exact hl (j + 2, j) (cpI_box hj hj)
    · exact ⟨((hG3.own (j + 2, t) (cpI_box hj ht)).lt b h).1, hd _ (cpI_box hj ht) b h⟩
  have hLo : ∀ b, (∀ x, CpI P P 0 x → (CpA KB R x).1 = b → x.1 ≠ 0 ∧ x.1 ≠ j + 2) → (∀ x, CpI P P 0 x → (x.1 = 0 ∨ x.1 = j + 2) → (vs x).ownBlock ≠ some b) → ¬ lrnD KB (R j) P j vs b := fun b h1 h2 h => by
    rcases h with h | h | h | ⟨t, ht, h⟩
    · exact (h1 (0, j) (.inl ⟨rfl, hj⟩) h.symm).1 rfl
    · exact h2 (0, j) (.inl ⟨rfl, hj⟩) (.inl rfl) h
    · exact (h1 (j + 2, j) (cpI_box hj hj) h.symm).2 rfl
    · exact h2 (j + 2, t) (cpI_box hj ht) (.inr rfl) h
  have hBBd : ¬ lrnD KB (R j) P j vs BB := hLo BB (fun x hx e => absurd e (hOW.offA x hx)) (fun x hx _ => hOW.offV x hx)
  have hRid : ¬ lrnD KB (R j) P j vs (R i) := hLo (R i) (fun x hx e => by
    obtain ⟨a, t⟩ := x
    match a with
    | 0 =>
      have ht : t < P := by rcases hx with h | h <;> simp at h; exact h
      have h1 := hG3.dist (0, t) (i + 2, t) hx (cpI_box hi ht) (ix1 (by omega))
      exact absurd (show CpA KB R (0, t) = CpA KB R (i + 2, t) from Prod.ext e rfl) h1
    | 1 => exact absurd hx (fun h => by rcases h with h | h <;> simp at h)
    | a + 2 =>
      refine ⟨by simp, fun h => ?_⟩
      have ha : a = j := by simpa using h
      subst ha
      have ht : a < P ∧ t < P := by rcases hx with h | h <;> simp at h; omega
      have h1 := hG3.dist (a + 2, t) (i + 2, t) hx (cpI_box hi ht.2) (ix1 (by omega))
      exact absurd (show CpA KB R (a + 2, t) = CpA KB R (i + 2, t) from Prod.ext e rfl) h1) (fun x hx _ => hG3.off x (i + 2, j) hx hbi)
  have hgd : ¬ lrnD KB (R j) P j vs g := by
    have hgo : (vs (i + 2, j)).ownBlock = some g := by rw [hvM]; rfl
    refine hLo g (fun x hx e => absurd (show (vs (i + 2, j)).ownBlock = some (CpA KB R x).1 by rw [e]; exact hgo) (hG3.off _ x hbi hx)) (fun x hx hx2 => hG3.apart _ x hbi hx (fun e => ?_) g hgo)
    rw [← e] at hx2
    simp at hx2
    omega
  have hst : ∀ {p : World → Prop}, p w → (∀ U, Below w.heap.size w U → p w → p U) → Stb (lrnD KB (R j) P j vs) w6 p := fun hp hpb U gU => hpb U (hbw6.trans (gU.below (fun b h => by have := hLd b h; rw [HX.out]; omega) hbw6.size)) hp
  obtain ⟨X2, hX2e⟩ : ∃ q, lrnL es n ow j (W.kn j) m = q := ⟨_, rfl⟩
  have hX2s : setX es n ow j ((W.kn j).set u (min ((W.kn j).getD u 0) m.2.1)) = X2 := by
    rw [← hX2e]
    unfold lrnL
    have h1 : m.1.toNat = u := by have := HU.out; omega
    rw [h1]
  have hX2l : X2.length = n := by rw [← hX2e, lrn_len]; exact hG.vld.len j hj
  have hlrn := learn38_any n P j u KB BB (R j) cK cB (cR j) es ow hv ae ao ah ce co ch lo m.2.1 m.2.2 (fun x => CpI P P 0 x ∧ x ≠ (i + 2, j)) (CpA KB R) vs W.kn (fun _ => []) W.bx (W.kn j) X2 w6 hG.hg (flt_wd hG.hg hG.hP hG.how hG.hh) (by omega) hj hun (by have := hF56.size; omega) hG6 ⟨.inl ⟨rfl, hj⟩, ix1 (by omega)⟩ rfl (fun t ht => ⟨cpI_box hj ht, ix1 (by omega)⟩) (fun t _ => rfl) (hOW.out j hj).2 hOW.cK hOW.cB rfl (hG.vld.len j hj) hX2s (hout6 j hj) hBBd (hst hE (fun U h1 h2 => h2.below h1)) (hst hO (fun U h1 h2 => h2.below h1)) (hst hH (fun U h1 h2 => h2.below h1)) (fun t ht => hbl j t hj ht)
  obtain ⟨z0, z1, z2, z3, z4, z5, z6⟩ := cells7 hY6
  obtain ⟨mm0, mm1, mm2⟩ := cells3 hM6
  have hzY6 : Y + 1 < w6.heap.size := blk_lt hM6
  clear hw6 hst hG6 y0 y1 y2 y3 y4 y5 y6 y0' y1' y2' y3' y4' y5' y6' g0 g1 g2 hG4 hG5 hownM hrow hrow5 hBi5 hM5c cBi cM hgl hgs f5 hM5 hY5 hY4 hZ5 hX2s c5
  rw [← HW6.out]
  go_wp2_with fail
  refine hlrn.mono ?_
  rintro e w7 ⟨rfl, vs', hG7, hF7, hv7⟩
  have hlY : ∀ b, Y ≤ b → ¬ lrnD KB (R j) P j vs b := fun b h1 h2 => by have := hLd b h2; omega
  have hY7 := hF7.blk hY6 (hlY Y (Nat.le_refl _))
  have hZ7 := hF7.blk hZ6 (fun h => by have := hLd _ h; omega)
  have hbw7 : Below w.heap.size w w7 := hbw6.trans (hF7.below (fun b h => by have := hLd b h; rw [HX.out]; omega) hbw6.size)
  obtain ⟨wF, hwF⟩ : ∃ V : World, V = (((((((w7.setCell ⟨X + 1, 0, none⟩ (.int .i64 (n : Int))).setCell ⟨X + 1, 1, none⟩ (.slice ae es.length ce)).setCell ⟨X + 1, 2, none⟩ (.int .i64 (P : Int))).setCell ⟨X + 1, 3, none⟩ (.slice ao n co)).setCell ⟨X + 1, 4, none⟩ (.slice ah hv.length ch)).setCell ⟨X + 1, 5, none⟩ (.slice (some ⟨KB, 0, none⟩) P cK)).setCell ⟨X + 1, 6, none⟩ (.slice (some ⟨BB, 0, none⟩) P cB)) := ⟨_, rfl⟩
  have hfin := set7all (d0 := .int .i64 (n : Int)) (d1 := .slice ae es.length ce) (d2 := .int .i64 (P : Int)) (d3 := .slice ao n co) (d4 := .slice ah hv.length ch) (d5 := .slice (some ⟨KB, 0, none⟩) P cK) (d6 := .slice (some ⟨BB, 0, none⟩) P cB) hZ7
  have hgF := set7_grown w7 (X + 1) (.int .i64 (n : Int)) (.slice ae es.length ce) (.int .i64 (P : Int)) (.slice ao n co) (.slice ah hv.length ch) (.slice (some ⟨KB, 0, none⟩) P cK) (.slice (some ⟨BB, 0, none⟩) P cB)
  rw [← hwF] at hfin hgF
  have HWF := Lib.hid hwF
  have hbF : Below w.heap.size w wF := hbw7.grown hgF hbw7.size (fun k e => by cases e; rw [HX.out]; omega)
  have h25 : Fr (fun b => b < lo) w7 wF := (Fr.refl _ _).grown hgF (fun b e => .inl (by cases e; omega))
  have hres : Stb D wF fun U => WldAt U (.agg #[.int .i64 (n : Int), .slice ae es.length ce, .int .i64 (P : Int), .slice ao n co, .slice ah hv.length ch, .slice (some ⟨KB, 0, none⟩) P cK, .slice (some ⟨BB, 0, none⟩) P cB]) (wdL n P es ow hv (dlvP es n P ow W i j)) := fun U gU => by
    have hFU : Fr (fun b => b < lo) w7 U := h25.trans gU (fun b h => .inl (by have := hD b h; rw [HX.out] at this; omega))
    have hFw : Fr D w U := (Fr.of_below (D := D) hbF).trans gU (fun b h => .inl h)
    have hnl : ∀ b, lo ≤ b → ¬ b < lo := fun b h => by omega
    refine wld_read (R := R) (cR := cR) (fun t => vs' (0, t)) (fun a t => if a = i ∧ t = j then .slice ga r.length (cap - 1) else vs' (a + 2, t)) (by omega) hOW.cK hOW.cB (hSE U hFw) (hSO U hFw) (hSH U hFw) (fun t ht => ?_) (fun a ha => ⟨hFU.cell (hF7.cell (hout6 a ha) hBBd) (hnl _ hOW.low), (hOW.out a ha).2⟩) (fun a t ha ht => ?_)
    · have hx : CpI P P 0 (0, t) ∧ ((0, t) : Ix) ≠ (i + 2, j) := ⟨.inl ⟨rfl, ht⟩, ix1 (by omega)⟩
      have hk7 := GW.kn hG7 hx
      have hlen : (if t = j then X2 else W.kn t).length ≤ 70368744177664 := by
        by_cases e : t = j
        · rw [if_pos e, hX2l]; omega
        · rw [if_neg e, hG.vld.len t ht]; omega
      obtain ⟨a', c', e, h', -⟩ := IntsAt.of_owns (owns_fr hk7 hFU (fun b e => hnl _ (hk7.lt b e).1)) hlen
      refine ⟨hFU.cell (hG7.cell _ hx) (hnl _ (hG7.low _ hx)), ?_⟩
      rw [dlv_kn hb, hX2e]
      show IntsAt U (vs' (0, t)) _
      rw [e]; exact h'
    · rw [dlv_bx hb, hX2e]
      by_cases hat : a = i ∧ t = j
      · obtain ⟨rfl, rfl⟩ := hat
        rw [if_pos ⟨rfl, rfl⟩, if_pos ⟨rfl, rfl⟩, if_neg hij, List.append_nil]
        refine ⟨hFU.cell (hF7.cell cT6 hRid) (hnl _ hRi.1), hFU.row (hF7.row hrow6 (fun n' c' p e q => ?_)) (fun n' c' p e q => ?_)⟩
        · rw [hgab p (Value.slice.inj e).1] at q; exact hgd q
        · rw [hgab p (Value.slice.inj e).1] at q
          have h1 := ((hG3.own _ hbi).lt g (by rw [hvM]; rfl)).1
          exact absurd (show g < lo from q) (by omega)
      · have hx : CpI P P 0 (a + 2, t) ∧ ((a + 2, t) : Ix) ≠ (i + 2, j) := ⟨cpI_box ha ht, fun e => hat ⟨by have := (Prod.mk.inj e).1; omega, (Prod.mk.inj e).2⟩⟩
        have hk7 := GW.box hG7 hx
        rw [if_neg hat, if_neg hat]
        have hlen : (if a = j then W.bx j t ++ telL es n P ow j X2 (fun v => decide (X2.getD v 0 < (W.kn j).getD v 0)) t else W.bx a t).length ≤ 1000000 := by
          by_cases e : a = j
          · rw [if_pos e, List.length_append]
            have h1 := hbl j t hj ht
            have h2 := telK_len es n P ow j X2 (fun v => decide (X2.getD v 0 < (W.kn j).getD v 0)) n t
            rw [telK_all] at h2
            omega
          · rw [if_neg e]; have := hbl a t ha ht; omega
        obtain ⟨a', c', e, h', -⟩ := RowAt.of_owns (E := encM) (owns_fr hk7 hFU (fun b e => hnl _ (hk7.lt b e).1)) (by omega)
        refine ⟨hFU.cell (hG7.cell _ hx) (hnl _ (hG7.low _ hx)), ?_⟩
        have hbe : W.bx a t ++ (if a = j then telL es n P ow j X2 (fun v => decide (X2.getD v 0 < (W.kn j).getD v 0)) t else []) = if a = j then W.bx j t ++ telL es n P ow j X2 (fun v => decide (X2.getD v 0 < (W.kn j).getD v 0)) t else W.bx a t := by
          by_cases e : a = j
          · rw [if_pos e, if_pos e, e]
          · rw [if_neg e, if_neg e, List.append_nil]
        rw [hbe]
        show RowAt encM U (vs' (a + 2, t)) _
        rw [e]; exact h'
  obtain ⟨t0, t1, t2, t3, t4, t5, t6⟩ := cells7 hfin
  obtain ⟨u0, u1, u2, u3, u4, u5, u6⟩ := cells7 hY7
  obtain ⟨v0, v1, v2, v3, v4, v5, v6⟩ := cells7 hZ7
  have fZ := fun q => free_blk (j := q) hZ7
  have f0 := fZ 0
  have f1 := fZ 1
  have f2 := fZ 2
  have f3 := fZ 3
  have f4 := fZ 4
  have f5 := fZ 5
  have f6 := fZ 6
  clear hwF hgF hfin fZ h25 hG7 hv7 z0 z1 z2 z3 z4 z5 z6 mm0 mm1 mm2
  go_wp2_with fail
  rw [← HWF.out]
  exact bodyPost_ret (v := .tuple #[.agg #[.int .i64 (n : Int), .slice ae es.length ce, .int .i64 (P : Int), .slice ao n co, .slice ah hv.length ch, .slice (some ⟨KB, 0, none⟩) P cK, .slice (some ⟨BB, 0, none⟩) P cB], .int .i64 0]) (by simp [results, Tryz.results25, go_sem, t0, t1, t2, t3, t4, t5, t6]) rfl ⟨_, rfl, hres, hbF, rfl⟩
theorem del38_any (n P i j : Nat) (es : List E2) (ow : Nat → Nat) (hv : List Int) (W : WdP) (m : Msg) (r : List Msg) (v : Value) (D : Nat → Prop) (w : World) (hG : GoodW n P es ow hv W) (hS : Stb D w fun U => WldAt U v (wdL n P es ow hv W)) (hD : ∀ b, D b → b < w.heap.size) (hi : i < P) (hj : j < P) (hb : W.bx i j = m :: r) (hbl : ∀ a b, a < P → b < P → (W.bx a b).length ≤ 900000) :
    Calls Tryz.prog 25 #[v, .int .i64 (i : Int), .int .i64 (j : Int)] w fun e w' => ∃ v', e = .returned (.tuple #[v', .int .i64 0]) ∧ (Stb D w' fun U => WldAt U v' (wdL n P es ow hv (dlvP es n P ow W i j))) ∧ Below w.heap.size w w' := by
  refine (del38O_any n P i j es ow hv W m r v D w hG hS hD hi hj hb hbl).mono ?_
  rintro e w' ⟨v', h1, h2, h3, -⟩
  exact ⟨v', h1, h2, h3⟩
end Go.Proofs.YtdkmdcdoiaelfaaGreat

namespace Go.Proofs.YtdkmdcdoiaelfaaGreat
open Go.RowKit Go.BigFrame

theorem degree8_any (n : Nat) (a : Option Addr) (cap : Nat) (es : List E2) (v : Nat) (w : World) (he : EdgesAt w (.slice a es.length cap) es) (hv : Valid n es) :
    Calls Tryz.prog 40 #[.agg #[.int .i64 n, .slice a es.length cap], .int .i64 v] w fun e w' => e = .returned (.int .i64 ((nbL es n v).length : Nat)) ∧ Below w.heap.size w w' := by
  obtain ⟨hx, hb⟩ := boxG_new w #[.int .i64 n, .slice a es.length cap] 25
  have hne := neigh_any n a cap es v _ (he.below hb) hv
  rw [neigh_eq hv] at hne
  have hll : ((nbL es n v).map fun (i : Nat) => (i : Int)).length = (nbL es n v).length := by simp
  generalize hR : ((nbL es n v).map fun (i : Nat) => (i : Int)) = R at *
  obtain ⟨L, hL⟩ : ∃ L, (nbL es n v).length = L := ⟨_, rfl⟩
  rw [hL] at hll ⊢
  clear hR hL
  obtain ⟨k0, k1⟩ := cells2R hx
  go_enter Tryz.func40, Tryz.ntmps40
  go_wp2_with fail
  refine hne.mono ?_
  rintro e w2 ⟨a2, c2, rfl, -, hb2⟩
  have hbe := hb.trans (hb2.mono hb.size)
  go_wp2_with fail
  go_ret
  exact ⟨rfl, hbe⟩
theorem owns_made {w : World} {P T : Nat} {f : Nat → Value} (hP : P ≤ 1000000) (hf : ∀ t, f t = .slice none 0 0) : (w.alloc (.cells ((List.range P).map fun _ => Value.slice none 0 0).toArray T)).ownsRow w.heap.size T (encP Unit).k (.slice (some ⟨w.heap.size, 0, none⟩) P P) (ptrs f P).length (flatR (encP Unit) (ptrs f P)) := by
  have e : flatR (encP Unit) (ptrs f P) = (List.range P).map fun _ => Value.slice none 0 0 := by
    rw [flatP_eq]
    unfold ptrs
    rw [List.map_map]
    refine List.map_congr_left fun i _ => ?_
    show slV (slOf (f i)) = _
    rw [hf i]; rfl
  rw [e, ptrs_len]
  exact ⟨by simp [show (encP Unit).k = 1 from rfl], .inr ⟨w.heap.size, P, _, rfl, Nat.le_refl _, heap_alloc_new _ _, Nat.le_refl _, by unfold maxLen; omega, by simp [show (encP Unit).k = 1 from rfl], by simp [show (encP Unit).k = 1 from rfl, List.take_of_length_le]⟩⟩
/-- a worker's row of boxes is made at once -/
theorem CpS.made {w0 w w' : World} {Y a b m r : Nat} {V0 V1 V2 V3 V4 v : Value} {vs : Ix → Value} {K : Nat → List Int} {M : Nat → Nat → List Msg} {N : Nat → Nat} (h : CpS w0 Y V0 V1 V2 V3 V4 vs K M a b N w) (hb : b ≤ r) (hbl : Below w.heap.size w w') (hown : w'.ownsRow w.heap.size 87 (encP Unit).k v (ptrs (fun t => vs (r + 2, t)) m).length (flatR (encP Unit) (ptrs (fun t => vs (r + 2, t)) m))) :
    CpS w0 Y V0 V1 V2 V3 V4 (updX vs (1, r + 2) v) K M a b (fun r' => if r' = r then m else N r') w' := by
  refine ⟨h.rows.putM hb (grown_none (grown_of_below hbl)) (owns_base hown h.fr.size) (fun b e => .inr (hown.lt b e).1), ?_, h.fr.grown (grown_of_below hbl) (fun b e => by cases e)⟩
  rw [updX_ne (ix2 (by omega)), updX_ne (ix2 (by omega))]
  exact lit_next' hbl h.out
theorem beg_take {es : List E2} {n : Nat} {ow : Nat → Nat} {w k : Nat} (hk : k < n) : (beg es n ow w).take (k + 1) = (beg es n ow w).take k ++ [if ow k = w then ((nbL es n k).length : Int) else (n : Int)] := by
  unfold beg
  rw [take_at _ _ _ (fnL_get n _ k hk)]
set_option linter.unusedSimpArgs false in
set_option maxRecDepth 100000 in
set_option maxHeartbeats 6400000 in
theorem start38O_any (n P : Nat) (es : List E2) (ow : Nat → Nat) (hv : List Int) (ae ao ah : Option Addr) (ce co ch : Nat) (D : Nat → Prop) (w : World) (hg : Valid n es) (hP8 : 1 ≤ P ∧ P ≤ 8) (how : ∀ v, v < n → ow v < P) (hhv : validZ none hv n = true)
    (hSE : Stb D w fun U => EdgesAt U (.slice ae es.length ce) es) (hSO : Stb D w fun U => IntsAt U (.slice ao n co) (owI n ow)) (hSH : Stb D w fun U => IntsAt U (.slice ah hv.length ch) hv) (hD : ∀ b, D b → b < w.heap.size) :
    Calls Tryz.prog 10 #[.agg #[.int .i64 (n : Int), .slice ae es.length ce], .agg #[.int .i64 (P : Int), .slice ao n co, .slice ah hv.length ch]] w fun e w' => ∃ v', e = .returned (.tuple #[v', .int .i64 0]) ∧ (Stb D w' fun U => WldAt U v' (wdL n P es ow hv (staP es n P ow))) ∧ Below w.heap.size w w' ∧ owOf v' = .slice ao n co := by
  have hn64 : n ≤ 64 := by have := hg.2.1; omega
  have hflt := flt_wd hg hP8 how hhv
  have hE := hSE.now
  have hO := hSO.now
  have hH := hSH.now
  obtain ⟨hX0, hb0⟩ := boxG_new w #[.int .i64 (n : Int), .slice ae es.length ce] 25
  obtain ⟨w1, hw1⟩ : ∃ V : World, V = w.alloc (.cells #[.int .i64 (n : Int), .slice ae es.length ce] 25) := ⟨_, rfl⟩
  have hz1 : w1.heap.size = w.heap.size + 1 := by rw [hw1]; simp
  rw [← hw1] at hX0 hb0
  obtain ⟨hQ0, hb1⟩ := boxG_new w1 #[.int .i64 (P : Int), .slice ao n co, .slice ah hv.length ch] 27
  obtain ⟨w1', hw1'⟩ : ∃ V : World, V = w1.alloc (.cells #[.int .i64 (P : Int), .slice ao n co, .slice ah hv.length ch] 27) := ⟨_, rfl⟩
  have hz1' : w1'.heap.size = w.heap.size + 2 := by rw [hw1']; simp [hz1]
  rw [← hw1'] at hQ0 hb1
  obtain ⟨hZ0, hb2⟩ := boxG_new w1' #[.int .i64 0, .slice none 0 0, .int .i64 0, .slice none 0 0, .slice none 0 0, .slice none 0 0, .slice none 0 0] 36
  obtain ⟨wA, hwA⟩ : ∃ V : World, V = w1'.alloc (.cells #[.int .i64 0, .slice none 0 0, .int .i64 0, .slice none 0 0, .slice none 0 0, .slice none 0 0, .slice none 0 0] 36) := ⟨_, rfl⟩
  have hzA : wA.heap.size = w.heap.size + 3 := by rw [hwA]; simp [hz1']
  rw [← hwA] at hZ0 hb2
  have hX1 := lit_next' hb2 (lit_next' hb1 hX0)
  have hQ1 := lit_next' hb2 hQ0
  have hbA := (hb0.trans (hb1.mono hb0.size)).trans (hb2.mono (hb0.trans (hb1.mono hb0.size)).size)
  obtain ⟨X, hX⟩ : ∃ X, w.heap.size = X := ⟨_, rfl⟩
  rw [hz1] at hQ1
  rw [hz1'] at hZ0
  rw [hX] at hX1 hQ1 hZ0 hzA
  have HX := Lib.hid hX
  have hwA2 : wA = ((w.alloc (.cells #[.int .i64 (n : Int), .slice ae es.length ce] 25)).alloc (.cells #[.int .i64 (P : Int), .slice ao n co, .slice ah hv.length ch] 27)).alloc (.cells #[.int .i64 0, .slice none 0 0, .int .i64 0, .slice none 0 0, .slice none 0 0, .slice none 0 0, .slice none 0 0] 36) := by rw [hwA, hw1', hw1]
  have HWA := Lib.hid hwA2
  have hfa := fault38_any n P es (owI n ow) hv ae ao ah ce co ch wA (hE.below hbA) (by rw [owI_length]; exact hO.below hbA) (hH.below hbA)
  rw [hflt, owI_length] at hfa
  clear hX0 hb0 hb1 hb2 hz1 hz1' hQ0 hw1 hw1' hwA hwA2 w1 w1' hX
  obtain ⟨x0, x1⟩ := cells2R hX1
  obtain ⟨p0, p1, p2⟩ := cells3 hQ1
  go_enter Tryz.func10, Tryz.ntmps10
  go_upto_region 1 with fail
  rw [← HWA.out, HX.out]
  go_wp2_with fail
  refine hfa.mono ?_
  rintro e w2 ⟨rfl, hb2⟩
  have hbw2 := hbA.trans (hb2.mono hbA.size)
  have hX2 := lit_next' hb2 hX1
  have hQ2 := lit_next' hb2 hQ1
  have hZ2 := lit_next' hb2 hZ0
  obtain ⟨hY0, hb3⟩ := boxG_new w2 #[.int .i64 (n : Int), .slice ae es.length ce, .int .i64 (P : Int), .slice ao n co, .slice ah hv.length ch, .slice none 0 0, .slice none 0 0] 36
  obtain ⟨w0, hw0⟩ : ∃ V : World, V = w2.alloc (.cells #[.int .i64 (n : Int), .slice ae es.length ce, .int .i64 (P : Int), .slice ao n co, .slice ah hv.length ch, .slice none 0 0, .slice none 0 0] 36) := ⟨_, rfl⟩
  have hz0 : w0.heap.size = w2.heap.size + 1 := by rw [hw0]; simp
  rw [← hw0] at hY0 hb3
  have HW0 := Lib.hid hw0
  obtain ⟨Y, hY⟩ : ∃ Y, w2.heap.size = Y := ⟨_, rfl⟩
  have hXY : X + 2 < Y := by have := hb2.size; omega
  rw [hY] at hY0 hz0
  have hX3 := lit_next' hb3 hX2
  have hQ3 := lit_next' hb3 hQ2
  have hZ3 := lit_next' hb3 hZ2
  have hbw0 := hbw2.trans (hb3.mono hbw2.size)
  have hYl : Y < w0.heap.size := by omega
  have HY := Lib.hid hY
  clear hw0 hfa x0 x1 p0 p1 p2 hX1 hQ1 hZ0 hb2 hb3 hbA hzA
  obtain ⟨x0, x1⟩ := cells2R hX2
  obtain ⟨p0, p1, p2⟩ := cells3 hQ2
  go_upto_region 5 with fail
  rw [← HW0.out]
  have hC0 : CpS w0 Y (.int .i64 (n : Int)) (.slice ae es.length ce) (.int .i64 (P : Int)) (.slice ao n co) (.slice ah hv.length ch) (fun _ => .slice none 0 0) (fun j => if j < 0 then (staP es n P ow).kn j else []) (fun _ _ => []) 0 0 (fun r => if r < 0 then P else 0) w0 := ⟨(RowsS.void w0 w0.heap.size).congr (fun j => if_neg (by omega)) (fun _ _ => rfl) (fun r => if_neg (by omega)), hY0, Fr.refl _ _⟩
  clear x0 x1 p0 p1 p2 hX2 hQ2 hY0 hY hz0 hZ2
  have hmk := make_mrows P (by omega)
  go_wp2_with fail
  go_loopw [8] (fun vi wr => ∃ (i : Nat) (vs : Ix → Value), i ≤ P ∧ vi = .int .i64 (i : Int) ∧ CpS w0 Y (.int .i64 (n : Int)) (.slice ae es.length ce) (.int .i64 (P : Int)) (.slice ao n co) (.slice ah hv.length ch) vs (fun j => if j < i then (staP es n P ow).kn j else []) (fun _ _ => []) i i (fun r => if r < i then P else 0) wr ∧ Hid (∀ r t, vs (r + 2, t) = .slice none 0 0)) (fun vi _ => P - (intOf vi).toNat)
  case atStart => exact ⟨0, _, Nat.zero_le _, rfl, hC0, (show ∀ r t, _ from fun _ _ => rfl)⟩
  case round =>
    clear hC0
    obtain ⟨i, vs, hi, rfl, hC, HV⟩ := hrel
    have hXr := hC.fr.blk hX3 (by omega)
    have hQr := hC.fr.blk hQ3 (by omega)
    have hbr0 : Below w.heap.size w wr := hbw0.trans (hC.fr.below (fun b e => by have := HX.out; omega) hbw0.size)
    obtain ⟨x0, x1⟩ := cells2R hXr
    obtain ⟨p0, p1, p2⟩ := cells3 hQr
    by_cases hlt : i < P
    · have hlt3 : (i : Int) < P := by omega
      go_wp2_with fail
      obtain ⟨w4, hw4⟩ : ∃ V : World, V = wr := ⟨_, rfl⟩
      rw [← hw4] at hC hXr hQr hbr0 ⊢
      clear hw4 x0 x1 p0 p1 p2
      go_loopw [9, 10] (fun vl vk wr => ∃ k : Nat, k ≤ n ∧ vk = .int .i64 (k : Int) ∧ ∃ L : List Int, Hid (L = (beg es n ow i).take k) ∧ L.length ≤ k ∧ wr.ownsRow w4.heap.size 3 1 vl L.length (intsV L) ∧ Below w4.heap.size w4 wr) (fun _ vk _ => n - (intOf vk).toNat)
      case atStart => exact ⟨0, Nat.zero_le _, rfl, [], (show _ = _ by simp), Nat.le_refl _, World.ownsRow_nil _ _ _ _, Below.refl _ _⟩
      case round =>
        obtain ⟨k, hk, rfl, L, HL, hLk, hown, hb⟩ := hrel
        obtain ⟨av, cv, hvs⟩ := owns_shape hown
        subst hvs
        have hXs := lit_next' hb hXr
        have hQs := lit_next' hb hQr
        have hbs := hbr0.trans (hb.mono hbr0.size)
        obtain ⟨x0, x1⟩ := cells2R hXs
        obtain ⟨p0, p1, p2⟩ := cells3 hQs
        by_cases hlk : k < n
        · have hlk3 : (k : Int) < n := by omega
          obtain ⟨bO, oO, rfl, cO⟩ := (hO.below hbs).atn (owI_length n ow) k hlk
          rw [getD_of (owI_get n ow k hlk)] at cO
          have hbt := beg_take (es := es) (ow := ow) (w := i) hlk
          rw [← HL.out] at hbt
          by_cases ho : ow k = i
          · have d1 : ((ow k : Int) == (i : Int)) = true := by simp; omega
            have d1' : decide ((ow k : Int) = (i : Int)) = true := by simp; omega
            rw [if_pos ho] at hbt
            have hdg := degree8_any n ae ce es k wr (hE.below hbs) hg
            obtain ⟨dg, hdg'⟩ : ∃ q : Int, ((nbL es n k).length : Int) = q := ⟨_, rfl⟩
            rw [hdg'] at hbt hdg
            have HBT := Lib.hid hbt.symm
            clear hbt hdg' HL
            go_wp2_with fail
            refine hdg.mono ?_
            rintro e w5 ⟨rfl, hb5⟩
            have hown5 := hown.kept (grown_of_below hb5) (Classical.em _)
            have hb45 := hb.trans (hb5.mono hb.size)
            have hlx := ints_lit1 w5 dg 3
            have hownA := hown5.alloc (.cells #[.int .i64 dg] 3)
            have hbA := hb45.alloc hb45.size (.cells #[.int .i64 dg] 3)
            clear x0 x1 p0 p1 p2 cO
            go_wp2_with (at_builtin; refine wpList_app_ints intsT rfl (.tmp 42) (.tmp 46) (by kernel_rfl) w4.heap.size (.slice av L.length cv) (.slice (some ⟨w5.heap.size, 0, none⟩) 1 1) L [dg] (by kernel_rfl) hownA (by kernel_rfl) hlx (by rw [List.length_singleton]; omega) hbA.size ?_; intro v7 w7 hown7 hgr7)
            have hb7 := hbA.grown hgr7 hbA.size (fun g e => (hownA.lt g e).1)
            go_roundw
            case rel => exact ⟨k + 1, by omega, by go_num, L ++ [dg], HBT, by simp; omega, hown7, hb7⟩
            case measure => simp [intOf]; omega
          · have d1 : ((ow k : Int) == (i : Int)) = false := by simp; omega
            have d1' : decide ((ow k : Int) = (i : Int)) = false := by simp; omega
            rw [if_neg ho] at hbt
            have HBT := Lib.hid hbt.symm
            clear hbt HL
            have hlx := ints_lit1 wr (n : Int) 3
            have hownA := hown.alloc (.cells #[.int .i64 (n : Int)] 3)
            have hbA := hb.alloc hb.size (.cells #[.int .i64 (n : Int)] 3)
            go_wp2_with (at_builtin; refine wpList_app_ints intsT rfl (.tmp 48) (.tmp 51) (by kernel_rfl) w4.heap.size (.slice av L.length cv) (.slice (some ⟨wr.heap.size, 0, none⟩) 1 1) L [(n : Int)] (by kernel_rfl) hownA (by kernel_rfl) hlx (by rw [List.length_singleton]; omega) hbA.size ?_; intro v7 w7 hown7 hgr7)
            have hb7 := hbA.grown hgr7 hbA.size (fun g e => (hownA.lt g e).1)
            go_roundw
            case rel => exact ⟨k + 1, by omega, by go_num, L ++ [(n : Int)], HBT, by simp; omega, hown7, hb7⟩
            case measure => simp [intOf]; omega
        · obtain rfl : n = k := by omega
          have hbgl : (beg es n ow i).length = n := fnL_length _ _
          obtain ⟨bg, hbg⟩ : ∃ l, beg es n ow i = l := ⟨_, rfl⟩
          have hLb : L = bg := by rw [HL.out, hbg]; rw [hbg] at hbgl; rw [List.take_of_length_le (by omega)]
          rw [hbg] at hbgl
          subst hLb
          rw [hbgl] at hown
          rw [hbgl]
          obtain ⟨a', c', e', hi', -⟩ := IntsAt.of_owns (show wr.ownsRow w4.heap.size 3 1 (.slice av n cv) L.length (intsV L) by rw [hbgl]; exact hown) (by omega)
          have hset := settle38_any n i P es ow hv L ae ao ah av ce co ch cv wr.drew hg hlt hflt hbgl (hE.below (hbs.drew)) (hO.below hbs.drew) (hH.below hbs.drew) (by rw [e', ← hbgl] at *; exact hi'.below (Below.refl _ _).drew)
          have hC4 := hC.below hb
          have hkn : setX es n ow i L = (staP es n P ow).kn i := by rw [← hbg]; rfl
          obtain ⟨X1, hX1⟩ : ∃ l, setX es n ow i L = l := ⟨_, rfl⟩
          rw [hX1] at hset hkn
          have hX1l : X1.length = n := by rw [← hX1, (setX_dn _).1]; exact hbgl
          have HKN := Lib.hid hkn
          have HX1 := Lib.hid hX1l
          have hHV := HV.out
          clear hbg hbgl HL hLk hi' e' hX1 hkn hX1l hk hlk
          have y5 : wr.cell? ⟨Y, 5, none⟩ = some (vs (1, 0)) := cell_blk hC4.out
          go_upto_region 15 with fail
          refine wp_region_heldK (k := 10) (S := fun b W => (W.cell? ⟨X, 0, none⟩ = some (.int .i64 (n : Int)) ∧ W.cell? ⟨X, 1, none⟩ = some (.slice ae es.length ce) ∧ W.cell? ⟨X + 1, 0, none⟩ = some (.int .i64 (P : Int)) ∧ W.cell? ⟨X + 1, 1, none⟩ = some (.slice ao n co) ∧ W.cell? ⟨X + 1, 2, none⟩ = some (.slice ah hv.length ch)) ∧ (match b with | false => W.cell? ⟨Y, 5, none⟩ = some (vs (1, 0)) | true => True)) (by kernel_rfl) ?_
          have hS0 : (wr.drew.cell? ⟨X, 0, none⟩ = some (.int .i64 (n : Int)) ∧ wr.drew.cell? ⟨X, 1, none⟩ = some (.slice ae es.length ce) ∧ wr.drew.cell? ⟨X + 1, 0, none⟩ = some (.int .i64 (P : Int)) ∧ wr.drew.cell? ⟨X + 1, 1, none⟩ = some (.slice ao n co) ∧ wr.drew.cell? ⟨X + 1, 2, none⟩ = some (.slice ah hv.length ch)) ∧ wr.drew.cell? ⟨Y, 5, none⟩ = some (vs (1, 0)) := ⟨⟨x0, x1, p0, p1, p2⟩, y5⟩
          refine tkA 0 (.pointer (some ⟨Y, 5, none⟩)) true rfl (fun _ h => ⟨h.1, trivial⟩) false hS0 ?_
          refine tkA 1 (vs (1, 0)) false rfl (fun _ h => ⟨h.1, trivial⟩) false hS0 ?_
          refine tkA 2 (.agg #[.int .i64 (n : Int), .slice ae es.length ce]) true rfl (fun _ h => ⟨h.1, trivial⟩) false hS0 ?_
          refine tkA 3 (.agg #[.int .i64 (P : Int), .slice ao n co, .slice ah hv.length ch]) true rfl (fun _ h => ⟨h.1, trivial⟩) false hS0 ?_
          refine tkA 4 (.int .i64 (i : Int)) true rfl (fun _ h => ⟨h.1, trivial⟩) false hS0 ?_
          refine tkA 5 (.slice av n cv) true rfl (fun _ h => ⟨h.1, trivial⟩) false hS0 ?_
          try simp only [Act.put, List.setIfInBounds_toArray, List.set_cons_zero, List.set_cons_succ]
          refine wpAnyK_one (i := 6) (by kernel_rfl) rfl (by rfl) (b := false) (by kernel_rfl) (fun K hK => ?_)
          go_simp
          go_at_call 15
          refine hset.mono ?_
          rintro e w6 ⟨ag, cg, rfl, hown6, hb6'⟩
          have hb6 : Below wr.heap.size wr w6 := (Below.refl wr.heap.size wr).drew.trans hb6'
          have hC6 := hC4.setK (l := X1) (Nat.le_refl i) hb6 (by rw [HX1.out]; exact hown6)
          obtain ⟨vs2, hvs2⟩ : ∃ V, V = updX vs (0, i) (.slice ag n cg) := ⟨_, rfl⟩
          have e0 : vs2 (1, 0) = vs (1, 0) := by rw [hvs2]; exact updX_ne (ix1 (by omega))
          have e2 : vs2 (0, i) = .slice ag n cg := by rw [hvs2]; exact updX_eq
          have eV2 : ∀ r t, vs2 (r + 2, t) = .slice none 0 0 := fun r t => by rw [hvs2, updX_ne (ix1 (by omega))]; exact hHV r t
          rw [← hvs2] at hC6
          have c6 : ∀ b o' q, wr.cell? ⟨b, o', none⟩ = some q → w6.cell? ⟨b, o', none⟩ = some q := fun b o' q h => (hb6.cell (p := ⟨b, o', none⟩) (cell_lt h)).trans h
          have hS6 : (w6.cell? ⟨X, 0, none⟩ = some (.int .i64 (n : Int)) ∧ w6.cell? ⟨X, 1, none⟩ = some (.slice ae es.length ce) ∧ w6.cell? ⟨X + 1, 0, none⟩ = some (.int .i64 (P : Int)) ∧ w6.cell? ⟨X + 1, 1, none⟩ = some (.slice ao n co) ∧ w6.cell? ⟨X + 1, 2, none⟩ = some (.slice ah hv.length ch)) ∧ w6.cell? ⟨Y, 5, none⟩ = some (vs (1, 0)) := ⟨⟨c6 _ _ _ x0, c6 _ _ _ x1, c6 _ _ _ p0, c6 _ _ _ p1, c6 _ _ _ p2⟩, c6 _ _ _ y5⟩
          dsimp only
          refine hK.out _ _ hS6 ?_
          try simp only [Act.put, List.setIfInBounds_toArray, List.set_cons_zero, List.set_cons_succ]
          refine wpAnyK_one (i := 7) (by kernel_rfl) rfl (by rfl) (b := false) (by kernel_rfl) (fun K hK => ?_)
          go_simp
          refine hK.out _ _ ⟨⟨cell_alloc hS6.1.1, cell_alloc hS6.1.2.1, cell_alloc hS6.1.2.2.1, cell_alloc hS6.1.2.2.2.1, cell_alloc hS6.1.2.2.2.2⟩, cell_alloc hS6.2⟩ ?_
          try simp only [Act.put, List.setIfInBounds_toArray, List.set_cons_zero, List.set_cons_succ]
          have hb8 : Below w6.heap.size w6 (w6.alloc (.cells #[.slice ag n cg] 22)) := (Below.refl _ _).alloc (Nat.le_refl _) _
          have hC8 := hC6.below hb8
          have hown8 := hC8.rows.o0
          rw [e0] at hown8
          have hlit := rows_lit1 (E := encP Unit) w6 (slOf (.slice ag n cg), ()) 22 #[.slice ag n cg] rfl
          refine wpAnyK_one (i := 8) (by kernel_rfl) rfl (by rfl) (b := false) (by kernel_rfl) (fun K hK => ?_)
          refine wp_app_rows_at (rrT Unit) (.tmp 54) (.tmp 60) (by kernel_rfl) w0.heap.size (vs (1, 0)) (.slice (some ⟨w6.heap.size, 0, none⟩) 1 1) (ptrs (fun j => vs2 (0, j)) i) [(slOf (.slice ag n cg), ())] (by kernel_rfl) (by exact hown8) (by kernel_rfl) (by exact hlit) (by rw [ptrs_len, List.length_singleton]; omega) (by rw [ptrs_len, List.length_singleton]; omega) (by exact hC8.fr.size) ?_
          intro v9 w9 hown9 hg9 hat9
          have hC9 := (hC8.putK hYl (by rw [e2]; exact hown9) (by rw [e0]; exact hg9) (by rw [e0]; exact hat9)).congr (K' := (fun j => if j < i + 1 then (staP es n P ow).kn j else [])) (fun j => by
            by_cases e : j = i
            · rw [if_pos e, if_pos (by omega), e]; exact HKN.out.symm
            · rw [if_neg e]
              by_cases e3 : j < i
              · rw [if_pos e3, if_pos (by omega)]
              · rw [if_neg e3, if_neg (by omega)]) (fun _ _ => rfl) (fun _ => rfl)
          have gc : ∀ b o' q, b < w0.heap.size → w6.cell? ⟨b, o', none⟩ = some q → w9.cell? ⟨b, o', none⟩ = some q := fun b o' q h1 h2 => hg9.cell (cell_alloc h2) (fun e => by have h3 := (hC4.rows.lt e.symm).1; exact Nat.lt_irrefl _ (Nat.lt_of_lt_of_le h1 h3))
          have hXl : X < w0.heap.size := by omega
          have hQl : X + 1 < w0.heap.size := by omega
          have hS9 : (w9.cell? ⟨X, 0, none⟩ = some (.int .i64 (n : Int)) ∧ w9.cell? ⟨X, 1, none⟩ = some (.slice ae es.length ce) ∧ w9.cell? ⟨X + 1, 0, none⟩ = some (.int .i64 (P : Int)) ∧ w9.cell? ⟨X + 1, 1, none⟩ = some (.slice ao n co) ∧ w9.cell? ⟨X + 1, 2, none⟩ = some (.slice ah hv.length ch)) ∧ w9.cell? ⟨Y, 5, none⟩ = some (vs (1, 0)) := ⟨⟨gc _ _ _ hXl hS6.1.1, gc _ _ _ hXl hS6.1.2.1, gc _ _ _ hQl hS6.1.2.2.1, gc _ _ _ hQl hS6.1.2.2.2.1, gc _ _ _ hQl hS6.1.2.2.2.2⟩, gc _ _ _ hYl hS6.2⟩
          have f9 : w9.frozen? ⟨Y, 5, none⟩ = false := free_blk (j := 5) (grown_blk hg9 hC8.out (fun e => by have h3 := (hC4.rows.lt e.symm).1; exact Nat.lt_irrefl _ (Nat.lt_of_lt_of_le hYl h3)))
          obtain ⟨a9, c9, hv9⟩ := owns_shape hown9
          rw [List.length_append, ptrs_len, List.length_singleton] at hv9
          subst hv9
          refine hK.out _ _ hS9 ?_
          try simp only [Act.put, List.setIfInBounds_toArray, List.set_cons_zero, List.set_cons_succ]
          refine tkA 9 (.pointer (some ⟨Y, 5, none⟩)) true rfl (fun _ h => ⟨h.1, trivial⟩) false hS9 ?_
          try simp only [Act.put, List.setIfInBounds_toArray, List.set_cons_zero, List.set_cons_succ]
          refine wpAnyK_one (i := 10) (by kernel_rfl) rfl (by rfl) (b := true) (by kernel_rfl) (fun K hK => ?_)
          go_simp
          have nn : ∀ z b o' q, b ≠ Y → w9.cell? ⟨b, o', none⟩ = some q → (w9.setCell ⟨Y, 5, none⟩ z).cell? ⟨b, o', none⟩ = some q := fun z b o' q h1 h2 => (World.cell?_setCell_far _ _ _ _ (by first | exact fun e => h1 e | exact fun e => h1 e.symm)).trans h2
          have hX7 : X ≠ Y := by omega
          have hQ7 : X + 1 ≠ Y := by omega
          refine hK.out _ _ ⟨⟨nn _ _ _ _ hX7 hS9.1.1, nn _ _ _ _ hX7 hS9.1.2.1, nn _ _ _ _ hQ7 hS9.1.2.2.1, nn _ _ _ _ hQ7 hS9.1.2.2.2.1, nn _ _ _ _ hQ7 hS9.1.2.2.2.2⟩, trivial⟩ (wpAnyK_done (by kernel_rfl) ?_ _)
          obtain ⟨vs3, hvs3⟩ : ∃ V, V = updX vs2 (1, 0) (.slice a9 (i + 1) c9) := ⟨_, rfl⟩
          have eV3 : Hid (∀ r t, vs3 (r + 2, t) = .slice none 0 0) := (show ∀ r t, _ from fun r t => by rw [hvs3, updX_ne (ix1 (by omega))]; exact eV2 r t)
          rw [← hvs3] at hC9
          have hQ9 := nn (.slice a9 (i + 1) c9) _ _ _ hQ7 hS9.1.2.2.1
          obtain ⟨wB, hwB⟩ : ∃ V : World, V = w9.setCell ⟨Y, 5, none⟩ (.slice a9 (i + 1) c9) := ⟨_, rfl⟩
          rw [← hwB] at hC9 hQ9 ⊢
          clear hvs3 hvs2 hwB hC8 hC6 hC4 hown6 hown8 hlit hg9 hat9 f9 hS9 hS6 hS0 gc nn c6 hb8 hb6 hb6' hset e0 e2 eV2 hown9 x0 x1 p0 p1 p2 y5 hown hHV HV hXs hQs hbs hb hC hXr hQr hbr0
          go_upto_region 16 with fail
          have y6 : wB.cell? ⟨Y, 6, none⟩ = some (vs3 (1, 1)) := cell_blk hC9.out
          refine wp_region_heldK (k := 8) (S := fun b W => W.cell? ⟨X + 1, 0, none⟩ = some (.int .i64 (P : Int)) ∧ (match b with | false => W.cell? ⟨Y, 6, none⟩ = some (vs3 (1, 1)) | true => True)) (by kernel_rfl) ?_
          have hS0 : wB.drew.cell? ⟨X + 1, 0, none⟩ = some (.int .i64 (P : Int)) ∧ wB.drew.cell? ⟨Y, 6, none⟩ = some (vs3 (1, 1)) := ⟨hQ9, y6⟩
          refine tkA 0 (.pointer (some ⟨Y, 6, none⟩)) true rfl (fun _ h => ⟨h.1, trivial⟩) false hS0 ?_
          refine tkA 1 (vs3 (1, 1)) false rfl (fun _ h => ⟨h.1, trivial⟩) false hS0 ?_
          refine tkA 2 (.pointer (some ⟨X + 1, 0, none⟩)) true rfl (fun _ h => ⟨h.1, trivial⟩) false hS0 ?_
          refine tkA 3 (.int .i64 (P : Int)) true rfl (fun _ h => ⟨h.1, trivial⟩) false hS0 ?_
          try simp only [Act.put, List.setIfInBounds_toArray, List.set_cons_zero, List.set_cons_succ]
          refine wpAnyK_one (i := 4) (by kernel_rfl) rfl (by rfl) (b := false) (by kernel_rfl) (fun K hK => ?_)
          go_simp
          obtain ⟨wC, hwC⟩ : ∃ V : World, V = wB.alloc (.cells ((List.range P).map fun _ => Value.slice none 0 0).toArray 87) := ⟨_, rfl⟩
          have hownC := owns_made (w := wB) (P := P) (T := 87) (f := fun t => vs3 (i + 2, t)) (by omega) (fun t => eV3.out i t)
          rw [← hwC] at hownC
          have hbC : Below wB.heap.size wB wC := by rw [hwC]; exact (Below.refl wB.heap.size wB).alloc (Nat.le_refl _) _
          have hQC := (hbC.cell (p := ⟨X + 1, 0, none⟩) (cell_lt hQ9)).trans hQ9
          have hYC := (hbC.cell (p := ⟨Y, 6, none⟩) (cell_lt y6)).trans y6
          have hCC := hC9.made (r := i) (m := P) (Nat.le_refl i) hbC hownC
          obtain ⟨rB, hrB⟩ : ∃ q, wB.heap.size = q := ⟨_, rfl⟩
          rw [hrB] at hCC
          obtain ⟨vs4, hvs4⟩ : ∃ V, V = updX vs3 (1, i + 2) (.slice (some ⟨rB, 0, none⟩) P P) := ⟨_, rfl⟩
          have e1 : vs4 (1, 1) = vs3 (1, 1) := by rw [hvs4]; exact updX_ne (ix2 (by omega))
          have e4 : vs4 (1, i + 2) = .slice (some ⟨rB, 0, none⟩) P P := by rw [hvs4]; exact updX_eq
          have eV4 : ∀ r t, vs4 (r + 2, t) = .slice none 0 0 := fun r t => by rw [hvs4, updX_ne (ix1 (by omega))]; exact eV3.out r t
          rw [← hvs4] at hCC
          rw [← hwC]
          try rw [hrB]
          clear hwC
          refine hK.out _ _ ⟨hQC, hYC⟩ ?_
          try simp only [Act.put, List.setIfInBounds_toArray, List.set_cons_zero, List.set_cons_succ]
          refine wpAnyK_one (i := 5) (by kernel_rfl) rfl (by rfl) (b := false) (by kernel_rfl) (fun K hK => ?_)
          go_simp
          refine hK.out _ _ ⟨cell_alloc hQC, cell_alloc hYC⟩ ?_
          try simp only [Act.put, List.setIfInBounds_toArray, List.set_cons_zero, List.set_cons_succ]
          have hb8 : Below wC.heap.size wC (wC.alloc (.cells #[.slice (some ⟨rB, 0, none⟩) P P] 75)).drew := ((Below.refl _ _).alloc (Nat.le_refl _) _).drew
          have hC8 := hCC.below hb8
          have hown8 := hC8.rows.o1
          rw [e1] at hown8
          have hlit := (rows_lit1 (E := encP Unit) wC (slOf (.slice (some ⟨rB, 0, none⟩) P P), ()) 75 #[.slice (some ⟨rB, 0, none⟩) P P] rfl).below (Below.refl _ _).drew
          refine wpAnyK_one (i := 6) (by kernel_rfl) rfl (by rfl) (b := false) (by kernel_rfl) (fun K hK => ?_)
          refine wp_app_rows_at (rrmT Unit) (.tmp 64) (.tmp 68) (by kernel_rfl) w0.heap.size (vs3 (1, 1)) (.slice (some ⟨wC.heap.size, 0, none⟩) 1 1) (ptrs (fun r => vs4 (1, r + 2)) i) [(slOf (.slice (some ⟨rB, 0, none⟩) P P), ())] (by kernel_rfl) (by exact hown8) (by kernel_rfl) (by exact hlit) (by rw [ptrs_len, List.length_singleton]; omega) (by rw [ptrs_len, List.length_singleton]; omega) (by exact hC8.fr.size) ?_
          intro v9 w9' hown9 hg9 hat9
          have hCE := (hC8.putR hYl (by rw [e4]; exact hown9) (by rw [e1]; exact hg9) (by rw [e1]; exact hat9)).congr (N' := (fun r => if r < i + 1 then P else 0)) (fun _ => rfl) (fun _ _ => rfl) (fun r => by
            by_cases e : r = i
            · rw [if_pos e, if_pos (by omega)]
            · rw [if_neg e]
              by_cases e3 : r < i
              · rw [if_pos e3, if_pos (by omega)]
              · rw [if_neg e3, if_neg (by omega)])
          have hQE : w9'.cell? ⟨X + 1, 0, none⟩ = some (.int .i64 (P : Int)) := hg9.cell (cell_alloc hQC) (fun e => by have h3 := (hC9.rows.lt e.symm).1; exact Nat.lt_irrefl _ (Nat.lt_of_lt_of_le hQl h3))
          have hYE : w9'.cell? ⟨Y, 6, none⟩ = some (vs3 (1, 1)) := hg9.cell (cell_alloc hYC) (fun e => by have h3 := (hC9.rows.lt e.symm).1; exact Nat.lt_irrefl _ (Nat.lt_of_lt_of_le hYl h3))
          have f9 : w9'.frozen? ⟨Y, 6, none⟩ = false := free_blk (j := 6) (grown_blk hg9 hC8.out (fun e => by have h3 := (hC9.rows.lt e.symm).1; exact Nat.lt_irrefl _ (Nat.lt_of_lt_of_le hYl h3)))
          obtain ⟨a9', c9', hv9⟩ := owns_shape hown9
          rw [List.length_append, ptrs_len, List.length_singleton] at hv9
          subst hv9
          have HVE : Hid (∀ r t, updX vs4 (1, 1) (.slice a9' (i + 1) c9') (r + 2, t) = .slice none 0 0) := (show ∀ r t, _ from fun r t => by rw [updX_ne (ix1 (by omega))]; exact eV4 r t)
          refine hK.out _ _ ⟨hQE, hYE⟩ ?_
          try simp only [Act.put, List.setIfInBounds_toArray, List.set_cons_zero, List.set_cons_succ]
          refine tkA 7 (.pointer (some ⟨Y, 6, none⟩)) true rfl (fun _ h => ⟨h.1, trivial⟩) false (show w9'.cell? ⟨X + 1, 0, none⟩ = some (.int .i64 (P : Int)) ∧ w9'.cell? ⟨Y, 6, none⟩ = some (vs3 (1, 1)) from ⟨hQE, hYE⟩) ?_
          try simp only [Act.put, List.setIfInBounds_toArray, List.set_cons_zero, List.set_cons_succ]
          refine wpAnyK_one (i := 8) (by kernel_rfl) rfl (by rfl) (b := true) (by kernel_rfl) (fun K hK => ?_)
          go_simp
          refine hK.out _ _ ⟨(World.cell?_setCell_far _ _ _ _ (by first | exact fun e => hQ7 e | exact fun e => hQ7 e.symm)).trans hQE, trivial⟩ (wpAnyK_done (by kernel_rfl) ?_ _)
          clear hvs4 hC8 hCC hC9 hown8 hlit hg9 hat9 f9 hQE hYE hQC hYC hQ9 y6 hb8 hbC hownC e1 e4 eV4 eV3 hown9 hS0 hrB
          go_wp2_with fail
          go_roundw
          case rel => exact ⟨i + 1, _, by omega, by go_num, hCE, HVE⟩
          case measure => simp [intOf]; omega
    · obtain rfl : P = i := by omega
      obtain ⟨KB, BB, cK, cB, R, cR, eK, eB, hOW⟩ := RowsS.world hC.rows hP8.1 (fun r hr => if_pos hr)
      have hYr := hC.out
      rw [eK, eB] at hYr
      have hF0 := hC.fr
      go_wp2_with fail
      obtain ⟨w5, hw5⟩ : ∃ V : World, V = wr := ⟨_, rfl⟩
      rw [← hw5] at hXr hQr hbr0 hOW hYr hF0 ⊢
      obtain ⟨lo, hlo⟩ : ∃ l, w0.heap.size = l := ⟨_, rfl⟩
      rw [hlo] at hOW hYl
      have hlo5 : lo ≤ w5.heap.size := by rw [← hlo]; exact hF0.size
      have hXlo : w.heap.size + 2 < lo := by rw [HX.out]; omega
      have HLO := Lib.hid hlo
      clear hw5 x0 x1 p0 p1 p2 hC eK eB hlo
      obtain ⟨DO, hDO⟩ : ∃ q, OwnD P KB R vs = q := ⟨_, rfl⟩
      have hDl : ∀ b, DO b → lo ≤ b ∧ b < w5.heap.size := fun b h => by
        rw [← hDO] at h
        obtain ⟨x, hx, h | h⟩ := h
        · subst h; exact ⟨hOW.grid.low x hx, hOW.grid.lt x hx⟩
        · exact (hOW.grid.own x hx).lt b h
      have hBBd : ¬ DO BB := fun h => by
        rw [← hDO] at h
        obtain ⟨x, hx, h | h⟩ := h
        · exact hOW.offA x hx h
        · exact hOW.offV x hx h
      have hDad : ∀ x, CpI P P 0 x → DO (CpA KB R x).1 := fun x hx => by rw [← hDO]; exact ⟨x, hx, .inl rfl⟩
      have hDvs : ∀ x, CpI P P 0 x → ∀ b, (vs x).ownBlock = some b → DO b := fun x hx b e => by rw [← hDO]; exact ⟨x, hx, .inr e⟩
      have hG0 := GW.congrKB (K' := (staP es n P ow).kn) (B' := fun r t => if r < 0 then (staP es n P ow).bx r t else []) hOW.grid (fun t ht => if_pos (by rcases ht with h | h <;> simp at h; exact h)) (fun r t _ => by rw [if_neg (by omega)])
      have hknl : ∀ j, ((staP es n P ow).kn j).length = n := fun j => by
        show (setX es n ow j (beg es n ow j)).length = n
        rw [(setX_dn _).1]; exact fnL_length _ _
      go_loopw [11] (fun vi wr => ∃ (a : Nat) (vs1 : Ix → Value), a ≤ P ∧ vi = .int .i64 (a : Int) ∧ GW wr lo (CpI P P 0) (CpA KB R) vs1 (staP es n P ow).kn (fun _ => []) (fun r t => if r < a then (staP es n P ow).bx r t else []) ∧ Fr DO w5 wr ∧ Hid (∀ x, CpI P P 0 x → ∀ b, (vs1 x).ownBlock = some b → DO b ∨ w5.heap.size ≤ b)) (fun vi _ => P - (intOf vi).toNat)
      case atStart => exact ⟨0, vs, Nat.zero_le _, rfl, hG0, Fr.refl _ _, (show ∀ x, _ from fun x hx b e => .inl (hDvs x hx b e))⟩
      case round =>
        clear hG0
        obtain ⟨a, vs1, ha, rfl, hG, hF, HV1⟩ := hrel
        have hXs := hF.blk hXr (fun h => by have := hDl _ h; omega)
        have hQs := hF.blk hQr (fun h => by have := hDl _ h; omega)
        have hYs := hF.blk hYr (fun h => by have := hDl _ h; omega)
        have hbs := hbr0.trans (hF.below (fun b h => by have := hDl _ h; omega) hbr0.size)
        by_cases hla : a < P
        · have hla3 : (a : Int) < P := by omega
          obtain ⟨x0, x1⟩ := cells2R hXs
          obtain ⟨p0, p1, p2⟩ := cells3 hQs
          go_wp2_with fail
          obtain ⟨w6, hw6⟩ : ∃ V : World, V = wr := ⟨_, rfl⟩
          rw [← hw6] at hG hF hXs hQs hYs hbs ⊢
          clear hw6 x0 x1 p0 p1 p2
          have hG1 := GW.boxes hG (B' := fun r t => if r < a then (staP es n P ow).bx r t else if r = a then telK es n P ow a ((staP es n P ow).kn a) (fun _ => true) 0 t else []) (fun r t _ => by
            by_cases e : r < a
            · rw [if_pos e, if_pos e]
            · rw [if_neg e, if_neg e]; simp [telK])
          go_loopw [12] (fun vi wr => ∃ (k : Nat) (vs1 : Ix → Value), k ≤ n ∧ vi = .int .i64 (k : Int) ∧ GW wr lo (CpI P P 0) (CpA KB R) vs1 (staP es n P ow).kn (fun _ => []) (fun r t => if r < a then (staP es n P ow).bx r t else if r = a then telK es n P ow a ((staP es n P ow).kn a) (fun _ => true) k t else []) ∧ Fr DO w5 wr ∧ Hid (∀ x, CpI P P 0 x → ∀ b, (vs1 x).ownBlock = some b → DO b ∨ w5.heap.size ≤ b)) (fun vi _ => n - (intOf vi).toNat)
          case atStart => exact ⟨0, vs1, Nat.zero_le _, rfl, hG1, hF, HV1⟩
          case round =>
            clear hG1 hG hF HV1 hXs hQs hYs hbs
            clear vs1
            obtain ⟨k, vs1, hk, rfl, hG, hF, HV1⟩ := hrel
            have hXs := hF.blk hXr (fun h => by have := hDl _ h; omega)
            have hQs := hF.blk hQr (fun h => by have := hDl _ h; omega)
            have hYs := hF.blk hYr (fun h => by have := hDl _ h; omega)
            have hbs := hbr0.trans (hF.below (fun b h => by have := hDl _ h; omega) hbr0.size)
            obtain ⟨x0, x1⟩ := cells2R hXs
            obtain ⟨p0, p1, p2⟩ := cells3 hQs
            by_cases hlk : k < n
            · have hlk3 : (k : Int) < n := by omega
              obtain ⟨bO, oO, rfl, cO⟩ := (hO.below hbs).atn (owI_length n ow) k hlk
              rw [getD_of (owI_get n ow k hlk)] at cO
              by_cases ho : ow k = a
              · have d1 : ((ow k : Int) == (a : Int)) = true := by simp; omega
                have d1' : decide ((ow k : Int) = (a : Int)) = true := by simp; omega
                obtain ⟨y0, y1, y2, y3, y4, y5, y6⟩ := cells7 hYs
                have hI0 : CpI P P 0 (0, a) := .inl ⟨rfl, hla⟩
                obtain ⟨gA, cA, eA, -, hcA, -, -, hAc⟩ := ownsI_at (show wr.ownsRow lo 3 1 (vs1 (0, a)) n (intsV ((staP es n P ow).kn a)) by have h := GW.kn hG hI0; rw [hknl a] at h; exact h) (by omega)
                have hTD : ∀ b, tellD (R a) P a vs1 b → DO b ∨ w5.heap.size ≤ b := fun b h => by
                  rcases h with h | ⟨t, ht, h⟩
                  · subst h; exact .inl (hDad (a + 2, a) (cpI_box hla hla))
                  · exact HV1.out _ (cpI_box hla ht) b h
                have hTl : ∀ b, tellD (R a) P a vs1 b → lo ≤ b := fun b h => by
                  rcases hTD b h with h2 | h2
                  · exact (hDl b h2).1
                  · omega
                have hBBl : BB < w5.heap.size := cell_lt (hOW.out a hla).1
                have hBd6 : ¬ tellD (R a) P a vs1 BB := fun h => by
                  rcases hTD BB h with h2 | h2
                  · exact hBBd h2
                  · omega
                have hKd : ¬ tellD (R a) P a vs1 KB := fun h => by
                  rcases h with h | ⟨t, ht, h⟩
                  · have h1 := hG.dist (0, a) (a + 2, a) hI0 (cpI_box hla hla) (ix1 (by omega))
                    exact h1 (show CpA KB R (0, a) = CpA KB R (a + 2, a) from Prod.ext h rfl)
                  · exact hG.off (a + 2, t) (0, a) (cpI_box hla ht) hI0 h
                have hgo : (vs1 (0, a)).ownBlock = some gA := by rw [eA]; rfl
                have hxd : ¬ tellD (R a) P a vs1 gA := fun h => by
                  rcases h with h | ⟨t, ht, h⟩
                  · exact hG.off (0, a) (a + 2, a) hI0 (cpI_box hla hla) (by rw [hgo, h]; rfl)
                  · exact hG.apart (0, a) (a + 2, t) hI0 (cpI_box hla ht) (ix1 (by omega)) gA hgo h
                have hst : ∀ {p : World → Prop}, p w → (∀ U, Below w.heap.size w U → p w → p U) → Stb (tellD (R a) P a vs1) wr p := fun hp hpb U gU => hpb U (hbs.trans (gU.below (fun b h => by have := hTl b h; omega) hbs.size)) hp
                have hKc := hG.cell (0, a) hI0
                rw [eA] at hKc
                have hxk := hAc k _ (get_of_getD (show k < ((staP es n P ow).kn a).length by rw [hknl a]; exact hlk))
                have hRl : R a < wr.heap.size := hG.lt (a + 2, a) (cpI_box hla hla)
                have htel := tell38_any n P a k (R a) (cR a) KB BB cK cB gA cA es ow ae (some ⟨bO, oO, none⟩) ah ce co ch hv.length lo ((staP es n P ow).kn a) (CpI P P 0) (CpA KB R) vs1 (staP es n P ow).kn (fun _ => []) (fun r t => if r < a then (staP es n P ow).bx r t else if r = a then telK es n P ow a ((staP es n P ow).kn a) (fun _ => true) k t else []) wr hg (by omega) hlk hla ho (Nat.le_trans hlo5 hF.size) hG (fun t ht => cpI_box hla ht) (fun t _ => rfl) (hOW.out a hla).2 hRl (hst hE (fun U h1 h2 => h2.below h1)) (hst hO (fun U h1 h2 => h2.below h1)) (hF.cell (hOW.out a hla).1 hBBd) hBd6 hOW.cB hKc hKd hOW.cK hcA hxk hxd (fun t ht => by
                  rw [if_neg (by omega), if_pos rfl]
                  have h2 := telK_len es n P ow a ((staP es n P ow).kn a) (fun _ => true) k t
                  omega)
                clear hst hxd hKd hBd6 hKc hxk hAc
                go_wp2_with fail
                refine htel.mono ?_
                rintro e w7 ⟨rfl, vs2, hG7, hF7, hv7, hs7⟩
                have hG8 := GW.boxes hG7 (B' := fun r t => if r < a then (staP es n P ow).bx r t else if r = a then telK es n P ow a ((staP es n P ow).kn a) (fun _ => true) (k + 1) t else []) (fun r t _ => by
                  by_cases e : r = a
                  · subst e
                    rw [telK_step, ho]
                    simp [Nat.lt_irrefl]
                  · rw [if_neg e, if_neg e, if_neg e])
                have hF8 := hF.trans hF7 hTD
                have hz8 := hF.size
                have HV8 : Hid (∀ x, CpI P P 0 x → ∀ b, (vs2 x).ownBlock = some b → DO b ∨ w5.heap.size ≤ b) := (show ∀ x, _ from fun x hx b e => by
                  by_cases hxa : ∃ t, t < P ∧ x = (a + 2, t)
                  · obtain ⟨t, ht, rfl⟩ := hxa
                    rcases hv7 t ht b e with h | h
                    · exact hTD b h
                    · right; omega
                  · rw [hs7 x (fun t ht e2 => hxa ⟨t, ht, e2⟩)] at e
                    exact HV1.out x hx b e)
                clear hG7 hF7 hv7 hs7 hG hF HV1 htel
                go_wp2_with fail
                go_roundw
                case rel => exact ⟨k + 1, vs2, by omega, by go_num, hG8, hF8, HV8⟩
                case measure => simp [intOf]; omega
              · have d1 : ((ow k : Int) == (a : Int)) = false := by simp; omega
                have d1' : decide ((ow k : Int) = (a : Int)) = false := by simp; omega
                have hG2 := GW.boxes hG (B' := fun r t => if r < a then (staP es n P ow).bx r t else if r = a then telK es n P ow a ((staP es n P ow).kn a) (fun _ => true) (k + 1) t else []) (fun r t _ => by
                  by_cases e : r < a
                  · rw [if_pos e, if_pos e]
                  · rw [if_neg e, if_neg e, telK_no _ _ _ _ _ _ _ _ _ (fun h => ho h.1)])
                go_wp2_with fail
                go_roundw
                case rel => exact ⟨k + 1, vs1, by omega, by go_num, hG2, hF, HV1⟩
                case measure => simp [intOf]; omega
            · obtain rfl : n = k := by omega
              have hG2 := GW.boxes hG (B' := fun r t => if r < a + 1 then (staP es n P ow).bx r t else []) (fun r t _ => by
                by_cases e : r < a
                · rw [if_pos e, if_pos (by omega)]
                · rw [if_neg e]
                  by_cases e2 : r = a
                  · subst e2; rw [if_pos rfl, if_pos (by omega), telK_all]; rfl
                  · rw [if_neg e2, if_neg (by omega)])
              go_wp2_with fail
              go_roundw
              case rel => exact ⟨a + 1, vs1, by omega, by go_num, hG2, hF, HV1⟩
              case measure => simp [intOf]; omega
        · obtain rfl : P = a := by omega
          have hG9 := GW.boxes hG (B' := (staP es n P ow).bx) (fun r t hrt => if_pos (by rcases hrt with h | h <;> simp at h; omega))
          have hZs := hF.blk (hF0.blk hZ3 (by omega)) (fun h => by have := hDl _ h; omega)
          obtain ⟨wF, hwF⟩ : ∃ V : World, V = (((((((wr.setCell ⟨X + 2, 0, none⟩ (.int .i64 (n : Int))).setCell ⟨X + 2, 1, none⟩ (.slice ae es.length ce)).setCell ⟨X + 2, 2, none⟩ (.int .i64 (P : Int))).setCell ⟨X + 2, 3, none⟩ (.slice ao n co)).setCell ⟨X + 2, 4, none⟩ (.slice ah hv.length ch)).setCell ⟨X + 2, 5, none⟩ (.slice (some ⟨KB, 0, none⟩) P cK)).setCell ⟨X + 2, 6, none⟩ (.slice (some ⟨BB, 0, none⟩) P cB)) := ⟨_, rfl⟩
          have hfin := set7all (d0 := .int .i64 (n : Int)) (d1 := .slice ae es.length ce) (d2 := .int .i64 (P : Int)) (d3 := .slice ao n co) (d4 := .slice ah hv.length ch) (d5 := .slice (some ⟨KB, 0, none⟩) P cK) (d6 := .slice (some ⟨BB, 0, none⟩) P cB) hZs
          have hgF := set7_grown wr (X + 2) (.int .i64 (n : Int)) (.slice ae es.length ce) (.int .i64 (P : Int)) (.slice ao n co) (.slice ah hv.length ch) (.slice (some ⟨KB, 0, none⟩) P cK) (.slice (some ⟨BB, 0, none⟩) P cB)
          rw [← hwF] at hfin hgF
          have HWF := Lib.hid hwF
          have hbF : Below w.heap.size w wF := hbs.grown hgF hbs.size (fun k e => by cases e; rw [HX.out]; omega)
          have hZlo : ∀ b, lo ≤ b → (some (X + 2) : Option Nat) ≠ some b := fun b h e => by have e2 := Option.some.inj e; have := HX.out; omega
          have hGF : GW wF lo (CpI P P 0) (CpA KB R) vs1 (staP es n P ow).kn (fun _ => []) (staP es n P ow).bx := GridA.kept hG9 hgF (fun x hx => hZlo _ (hG9.low x hx)) (fun x hx b e => hZlo b ((hG9.own x hx).lt b e).1)
          have hOWF : OwnW wF lo P KB BB cK cB R cR vs1 (staP es n P ow).kn (staP es n P ow).bx := ⟨hGF, fun r hr => ⟨hgF.cell (hF.cell (hOW.out r hr).1 hBBd) (fun e => hZlo BB hOW.low e.symm), (hOW.out r hr).2⟩, hOW.cK, hOW.cB, hOW.low, hOW.offA, fun x hx e => by
            rcases HV1.out x hx BB e with h | h
            · exact hBBd h
            · have := cell_lt (hOW.out 0 (by omega)).1
              have h2 : BB < w5.heap.size := this
              omega⟩
          have hsw : ∀ {p : World → Prop}, Stb D w p → Stb D wF p := fun h => Stb.step h (Fr.of_below (D := D) hbF) (fun b h => .inl h) (fun b h => .inl h)
          have hres := OwnW.readS (D := D) (ae := ae) (ao := ao) (ah := ah) (ce := ce) (co := co) (ch := ch) (n := n) (es := es) (ow := ow) (hv := hv) hOWF (by omega) (fun j hj => by rw [hknl j]; omega) (fun r t hr ht => by
            have h2 := telK_len es n P ow r ((staP es n P ow).kn r) (fun _ => true) n t
            rw [telK_all] at h2
            show (telL es n P ow r ((staP es n P ow).kn r) (fun _ => true) t).length ≤ 1000000
            omega) (hsw hSE) (hsw hSO) (hsw hSH) (fun b h => by have := hD b h; omega)
          obtain ⟨t0, t1, t2, t3, t4, t5, t6⟩ := cells7 hfin
          obtain ⟨u0, u1, u2, u3, u4, u5, u6⟩ := cells7 hYs
          obtain ⟨v0, v1, v2, v3, v4, v5, v6⟩ := cells7 hZs
          obtain ⟨x0, x1⟩ := cells2R hXs
          obtain ⟨p0, p1, p2⟩ := cells3 hQs
          have fZ := fun q => free_blk (j := q) hZs
          have f0 := fZ 0
          have f1 := fZ 1
          have f2 := fZ 2
          have f3 := fZ 3
          have f4 := fZ 4
          have f5 := fZ 5
          have f6 := fZ 6
          clear hwF hgF hfin fZ hGF hOWF hG9 hG hsw
          go_wp2_with fail
          rw [← HWF.out]
          exact bodyPost_ret (v := .tuple #[.agg #[.int .i64 (n : Int), .slice ae es.length ce, .int .i64 (P : Int), .slice ao n co, .slice ah hv.length ch, .slice (some ⟨KB, 0, none⟩) P cK, .slice (some ⟨BB, 0, none⟩) P cB], .int .i64 0]) (by simp [results, Tryz.results10, go_sem, t0, t1, t2, t3, t4, t5, t6]) rfl ⟨_, rfl, hres, hbF, rfl⟩
theorem start38_any (n P : Nat) (es : List E2) (ow : Nat → Nat) (hv : List Int) (ae ao ah : Option Addr) (ce co ch : Nat) (D : Nat → Prop) (w : World) (hg : Valid n es) (hP8 : 1 ≤ P ∧ P ≤ 8) (how : ∀ v, v < n → ow v < P) (hhv : validZ none hv n = true)
    (hSE : Stb D w fun U => EdgesAt U (.slice ae es.length ce) es) (hSO : Stb D w fun U => IntsAt U (.slice ao n co) (owI n ow)) (hSH : Stb D w fun U => IntsAt U (.slice ah hv.length ch) hv) (hD : ∀ b, D b → b < w.heap.size) :
    Calls Tryz.prog 10 #[.agg #[.int .i64 (n : Int), .slice ae es.length ce], .agg #[.int .i64 (P : Int), .slice ao n co, .slice ah hv.length ch]] w fun e w' => ∃ v', e = .returned (.tuple #[v', .int .i64 0]) ∧ (Stb D w' fun U => WldAt U v' (wdL n P es ow hv (staP es n P ow))) ∧ Below w.heap.size w w' := by
  refine (start38O_any n P es ow hv ae ao ah ce co ch D w hg hP8 how hhv hSE hSO hSH hD).mono ?_
  rintro e w' ⟨v', h1, h2, h3, -⟩
  exact ⟨v', h1, h2, h3⟩
end Go.Proofs.YtdkmdcdoiaelfaaGreat

namespace Go.Proofs.YtdkmdcdoiaelfaaGreat
open Go.RowKit Go.BigFrame

/-- the channels with messages -/
theorem ready38_any (n P : Nat) (es : List E2) (ow : Nat → Nat) (hv : List Int) (W : WdP) (v : Value) (w : World) (hG : GoodW n P es ow hv W) (h : WldAt w v (wdL n P es ow hv W)) :
    Calls Tryz.prog 22 #[v] w (RdyPost w (rdyW P W)) := by
  have hP8 := hG.hP
  obtain ⟨ae, ao, ah, ak, ab, ce, co, ch, ck, cb, rfl, -, -, -, -, hB⟩ := h.shapeH
  obtain ⟨hX0, hb0⟩ := boxG_new w #[.int .i64 (n : Int), .slice ae es.length ce, .int .i64 (P : Int), .slice ao n co, .slice ah hv.length ch, .slice ak P ck, .slice ab P cb] 36
  obtain ⟨X, hX⟩ : ∃ X, w.heap.size = X := ⟨_, rfl⟩
  rw [hX] at hX0
  obtain ⟨wA, hwA⟩ : ∃ V : World, V = w.alloc (.cells #[.int .i64 (n : Int), .slice ae es.length ce, .int .i64 (P : Int), .slice ao n co, .slice ah hv.length ch, .slice ak P ck, .slice ab P cb] 36) := ⟨_, rfl⟩
  rw [← hwA] at hb0 hX0
  have HWA := Lib.hid hwA
  have HX := Lib.hid hX
  have hval := valid38_any (wdL n P es ow hv W) (.agg #[.int .i64 (n : Int), .slice ae es.length ce, .int .i64 (P : Int), .slice ao n co, .slice ah hv.length ch, .slice ak P ck, .slice ab P cb]) wA (h.below hb0) (fun r hr m hm => by
    obtain ⟨a, ha, rfl⟩ := List.mem_map.1 hr
    obtain ⟨t, ht, rfl⟩ := List.mem_map.1 hm
    exact hG.bl a t (List.mem_range.1 ha) (List.mem_range.1 ht))
  rw [hG.val] at hval
  have hr : ∀ r ∈ bxL P W, r.length ≤ 64 := fun r hr => by
    obtain ⟨a, ha, rfl⟩ := List.mem_map.1 hr
    rw [List.length_map, List.length_range]; omega
  have hXl : X < wA.heap.size := blk_lt hX0
  obtain ⟨q0, q1, q2, q3, q4, q5, q6⟩ := cells7 hX0
  clear hX hwA
  go_enter Tryz.func22, Tryz.ntmps22
  go_upto_region 2 with fail
  rw [← HWA.out, HX.out]
  go_wp2_with fail
  refine hval.mono ?_
  rintro e w2 ⟨rfl, hb2⟩
  have hbw2 := hb0.trans (hb2.mono hb0.size)
  have hX2 := lit_next' hb2 hX0
  have hB2 : BoxA w2 (.slice ab (bxL P W).length cb) (bxL P W) := by rw [bxL_len]; exact hB.below hbw2
  clear q0 q1 q2 q3 q4 q5 q6 hval hX0 hB
  go_wp2_with fail
  go_loopw [3, 4] (fun vs vi wr => ∃ (i m : Nat), i ≤ P ∧ vi = .int .i64 (i : Int) ∧ wr.ownsRow w2.heap.size 54 encC.k vs m (flatR encC (rdyR (bxL P W) i)) ∧ m = (rdyR (bxL P W) i).length ∧ Below w2.heap.size w2 wr) (fun _ vi _ => P - (intOf vi).toNat)
  case atStart => exact ⟨0, 0, Nat.zero_le _, rfl, World.ownsRow_nil _ _ _ _, rfl, Below.refl _ _⟩
  case round =>
    obtain ⟨i, m, hi, rfl, hown, rfl, hbr⟩ := hrel
    have hXr := lit_next' hbr hX2
    have x6 : wr.cell? ⟨X, 6, none⟩ = some (.slice ab P cb) := cell_blk hXr
    by_cases hlt : i < P
    · have hlt3 : (i : Int) < P := by omega
      obtain ⟨-, hcap, b, off, ⟨sa, sn, sc⟩, rfl, hc0, hR0⟩ := hB2.at i _ (bxL_row P W i hlt)
      obtain ⟨row, hrow⟩ : ∃ l, (List.range P).map (W.bx i) = l := ⟨_, rfl⟩
      have hrl : row.length = P := by rw [← hrow]; simp
      have hgd : (bxL P W).getD i [] = row := by rw [bxL_rowD P W i hlt]; exact hrow
      rw [hrow] at hR0
      have hsn : sn = P := (NestA.len hR0).1.trans hrl
      subst hsn
      change w2.cell? _ = some (Value.slice sa sn sc) at hc0
      change BoxR w2 (Value.slice sa sn sc) row at hR0
      have hml := rdyR_len (bxL sn W) hr i (by rw [bxL_len]; omega)
      have hml2 : i * 64 ≤ 4096 := by omega
      have HS : Hid (rdyR (bxL sn W) (i + 1) = rdyR (bxL sn W) i ++ rdrow i row row.length) := (show _ = _ by rw [rdyR, hgd])
      obtain ⟨L, hL⟩ : ∃ L, rdyR (bxL sn W) i = L := ⟨_, rfl⟩
      rw [hL] at hown HS hml
      have HRL := Lib.hid hrl
      clear hL hrow hgd hrl
      go_wp2_with fail
      clear x6 hXr
      go_loopw [3, 5] (fun vs vk wq => ∃ (k m : Nat), k ≤ sn ∧ vk = .int .i64 (k : Int) ∧ wq.ownsRow w2.heap.size 54 encC.k vs m (flatR encC (L ++ rdrow i row k)) ∧ m = (L ++ rdrow i row k).length ∧ Below w2.heap.size w2 wq) (fun _ vk _ => sn - (intOf vk).toNat)
      case atStart => exact ⟨0, _, Nat.zero_le _, rfl, by rw [rdrow, List.append_nil]; exact hown, by rw [rdrow, List.append_nil], hbr⟩
      case round =>
        clear hown hbr
        obtain ⟨k, m, hkk, rfl, hown, rfl, hbr⟩ := hrel
        have hXr := lit_next' hbr hX2
        have x6 := cell_blk (j := 6) hXr
        change wr.cell? ⟨X, 6, none⟩ = some (.slice _ sn cb) at x6
        have hc1 := (hbr.cell (p := ⟨b, off + i, none⟩) (cell_lt hc0)).trans hc0
        by_cases hlt5 : k < sn
        · have hlt6 : (k : Int) < sn := by omega
          have hlt7 : k < row.length := by rw [HRL.out]; exact hlt5
          obtain ⟨-, hcapr, b2, off2, ⟨sa2, sn2, sc2⟩, rfl, hc2, hi2⟩ := hR0.at k _ (List.getElem?_eq_getElem hlt7)
          have hsn2 : sn2 = row[k].length := RowAt.lenE hi2
          have hgd2 : row.getD k [] = row[k] := by rw [List.getD_eq_getElem?_getD, List.getElem?_eq_getElem hlt7]; rfl
          have hc3 := (hbr.cell (p := ⟨b2, off2 + k, none⟩) (cell_lt hc2)).trans hc2
          change wr.cell? _ = some (Value.slice sa2 sn2 sc2) at hc3
          have hst : rdrow i row (k + 1) = rdrow i row k ++ (if sn2 = 0 then [] else [((i : Int), (k : Int))]) := by rw [rdrow, hgd2, hsn2]
          have hkl := rdrow_len i row k
          clear hsn2 hgd2 hi2 hc2
          by_cases hs0 : sn2 = 0
          · subst hs0
            rw [if_pos rfl, List.append_nil] at hst
            rw [← hst] at hown
            have HO := Lib.hid hown
            go_wp2_with fail
            go_roundw
            case rel => exact ⟨k + 1, _, by omega, by go_num, hown, by rw [hst], hbr⟩
            case measure => simp [intOf]; omega
          · rw [if_neg hs0] at hst
            have hs1 : 0 < sn2 := by omega
            have hs2 : decide ((0 : Int) < (sn2 : Int)) = true := by simp; omega
            obtain ⟨M, hM⟩ : ∃ M, L ++ rdrow i row k = M := ⟨_, rfl⟩
            have hst2 : L ++ rdrow i row (k + 1) = M ++ [((i : Int), (k : Int))] := by rw [hst, ← List.append_assoc, hM]
            have hMl : M.length ≤ 10000 := by rw [← hM, List.length_append]; omega
            rw [hM] at hown
            have hlit : RowAt encC (wr.alloc (.cells #[.int .i64 (i : Int), .int .i64 (k : Int)] 54)) (.slice (some ⟨wr.heap.size, 0, none⟩) 1 1) [((i : Int), (k : Int))] := rows_lit1 wr ((i : Int), (k : Int)) 54 _ rfl
            have hba : Below wr.heap.size wr (wr.alloc (.cells #[.int .i64 (i : Int), .int .i64 (k : Int)] 54)) := (Below.refl _ _).alloc (Nat.le_refl _) _
            have hMl2 : M.length + [((i : Int), (k : Int))].length ≤ 10001 := by simp; omega
            have hMb : w2.heap.size ≤ (wr.alloc (.cells #[.int .i64 (i : Int), .int .i64 (k : Int)] 54)).heap.size := Nat.le_trans hbr.size hba.size
            have hown1 := hown.kept (grown_of_below hba) (Classical.em _)
            go_wp2_with (at_builtin; refine wpList_app_rows chRT rfl (.tmp 36) (.tmp 40) (by kernel_rfl) w2.heap.size _ (.slice (some ⟨wr.heap.size, 0, none⟩) 1 1) M [((i : Int), (k : Int))] (by kernel_rfl) hown1 (by kernel_rfl) hlit (by omega) (by omega) hMb ?_; intro v6 w6 hown6 hg6)
            go_roundw
            case rel => exact ⟨k + 1, _, by omega, by go_num, by rw [hst2]; exact hown6, by rw [hst2], below_app' (hbr.trans (hba.mono hbr.size)) hown1 hg6⟩
            case measure => simp [intOf]; omega
        · obtain rfl : sn = k := by omega
          go_wp2_with fail
          go_roundw
          case rel => exact ⟨i + 1, _, by omega, by go_num, by rw [HS.out, HRL.out]; exact hown, by rw [HS.out, HRL.out], hbr⟩
          case measure => simp [intOf]; omega
    · obtain rfl : P = i := by omega
      have hrd : rdyL (bxL P W) = rdyR (bxL P W) P := by unfold rdyL; rw [bxL_len]
      have hml := rdyR_len (bxL P W) hr P (by rw [bxL_len]; exact Nat.le_refl _)
      obtain ⟨a', c', rfl, h', -⟩ := RowAt.of_owns hown (by omega)
      have hbE := hbw2.trans (hbr.mono hbw2.size)
      go_wp2_with fail
      go_ret
      unfold rdyW
      rw [hrd]
      exact ⟨a', c', rfl, h', hbE⟩
theorem pick_neg {x : Int} {k : Nat} (hk : 0 < k) (h : x.tmod k < 0) : (pickN x k : Int) = x.tmod k + k := by
  have h1 : -(k : Int) < x.tmod k := by have := Int.lt_tmod_of_pos x (show (0 : Int) < (k : Int) by omega); omega
  unfold pickN
  rw [Int.tmod_eq_of_lt (by omega) (by omega)]
  omega
theorem pick_pos {x : Int} {k : Nat} (hk : 0 < k) (h : 0 ≤ x.tmod k) : (pickN x k : Int) = x.tmod k := by
  have h2 : x.tmod k < k := Int.tmod_lt_of_pos x (by omega)
  unfold pickN
  rw [Int.tmod_eq_emod_of_nonneg (by omega), Int.add_emod_right, Int.emod_eq_of_lt h h2]
  omega
theorem mod38_any (x : Int) (k : Nat) (w : World) (hk : 0 < k) (hkl : k ≤ 1000000) : Calls Tryz.prog 61 #[.int .i64 x, .int .i64 (k : Int)] w fun e w' => e = .returned (.int .i64 (pickN x k : Int)) ∧ w = w' := by
  have h1 : -(k : Int) < x.tmod k := by have := Int.lt_tmod_of_pos x (show (0 : Int) < (k : Int) by omega); omega
  have h2 : x.tmod k < k := Int.tmod_lt_of_pos x (by omega)
  have hk0 : (k : Int) ≠ 0 := by omega
  have hk1 : decide ((k : Int) = 0) = false := by simp; omega
  by_cases hs : x.tmod k < 0
  · have d : decide (x.tmod k < 0) = true := decide_eq_true hs
    have hp := pick_neg hk hs
    obtain ⟨t, ht⟩ : ∃ t, (pickN x k : Int) = t := ⟨_, rfl⟩
    rw [ht] at hp ⊢
    clear ht
    subst hp
    go_enter Tryz.func61, Tryz.ntmps61
    go_wp2
    go_ret
    exact ⟨rfl, rfl⟩
  · have d : decide (x.tmod k < 0) = false := decide_eq_false hs
    have hp := pick_pos hk (Int.not_lt.mp hs)
    obtain ⟨t, ht⟩ : ∃ t, (pickN x k : Int) = t := ⟨_, rfl⟩
    rw [ht] at hp ⊢
    clear ht
    subst hp
    go_enter Tryz.func61, Tryz.ntmps61
    go_wp2
    go_ret
    exact ⟨rfl, rfl⟩
/-- a step's world, in a block -/
def PlyB (n P : Nat) (es : List E2) (ow : Nat → Nat) (hv : List Int) (D1 : Nat → Prop) (Y : Nat) (W : WdP) (w : World) : Prop := ∃ (ae ao ah ak ab : Option Addr) (ce co ch ck cb : Nat), w.heap[Y]? = some (.cells #[.int .i64 (n : Int), .slice ae es.length ce, .int .i64 (P : Int), .slice ao n co, .slice ah hv.length ch, .slice ak P ck, .slice ab P cb] 36 (0, 0)) ∧ Stb D1 w fun U => WldAt U (.agg #[.int .i64 (n : Int), .slice ae es.length ce, .int .i64 (P : Int), .slice ao n co, .slice ah hv.length ch, .slice ak P ck, .slice ab P cb]) (wdL n P es ow hv W)
set_option linter.unusedSimpArgs false in
set_option maxRecDepth 100000 in
set_option maxHeartbeats 6400000 in
theorem play38O_any (n P : Nat) (es : List E2) (ow : Nat → Nat) (hv : List Int) (W : WdP) (v : Value) (aS : Option Addr) (cS : Nat) (sc : List Int) (D : Nat → Prop) (w : World) (hG : GoodW n P es ow hv W) (hS : Stb D w fun U => WldAt U v (wdL n P es ow hv W)) (hD : ∀ b, D b → b < w.heap.size) (hsc : IntsAt w (.slice aS sc.length cS) sc) (hpot : potN n P ow W ≤ 800000) :
    Calls Tryz.prog 27 #[v, .slice aS sc.length cS] w fun e w' => ∃ (v' : Value) (k : Nat), e = .returned (.tuple #[v', .int .i64 (k : Int), .int .i64 0]) ∧ (Stb D w' fun U => WldAt U v' (wdL n P es ow hv (plyK es n P ow W (fun i => sc.getD i 0) k))) ∧ k ≤ sc.length ∧ (∀ i, i < k → rdyW P (plyK es n P ow W (fun i => sc.getD i 0) i) ≠ []) ∧ (k < sc.length → rdyW P (plyK es n P ow W (fun i => sc.getD i 0) k) = []) ∧ Below w.heap.size w w' ∧ owOf v' = owOf v := by
  obtain ⟨SC, hSC⟩ : ∃ f : Nat → Int, (fun i => sc.getD i 0) = f := ⟨_, rfl⟩
  have hSCi : ∀ i, SC i = sc.getD i 0 := fun i => by rw [← hSC]
  rw [hSC]
  clear hSC
  have hscl : sc.length ≤ 70368744177664 := by obtain ⟨_, _, _, _, _, h, _⟩ := hsc; exact h
  have hP8 := hG.hP
  have hn64 : n ≤ 64 := by have := hG.hg.2.1; omega
  obtain ⟨ae, ao, ah, ak, ab, ce, co, ch, ck, cb, rfl, hE, hO, hH, hK, hB⟩ := hS.now.shapeH
  obtain ⟨hSE, hSO, hSH⟩ := stb_parts hS
  obtain ⟨hX0, hb0⟩ := boxG_new w #[.int .i64 (n : Int), .slice ae es.length ce, .int .i64 (P : Int), .slice ao n co, .slice ah hv.length ch, .slice ak P ck, .slice ab P cb] 36
  obtain ⟨w1, hw1⟩ : ∃ V : World, V = w.alloc (.cells #[.int .i64 (n : Int), .slice ae es.length ce, .int .i64 (P : Int), .slice ao n co, .slice ah hv.length ch, .slice ak P ck, .slice ab P cb] 36) := ⟨_, rfl⟩
  have hz1 : w1.heap.size = w.heap.size + 1 := by rw [hw1]; simp
  rw [← hw1] at hX0 hb0
  obtain ⟨hZ0, hb1⟩ := boxG_new w1 #[.int .i64 0, .slice none 0 0, .int .i64 0, .slice none 0 0, .slice none 0 0, .slice none 0 0, .slice none 0 0] 36
  obtain ⟨wA, hwA⟩ : ∃ V : World, V = w1.alloc (.cells #[.int .i64 0, .slice none 0 0, .int .i64 0, .slice none 0 0, .slice none 0 0, .slice none 0 0, .slice none 0 0] 36) := ⟨_, rfl⟩
  have hzA : wA.heap.size = w.heap.size + 2 := by rw [hwA]; simp [hz1]
  rw [← hwA] at hZ0 hb1
  have hX1 := lit_next' hb1 hX0
  have hbA := hb0.trans (hb1.mono hb0.size)
  obtain ⟨X, hX⟩ : ∃ X, w.heap.size = X := ⟨_, rfl⟩
  rw [hz1] at hZ0
  rw [hX] at hX1 hZ0 hzA
  have HX := Lib.hid hX
  have hwA2 : wA = (w.alloc (.cells #[.int .i64 (n : Int), .slice ae es.length ce, .int .i64 (P : Int), .slice ao n co, .slice ah hv.length ch, .slice ak P ck, .slice ab P cb] 36)).alloc (.cells #[.int .i64 0, .slice none 0 0, .int .i64 0, .slice none 0 0, .slice none 0 0, .slice none 0 0, .slice none 0 0] 36) := by rw [hwA, hw1]
  have HWA := Lib.hid hwA2
  have hval := valid38_any (wdL n P es ow hv W) (.agg #[.int .i64 (n : Int), .slice ae es.length ce, .int .i64 (P : Int), .slice ao n co, .slice ah hv.length ch, .slice ak P ck, .slice ab P cb]) wA (hS.now.below hbA) (fun r hr m hm => by
    obtain ⟨a, ha, rfl⟩ := List.mem_map.1 hr
    obtain ⟨t, ht, rfl⟩ := List.mem_map.1 hm
    exact hG.bl a t (List.mem_range.1 ha) (List.mem_range.1 ht))
  rw [hG.val] at hval
  clear hX0 hb0 hb1 hz1 hw1 hwA hwA2 w1 hX
  obtain ⟨x0, x1, x2, x3, x4, x5, x6⟩ := cells7 hX1
  go_enter Tryz.func27, Tryz.ntmps27
  go_upto_region 1 with fail
  rw [← HWA.out, HX.out]
  go_wp2_with fail
  refine hval.mono ?_
  rintro e w2 ⟨rfl, hb2⟩
  have hbw2 := hbA.trans (hb2.mono hbA.size)
  have hX2 := lit_next' hb2 hX1
  have hZ2 := lit_next' hb2 hZ0
  have hcp := copy38G_any n P es ow hv W ae ao ah ak ab ce co ch ck cb w2 hG (hK.below hbw2) (hB.below hbw2)
  have hz2 : X + 1 < w2.heap.size := by have := hb2.size; omega
  clear hval x0 x1 x2 x3 x4 x5 x6 hX1 hZ0
  obtain ⟨x0, x1, x2, x3, x4, x5, x6⟩ := cells7 hX2
  go_wp2_with fail
  refine hcp.mono ?_
  rintro e w3 ⟨KB, BB, cK, cB, R, cR, vs, rfl, hOW, hb3⟩
  have hbw3 := hbw2.trans (hb3.mono hbw2.size)
  have hsw : ∀ {p : World → Prop}, Stb D w p → Stb (fun b => D b ∨ b = X + 1) w3 p := fun h => Stb.step h (Fr.of_below (D := D) hbw3) (fun b h => .inl h) (fun b h => by
    rcases h with h | h
    · exact .inl h
    · right; have := HX.out; omega)
  have hS3 := OwnW.readS (D := fun b => D b ∨ b = X + 1) (ae := ae) (ao := ao) (ah := ah) (ce := ce) (co := co) (ch := ch) (n := n) (es := es) (ow := ow) (hv := hv) hOW (by omega) (fun j hj => by rw [hG.vld.len j hj]; omega) (fun r t hr ht => hG.bl r t hr ht) (hsw hSE) (hsw hSO) (hsw hSH) (fun b h => by
    have h2 := HX.out
    rcases h with h | h
    · have := hD b h; omega
    · omega)
  obtain ⟨hY0, hb4⟩ := boxG_new w3 #[.int .i64 (n : Int), .slice ae es.length ce, .int .i64 (P : Int), .slice ao n co, .slice ah hv.length ch, .slice (some ⟨KB, 0, none⟩) P cK, .slice (some ⟨BB, 0, none⟩) P cB] 36
  obtain ⟨w0, hw0⟩ : ∃ V : World, V = w3.alloc (.cells #[.int .i64 (n : Int), .slice ae es.length ce, .int .i64 (P : Int), .slice ao n co, .slice ah hv.length ch, .slice (some ⟨KB, 0, none⟩) P cK, .slice (some ⟨BB, 0, none⟩) P cB] 36) := ⟨_, rfl⟩
  have hz0 : w0.heap.size = w3.heap.size + 1 := by rw [hw0]; simp
  rw [← hw0] at hY0 hb4
  have HW0 := Lib.hid hw0
  obtain ⟨Y, hY⟩ : ∃ Y, w3.heap.size = Y := ⟨_, rfl⟩
  have hXY : X + 1 < Y := by have := hb3.size; omega
  rw [hY] at hY0 hz0
  have hX3 := lit_next' hb4 (lit_next' hb3 hX2)
  have hZ3 := lit_next' hb4 (lit_next' hb3 hZ2)
  have hbw0 := hbw3.trans (hb4.mono hbw3.size)
  obtain ⟨D1, hD1⟩ : ∃ q : Nat → Prop, (fun b => D b ∨ b = X + 1 ∨ b = Y) = q := ⟨_, rfl⟩
  have hS0 : Stb D1 w0 fun U => WldAt U (.agg #[.int .i64 (n : Int), .slice ae es.length ce, .int .i64 (P : Int), .slice ao n co, .slice ah hv.length ch, .slice (some ⟨KB, 0, none⟩) P cK, .slice (some ⟨BB, 0, none⟩) P cB]) (wdL n P es ow hv W) := Stb.step hS3 (Fr.of_below (D := fun _ => False) hb4) (fun _ h => h.elim) (fun b h => by
    rw [← hD1] at h
    rcases h with h | h | h
    · exact .inl (.inl h)
    · exact .inl (.inr h)
    · right; rw [hY]; omega)
  have hD1l : ∀ b, D1 b → b ≤ Y := fun b h => by
    rw [← hD1] at h
    have h2 := HX.out
    rcases h with h | h | h
    · have := hD b h; omega
    · omega
    · omega
  have hD1Y : D1 Y := by rw [← hD1]; exact .inr (.inr rfl)
  have hD1Z : D1 (X + 1) := by rw [← hD1]; exact .inr (.inl rfl)
  have hDD1 : ∀ b, D b → D1 b := fun b h => by rw [← hD1]; exact .inl h
  go_upto_region 4 with fail
  rw [← HW0.out]
  have hY03 : w0.cell? ⟨Y, 3, none⟩ = some (.slice ao n co) := cell_blk hY0
  have hP0 : PlyB n P es ow hv D1 Y (plyK es n P ow W SC 0) w0 := ⟨ae, ao, ah, _, _, ce, co, ch, _, _, hY0, hS0⟩
  clear hcp hOW hS3 hS0 hY0 hsw hw0 x0 x1 x2 x3 x4 x5 x6 hb2 hb3 hb4 hX2 hZ2 hY hz0 hD1
  go_wp2_with fail
  go_loopw [8] (fun vi wr => ∃ i : Nat, i ≤ sc.length ∧ vi = .int .i64 (i : Int) ∧ PlyB n P es ow hv D1 Y (plyK es n P ow W SC i) wr ∧ wr.cell? ⟨Y, 3, none⟩ = some (.slice ao n co) ∧ Hid (∀ t, t < i → rdyW P (plyK es n P ow W SC t) ≠ []) ∧ Fr (fun b => b = Y) w0 wr) (fun vi _ => sc.length - (intOf vi).toNat)
  case atStart => exact ⟨0, Nat.zero_le _, rfl, hP0, hY03, (show ∀ t, _ from fun t h => by omega), Fr.refl _ _⟩
  case round =>
    clear hP0
    obtain ⟨i, hi, rfl, ⟨be, bo, bh, bk, bb, de, do', dh, dk, db, hYr, hSr⟩, hYo, HR, hF⟩ := hrel
    have hoo := Lib.hid (show Value.slice bo n do' = .slice ao n co from Option.some.inj (((cell_blk hYr : wr.cell? ⟨Y, 3, none⟩ = some (.slice bo n do')).symm).trans hYo))
    clear hYo
    have hXr := hF.blk hX3 (by omega)
    have hZr := hF.blk hZ3 (by omega)
    have hbr := hbw0.trans (hF.below (fun b e => by have := HX.out; omega) hbw0.size)
    have hGi := hG.ply hpot SC i
    obtain ⟨y0, y1, y2, y3, y4, y5, y6⟩ := cells7 hYr
    by_cases hlt : i < sc.length
    · have hlt3 : (i : Int) < sc.length := by omega
      have hrd := ready38_any n P es ow hv _ _ wr hGi hSr.now
      have hlist : (rdyW P (plyK es n P ow W SC i)).length ≤ 4096 := by
        unfold rdyW rdyL
        have h2 := rdyR_len (bxL P (plyK es n P ow W SC i)) (fun r hr => by
          obtain ⟨a, ha, rfl⟩ := List.mem_map.1 hr
          rw [List.length_map, List.length_range]; omega) P (by rw [bxL_len]; exact Nat.le_refl _)
        rw [bxL_len]; omega
      obtain ⟨L, hL⟩ : ∃ l, rdyW P (plyK es n P ow W SC i) = l := ⟨_, rfl⟩
      rw [hL] at hrd hlist
      go_wp2_with fail
      refine hrd.mono ?_
      rintro e w5 ⟨aL, cL, rfl, hLL, hb5⟩
      have hY5 := lit_next' hb5 hYr
      have hZ5 := lit_next' hb5 hZr
      have hbr5 := hbr.trans (hb5.mono hbr.size)
      have hS5 : Stb D1 w5 fun U => WldAt U (.agg #[.int .i64 (n : Int), .slice be es.length de, .int .i64 (P : Int), .slice bo n do', .slice bh hv.length dh, .slice bk P dk, .slice bb P db]) (wdL n P es ow hv (plyK es n P ow W SC i)) := Stb.step hSr (Fr.of_below (D := fun _ => False) hb5) (fun _ h => h.elim) (fun b h => .inl h)
      clear y0 y1 y2 y3 y4 y5 y6 hrd
      obtain ⟨y0, y1, y2, y3, y4, y5, y6⟩ := cells7 hY5
      by_cases h0 : L = []
      · subst h0
        obtain ⟨wF, hwF⟩ : ∃ V : World, V = (((((((w5.setCell ⟨X + 1, 0, none⟩ (.int .i64 (n : Int))).setCell ⟨X + 1, 1, none⟩ (.slice be es.length de)).setCell ⟨X + 1, 2, none⟩ (.int .i64 (P : Int))).setCell ⟨X + 1, 3, none⟩ (.slice bo n do')).setCell ⟨X + 1, 4, none⟩ (.slice bh hv.length dh)).setCell ⟨X + 1, 5, none⟩ (.slice bk P dk)).setCell ⟨X + 1, 6, none⟩ (.slice bb P db)) := ⟨_, rfl⟩
        have hfin := set7all (d0 := .int .i64 (n : Int)) (d1 := .slice be es.length de) (d2 := .int .i64 (P : Int)) (d3 := .slice bo n do') (d4 := .slice bh hv.length dh) (d5 := .slice bk P dk) (d6 := .slice bb P db) hZ5
        have hgF := set7_grown w5 (X + 1) (.int .i64 (n : Int)) (.slice be es.length de) (.int .i64 (P : Int)) (.slice bo n do') (.slice bh hv.length dh) (.slice bk P dk) (.slice bb P db)
        rw [← hwF] at hfin hgF
        have HWF := Lib.hid hwF
        have hbF : Below w.heap.size w wF := (hbr5).grown hgF (hbr5).size (fun k e => by cases e; rw [HX.out]; omega)
        have hres : Stb D wF fun U => WldAt U (.agg #[.int .i64 (n : Int), .slice be es.length de, .int .i64 (P : Int), .slice bo n do', .slice bh hv.length dh, .slice bk P dk, .slice bb P db]) (wdL n P es ow hv (plyK es n P ow W SC i)) := Stb.step hS5 ((Fr.refl (fun b => b = X + 1) _).grown hgF (fun b e => .inl (Option.some.inj e).symm)) (fun b e => .inl (by rw [e]; exact hD1Z)) (fun b h => .inl (hDD1 b h))
        obtain ⟨t0, t1, t2, t3, t4, t5, t6⟩ := cells7 hfin
        obtain ⟨v0, v1, v2, v3, v4, v5, v6⟩ := cells7 hZ5
        have fZ := fun q => free_blk (j := q) hZ5
        have f0 := fZ 0
        have f1 := fZ 1
        have f2 := fZ 2
        have f3 := fZ 3
        have f4 := fZ 4
        have f5 := fZ 5
        have f6 := fZ 6
        clear hwF hgF hfin fZ
        go_wp2_with fail
        rw [← HWF.out]
        exact bodyPost_ret (v := .tuple #[.agg #[.int .i64 (n : Int), .slice be es.length de, .int .i64 (P : Int), .slice bo n do', .slice bh hv.length dh, .slice bk P dk, .slice bb P db], .int .i64 (i : Int), .int .i64 0]) (by simp [results, Tryz.results27, go_sem, t0, t1, t2, t3, t4, t5, t6]) rfl ⟨_, i, rfl, hres, by omega, fun t ht => HR.out t ht, fun _ => hL, hbF, hoo.out⟩
      · have hLp : 0 < L.length := List.length_pos_iff.2 h0
        have hL0 : decide ((L.length : Int) = 0) = false := by simp; exact h0
        have hL1 : ((L.length : Int) == 0) = false := by simp; exact h0
        obtain ⟨i', j', m, r, hi', hj', hbm, hget, hstp⟩ := stp_ex (es := es) (n := n) (ow := ow) (plyK es n P ow W SC i) (SC i) (by rw [hL]; exact h0)
        rw [hL, hSCi i] at hget
        obtain ⟨bS, oS, rfl, cS0⟩ := (hsc.below hbr5).atn rfl i hlt
        obtain ⟨sv, hsv⟩ : ∃ q, sc.getD i 0 = q := ⟨_, rfl⟩
        rw [hsv] at cS0 hget
        have hpl := pickN_lt sv hLp
        have hmod := mod38_any sv L.length w5 hLp (by omega)
        obtain ⟨p, hp⟩ : ∃ q, pickN sv L.length = q := ⟨_, rfl⟩
        rw [hp] at hpl hmod hget
        have hpl3 : (p : Int) < L.length := by omega
        obtain ⟨b8, o8, x, rfl, hx, hcap8, hc⟩ := hLL.elem p hpl
        rw [hget] at hx
        obtain rfl := (Option.some.inj hx).symm
        have d0 := hc 0 _ rfl
        have d1 := hc 1 _ rfl
        have hk2 : encC.k = 2 := rfl
        rw [hk2, Nat.add_zero] at d0
        rw [hk2] at d1
        have hbl9 : ∀ a b, a < P → b < P → ((plyK es n P ow W SC i).bx a b).length ≤ 900000 := fun a b ha hb' => by
          have h1 := bx_pot (n := n) (ow := ow) (W := plyK es n P ow W SC i) ha hb'
          have h2 := ply_potle (es := es) hG.how hG.vld SC i
          omega
        go_wp2_with fail
        refine hmod.mono ?_
        rintro e w6 ⟨rfl, rfl⟩
        obtain ⟨hP9, hb9⟩ := boxG_new w5 #[.int .i64 (i' : Int), .int .i64 (j' : Int)] 54
        obtain ⟨w9, hw9⟩ : ∃ V : World, V = w5.alloc (.cells #[.int .i64 (i' : Int), .int .i64 (j' : Int)] 54) := ⟨_, rfl⟩
        rw [← hw9] at hP9 hb9
        have HW9 := Lib.hid hw9
        have hY9 := lit_next' hb9 hY5
        have hZ9 := lit_next' hb9 hZ5
        have hz59 : Y < w5.heap.size := blk_lt hY5
        have hS9 : Stb D1 w9 fun U => WldAt U (.agg #[.int .i64 (n : Int), .slice be es.length de, .int .i64 (P : Int), .slice bo n do', .slice bh hv.length dh, .slice bk P dk, .slice bb P db]) (wdL n P es ow hv (plyK es n P ow W SC i)) := Stb.step hS5 (Fr.of_below (D := fun _ => False) hb9) (fun _ h => h.elim) (fun b h => .inl h)
        have hdel := del38O_any n P i' j' es ow hv (plyK es n P ow W SC i) m r _ D1 w9 hGi hS9 (fun b h => by have := hD1l b h; have := hb9.size; omega) hi' hj' hbm hbl9
        rw [← hstp] at hdel
        obtain ⟨b9, hb9'⟩ : ∃ q, w5.heap.size = q := ⟨_, rfl⟩
        rw [hb9'] at hP9
        clear hw9 hmod hc hx hget y0 y1 y2 y3 y4 y5 y6 cS0
        obtain ⟨y0, y1, y2, y3, y4, y5, y6⟩ := cells7 hY9
        have q0 : w9.cell? ⟨b9, 0, none⟩ = some (.int .i64 (i' : Int)) := cell_blk hP9
        have q1 : w9.cell? ⟨b9, 1, none⟩ = some (.int .i64 (j' : Int)) := cell_blk hP9
        go_upto_region 11 with fail
        rw [← HW9.out]
        go_wp2_with fail
        refine hdel.mono ?_
        rintro e w10 ⟨v', rfl, hS10, hb10, ho10⟩
        obtain ⟨ce', co', ch', ck', cb', de', dp', dh', dk', db', rfl, -⟩ := hS10.now.shapeH
        have hY10 := lit_next' hb10 hY9
        obtain ⟨wE, hwE⟩ : ∃ V : World, V = (((((((w10.setCell ⟨Y, 0, none⟩ (.int .i64 (n : Int))).setCell ⟨Y, 1, none⟩ (.slice ce' es.length de')).setCell ⟨Y, 2, none⟩ (.int .i64 (P : Int))).setCell ⟨Y, 3, none⟩ (.slice co' n dp')).setCell ⟨Y, 4, none⟩ (.slice ch' hv.length dh')).setCell ⟨Y, 5, none⟩ (.slice ck' P dk')).setCell ⟨Y, 6, none⟩ (.slice cb' P db')) := ⟨_, rfl⟩
        have hfin := set7all (d0 := .int .i64 (n : Int)) (d1 := .slice ce' es.length de') (d2 := .int .i64 (P : Int)) (d3 := .slice co' n dp') (d4 := .slice ch' hv.length dh') (d5 := .slice ck' P dk') (d6 := .slice cb' P db') hY10
        have hgE := set7_grown w10 Y (.int .i64 (n : Int)) (.slice ce' es.length de') (.int .i64 (P : Int)) (.slice co' n dp') (.slice ch' hv.length dh') (.slice ck' P dk') (.slice cb' P db')
        rw [← hwE] at hfin hgE
        have HWE := Lib.hid hwE
        have hFE : Fr (fun b => b = Y) w10 wE := (Fr.refl _ _).grown hgE (fun b e => .inl (Option.some.inj e).symm)
        have hSE10 := Stb.step (D1 := D1) hS10 hFE (fun b e => .inl (by rw [e]; exact hD1Y)) (fun b h => .inl h)
        have hF10 : Fr (fun b => b = Y) w0 wE := (((hF.grown (grown_of_below hb5) (fun b e => by cases e)).grown (grown_of_below hb9) (fun b e => by cases e)).grown (grown_of_below hb10) (fun b e => by cases e)).grown hgE (fun b e => .inl (Option.some.inj e).symm)
        have hYE : wE.cell? ⟨Y, 3, none⟩ = some (.slice ao n co) := (cell_blk hfin : wE.cell? ⟨Y, 3, none⟩ = some (.slice co' n dp')).trans (congrArg some ((show Value.slice co' n dp' = .slice bo n do' from ho10).trans hoo.out))
        clear ho10
        have hPE : PlyB n P es ow hv D1 Y (plyK es n P ow W SC (i + 1)) wE := ⟨ce', co', ch', ck', cb', de', dp', dh', dk', db', hfin, hSE10⟩
        have HRE : Hid (∀ t, t < i + 1 → rdyW P (plyK es n P ow W SC t) ≠ []) := (show ∀ t, _ from fun t ht => by
          by_cases e : t = i
          · rw [e, hL]; exact h0
          · exact HR.out t (by omega))
        obtain ⟨v0, v1, v2, v3, v4, v5, v6⟩ := cells7 hY10
        have fY := fun q => free_blk (j := q) hY10
        have f0 := fY 0
        have f1 := fY 1
        have f2 := fY 2
        have f3 := fY 3
        have f4 := fY 4
        have f5 := fY 5
        have f6 := fY 6
        clear hwE hgE hfin fY hdel hS10 hSE10 y0 y1 y2 y3 y4 y5 y6 q0 q1
        go_wp2_with fail
        rw [← HWE.out]
        go_roundw
        case rel => exact ⟨i + 1, by omega, by go_num, hPE, hYE, HRE, hF10⟩
        case measure => simp [intOf]; omega
    · obtain rfl : sc.length = i := by omega
      obtain ⟨wF, hwF⟩ : ∃ V : World, V = (((((((wr.setCell ⟨X + 1, 0, none⟩ (.int .i64 (n : Int))).setCell ⟨X + 1, 1, none⟩ (.slice be es.length de)).setCell ⟨X + 1, 2, none⟩ (.int .i64 (P : Int))).setCell ⟨X + 1, 3, none⟩ (.slice bo n do')).setCell ⟨X + 1, 4, none⟩ (.slice bh hv.length dh)).setCell ⟨X + 1, 5, none⟩ (.slice bk P dk)).setCell ⟨X + 1, 6, none⟩ (.slice bb P db)) := ⟨_, rfl⟩
      have hfin := set7all (d0 := .int .i64 (n : Int)) (d1 := .slice be es.length de) (d2 := .int .i64 (P : Int)) (d3 := .slice bo n do') (d4 := .slice bh hv.length dh) (d5 := .slice bk P dk) (d6 := .slice bb P db) hZr
      have hgF := set7_grown wr (X + 1) (.int .i64 (n : Int)) (.slice be es.length de) (.int .i64 (P : Int)) (.slice bo n do') (.slice bh hv.length dh) (.slice bk P dk) (.slice bb P db)
      rw [← hwF] at hfin hgF
      have HWF := Lib.hid hwF
      have hbF : Below w.heap.size w wF := (hbr).grown hgF (hbr).size (fun k e => by cases e; rw [HX.out]; omega)
      have hres : Stb D wF fun U => WldAt U (.agg #[.int .i64 (n : Int), .slice be es.length de, .int .i64 (P : Int), .slice bo n do', .slice bh hv.length dh, .slice bk P dk, .slice bb P db]) (wdL n P es ow hv (plyK es n P ow W SC sc.length)) := Stb.step hSr ((Fr.refl (fun b => b = X + 1) _).grown hgF (fun b e => .inl (Option.some.inj e).symm)) (fun b e => .inl (by rw [e]; exact hD1Z)) (fun b h => .inl (hDD1 b h))
      obtain ⟨t0, t1, t2, t3, t4, t5, t6⟩ := cells7 hfin
      obtain ⟨v0, v1, v2, v3, v4, v5, v6⟩ := cells7 hZr
      have fZ := fun q => free_blk (j := q) hZr
      have f0 := fZ 0
      have f1 := fZ 1
      have f2 := fZ 2
      have f3 := fZ 3
      have f4 := fZ 4
      have f5 := fZ 5
      have f6 := fZ 6
      clear hwF hgF hfin fZ
      go_wp2_with fail
      rw [← HWF.out]
      exact bodyPost_ret (v := .tuple #[.agg #[.int .i64 (n : Int), .slice be es.length de, .int .i64 (P : Int), .slice bo n do', .slice bh hv.length dh, .slice bk P dk, .slice bb P db], .int .i64 (sc.length : Int), .int .i64 0]) (by simp [results, Tryz.results27, go_sem, t0, t1, t2, t3, t4, t5, t6]) rfl ⟨_, sc.length, rfl, hres, Nat.le_refl _, fun t ht => HR.out t ht, fun h => absurd h (Nat.lt_irrefl _), hbF, hoo.out⟩
theorem play38_any (n P : Nat) (es : List E2) (ow : Nat → Nat) (hv : List Int) (W : WdP) (v : Value) (aS : Option Addr) (cS : Nat) (sc : List Int) (D : Nat → Prop) (w : World) (hG : GoodW n P es ow hv W) (hS : Stb D w fun U => WldAt U v (wdL n P es ow hv W)) (hD : ∀ b, D b → b < w.heap.size) (hsc : IntsAt w (.slice aS sc.length cS) sc) (hpot : potN n P ow W ≤ 800000) :
    Calls Tryz.prog 27 #[v, .slice aS sc.length cS] w fun e w' => ∃ (v' : Value) (k : Nat), e = .returned (.tuple #[v', .int .i64 (k : Int), .int .i64 0]) ∧ (Stb D w' fun U => WldAt U v' (wdL n P es ow hv (plyK es n P ow W (fun i => sc.getD i 0) k))) ∧ k ≤ sc.length ∧ (∀ i, i < k → rdyW P (plyK es n P ow W (fun i => sc.getD i 0) i) ≠ []) ∧ (k < sc.length → rdyW P (plyK es n P ow W (fun i => sc.getD i 0) k) = []) ∧ Below w.heap.size w w' := by
  refine (play38O_any n P es ow hv W v aS cS sc D w hG hS hD hsc hpot).mono ?_
  rintro e w' ⟨v', k, h1, h2, h3, h4, h5, h6, -⟩
  exact ⟨v', k, h1, h2, h3, h4, h5, h6⟩
/-- what holds behind k steps of Finish -/
def FinS (n P : Nat) (es : List E2) (ow : Nat → Nat) (hv : List Int) (D1 : Nat → Prop) (Y : Nat) (W : WdP) (SC : Nat → Int) (w0 : World) (k : Nat) (wr : World) : Prop := PlyB n P es ow hv D1 Y (plyK es n P ow W SC k) wr ∧ (∀ t, t < k → rdyW P (plyK es n P ow W SC t) ≠ []) ∧ Fr (fun b => b = Y) w0 wr
set_option linter.unusedSimpArgs false in
set_option maxRecDepth 100000 in
set_option maxHeartbeats 6400000 in
theorem finish38_any (n P : Nat) (es : List E2) (ow : Nat → Nat) (hv : List Int) (W : WdP) (v : Value) (D : Nat → Prop) (w : World) (hG : GoodW n P es ow hv W) (hS : Stb D w fun U => WldAt U v (wdL n P es ow hv W)) (hD : ∀ b, D b → b < w.heap.size) (hpot : potN n P ow W ≤ 800000) :
    Calls Tryz.prog 29 #[v] w fun e w' => ∃ (v' : Value) (k : Nat), e = .returned (.tuple #[v', .int .i64 0]) ∧ (Stb D w' fun U => WldAt U v' (wdL n P es ow hv (plyK es n P ow W (fun _ => 0) k))) ∧ (∀ i, i < k → rdyW P (plyK es n P ow W (fun _ => 0) i) ≠ []) ∧ rdyW P (plyK es n P ow W (fun _ => 0) k) = [] ∧ Below w.heap.size w w' := by
  obtain ⟨SC, hSC⟩ : ∃ f : Nat → Int, (fun _ => (0 : Int)) = f := ⟨_, rfl⟩
  have hSCi : ∀ i, SC i = 0 := fun i => by rw [← hSC]
  rw [hSC]
  clear hSC
  have hP8 := hG.hP
  have hn64 : n ≤ 64 := by have := hG.hg.2.1; omega
  obtain ⟨ae, ao, ah, ak, ab, ce, co, ch, ck, cb, rfl, hE, hO, hH, hK, hB⟩ := hS.now.shapeH
  obtain ⟨hSE, hSO, hSH⟩ := stb_parts hS
  obtain ⟨hX0, hb0⟩ := boxG_new w #[.int .i64 (n : Int), .slice ae es.length ce, .int .i64 (P : Int), .slice ao n co, .slice ah hv.length ch, .slice ak P ck, .slice ab P cb] 36
  obtain ⟨w1, hw1⟩ : ∃ V : World, V = w.alloc (.cells #[.int .i64 (n : Int), .slice ae es.length ce, .int .i64 (P : Int), .slice ao n co, .slice ah hv.length ch, .slice ak P ck, .slice ab P cb] 36) := ⟨_, rfl⟩
  have hz1 : w1.heap.size = w.heap.size + 1 := by rw [hw1]; simp
  rw [← hw1] at hX0 hb0
  obtain ⟨hZ0, hb1⟩ := boxG_new w1 #[.int .i64 0, .slice none 0 0, .int .i64 0, .slice none 0 0, .slice none 0 0, .slice none 0 0, .slice none 0 0] 36
  obtain ⟨wA, hwA⟩ : ∃ V : World, V = w1.alloc (.cells #[.int .i64 0, .slice none 0 0, .int .i64 0, .slice none 0 0, .slice none 0 0, .slice none 0 0, .slice none 0 0] 36) := ⟨_, rfl⟩
  have hzA : wA.heap.size = w.heap.size + 2 := by rw [hwA]; simp [hz1]
  rw [← hwA] at hZ0 hb1
  have hX1 := lit_next' hb1 hX0
  have hbA := hb0.trans (hb1.mono hb0.size)
  obtain ⟨X, hX⟩ : ∃ X, w.heap.size = X := ⟨_, rfl⟩
  rw [hz1] at hZ0
  rw [hX] at hX1 hZ0 hzA
  have HX := Lib.hid hX
  have hwA2 : wA = (w.alloc (.cells #[.int .i64 (n : Int), .slice ae es.length ce, .int .i64 (P : Int), .slice ao n co, .slice ah hv.length ch, .slice ak P ck, .slice ab P cb] 36)).alloc (.cells #[.int .i64 0, .slice none 0 0, .int .i64 0, .slice none 0 0, .slice none 0 0, .slice none 0 0, .slice none 0 0] 36) := by rw [hwA, hw1]
  have HWA := Lib.hid hwA2
  have hval := valid38_any (wdL n P es ow hv W) (.agg #[.int .i64 (n : Int), .slice ae es.length ce, .int .i64 (P : Int), .slice ao n co, .slice ah hv.length ch, .slice ak P ck, .slice ab P cb]) wA (hS.now.below hbA) (fun r hr m hm => by
    obtain ⟨a, ha, rfl⟩ := List.mem_map.1 hr
    obtain ⟨t, ht, rfl⟩ := List.mem_map.1 hm
    exact hG.bl a t (List.mem_range.1 ha) (List.mem_range.1 ht))
  rw [hG.val] at hval
  clear hX0 hb0 hb1 hz1 hw1 hwA hwA2 w1 hX
  obtain ⟨x0, x1, x2, x3, x4, x5, x6⟩ := cells7 hX1
  go_enter Tryz.func29, Tryz.ntmps29
  go_upto_region 1 with fail
  rw [← HWA.out, HX.out]
  go_wp2_with fail
  refine hval.mono ?_
  rintro e w2 ⟨rfl, hb2⟩
  have hbw2 := hbA.trans (hb2.mono hbA.size)
  have hX2 := lit_next' hb2 hX1
  have hZ2 := lit_next' hb2 hZ0
  have hcp := copy38G_any n P es ow hv W ae ao ah ak ab ce co ch ck cb w2 hG (hK.below hbw2) (hB.below hbw2)
  have hz2 : X + 1 < w2.heap.size := by have := hb2.size; omega
  clear hval x0 x1 x2 x3 x4 x5 x6 hX1 hZ0
  obtain ⟨x0, x1, x2, x3, x4, x5, x6⟩ := cells7 hX2
  go_wp2_with fail
  refine hcp.mono ?_
  rintro e w3 ⟨KB, BB, cK, cB, R, cR, vs, rfl, hOW, hb3⟩
  have hbw3 := hbw2.trans (hb3.mono hbw2.size)
  have hsw : ∀ {p : World → Prop}, Stb D w p → Stb (fun b => D b ∨ b = X + 1) w3 p := fun h => Stb.step h (Fr.of_below (D := D) hbw3) (fun b h => .inl h) (fun b h => by
    rcases h with h | h
    · exact .inl h
    · right; have := HX.out; omega)
  have hS3 := OwnW.readS (D := fun b => D b ∨ b = X + 1) (ae := ae) (ao := ao) (ah := ah) (ce := ce) (co := co) (ch := ch) (n := n) (es := es) (ow := ow) (hv := hv) hOW (by omega) (fun j hj => by rw [hG.vld.len j hj]; omega) (fun r t hr ht => hG.bl r t hr ht) (hsw hSE) (hsw hSO) (hsw hSH) (fun b h => by
    have h2 := HX.out
    rcases h with h | h
    · have := hD b h; omega
    · omega)
  obtain ⟨hY0, hb4⟩ := boxG_new w3 #[.int .i64 (n : Int), .slice ae es.length ce, .int .i64 (P : Int), .slice ao n co, .slice ah hv.length ch, .slice (some ⟨KB, 0, none⟩) P cK, .slice (some ⟨BB, 0, none⟩) P cB] 36
  obtain ⟨w0, hw0⟩ : ∃ V : World, V = w3.alloc (.cells #[.int .i64 (n : Int), .slice ae es.length ce, .int .i64 (P : Int), .slice ao n co, .slice ah hv.length ch, .slice (some ⟨KB, 0, none⟩) P cK, .slice (some ⟨BB, 0, none⟩) P cB] 36) := ⟨_, rfl⟩
  have hz0 : w0.heap.size = w3.heap.size + 1 := by rw [hw0]; simp
  rw [← hw0] at hY0 hb4
  have HW0 := Lib.hid hw0
  obtain ⟨Y, hY⟩ : ∃ Y, w3.heap.size = Y := ⟨_, rfl⟩
  have hXY : X + 1 < Y := by have := hb3.size; omega
  rw [hY] at hY0 hz0
  have hX3 := lit_next' hb4 (lit_next' hb3 hX2)
  have hZ3 := lit_next' hb4 (lit_next' hb3 hZ2)
  have hbw0 := hbw3.trans (hb4.mono hbw3.size)
  obtain ⟨D1, hD1⟩ : ∃ q : Nat → Prop, (fun b => D b ∨ b = X + 1 ∨ b = Y) = q := ⟨_, rfl⟩
  have hS0 : Stb D1 w0 fun U => WldAt U (.agg #[.int .i64 (n : Int), .slice ae es.length ce, .int .i64 (P : Int), .slice ao n co, .slice ah hv.length ch, .slice (some ⟨KB, 0, none⟩) P cK, .slice (some ⟨BB, 0, none⟩) P cB]) (wdL n P es ow hv W) := Stb.step hS3 (Fr.of_below (D := fun _ => False) hb4) (fun _ h => h.elim) (fun b h => by
    rw [← hD1] at h
    rcases h with h | h | h
    · exact .inl (.inl h)
    · exact .inl (.inr h)
    · right; rw [hY]; omega)
  have hD1l : ∀ b, D1 b → b ≤ Y := fun b h => by
    rw [← hD1] at h
    have h2 := HX.out
    rcases h with h | h | h
    · have := hD b h; omega
    · omega
    · omega
  have hD1Y : D1 Y := by rw [← hD1]; exact .inr (.inr rfl)
  have hD1Z : D1 (X + 1) := by rw [← hD1]; exact .inr (.inl rfl)
  have hDD1 : ∀ b, D b → D1 b := fun b h => by rw [← hD1]; exact .inl h
  go_wp2_with (rw [← HW0.out])
  have hF0 : FinS n P es ow hv D1 Y W SC w0 0 w0 := ⟨⟨ae, ao, ah, _, _, ce, co, ch, _, _, hY0, hS0⟩, fun t h => by omega, Fr.refl _ _⟩
  clear hcp hOW hS3 hS0 hY0 hsw hw0 x0 x1 x2 x3 x4 x5 x6 hb2 hb3 hb4 hX2 hZ2 hY hz0 hD1
  obtain ⟨PT, hPT⟩ : ∃ q, potN n P ow W + 1 = q := ⟨_, rfl⟩
  go_loopw [5] (fun _ wr => ∃ k : Nat, FinS n P es ow hv D1 Y W SC w0 k wr) (fun _ wr => leastN fun m => ∃ k, FinS n P es ow hv D1 Y W SC w0 k wr ∧ m = PT - k)
  case atStart => exact ⟨0, hF0⟩
  case round =>
    clear hF0
    obtain ⟨k1, hk1⟩ := hrel
    obtain ⟨⟨k, ⟨⟨be, bo, bh, bk, bb, de, do', dh, dk, db, hYr, hSr⟩, hR, hF⟩, hmk⟩, -⟩ := leastN_spec (p := fun m => ∃ k, FinS n P es ow hv D1 Y W SC w0 k wr ∧ m = PT - k) ⟨k1, hk1, rfl⟩
    have HR := Lib.hid hR
    have HMK := Lib.hid hmk
    have hkp := ply_pot (es := es) hG.how hG.vld SC k hR
    clear hk1 hmk hR
    have hXr := hF.blk hX3 (by omega)
    have hZr := hF.blk hZ3 (by omega)
    have hbr := hbw0.trans (hF.below (fun b e => by have := HX.out; omega) hbw0.size)
    have hGi := hG.ply hpot SC k
    obtain ⟨y0, y1, y2, y3, y4, y5, y6⟩ := cells7 hYr
    have hrd := ready38_any n P es ow hv _ _ wr hGi hSr.now
    have hlist : (rdyW P (plyK es n P ow W SC k)).length ≤ 4096 := by
      unfold rdyW rdyL
      have h2 := rdyR_len (bxL P (plyK es n P ow W SC k)) (fun r hr => by
        obtain ⟨a, ha, rfl⟩ := List.mem_map.1 hr
        rw [List.length_map, List.length_range]; omega) P (by rw [bxL_len]; exact Nat.le_refl _)
      rw [bxL_len]; omega
    obtain ⟨L, hL⟩ : ∃ l, rdyW P (plyK es n P ow W SC k) = l := ⟨_, rfl⟩
    rw [hL] at hrd hlist
    go_wp2_with fail
    refine hrd.mono ?_
    rintro e w5 ⟨aL, cL, rfl, hLL, hb5⟩
    have hY5 := lit_next' hb5 hYr
    have hZ5 := lit_next' hb5 hZr
    have hbr5 := hbr.trans (hb5.mono hbr.size)
    have hS5 : Stb D1 w5 fun U => WldAt U (.agg #[.int .i64 (n : Int), .slice be es.length de, .int .i64 (P : Int), .slice bo n do', .slice bh hv.length dh, .slice bk P dk, .slice bb P db]) (wdL n P es ow hv (plyK es n P ow W SC k)) := Stb.step hSr (Fr.of_below (D := fun _ => False) hb5) (fun _ h => h.elim) (fun b h => .inl h)
    clear y0 y1 y2 y3 y4 y5 y6 hrd
    obtain ⟨y0, y1, y2, y3, y4, y5, y6⟩ := cells7 hY5
    by_cases h0 : L = []
    · subst h0
      obtain ⟨wF, hwF⟩ : ∃ V : World, V = (((((((w5.setCell ⟨X + 1, 0, none⟩ (.int .i64 (n : Int))).setCell ⟨X + 1, 1, none⟩ (.slice be es.length de)).setCell ⟨X + 1, 2, none⟩ (.int .i64 (P : Int))).setCell ⟨X + 1, 3, none⟩ (.slice bo n do')).setCell ⟨X + 1, 4, none⟩ (.slice bh hv.length dh)).setCell ⟨X + 1, 5, none⟩ (.slice bk P dk)).setCell ⟨X + 1, 6, none⟩ (.slice bb P db)) := ⟨_, rfl⟩
      have hfin := set7all (d0 := .int .i64 (n : Int)) (d1 := .slice be es.length de) (d2 := .int .i64 (P : Int)) (d3 := .slice bo n do') (d4 := .slice bh hv.length dh) (d5 := .slice bk P dk) (d6 := .slice bb P db) hZ5
      have hgF := set7_grown w5 (X + 1) (.int .i64 (n : Int)) (.slice be es.length de) (.int .i64 (P : Int)) (.slice bo n do') (.slice bh hv.length dh) (.slice bk P dk) (.slice bb P db)
      rw [← hwF] at hfin hgF
      have HWF := Lib.hid hwF
      have hbF : Below w.heap.size w wF := (hbr5).grown hgF (hbr5).size (fun k e => by cases e; rw [HX.out]; omega)
      have hres : Stb D wF fun U => WldAt U (.agg #[.int .i64 (n : Int), .slice be es.length de, .int .i64 (P : Int), .slice bo n do', .slice bh hv.length dh, .slice bk P dk, .slice bb P db]) (wdL n P es ow hv (plyK es n P ow W SC k)) := Stb.step hS5 ((Fr.refl (fun b => b = X + 1) _).grown hgF (fun b e => .inl (Option.some.inj e).symm)) (fun b e => .inl (by rw [e]; exact hD1Z)) (fun b h => .inl (hDD1 b h))
      obtain ⟨t0, t1, t2, t3, t4, t5, t6⟩ := cells7 hfin
      obtain ⟨v0, v1, v2, v3, v4, v5, v6⟩ := cells7 hZ5
      have fZ := fun q => free_blk (j := q) hZ5
      have f0 := fZ 0
      have f1 := fZ 1
      have f2 := fZ 2
      have f3 := fZ 3
      have f4 := fZ 4
      have f5 := fZ 5
      have f6 := fZ 6
      clear hwF hgF hfin fZ
      go_wp2_with fail
      rw [← HWF.out]
      exact bodyPost_ret (v := .tuple #[.agg #[.int .i64 (n : Int), .slice be es.length de, .int .i64 (P : Int), .slice bo n do', .slice bh hv.length dh, .slice bk P dk, .slice bb P db], .int .i64 0]) (by simp [results, Tryz.results29, go_sem, t0, t1, t2, t3, t4, t5, t6]) rfl ⟨_, k, rfl, hres, fun t ht => HR.out t ht, hL, hbF⟩
    · have hLp : 0 < L.length := List.length_pos_iff.2 h0
      have hL0 : decide ((L.length : Int) = 0) = false := by simp; exact h0
      have hL1 : ((L.length : Int) == 0) = false := by simp; exact h0
      obtain ⟨i', j', m, r, hi', hj', hbm, hget, hstp⟩ := stp_ex (es := es) (n := n) (ow := ow) (plyK es n P ow W SC k) (SC k) (by rw [hL]; exact h0)
      have hp0 : pickN 0 L.length = 0 := by
        unfold pickN
        simp
      rw [hL, hSCi k, hp0] at hget
      have hpl3 : (0 : Int) < L.length := by omega
      obtain ⟨b8, o8, x, rfl, hx, hcap8, hc⟩ := hLL.elem 0 hLp
      rw [hget] at hx
      obtain rfl := (Option.some.inj hx).symm
      have d0 : w5.cell? ⟨b8, o8, none⟩ = some (.int .i64 (i' : Int)) := by simpa using hc 0 _ rfl
      have d1 : w5.cell? ⟨b8, o8 + 1, none⟩ = some (.int .i64 (j' : Int)) := by simpa using hc 1 _ rfl
      have hbl9 : ∀ a b, a < P → b < P → ((plyK es n P ow W SC k).bx a b).length ≤ 900000 := fun a b ha hb' => by
        have h1 := bx_pot (n := n) (ow := ow) (W := plyK es n P ow W SC k) ha hb'
        have h2 := ply_potle (es := es) hG.how hG.vld SC k
        omega
      have hz59 : Y < w5.heap.size := blk_lt hY5
      have hS9 : Stb D1 w5.drew fun U => WldAt U (.agg #[.int .i64 (n : Int), .slice be es.length de, .int .i64 (P : Int), .slice bo n do', .slice bh hv.length dh, .slice bk P dk, .slice bb P db]) (wdL n P es ow hv (plyK es n P ow W SC k)) := Stb.step hS5 (Fr.of_below (D := fun _ => False) (Below.refl _ _).drew) (fun _ h => h.elim) (fun b h => .inl h)
      have hdel := del38_any n P i' j' es ow hv (plyK es n P ow W SC k) m r _ D1 w5.drew hGi hS9 (fun b h => by have := hD1l b h; show b < w5.heap.size; omega) hi' hj' hbm hbl9
      rw [← hstp] at hdel
      clear hc hx hget
      go_upto_region 7 with fail
      refine wp_region_heldK (k := 13) (S := fun b W => (match b with | false => W.cell? ⟨b8, o8, none⟩ = some (.int .i64 (i' : Int)) ∧ W.cell? ⟨b8, o8 + 1, none⟩ = some (.int .i64 (j' : Int)) | true => True) ∧ (match b with | false => W.cell? ⟨Y, 0, none⟩ = some (.int .i64 (n : Int)) ∧ W.cell? ⟨Y, 1, none⟩ = some (.slice be es.length de) ∧ W.cell? ⟨Y, 2, none⟩ = some (.int .i64 (P : Int)) ∧ W.cell? ⟨Y, 3, none⟩ = some (.slice bo n do') ∧ W.cell? ⟨Y, 4, none⟩ = some (.slice bh hv.length dh) ∧ W.cell? ⟨Y, 5, none⟩ = some (.slice bk P dk) ∧ W.cell? ⟨Y, 6, none⟩ = some (.slice bb P db) | true => True)) (by kernel_rfl) ?_
      have hS0 : (w5.drew.cell? ⟨b8, o8, none⟩ = some (.int .i64 (i' : Int)) ∧ w5.drew.cell? ⟨b8, o8 + 1, none⟩ = some (.int .i64 (j' : Int))) ∧ (w5.drew.cell? ⟨Y, 0, none⟩ = some (.int .i64 (n : Int)) ∧ w5.drew.cell? ⟨Y, 1, none⟩ = some (.slice be es.length de) ∧ w5.drew.cell? ⟨Y, 2, none⟩ = some (.int .i64 (P : Int)) ∧ w5.drew.cell? ⟨Y, 3, none⟩ = some (.slice bo n do') ∧ w5.drew.cell? ⟨Y, 4, none⟩ = some (.slice bh hv.length dh) ∧ w5.drew.cell? ⟨Y, 5, none⟩ = some (.slice bk P dk) ∧ w5.drew.cell? ⟨Y, 6, none⟩ = some (.slice bb P db)) := ⟨⟨d0, d1⟩, y0, y1, y2, y3, y4, y5, y6⟩
      refine tkA 0 (.agg #[.int .i64 (n : Int), .slice be es.length de, .int .i64 (P : Int), .slice bo n do', .slice bh hv.length dh, .slice bk P dk, .slice bb P db]) false rfl (fun _ h => ⟨trivial, trivial⟩) false hS0 ?_
      refine tkA 1 (.slice (some ⟨b8, o8, none⟩) L.length cL) true rfl (fun _ h => ⟨trivial, trivial⟩) false hS0 ?_
      refine tkA 2 (.pointer (some ⟨b8, o8, none⟩)) true rfl (fun _ h => ⟨trivial, trivial⟩) false hS0 ?_
      refine tkA 3 (.pointer (some ⟨b8, o8, none⟩)) true rfl (fun _ h => ⟨trivial, trivial⟩) false hS0 ?_
      refine tkA 4 (.int .i64 (i' : Int)) false rfl (fun _ h => ⟨trivial, trivial⟩) false hS0 ?_
      refine tkA 5 (.slice (some ⟨b8, o8, none⟩) L.length cL) true rfl (fun _ h => ⟨trivial, trivial⟩) false hS0 ?_
      refine tkA 6 (.pointer (some ⟨b8, o8, none⟩)) true rfl (fun _ h => ⟨trivial, trivial⟩) false hS0 ?_
      refine tkA 7 (.pointer (some ⟨b8, o8 + 1, none⟩)) true rfl (fun _ h => ⟨trivial, trivial⟩) false hS0 ?_
      refine tkA 8 (.int .i64 (j' : Int)) false rfl (fun _ h => ⟨trivial, trivial⟩) false hS0 ?_
      try simp only [Act.put, List.setIfInBounds_toArray, List.set_cons_zero, List.set_cons_succ]
      refine wpAnyK_one (i := 9) (by kernel_rfl) rfl (by rfl) (b := false) (by kernel_rfl) (fun K hK => ?_)
      go_simp
      go_at_call 25
      refine hdel.mono ?_
      rintro e w10 ⟨v', rfl, hS10, hb10⟩
      obtain ⟨ce', co', ch', ck', cb', de', dp', dh', dk', db', rfl, -⟩ := hS10.now.shapeH
      have hb510 : Below w5.heap.size w5 w10 := (Below.refl w5.heap.size w5).drew.trans hb10
      have hY10 := lit_next' hb510 hY5
      obtain ⟨v0, v1, v2, v3, v4, v5, v6⟩ := cells7 hY10
      have e0 := (hb510.cell (p := ⟨b8, o8, none⟩) (cell_lt d0)).trans d0
      have e1 := (hb510.cell (p := ⟨b8, o8 + 1, none⟩) (cell_lt d1)).trans d1
      have fY := fun q => free_blk (j := q) hY10
      have f0 := fY 0
      have f1 := fY 1
      have f2 := fY 2
      have f3 := fY 3
      have f4 := fY 4
      have f5 := fY 5
      have f6 := fY 6
      have hS11 : (w10.cell? ⟨b8, o8, none⟩ = some (.int .i64 (i' : Int)) ∧ w10.cell? ⟨b8, o8 + 1, none⟩ = some (.int .i64 (j' : Int))) ∧ (w10.cell? ⟨Y, 0, none⟩ = some (.int .i64 (n : Int)) ∧ w10.cell? ⟨Y, 1, none⟩ = some (.slice be es.length de) ∧ w10.cell? ⟨Y, 2, none⟩ = some (.int .i64 (P : Int)) ∧ w10.cell? ⟨Y, 3, none⟩ = some (.slice bo n do') ∧ w10.cell? ⟨Y, 4, none⟩ = some (.slice bh hv.length dh) ∧ w10.cell? ⟨Y, 5, none⟩ = some (.slice bk P dk) ∧ w10.cell? ⟨Y, 6, none⟩ = some (.slice bb P db)) := ⟨⟨e0, e1⟩, v0, v1, v2, v3, v4, v5, v6⟩
      dsimp only
      refine hK.out _ _ hS11 ?_
      try simp only [Act.put, List.setIfInBounds_toArray, List.set_cons_zero, List.set_cons_succ]
      refine tkA 10 (.tuple #[.agg #[.int .i64 (n : Int), .slice ce' es.length de', .int .i64 (P : Int), .slice co' n dp', .slice ch' hv.length dh', .slice ck' P dk', .slice cb' P db'], .int .i64 0]) true rfl (fun _ h => ⟨trivial, trivial⟩) false hS11 ?_
      refine tkA 11 (.agg #[.int .i64 (n : Int), .slice ce' es.length de', .int .i64 (P : Int), .slice co' n dp', .slice ch' hv.length dh', .slice ck' P dk', .slice cb' P db']) true rfl (fun _ h => ⟨trivial, trivial⟩) false hS11 ?_
      refine tkA 12 (.int .i64 0) true rfl (fun _ h => ⟨trivial, trivial⟩) false hS11 ?_
      try simp only [Act.put, List.setIfInBounds_toArray, List.set_cons_zero, List.set_cons_succ]
      refine wpAnyK_one (i := 13) (by kernel_rfl) rfl (by rfl) (b := true) (by kernel_rfl) (fun K hK => ?_)
      go_simp
      refine hK.out _ _ ⟨trivial, trivial⟩ (wpAnyK_done (by kernel_rfl) ?_ _)
      clear e0 e1 fY f0 f1 f2 f3 f4 f5 f6 v0 v1 v2 v3 v4 v5 v6 hS0 hS11 d0 d1 y0 y1 y2 y3 y4 y5 y6
      obtain ⟨wE, hwE⟩ : ∃ V : World, V = (((((((w10.setCell ⟨Y, 0, none⟩ (.int .i64 (n : Int))).setCell ⟨Y, 1, none⟩ (.slice ce' es.length de')).setCell ⟨Y, 2, none⟩ (.int .i64 (P : Int))).setCell ⟨Y, 3, none⟩ (.slice co' n dp')).setCell ⟨Y, 4, none⟩ (.slice ch' hv.length dh')).setCell ⟨Y, 5, none⟩ (.slice ck' P dk')).setCell ⟨Y, 6, none⟩ (.slice cb' P db')) := ⟨_, rfl⟩
      have hfin := set7all (d0 := .int .i64 (n : Int)) (d1 := .slice ce' es.length de') (d2 := .int .i64 (P : Int)) (d3 := .slice co' n dp') (d4 := .slice ch' hv.length dh') (d5 := .slice ck' P dk') (d6 := .slice cb' P db') hY10
      have hgE := set7_grown w10 Y (.int .i64 (n : Int)) (.slice ce' es.length de') (.int .i64 (P : Int)) (.slice co' n dp') (.slice ch' hv.length dh') (.slice ck' P dk') (.slice cb' P db')
      rw [← hwE] at hfin hgE
      have HWE := Lib.hid hwE
      have hFE : Fr (fun b => b = Y) w10 wE := (Fr.refl _ _).grown hgE (fun b e => .inl (Option.some.inj e).symm)
      have hSE10 := Stb.step (D1 := D1) hS10 hFE (fun b e => .inl (by rw [e]; exact hD1Y)) (fun b h => .inl h)
      have hF10 : Fr (fun b => b = Y) w0 wE := ((hF.grown (grown_of_below hb5) (fun b e => by cases e)).grown (grown_of_below hb510) (fun b e => by cases e)).grown hgE (fun b e => .inl (Option.some.inj e).symm)
      have hRE : ∀ t, t < k + 1 → rdyW P (plyK es n P ow W SC t) ≠ [] := fun t ht => by
        by_cases e : t = k
        · rw [e, hL]; exact h0
        · exact HR.out t (by omega)
      have hkp2 := ply_pot (es := es) hG.how hG.vld SC (k + 1) hRE
      have hFN : FinS n P es ow hv D1 Y W SC w0 (k + 1) wE := ⟨⟨ce', co', ch', ck', cb', de', dp', dh', dk', db', hfin, hSE10⟩, hRE, hF10⟩
      have HMS := Lib.hid (leastN_spec (p := fun m => ∃ q, FinS n P es ow hv D1 Y W SC w0 q wE ∧ m = PT - q) ⟨k + 1, hFN, rfl⟩).2
      clear hwE hgE hfin hdel hS10 hSE10 hRE
      go_wp2_with fail
      rw [← HWE.out]
      go_roundw
      case rel => exact ⟨k + 1, hFN⟩
      case measure => have h1 := HMS.out; have h2 := HMK.out; omega
end Go.Proofs.YtdkmdcdoiaelfaaGreat

namespace Go.Proofs.YtdkmdcdoiaelfaaGreat
open Go.RowKit Go.BigFrame

theorem plan37_any (P : Int) (ow hv : List Int) (ao ah ao2 ah2 : Option Addr) (co ch co2 ch2 : Nat) (w : World) (hO : IntsAt w (.slice ao ow.length co) ow) (hH : IntsAt w (.slice ah hv.length ch) hv) (hO2 : IntsAt w (.slice ao2 ow.length co2) ow) (hH2 : IntsAt w (.slice ah2 hv.length ch2) hv) :
    Calls Tryz.prog 43 #[.agg #[.int .i64 P, .slice ao ow.length co, .slice ah hv.length ch], .agg #[.int .i64 P, .slice ao2 ow.length co2, .slice ah2 hv.length ch2]] w fun e w' => e = .returned (.bool true) ∧ Below w.heap.size w w' := by
  obtain ⟨hX0, hb0⟩ := boxG_new w #[.int .i64 P, .slice ao ow.length co, .slice ah hv.length ch] 27
  obtain ⟨w1, hw1⟩ : ∃ V : World, V = w.alloc (.cells #[.int .i64 P, .slice ao ow.length co, .slice ah hv.length ch] 27) := ⟨_, rfl⟩
  have hz1 : w1.heap.size = w.heap.size + 1 := by rw [hw1]; simp
  rw [← hw1] at hX0 hb0
  obtain ⟨hY0, hb1⟩ := boxG_new w1 #[.int .i64 P, .slice ao2 ow.length co2, .slice ah2 hv.length ch2] 27
  obtain ⟨wA, hwA⟩ : ∃ V : World, V = w1.alloc (.cells #[.int .i64 P, .slice ao2 ow.length co2, .slice ah2 hv.length ch2] 27) := ⟨_, rfl⟩
  rw [← hwA] at hY0 hb1
  have hX1 := lit_next' hb1 hX0
  have hbA := hb0.trans (hb1.mono hb0.size)
  obtain ⟨X, hX⟩ : ∃ X, w.heap.size = X := ⟨_, rfl⟩
  rw [hz1] at hY0
  rw [hX] at hX1 hY0
  have HX := Lib.hid hX
  have hwA2 : wA = (w.alloc (.cells #[.int .i64 P, .slice ao ow.length co, .slice ah hv.length ch] 27)).alloc (.cells #[.int .i64 P, .slice ao2 ow.length co2, .slice ah2 hv.length ch2] 27) := by rw [hwA, hw1]
  have HWA := Lib.hid hwA2
  have hc1 := icmp_same ao ao2 co co2 ow wA (hO.below hbA) (hO2.below hbA)
  clear hX0 hb0 hb1 hz1 hw1 hwA hwA2 w1 hX
  obtain ⟨x0, x1, x2⟩ := cells3 hX1
  obtain ⟨y0, y1, y2⟩ := cells3 hY0
  go_enter Tryz.func43, Tryz.ntmps43
  go_upto_region 1 with fail
  rw [← HWA.out, HX.out]
  go_wp2_with fail
  refine hc1.mono ?_
  rintro e w2 ⟨rfl, hb2⟩
  have hbw2 := hbA.trans (hb2.mono hbA.size)
  have hc2 := icmp_same ah ah2 ch ch2 hv w2 (hH.below hbw2) (hH2.below hbw2)
  have hX2 := lit_next' hb2 hX1
  have hY2 := lit_next' hb2 hY0
  clear x0 x1 x2 y0 y1 y2 hc1
  obtain ⟨x0, x1, x2⟩ := cells3 hX2
  obtain ⟨y0, y1, y2⟩ := cells3 hY2
  go_wp2_with fail
  refine hc2.mono ?_
  rintro e w3 ⟨rfl, hb3⟩
  have hbw3 := hbw2.trans (hb3.mono hbw2.size)
  go_wp2_with fail
  go_ret
  exact ⟨rfl, hbw3⟩
/-- few enough to be compared -/
structure FewW (W : WdL) : Prop where
  es : W.es.length ≤ 1000000
  kl : W.kn.length ≤ 1000
  km : ∀ l ∈ W.kn, l.length ≤ 1000000
  bl : W.bx.length ≤ 1000
  br : ∀ r ∈ W.bx, r.length ≤ 1000000
  bm : ∀ r ∈ W.bx, ∀ m ∈ r, m.length ≤ 1000000
theorem same38_any (W : WdL) (v v' : Value) (w : World) (hF : FewW W) (h : WldAt w v W) (h' : WldAt w v' W) :
    Calls Tryz.prog 11 #[v, v'] w fun e w' => e = .returned (.bool true) ∧ Below w.heap.size w w' := by
  obtain ⟨n, es, P, ow, hv, kn, bx⟩ := W
  obtain ⟨ae, ao, ah, ak, ab, ce, co, ch, ck, cb, rfl, hE, hO, hH, hK, hB⟩ := h
  obtain ⟨ae2, ao2, ah2, ak2, ab2, ce2, co2, ch2, ck2, cb2, rfl, hE2, hO2, hH2, hK2, hB2⟩ := h'
  obtain ⟨f1, f2, f3, f4, f5, f6⟩ := hF
  dsimp only at *
  obtain ⟨hX0, hb0⟩ := boxG_new w #[.int .i64 n, .slice ae es.length ce, .int .i64 P, .slice ao ow.length co, .slice ah hv.length ch, .slice ak kn.length ck, .slice ab bx.length cb] 36
  obtain ⟨w1, hw1⟩ : ∃ V : World, V = w.alloc (.cells #[.int .i64 n, .slice ae es.length ce, .int .i64 P, .slice ao ow.length co, .slice ah hv.length ch, .slice ak kn.length ck, .slice ab bx.length cb] 36) := ⟨_, rfl⟩
  have hz1 : w1.heap.size = w.heap.size + 1 := by rw [hw1]; simp
  rw [← hw1] at hX0 hb0
  obtain ⟨hY0, hb1⟩ := boxG_new w1 #[.int .i64 n, .slice ae2 es.length ce2, .int .i64 P, .slice ao2 ow.length co2, .slice ah2 hv.length ch2, .slice ak2 kn.length ck2, .slice ab2 bx.length cb2] 36
  obtain ⟨wA, hwA⟩ : ∃ V : World, V = w1.alloc (.cells #[.int .i64 n, .slice ae2 es.length ce2, .int .i64 P, .slice ao2 ow.length co2, .slice ah2 hv.length ch2, .slice ak2 kn.length ck2, .slice ab2 bx.length cb2] 36) := ⟨_, rfl⟩
  rw [← hwA] at hY0 hb1
  have hX1 := lit_next' hb1 hX0
  have hbA := hb0.trans (hb1.mono hb0.size)
  obtain ⟨X, hX⟩ : ∃ X, w.heap.size = X := ⟨_, rfl⟩
  rw [hz1] at hY0
  rw [hX] at hX1 hY0
  have HX := Lib.hid hX
  have hwA2 : wA = (w.alloc (.cells #[.int .i64 n, .slice ae es.length ce, .int .i64 P, .slice ao ow.length co, .slice ah hv.length ch, .slice ak kn.length ck, .slice ab bx.length cb] 36)).alloc (.cells #[.int .i64 n, .slice ae2 es.length ce2, .int .i64 P, .slice ao2 ow.length co2, .slice ah2 hv.length ch2, .slice ak2 kn.length ck2, .slice ab2 bx.length cb2] 36) := by rw [hwA, hw1]
  have HWA := Lib.hid hwA2
  have hc1 := gsame_same n ae ae2 ce ce2 es wA (hE.below hbA) (hE2.below hbA) (by omega)
  clear hX0 hb0 hb1 hz1 hw1 hwA hwA2 w1 hX
  obtain ⟨x0, x1, x2, x3, x4, x5, x6⟩ := cells7 hX1
  obtain ⟨y0, y1, y2, y3, y4, y5, y6⟩ := cells7 hY0
  go_enter Tryz.func11, Tryz.ntmps11
  go_upto_region 1 with fail
  rw [← HWA.out, HX.out]
  go_wp2_with fail
  refine hc1.mono ?_
  rintro e w2 ⟨rfl, hb2⟩
  have hbw2 := hbA.trans (hb2.mono hbA.size)
  have hc2 := plan37_any P ow hv ao ah ao2 ah2 co ch co2 ch2 w2 (hO.below hbw2) (hH.below hbw2) (hO2.below hbw2) (hH2.below hbw2)
  have hX2 := lit_next' hb2 hX1
  have hY2 := lit_next' hb2 hY0
  clear x0 x1 x2 x3 x4 x5 x6 y0 y1 y2 y3 y4 y5 y6 hc1
  obtain ⟨x0, x1, x2, x3, x4, x5, x6⟩ := cells7 hX2
  obtain ⟨y0, y1, y2, y3, y4, y5, y6⟩ := cells7 hY2
  go_wp2_with fail
  refine hc2.mono ?_
  rintro e w3 ⟨rfl, hb3⟩
  have hbw3 := hbw2.trans (hb3.mono hbw2.size)
  have hc3 := samelists38_any kn ak ak2 ck ck2 w3 (hK.below hbw3) (hK2.below hbw3) f2 f3
  have hX3 := lit_next' hb3 hX2
  have hY3 := lit_next' hb3 hY2
  clear x0 x1 x2 x3 x4 x5 x6 y0 y1 y2 y3 y4 y5 y6 hc2
  obtain ⟨x0, x1, x2, x3, x4, x5, x6⟩ := cells7 hX3
  obtain ⟨y0, y1, y2, y3, y4, y5, y6⟩ := cells7 hY3
  go_wp2_with fail
  refine hc3.mono ?_
  rintro e w4 ⟨rfl, hb4⟩
  have hbw4 := hbw3.trans (hb4.mono hbw3.size)
  have hc4 := sameboxes38_any bx ab ab2 cb cb2 w4 (hB.below hbw4) (hB2.below hbw4) f4 f5 f6
  have hX4 := lit_next' hb4 hX3
  have hY4 := lit_next' hb4 hY3
  clear x0 x1 x2 x3 x4 x5 x6 y0 y1 y2 y3 y4 y5 y6 hc3
  obtain ⟨x0, x1, x2, x3, x4, x5, x6⟩ := cells7 hX4
  obtain ⟨y0, y1, y2, y3, y4, y5, y6⟩ := cells7 hY4
  go_wp2_with fail
  refine hc4.mono ?_
  rintro e w5 ⟨rfl, hb5⟩
  have hbw5 := hbw4.trans (hb5.mono hbw4.size)
  go_wp2_with fail
  go_ret
  exact ⟨rfl, hbw5⟩
end Go.Proofs.YtdkmdcdoiaelfaaGreat
