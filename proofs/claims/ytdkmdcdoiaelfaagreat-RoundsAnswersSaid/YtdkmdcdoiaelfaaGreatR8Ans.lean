/- The walk of the law RoundsAnswers (printed by wip/mkr8ans.py). -/
import Derived.Test.YtdkmdcdoiaelfaaGreatR8Both
import Derived.Test.YtdkmdcdoiaelfaaGreatSameI
namespace Go.Proofs.YtdkmdcdoiaelfaaGreat
open Go.RowKit Go.BigFrame

theorem light38_any (n m : Int) (a : Option Addr) (len cap : Nat) (w : World) (hm : 0 ≤ m) (hm2 : m ≤ 1000) :
    Calls Tryz.prog 5 #[.agg #[.int .i64 n, .slice a len cap], .int .i64 m] w fun e w' => e = .returned (.bool (decide (n ≤ m) && decide ((len : Int) ≤ m * m))) ∧ Below w.heap.size w w' := by
  have hb0 : Below w.heap.size w (w.alloc (.cells #[.int .i64 n, .slice a len cap] 25)) := (Below.refl _ _).alloc (Nat.le_refl _) _
  have hmm : 0 ≤ m * m ∧ m * m ≤ 1000000 := ⟨Int.mul_nonneg hm hm, by have := Int.mul_le_mul hm2 hm2 hm (by omega); omega⟩
  by_cases h1 : n ≤ m
  · have d1 : decide (n ≤ m) = true := by simpa using h1
    have v1 : IntKind.i64.wrap (m * m) = m * m := IntWalk.i64_in _ (by omega)
    go_enter Tryz.func5, Tryz.ntmps5
    go_wp2_with fail
    go_ret
    exact ⟨by simp [d1], hb0⟩
  · have d1 : decide (n ≤ m) = false := by simpa using h1
    go_enter Tryz.func5, Tryz.ntmps5
    go_wp2_with fail
    go_ret
    exact ⟨by simp, hb0⟩
theorem ListAt.belowX {w w' : World} {a : Option Addr} {len : Nat} (h : ListAt w a len) (hb : Below w.heap.size w w') : ListAt w' a len := ⟨h.1, fun j hj => by
  obtain ⟨c, off, x, ha, hc, hx⟩ := h.2 j hj
  exact ⟨c, off, x, ha, (hb.cell (p := ⟨c, off + j, none⟩) (cell_lt hc)).trans hc, hx⟩⟩
theorem eq_c2 (x y : Int) (W : World) : (Op.equalIn 10000 54 (.agg #[.int .i64 x, .int .i64 y]) (.agg #[.int .i64 x, .int .i64 y])).run Tryz.prog W = .ok true W := by
  obtain ⟨i, hi⟩ : ∃ i, Tryz.prog.info? 3 = some i := Option.isSome_iff_exists.1 (by kernel_rfl)
  have hc : Tryz.prog.cellsOf 3 = 1 := by kernel_rfl
  have hr : List.range 2 = [0, 1] := rfl
  have h1 : ∀ d, (Op.equalIn (d + 1 + 1) 54 (.agg #[.int .i64 x, .int .i64 y]) (.agg #[.int .i64 x, .int .i64 y])).run Tryz.prog W = .ok true W := fun d => by
    rw [run_equalIn_array (w := W) (d + 1) #[.int .i64 x, .int .i64 y] #[.int .i64 x, .int .i64 y] Tryz.underlying54 hi, hc, hr]
    simp [Op.eqItems, Sem.run_bind, part, isAgg, go_sem, Op.equalIn, run_underlying Tryz.underlying3, Result.andThen]
  exact h1 9998
theorem grown_fr {D : Nat → Prop} {d : Nat} {w w1 w2 : World} (h : w.grownBy w1 (some d)) (g : Fr D w1 w2) (hD : ∀ b, D b → w.heap.size ≤ b) : w.grownBy w2 (some d) :=
  ⟨g.os.trans h.os, g.tape.trans h.tape, g.output.trans h.output, Nat.le_trans h.size g.size, fun b hb hne => (g.block b (Nat.lt_of_lt_of_le hb h.size) (fun hd => by have := hD b hd; omega)).trans (h.block b hb hne)⟩
/-- as finish_both, with what stays so -/
theorem finish_bothS (X : WdL) (hX : BentOk X) : ∃ (Y : WdL) (f : Int), FewW Y ∧
    (∀ (v : Value) (w : World), WldAt w v X → Calls Tryz.prog 28 #[v] w fun e w' => ∃ v', e = .returned (.tuple #[v', .int .i64 f]) ∧ WldS w.heap.size w' v' Y ∧ Below w.heap.size w w') ∧
    (∀ (v : Value) (D : Nat → Prop) (w : World), (Stb D w fun U => WldAt U v X) → (∀ b, D b → b < w.heap.size) → Calls Tryz.prog 29 #[v] w fun e w' => ∃ v', e = .returned (.tuple #[v', .int .i64 f]) ∧ (Stb D w' fun U => WldAt U v' Y) ∧ Below w.heap.size w w') := by
  obtain ⟨hF, hhl, hv | ⟨N, Q, o, V, hXe, hG, hp⟩⟩ := hX
  · refine ⟨zeroW, 31, zero_few, fun v w h => ?_, fun v D w h hD => ?_⟩
    · refine (rdfin_bad X v w h hF.bm hv).mono ?_
      rintro e w' ⟨rfl, hb⟩
      exact ⟨_, rfl, fun U _ => zero_at U, hb⟩
    · refine (r8fin_bad X v w h.now hF.bm hv).mono ?_
      rintro e w' ⟨rfl, hb⟩
      exact ⟨_, rfl, fun U _ => zero_at U, hb⟩
  · obtain ⟨k, h1, h2, h3⟩ := stop_ex (fun i => rdyW Q (plyK X.es N Q o V (fun _ => 0) i) = []) (potN N Q o V + 1)
    have hlt : k < potN N Q o V + 1 := by
      have := ply_pot (es := X.es) hG.how hG.vld (fun _ => 0) k h2
      omega
    have hk := h3 hlt
    have hun : ∀ j, (∀ i, i < j → rdyW Q (plyK X.es N Q o V (fun _ => 0) i) ≠ []) → rdyW Q (plyK X.es N Q o V (fun _ => 0) j) = [] → k = j := fun j g2 g3 => by
      rcases Nat.lt_trichotomy k j with h | h | h
      · exact absurd hk (g2 k h)
      · exact h
      · exact absurd g3 (h2 j h)
    have hGk := hG.ply hp (fun _ => 0) k
    refine ⟨wdL N Q X.es o X.hv (plyK X.es N Q o V (fun _ => 0) k), 0, hGk.few, fun v w h => ?_, fun v D w h hD => ?_⟩
    · rw [hXe] at h
      refine (rdfinishS_any N Q X.es o X.hv V v w hG h hp).mono ?_
      rintro e w' ⟨v', j, rfl, hS, g2, g3, hb⟩
      obtain rfl := hun j g2 g3
      exact ⟨v', rfl, hS, hb⟩
    · rw [hXe] at h
      refine (finish38_any N Q X.es o X.hv V v D w hG h hD hp).mono ?_
      rintro e w' ⟨v', j, rfl, hS, g2, g3, hb⟩
      obtain rfl := hun j g2 g3
      exact ⟨v', rfl, hS, hb⟩
/-- a world that has neither known values nor boxes is never valid -/
theorem rawW_ok (n P : Int) (es : List E2) (ow hv : List Int) (he : es.length ≤ 1000000) (hh : hv.length ≤ 1000000) : BentOk ⟨n, es, P, ow, hv, [], []⟩ := by
  refine ⟨⟨he, Nat.zero_le _, (fun _ h => by cases h), Nat.zero_le _, (fun _ h => by cases h), fun _ h => by cases h⟩, hh, .inl ?_⟩
  by_cases hP : P = 0
  · cases hb : valB ⟨n, es, P, ow, hv, [], []⟩ with
    | false => rfl
    | true =>
      unfold valB at hb
      simp only [Bool.and_eq_true, decide_eq_true_eq] at hb
      have h1 := hb.1
      unfold fltS at h1
      by_cases hc : checkS n es ≠ 0
      · rw [if_pos hc] at h1; exact absurd h1 hc
      · rw [if_neg hc] at h1
        unfold plnS at h1
        rw [if_pos (by omega)] at h1
        cases h1
  · exact val_len (fun e => hP (by simpa using e.symm))
theorem raw_at {n P : Int} {es : List E2} {ow hv : List Int} {ae ao ah : Option Addr} {ce co ch : Nat} {w : World} (he : EdgesAt w (.slice ae es.length ce) es) (ho : IntsAt w (.slice ao ow.length co) ow) (hh : IntsAt w (.slice ah hv.length ch) hv) :
    WldAt w (.agg #[.int .i64 n, .slice ae es.length ce, .int .i64 P, .slice ao ow.length co, .slice ah hv.length ch, .slice none 0 0, .slice none 0 0]) ⟨n, es, P, ow, hv, [], []⟩ :=
  ⟨ae, ao, ah, none, none, ce, co, ch, 0, 0, rfl, he, ho, hh, NestA.nil (fun _ => rfl), NestA.nil (fun _ => rfl)⟩
theorem fr_of_grown {w w' : World} {d : Nat} (h : w.grownBy w' (some d)) : Fr (fun b => b = d) w w' := (Fr.refl _ _).grown h (fun _ e => .inl (Option.some.inj e).symm)

set_option linter.unusedSimpArgs false in
set_option maxRecDepth 100000 in
set_option maxHeartbeats 64000000 in
theorem r8ans_law (a : Option Addr) (len cap : Nat) (aS : Option Addr) (lenS cS : Nat) (sc : List Int) (aK : Option Addr) (lenK cK : Nat) (kx : List Int) (zr : Int) (ar : Option Addr) (lr cr : Nat) (rr : List E2) (zp : Int) (ao : Option Addr) (lo co : Nat) (ow : List Int) (ah : Option Addr) (lh ch : Nat) (hv : List Int) (xf xt : Int) (w : World)
    (hl : ListAt w a len) (hs0 : lenS ≤ 100000 → IntsAt w (.slice aS sc.length cS) sc ∧ sc.length = lenS) (hk0 : lenK ≤ 100000 → IntsAt w (.slice aK kx.length cK) kx ∧ kx.length = lenK) (hr0 : lr ≤ 100000 → EdgesAt w (.slice ar rr.length cr) rr ∧ rr.length = lr)
    (ho0 : lo ≤ 100000 → IntsAt w (.slice ao ow.length co) ow ∧ ow.length = lo) (hh0 : lh ≤ 100000 → IntsAt w (.slice ah hv.length ch) hv ∧ hv.length = lh) (hlow : LowV w.heap.size (.slice ao lo co)) :
    Calls Tryz.prog 3 #[.slice a len cap, .slice aS lenS cS, .slice aK lenK cK, .agg #[.int .i64 zr, .slice ar lr cr], .agg #[.int .i64 zp, .slice ao lo co, .slice ah lh ch], .int .i64 xf, .int .i64 xt] w fun e w' => e = .returned (.bool true) ∧ Below w.heap.size w w' := by
  obtain ⟨hR0', hb0'⟩ := boxG_new w #[.int .i64 zr, .slice ar lr cr] 25
  obtain ⟨w0, hw0⟩ : ∃ W : World, W = w.alloc (.cells #[.int .i64 zr, .slice ar lr cr] 25) := ⟨_, rfl⟩
  have hz0 : w0.heap.size = w.heap.size + 1 := by rw [hw0]; simp
  rw [← hw0] at hR0' hb0'
  obtain ⟨hP0, hb1⟩ := boxG_new w0 #[.int .i64 zp, .slice ao lo co, .slice ah lh ch] 27
  obtain ⟨wA, hwA⟩ : ∃ W : World, W = w0.alloc (.cells #[.int .i64 zp, .slice ao lo co, .slice ah lh ch] 27) := ⟨_, rfl⟩
  have hzA : wA.heap.size = w.heap.size + 2 := by rw [hwA]; simp [hz0]
  rw [← hwA] at hP0 hb1
  rw [hz0] at hP0
  have hR0 := lit_next' hb1 hR0'
  have hb0 := hb0'.trans (hb1.mono hb0'.size)
  obtain ⟨X, hX⟩ : ∃ X, w.heap.size = X := ⟨_, rfl⟩
  rw [hX] at hR0 hP0 hzA
  have HX := Lib.hid hX
  have hwA2 : wA = (w.alloc (.cells #[.int .i64 zr, .slice ar lr cr] 25)).alloc (.cells #[.int .i64 zp, .slice ao lo co, .slice ah lh ch] 27) := by rw [hwA, hw0]
  have HWA := Lib.hid hwA2
  clear hR0' hb0' hb1 hz0 hw0 hwA hwA2 w0 hX
  obtain ⟨p0, p1, p2⟩ := cells3 hP0
  obtain ⟨r0, r1⟩ := cells2R hR0
  by_cases hfew : len ≤ 500
  case neg =>
    have hd : decide (len ≤ 500) = false := by simpa using hfew
    go_enter Tryz.func3, Tryz.ntmps3
    go_upto_region 1 with fail
    rw [← HWA.out, HX.out]
    go_wp2_with (first
      | (go_at_call 4; refine (few_any _ _ _ _).mono ?_; rintro e w' ⟨rfl, rfl⟩)
      | fail
      | (go_at_call 6; refine (rdawake_any _).mono ?_; rintro e w' ⟨rfl, hb⟩))
    go_ret
    exact ⟨rfl, hb0.trans (hb.mono hb0.size)⟩
  case pos =>
  have hd : decide (len ≤ 500) = true := by simpa using hfew
  by_cases hsl : lenS ≤ 12
  case neg =>
    have hx3 : (12 : Int) < lenS := by omega
    go_enter Tryz.func3, Tryz.ntmps3
    go_upto_region 1 with fail
    rw [← HWA.out, HX.out]
    go_wp2_with (first
      | (go_at_call 4; refine (few_any _ _ _ _).mono ?_; rintro e w' ⟨rfl, rfl⟩)
      | fail
      | (go_at_call 6; refine (rdawake_any _).mono ?_; rintro e w' ⟨rfl, hb⟩))
    go_ret
    exact ⟨rfl, hb0.trans (hb.mono hb0.size)⟩
  case pos =>
  have h12 : decide ((12 : Int) < (lenS : Int)) = false := decide_eq_false (by omega)
  by_cases hkl : lenK ≤ 20
  case neg =>
    have hx3 : (20 : Int) < lenK := by omega
    go_enter Tryz.func3, Tryz.ntmps3
    go_upto_region 1 with fail
    rw [← HWA.out, HX.out]
    go_wp2_with (first
      | (go_at_call 4; refine (few_any _ _ _ _).mono ?_; rintro e w' ⟨rfl, rfl⟩)
      | fail
      | (go_at_call 6; refine (rdawake_any _).mono ?_; rintro e w' ⟨rfl, hb⟩))
    go_ret
    exact ⟨rfl, hb0.trans (hb.mono hb0.size)⟩
  case pos =>
  have h20 : decide ((20 : Int) < (lenK : Int)) = false := decide_eq_false (by omega)
  by_cases hlt : zr ≤ 8 ∧ lr ≤ 64
  case neg =>
    have d3 : (decide (zr ≤ 8) && decide ((lr : Int) ≤ 8 * 8)) = false := by
      cases hq : (decide (zr ≤ 8) && decide ((lr : Int) ≤ 8 * 8)) with
      | false => rfl
      | true =>
        rw [Bool.and_eq_true, decide_eq_true_eq, decide_eq_true_eq] at hq
        exact absurd ⟨hq.1, by omega⟩ hlt
    go_enter Tryz.func3, Tryz.ntmps3
    go_upto_region 1 with fail
    rw [← HWA.out, HX.out]
    go_wp2_with (first
      | (go_at_call 4; refine (few_any _ _ _ _).mono ?_; rintro e w' ⟨rfl, rfl⟩)
      | (go_at_call 5; refine (light38_any _ 8 _ _ _ _ (by omega) (by omega)).mono ?_; rw [d3]; rintro e wl ⟨rfl, hbl⟩; have hbL := hb0.trans (hbl.mono hb0.size); have hRL := lit_next' hbl hR0; have hPL := lit_next' hbl hP0; obtain ⟨p0, p1, p2⟩ := cells3 hPL; obtain ⟨r0, r1⟩ := cells2R hRL)
      | (go_at_call 6; refine (rdawake_any _).mono ?_; rintro e w' ⟨rfl, hb⟩))
    go_ret
    exact ⟨rfl, hbL.trans (hb.mono hbL.size)⟩
  case pos =>
  have d3 : (decide (zr ≤ 8) && decide ((lr : Int) ≤ 8 * 8)) = true := by
    rw [Bool.and_eq_true, decide_eq_true_eq, decide_eq_true_eq]; omega
  by_cases hol : lo ≤ 20
  case neg =>
    have hx3 : (20 : Int) < lo := by omega
    go_enter Tryz.func3, Tryz.ntmps3
    go_upto_region 1 with fail
    rw [← HWA.out, HX.out]
    go_wp2_with (first
      | (go_at_call 4; refine (few_any _ _ _ _).mono ?_; rintro e w' ⟨rfl, rfl⟩)
      | (go_at_call 5; refine (light38_any _ 8 _ _ _ _ (by omega) (by omega)).mono ?_; rw [d3]; rintro e wl ⟨rfl, hbl⟩; have hbL := hb0.trans (hbl.mono hb0.size); have hRL := lit_next' hbl hR0; have hPL := lit_next' hbl hP0; obtain ⟨p0, p1, p2⟩ := cells3 hPL; obtain ⟨r0, r1⟩ := cells2R hRL)
      | (go_at_call 6; refine (rdawake_any _).mono ?_; rintro e w' ⟨rfl, hb⟩))
    go_ret
    exact ⟨rfl, hbL.trans (hb.mono hbL.size)⟩
  case pos =>
  have h20o : decide ((20 : Int) < (lo : Int)) = false := decide_eq_false (by omega)
  by_cases hhl : lh ≤ 20
  case neg =>
    have hx3 : (20 : Int) < lh := by omega
    go_enter Tryz.func3, Tryz.ntmps3
    go_upto_region 1 with fail
    rw [← HWA.out, HX.out]
    go_wp2_with (first
      | (go_at_call 4; refine (few_any _ _ _ _).mono ?_; rintro e w' ⟨rfl, rfl⟩)
      | (go_at_call 5; refine (light38_any _ 8 _ _ _ _ (by omega) (by omega)).mono ?_; rw [d3]; rintro e wl ⟨rfl, hbl⟩; have hbL := hb0.trans (hbl.mono hb0.size); have hRL := lit_next' hbl hR0; have hPL := lit_next' hbl hP0; obtain ⟨p0, p1, p2⟩ := cells3 hPL; obtain ⟨r0, r1⟩ := cells2R hRL)
      | (go_at_call 6; refine (rdawake_any _).mono ?_; rintro e w' ⟨rfl, hb⟩))
    go_ret
    exact ⟨rfl, hbL.trans (hb.mono hbL.size)⟩
  case pos =>
  have h20h : decide ((20 : Int) < (lh : Int)) = false := decide_eq_false (by omega)
  go_enter Tryz.func3, Tryz.ntmps3
  go_upto_region 1 with fail
  rw [← HWA.out, HX.out]
  go_upto_region 3 with (first
    | (go_at_call 4; refine (few_any _ _ _ _).mono ?_; rintro e w' ⟨rfl, rfl⟩)
    | (go_at_call 5; refine (light38_any _ 8 _ _ _ _ (by omega) (by omega)).mono ?_; rw [d3]; rintro e wl ⟨rfl, hbl⟩; have hbL := hb0.trans (hbl.mono hb0.size); have hRL := lit_next' hbl hR0; have hPL := lit_next' hbl hP0; obtain ⟨p0, p1, p2⟩ := cells3 hPL; obtain ⟨r0, r1⟩ := cells2R hRL))
  obtain ⟨hsc, hse⟩ := hs0 (by omega)
  obtain ⟨hkx, hke⟩ := hk0 (by omega)
  obtain ⟨hrr, hre⟩ := hr0 (by omega)
  obtain ⟨how, hoe⟩ := ho0 (by omega)
  obtain ⟨hhv, hhe⟩ := hh0 (by omega)
  subst hse
  subst hke
  subst hre
  subst hoe
  subst hhe
  clear hs0 hk0 hr0 ho0 hh0 d3 h12 h20 h20o h20h hd hP0 hR0 hbl p0 p1 p2 r0 r1
  have hdk := deck_new (cap := cap) (hl.belowX hbL)
  obtain ⟨dk, hdk'⟩ : ∃ B, wl.heap.size = B := ⟨_, rfl⟩
  have hXd : X + 1 < dk := by have h1 := blk_lt hPL; omega
  obtain ⟨hD1, hb1⟩ := boxG_new wl #[.slice a len cap, .int .i64 0] 64
  obtain ⟨w1, hw1⟩ : ∃ W : World, W = wl.alloc (.cells #[.slice a len cap, .int .i64 0] 64) := ⟨_, rfl⟩
  rw [← hw1] at hdk hb1
  rw [hdk'] at hdk
  have hb01 := hbL.trans (hb1.mono hbL.size)
  have hR1 := lit_next' hb1 hRL
  have hP1 := lit_next' hb1 hPL
  have HW1 := Lib.hid hw1
  clear hw1 hb1 hD1 hRL hPL hl
  go_upto_region 4 with (go_at_call 7; refine (new_any _ _ _ _).mono ?_; rintro e w' ⟨rfl, rfl⟩)
  rw [← HW1.out]
  try rw [hdk']
  have hwd := world38_any dk w1 hdk
  go_wp2_with fail
  refine hwd.mono ?_
  rintro e w2 ⟨n, P, es, wo, vh, W, ag, cg, vw, rfl, hn7, hG, hpot, hSE, hSW, hd2, hg2, hlo2⟩
  obtain ⟨ae, bo, bh, ak, ab, ce, c2, c3, ck, cb, rfl, -⟩ := hSW.now.shapeH
  go_upto_region 5 with fail
  obtain ⟨hG3', hb3'⟩ := boxG_new w2 #[.int .i64 (n : Int), .slice ag es.length cg] 25
  obtain ⟨wq, hwq⟩ : ∃ U : World, U = w2.alloc (.cells #[.int .i64 (n : Int), .slice ag es.length cg] 25) := ⟨_, rfl⟩
  have hzq : wq.heap.size = w2.heap.size + 1 := by rw [hwq]; simp
  rw [← hwq] at hG3' hb3'
  obtain ⟨hW3, hb4'⟩ := boxG_new wq #[.int .i64 (n : Int), .slice ae es.length ce, .int .i64 (P : Int), .slice bo n c2, .slice bh vh.length c3, .slice ak P ck, .slice ab P cb] 36
  obtain ⟨w3, hw3⟩ : ∃ U : World, U = wq.alloc (.cells #[.int .i64 (n : Int), .slice ae es.length ce, .int .i64 (P : Int), .slice bo n c2, .slice bh vh.length c3, .slice ak P ck, .slice ab P cb] 36) := ⟨_, rfl⟩
  have hz3 : w3.heap.size = w2.heap.size + 2 := by rw [hw3]; simp [hzq]
  rw [← hw3] at hW3 hb4'
  have hG3 := lit_next' hb4' hG3'
  have hb23 := hb3'.trans (hb4'.mono hb3'.size)
  obtain ⟨Bg, hBg⟩ : ∃ B, w2.heap.size = B := ⟨_, rfl⟩
  rw [hzq] at hW3
  rw [hBg] at hG3 hW3 hz3
  have hw32 : w3 = (w2.alloc (.cells #[.int .i64 (n : Int), .slice ag es.length cg] 25)).alloc (.cells #[.int .i64 (n : Int), .slice ae es.length ce, .int .i64 (P : Int), .slice bo n c2, .slice bh vh.length c3, .slice ak P ck, .slice ab P cb] 36) := by rw [hw3, hwq]
  have HW3 := Lib.hid hw32
  have HBg := Lib.hid hBg
  rw [← HW3.out]
  try rw [hBg]
  have hdg : dk < Bg := by have h1 := hd2.lt; omega
  have hF13 : Fr (fun b => b = dk) w1 w3 := (fr_of_grown hg2).trans (Fr.of_below (D := fun _ => False) hb23) (fun b h => h.elim)
  have hR3 := hF13.blk hR1 (by omega)
  have hP3 := hF13.blk hP1 (by omega)
  have hd3 := hd2.kept (grown_of_below hb23) (fun g e => by cases e)
  have hb03 : Below w.heap.size w w3 := (hb01.grown hg2 hb01.size (fun g e => by have e1 := Option.some.inj e; have e2 := hbL.size; omega)).trans (hb23.mono (by have e2 := hb01.size; have e3 := hg2.size; omega))
  have hSE3 := Stb.step (D1 := fun b => b = dk) hSE (Fr.of_below (D := fun _ => False) hb23) (fun _ h => h.elim) (fun b h => .inl h)
  have hSW3 := Stb.step (D1 := fun b => b = dk) hSW (Fr.of_below (D := fun _ => False) hb23) (fun _ h => h.elim) (fun b h => .inl h)
  have hlo3 : LowV w3.heap.size (.slice bo n c2) := LowV.mono (show LowV w2.heap.size (.slice bo n c2) from hlo2) hb23.size
  have hsz0 : w.heap.size ≤ dk := by have e2 := hbL.size; omega
  obtain ⟨hA4, hb34⟩ := boxG_new w3 #[.int .i64 (n : Int), .slice ag es.length cg, .int .i64 zr, .slice ar rr.length cr] 25
  obtain ⟨w4, hw4⟩ : ∃ U : World, U = w3.alloc (.cells #[.int .i64 (n : Int), .slice ag es.length cg, .int .i64 zr, .slice ar rr.length cr] 25) := ⟨_, rfl⟩
  have hz4 : w4.heap.size = Bg + 3 := by rw [hw4]; simp [hz3]
  rw [← hw4] at hA4 hb34
  rw [hz3] at hA4
  have hd4 := hd3.kept (grown_of_below hb34) (fun g e => by cases e)
  have hb04 := hb03.trans (hb34.mono hb03.size)
  have hstay : ∀ U, w4.grownBy U (some dk) → Below w.heap.size w U := fun U hg => hb04.grown hg hb04.size (fun g e => by have e1 := Option.some.inj e; omega)
  have hgS : ∀ U, w4.grownBy U (some dk) → Fr (fun b => b = dk) w3 U := fun U hg => (Fr.of_below (D := fun b => b = dk) hb34).trans (fr_of_grown hg) (fun b h => .inl h)
  have hpick : ∀ i, i < 2 → ∃ (z : Int) (a : Option Addr) (c : Nat) (l : List E2), w4.cell? ⟨Bg + 2, i * 2, none⟩ = some (.int .i64 z) ∧ w4.cell? ⟨Bg + 2, i * 2 + 1, none⟩ = some (.slice a l.length c) ∧ ∀ U, w4.grownBy U (some dk) → EdgesAt U (.slice a l.length c) l := fun i hi => by
    match i, hi with
    | 0, _ => exact ⟨n, ag, cg, es, cell_blk hA4, cell_blk hA4, fun U hg => hSE3 U (hgS U hg)⟩
    | 1, _ => exact ⟨zr, ar, cr, rr, cell_blk hA4, cell_blk hA4, fun U hg => hrr.below (hstay U hg)⟩
  have hR4 := lit_next' hb34 hR3
  have hP4 := lit_next' hb34 hP3
  have hG4 := lit_next' hb34 hG3
  have hW4 := lit_next' hb34 hW3
  have HW4 := Lib.hid hw4
  obtain ⟨x0, x1⟩ := cells2R hR3
  obtain ⟨y0, y1⟩ := cells2R hG3
  have HZ3 := Lib.hid hz3
  clear hwq hzq hw3 hw32 hG3' hb3' hb4' hw4 hdk hwd hg2 hd2 hSE hSW hlo2 hb23 hR1 hP1 hF13 hb01 hbL hBg hdk' r0 r1 p0 p1 p2 HWA hb0 hzA wA hd3 hz3
  go_upto_region 6 with fail
  rw [← HW4.out]
  try rw [HZ3.out]
  clear x0 x1 y0 y1
  go_loopw [87] (fun vi wr => ∃ i : Nat, i ≤ 2 ∧ vi = .int .i64 (i : Int) ∧ DeckAt wr dk ∧ w4.grownBy wr (some dk)) (fun vi _ => 2 - (intOf vi).toNat)
  case atStart => exact ⟨0, Nat.zero_le _, rfl, hd4, grown_refl _ _⟩
  case round =>
    clear hd4
    obtain ⟨i, hi2, rfl, hdr, hgr⟩ := hrel
    by_cases hltI : i < 2
    case pos =>
      have hltI3 : (i : Int) < 2 := by omega
      obtain ⟨z', a', c', l, q0, q1, hE⟩ := hpick i hltI
      have q0' := hgr.cell q0 (fun e => by have e1 := Option.some.inj e; (try dsimp only at e1); omega)
      have q1' := hgr.cell q1 (fun e => by have e1 := Option.some.inj e; (try dsimp only at e1); omega)
      clear q0 q1 hpick hA4
      obtain ⟨hB6, hb6⟩ := boxG_new wr #[.int .i64 z', .slice a' l.length c'] 25
      obtain ⟨w6, hw6⟩ : ∃ U : World, U = wr.alloc (.cells #[.int .i64 z', .slice a' l.length c'] 25) := ⟨_, rfl⟩
      have hz6 : w6.heap.size = wr.heap.size + 1 := by rw [hw6]; simp
      rw [← hw6] at hB6 hb6
      obtain ⟨B19, hB19⟩ : ∃ B, wr.heap.size = B := ⟨_, rfl⟩
      rw [hB19] at hB6 hz6
      have hd6 := hdr.kept (grown_of_below hb6) (fun g e => by cases e)
      have hg6 : w4.grownBy w6 (some dk) := grown_trans hgr (grown_none (grown_of_below hb6))
      have hdB : Bg + 3 ≤ B19 := by have h1 := hgr.size; omega
      have hP6 := grown_blk hg6 hP4 (fun e => by have e1 := Option.some.inj e; omega)
      have hW6 := grown_blk hg6 hW4 (fun e => by have e1 := Option.some.inj e; omega)
      have HW6 := Lib.hid hw6
      have HB19 := Lib.hid hB19
      clear hw6 hb6 hdr hgr
      go_upto_region 8 with fail
      rw [← HW6.out]
      try rw [hB19]
      clear q0' q1' hB19
      obtain ⟨x0, x1, x2, x3, x4, x5, x6⟩ := cells7 hW6
      obtain ⟨y0, y1, y2⟩ := cells3 hP6
      obtain ⟨hA7, hb7⟩ := boxG_new w6 #[.int .i64 (P : Int), .slice bo n c2, .slice bh vh.length c3, .int .i64 zp, .slice ao ow.length co, .slice ah hv.length ch] 27
      obtain ⟨w7, hw7⟩ : ∃ U : World, U = w6.alloc (.cells #[.int .i64 (P : Int), .slice bo n c2, .slice bh vh.length c3, .int .i64 zp, .slice ao ow.length co, .slice ah hv.length ch] 27) := ⟨_, rfl⟩
      have hz7 : w7.heap.size = B19 + 2 := by rw [hw7]; simp [hz6]
      rw [← hw7] at hA7 hb7
      rw [hz6] at hA7
      have hd7 := hd6.kept (grown_of_below hb7) (fun g e => by cases e)
      have hg7 : w4.grownBy w7 (some dk) := grown_trans hg6 (grown_none (grown_of_below hb7))
      have hB7 := lit_next' hb7 hB6
      have hgT : ∀ U, w7.grownBy U (some dk) → w4.grownBy U (some dk) := fun U hg => grown_trans hg7 hg
      obtain ⟨-, hSO3, hSH3⟩ := stb_parts hSW3
      have hpickP : ∀ j, j < 2 → ∃ (zq : Int) (aO aH : Option Addr) (cO cH : Nat) (lO lH : List Int), w7.cell? ⟨B19 + 1, j * 3, none⟩ = some (.int .i64 zq) ∧ w7.cell? ⟨B19 + 1, j * 3 + 1, none⟩ = some (.slice aO lO.length cO) ∧ w7.cell? ⟨B19 + 1, j * 3 + 2, none⟩ = some (.slice aH lH.length cH) ∧ lH.length ≤ 1000000 ∧
          ∀ U, w7.grownBy U (some dk) → IntsAt U (.slice aO lO.length cO) lO ∧ IntsAt U (.slice aH lH.length cH) lH ∧ LowV U.heap.size (.slice aO lO.length cO) := fun j hj => by
        match j, hj with
        | 0, _ =>
          refine ⟨P, bo, bh, c2, c3, owI n wo, vh, cell_blk hA7, by rw [owI_length]; exact cell_blk hA7, cell_blk hA7, hG.hhl, fun U hg => ?_⟩
          have hf := hgS U (hgT U hg)
          rw [owI_length]
          exact ⟨hSO3 U hf, hSH3 U hf, hlo3.mono hf.size⟩
        | 1, _ => exact ⟨zp, ao, ah, co, ch, ow, hv, cell_blk hA7, cell_blk hA7, cell_blk hA7, by omega, fun U hg => ⟨how.below (hstay U (hgT U hg)), hhv.below (hstay U (hgT U hg)), hlow.mono (hstay U (hgT U hg)).size⟩⟩
      have HW7 := Lib.hid hw7
      have HZ6 := Lib.hid hz6
      clear hw7 hb7 hB6 hd6 hz6 hP6 hW6 hSO3 hSH3
      go_upto_region 9 with fail
      rw [← HW7.out]
      try rw [HZ6.out]
      clear x0 x1 x2 x3 x4 x5 x6 y0 y1 y2
      go_loopw [96] (fun vj wr => ∃ j : Nat, j ≤ 2 ∧ vj = .int .i64 (j : Int) ∧ DeckAt wr dk ∧ w7.grownBy wr (some dk)) (fun vj _ => 2 - (intOf vj).toNat)
      case atStart => exact ⟨0, Nat.zero_le _, rfl, hd7, grown_refl _ _⟩
      case round =>
        clear hd7
        obtain ⟨j, hj2, rfl, hdr, hgr⟩ := hrel
        by_cases hltJ : j < 2
        case neg =>
          have hltJ3 : (j : Int) = 2 := by omega
          have hgR := hgT _ hgr
          clear hpickP hgT hstay hgS hE hA7 hB7 hgr
          go_wp2_with fail
          go_roundw
          case rel => exact ⟨i + 1, by omega, by go_num, hdr, hgR⟩
          case measure => simp [intOf]; omega
        case pos =>
          have hltJ3 : (j : Int) < 2 := by omega
          obtain ⟨zq, aO, aH, cO, cH, lO, lH, q0, q1, q2, hlH, hOH⟩ := hpickP j hltJ
          have q0' := hgr.cell q0 (fun e => by have e1 := Option.some.inj e; (try dsimp only at e1); omega)
          have q1' := hgr.cell q1 (fun e => by have e1 := Option.some.inj e; (try dsimp only at e1); omega)
          have q2' := hgr.cell q2 (fun e => by have e1 := Option.some.inj e; (try dsimp only at e1); omega)
          clear q0 q1 q2 hpickP hA7
          obtain ⟨hC8, hb8⟩ := boxG_new wr #[.int .i64 zq, .slice aO lO.length cO, .slice aH lH.length cH] 27
          obtain ⟨w8, hw8⟩ : ∃ U : World, U = wr.alloc (.cells #[.int .i64 zq, .slice aO lO.length cO, .slice aH lH.length cH] 27) := ⟨_, rfl⟩
          have hz8 : w8.heap.size = wr.heap.size + 1 := by rw [hw8]; simp
          rw [← hw8] at hC8 hb8
          obtain ⟨B21, hB21⟩ : ∃ B, wr.heap.size = B := ⟨_, rfl⟩
          rw [hB21] at hC8 hz8
          have hdC : B19 + 2 ≤ B21 := by have h1 := hgr.size; omega
          have hd8 := hdr.kept (grown_of_below hb8) (fun g e => by cases e)
          have hg8 : w7.grownBy w8 (some dk) := grown_trans hgr (grown_none (grown_of_below hb8))
          have hB8 := grown_blk hg8 hB7 (fun e => by have e1 := Option.some.inj e; omega)
          have HW8 := Lib.hid hw8
          have HB21 := Lib.hid hB21
          clear hw8 hb8 hdr hgr hB7
          obtain ⟨V1, f1, hFew1, hstA, hstB⟩ := start_both z' zq l lO lH hlH
          go_upto_region 11 with fail
          rw [← HW8.out]
          try rw [hB21]
          clear q0' q1' q2' hB21
          have hE8 := fun U (h : w8.grownBy U (some dk)) => hE U (hgT U (grown_trans hg8 h))
          have hO8 := fun U (h : w8.grownBy U (some dk)) => hOH U (grown_trans hg8 h)
          obtain ⟨x0, x1⟩ := cells2R hB8
          obtain ⟨y0, y1, y2⟩ := cells3 hC8
          have hg88 := grown_refl w8 (some dk)
          have hstA' := hstA a' aO aH c' cO cH w8 (hE8 _ hg88) (hO8 _ hg88).1 (hO8 _ hg88).2.1 (hO8 _ hg88).2.2
          go_wp2_with fail
          refine hstA'.mono ?_
          rintro e w9 ⟨v1, rfl, hv1, hb9⟩
          obtain ⟨k0, k2, e1, e2, e3, e4, e5, l1, l3, l4, l5, l6, c1', c3', c4', c5', c6', rfl⟩ := hv1.shape
          obtain ⟨hD10, hb10⟩ := boxG_new w9 #[.int .i64 k0, .slice e1 l1 c1', .int .i64 k2, .slice e2 l3 c3', .slice e3 l4 c4', .slice e4 l5 c5', .slice e5 l6 c6'] 36
          obtain ⟨w10, hw10⟩ : ∃ U : World, U = w9.alloc (.cells #[.int .i64 k0, .slice e1 l1 c1', .int .i64 k2, .slice e2 l3 c3', .slice e3 l4 c4', .slice e4 l5 c5', .slice e5 l6 c6'] 36) := ⟨_, rfl⟩
          rw [← hw10] at hD10 hb10
          have hb810 := hb9.trans (hb10.mono hb9.size)
          have hg10 : w8.grownBy w10 (some dk) := grown_none (grown_of_below hb810)
          have hB10 := lit_next' hb10 (lit_next' hb9 hB8)
          have hC10 := lit_next' hb10 (lit_next' hb9 hC8)
          have hv10 := hv1.below hb10
          have HW10 := Lib.hid hw10
          obtain ⟨B22, hB22⟩ : ∃ B, w9.heap.size = B := ⟨_, rfl⟩
          rw [hB22] at hD10
          clear hw10 hstA' hstA hv1 x0 x1 y0 y1 y2
          go_upto_region 12 with fail
          rw [← HW10.out]
          try rw [hB22]
          obtain ⟨x0, x1⟩ := cells2R hB10
          obtain ⟨y0, y1, y2⟩ := cells3 hC10
          have hstB' := hstB a' aO aH c' cO cH w10 (hE8 _ hg10) (hO8 _ hg10).1 (hO8 _ hg10).2.1
          clear hB22
          go_wp2_with fail
          refine hstB'.mono ?_
          rintro e w11 ⟨v2, rfl, hv2, hb11⟩
          obtain ⟨m0, m2, d1, d2, d3, d4, d5, n1, n3, n4, n5, n6, b1', b3', b4', b5', b6', rfl⟩ := hv2.shape
          obtain ⟨hF12, hb12⟩ := boxG_new w11 #[.int .i64 m0, .slice d1 n1 b1', .int .i64 m2, .slice d2 n3 b3', .slice d3 n4 b4', .slice d4 n5 b5', .slice d5 n6 b6'] 36
          obtain ⟨w12, hw12⟩ : ∃ U : World, U = w11.alloc (.cells #[.int .i64 m0, .slice d1 n1 b1', .int .i64 m2, .slice d2 n3 b3', .slice d3 n4 b4', .slice d4 n5 b5', .slice d5 n6 b6'] 36) := ⟨_, rfl⟩
          rw [← hw12] at hF12 hb12
          have hb102 := hb11.trans (hb12.mono hb11.size)
          have hb812 := hb810.trans (hb102.mono hb810.size)
          have hg12 : w8.grownBy w12 (some dk) := grown_none (grown_of_below hb812)
          have hB12 := lit_next' hb102 hB10
          have hC12 := lit_next' hb102 hC10
          have hD12 := lit_next' hb102 hD10
          have hv12 := hv10.below hb102
          have hv12' := hv2.below hb12
          have HW12 := Lib.hid hw12
          obtain ⟨B24, hB24⟩ : ∃ B, w11.heap.size = B := ⟨_, rfl⟩
          rw [hB24] at hF12
          clear hw12 hstB' hstB hv2 hv10 x0 x1 y0 y1 y2 hB10 hC10 hD10 hB8 hC8
          go_upto_region 13 with fail
          rw [← HW12.out]
          try rw [hB24]
          have hsm := same38_any V1 _ _ w12 hFew1 hv12 hv12'
          obtain ⟨x0, x1, x2, x3, x4, x5, x6⟩ := cells7 hD12
          obtain ⟨y0, y1, y2, y3, y4, y5, y6⟩ := cells7 hF12
          clear hB24
          go_wp2_with fail
          refine hsm.mono ?_
          rintro e w13 ⟨rfl, hb13⟩
          have hb813 := hb812.trans (hb13.mono hb812.size)
          have hg13 : w8.grownBy w13 (some dk) := grown_none (grown_of_below hb813)
          have hd13 := hd8.kept (grown_of_below hb813) (fun g e => by cases e)
          have hB13 := lit_next' hb13 hB12
          have hC13 := lit_next' hb13 hC12
          obtain ⟨q, hq20, hqe⟩ : ∃ q : Nat, q ≤ 20 ∧ max 0 (min z' 20) = (q : Int) := ⟨(max 0 (min z' 20)).toNat, by omega, by omega⟩
          clear hsm hv12 hv12' x0 x1 x2 x3 x4 x5 x6 y0 y1 y2 y3 y4 y5 y6 hD12 hF12 hb9 hb10 hb11 hb12 hb13 hb102 hb810 hb812 hb813 hg10 hg12 hB12 hC12 hd8 hFew1
          obtain ⟨x0, x1⟩ := cells2R hB13
          go_wp2_with fail
          refine (fnumbers_any dk q 9 w13 hd13 (by omega) (by omega) (by omega)).mono ?_
          rintro e w14 ⟨nl, vn, rfl, hnl, -, hown14, hd14, hg14⟩
          obtain ⟨an, cn, en, hin, -⟩ := IntsAt.of_owns hown14 (by omega)
          subst en
          have hnl20 : nl.length ≤ 20 := by omega
          clear hnl hqe x0 x1
          have hB14 := grown_blk hg14 hB13 (fun e => by have e1 := Option.some.inj e; omega)
          have hC14 := grown_blk hg14 hC13 (fun e => by have e1 := Option.some.inj e; omega)
          obtain ⟨hK15, hb15⟩ := boxG_new w14 #[.slice aK kx.length cK, .slice an nl.length cn] 22
          obtain ⟨w15, hw15⟩ : ∃ U : World, U = w14.alloc (.cells #[.slice aK kx.length cK, .slice an nl.length cn] 22) := ⟨_, rfl⟩
          rw [← hw15] at hK15 hb15
          have hd15 := hd14.kept (grown_of_below hb15) (fun g e => by cases e)
          have hg15 : w8.grownBy w15 (some dk) := grown_trans (grown_trans hg13 hg14) (grown_none (grown_of_below hb15))
          have hB15 := lit_next' hb15 hB14
          have hC15 := lit_next' hb15 hC14
          have hin15 := hin.below hb15
          have HW15 := Lib.hid hw15
          obtain ⟨B26, hB26⟩ : ∃ B, w14.heap.size = B := ⟨_, rfl⟩
          rw [hB26] at hK15
          have hg8U : ∀ U, Below w15.heap.size w15 U → w8.grownBy U (some dk) := fun U h => grown_trans hg15 (grown_none (grown_of_below h))
          have hE15 := fun U h => hE8 U (hg8U U h)
          have hO15 := fun U h => (hO8 U (hg8U U h)).1
          have hH15 := fun U h => (hO8 U (hg8U U h)).2.1
          have hL15 := fun U h => (hO8 U (hg8U U h)).2.2
          have hpickK : ∀ k, k < 2 → ∃ (aa : Option Addr) (cc : Nat) (vs : List Int), vs.length ≤ 1000000 ∧ w15.cell? ⟨B26, k, none⟩ = some (.slice aa vs.length cc) ∧ ∀ U, Below w15.heap.size w15 U → IntsAt U (.slice aa vs.length cc) vs := fun k hk => by
            match k, hk with
            | 0, _ => exact ⟨aK, cK, kx, by omega, cell_blk hK15, fun U h => hkx.below (hstay U (hgT U (grown_trans hg8 (hg8U U h))))⟩
            | 1, _ => exact ⟨an, cn, nl, by omega, cell_blk hK15, fun U h => hin15.below h⟩
          have hSW : ∀ W : World, Below w15.heap.size w15 W → W.cell? ⟨B19, 0, none⟩ = some (.int .i64 z') ∧ W.cell? ⟨B19, 1, none⟩ = some (.slice a' l.length c') ∧ W.cell? ⟨B21, 0, none⟩ = some (.int .i64 zq) ∧ W.cell? ⟨B21, 1, none⟩ = some (.slice aO lO.length cO) ∧ W.cell? ⟨B21, 2, none⟩ = some (.slice aH lH.length cH) := fun U h => ⟨cell_blk (lit_next' h hB15), cell_blk (lit_next' h hB15), cell_blk (lit_next' h hC15), cell_blk (lit_next' h hC15), cell_blk (lit_next' h hC15)⟩
          clear hw15 hb15 hd14 hin hown14 hd13 hg13 hg14 hB13 hC13 hB14 hC14 hE8 hO8 hE hOH
          go_upto_region 16 with fail
          rw [← HW15.out]
          try rw [hB26]
          clear hB26
          go_loopw [130] (fun vk wr => ∃ k : Nat, k ≤ 2 ∧ vk = .int .i64 (k : Int) ∧ Below w15.heap.size w15 wr) (fun vk _ => 2 - (intOf vk).toNat)
          case atStart => exact ⟨0, Nat.zero_le _, rfl, Below.refl _ _⟩
          case round =>
            obtain ⟨k, hk2, rfl, hbr⟩ := hrel
            by_cases hltK : k < 2
            case neg =>
              have hltK3 : (k : Int) = 2 := by omega
              have hgZ : w7.grownBy wr (some dk) := grown_trans hg8 (hg8U _ hbr)
              have hdZ : DeckAt wr dk := hd15.kept (grown_of_below hbr) (fun g e => by cases e)
              clear hpickK hSW hE15 hO15 hH15 hL15 hg8U hB15 hC15 hK15 hd15 hbr
              go_wp2_with fail
              go_roundw
              case rel => exact ⟨j + 1, by omega, by go_num, hdZ, hgZ⟩
              case measure => simp [intOf]; omega
            case pos =>
              as_aux_lemma =>
                have hltK3 : (k : Int) < 2 := by omega
                obtain ⟨aa, cc, vs, hvl, qv, hV15⟩ := hpickK k hltK
                have qv' := (hbr.cell (p := ⟨B26, k, none⟩) (cell_lt qv)).trans qv
                obtain ⟨yl1, -, hSA1, hSB1⟩ := settle_both z' zq xf l lO lH vs hvl
                obtain ⟨yl2, -, hSA2, hSB2⟩ := settle_both z' zq 0 l lO lH vs hvl
                clear hpickK hK15 hd15 hg8U qv
                go_upto_region 18 with fail
                have hbr0 : Below w15.heap.size w15 wr.drew := hbr.drew
                clear qv'
                refine wp_region_heldK (k := 100) (S := fun _ W => W.cell? ⟨B19, 0, none⟩ = some (.int .i64 z') ∧ W.cell? ⟨B19, 1, none⟩ = some (.slice a' l.length c') ∧ W.cell? ⟨B21, 0, none⟩ = some (.int .i64 zq) ∧ W.cell? ⟨B21, 1, none⟩ = some (.slice aO lO.length cO) ∧ W.cell? ⟨B21, 2, none⟩ = some (.slice aH lH.length cH)) (by kernel_rfl) ?_
                refine tkB 0 (.agg #[.int .i64 z', .slice a' l.length c']) true rfl (fun _ h => h) true (hSW _ hbr0) ?_
                try simp only [Act.put, List.getElem_toArray, List.getElem_cons_zero, List.getElem_cons_succ, List.setIfInBounds_toArray, List.set_cons_zero, List.set_cons_succ]
                refine tkB 1 (.agg #[.int .i64 zq, .slice aO lO.length cO, .slice aH lH.length cH]) true rfl (fun _ h => h) true (hSW _ hbr0) ?_
                try simp only [Act.put, List.getElem_toArray, List.getElem_cons_zero, List.getElem_cons_succ, List.setIfInBounds_toArray, List.set_cons_zero, List.set_cons_succ]
                refine tkB 2 (.int .i64 xf) true rfl (fun _ h => h) true (hSW _ hbr0) ?_
                try simp only [Act.put, List.getElem_toArray, List.getElem_cons_zero, List.getElem_cons_succ, List.setIfInBounds_toArray, List.set_cons_zero, List.set_cons_succ]
                refine tkB 3 (.slice aa vs.length cc) true rfl (fun _ h => h) true (hSW _ hbr0) ?_
                try simp only [Act.put, List.getElem_toArray, List.getElem_cons_zero, List.getElem_cons_succ, List.setIfInBounds_toArray, List.set_cons_zero, List.set_cons_succ]
                refine tkB 5 (.agg #[.int .i64 z', .slice a' l.length c']) true rfl (fun _ h => h) true (hSW _ hbr0) ?_
                try simp only [Act.put, List.getElem_toArray, List.getElem_cons_zero, List.getElem_cons_succ, List.setIfInBounds_toArray, List.set_cons_zero, List.set_cons_succ]
                refine tkB 6 (.agg #[.int .i64 zq, .slice aO lO.length cO, .slice aH lH.length cH]) true rfl (fun _ h => h) true (hSW _ hbr0) ?_
                try simp only [Act.put, List.getElem_toArray, List.getElem_cons_zero, List.getElem_cons_succ, List.setIfInBounds_toArray, List.set_cons_zero, List.set_cons_succ]
                refine tkB 7 (.int .i64 xf) true rfl (fun _ h => h) true (hSW _ hbr0) ?_
                try simp only [Act.put, List.getElem_toArray, List.getElem_cons_zero, List.getElem_cons_succ, List.setIfInBounds_toArray, List.set_cons_zero, List.set_cons_succ]
                refine tkB 8 (.slice aa vs.length cc) true rfl (fun _ h => h) true (hSW _ hbr0) ?_
                try simp only [Act.put, List.getElem_toArray, List.getElem_cons_zero, List.getElem_cons_succ, List.setIfInBounds_toArray, List.set_cons_zero, List.set_cons_succ]
                refine wpAnyK_one (i := 4) (by kernel_rfl) rfl (by kernel_rfl) (b := true) (by kernel_rfl) (fun K hK => ?_)
                go_simp
                go_at_call 14
                refine (hSA1 a' aO aH aa c' cO cH cc wr.drew (hE15 _ hbr0) (hO15 _ hbr0) (hH15 _ hbr0) (hL15 _ hbr0) (hV15 _ hbr0)).mono ?_
                rintro e wf1 ⟨ax1, cx1, rfl, hiA1, hbA1⟩
                have hf1 := hbr0.trans (hbA1.mono hbr0.size)
                dsimp only
                refine hK.out _ _ (hSW _ hf1) ?_
                try simp only [Act.put, List.getElem_toArray, List.getElem_cons_zero, List.getElem_cons_succ, List.setIfInBounds_toArray, List.set_cons_zero, List.set_cons_succ]
                refine wpAnyK_one (i := 9) (by kernel_rfl) rfl (by kernel_rfl) (b := true) (by kernel_rfl) (fun K hK => ?_)
                go_simp
                go_at_call 15
                refine (hSB1 a' aO aH aa c' cO cH cc wf1 (hE15 _ hf1) (hO15 _ hf1) (hH15 _ hf1) (hV15 _ hf1)).mono ?_
                rintro e wg1 ⟨bx1, dx1, rfl, hiB1, hbB1⟩
                have hg1 := hf1.trans (hbB1.mono hf1.size)
                dsimp only
                refine hK.out _ _ (hSW _ hg1) ?_
                try simp only [Act.put, List.getElem_toArray, List.getElem_cons_zero, List.getElem_cons_succ, List.setIfInBounds_toArray, List.set_cons_zero, List.set_cons_succ]
                refine wpAnyK_one (i := 10) (by kernel_rfl) rfl (by kernel_rfl) (b := true) (by kernel_rfl) (fun K hK => ?_)
                go_simp
                go_at_call 13
                refine (icmp_same ax1 bx1 cx1 dx1 yl1 wg1 (hiA1.below hbB1) hiB1).mono ?_
                rintro e wh1 ⟨rfl, hbC1⟩
                have hh1 := hg1.trans (hbC1.mono hg1.size)
                dsimp only
                refine hK.out _ _ (hSW _ hh1) ?_
                try simp only [Act.put, List.getElem_toArray, List.getElem_cons_zero, List.getElem_cons_succ, List.setIfInBounds_toArray, List.set_cons_zero, List.set_cons_succ]
                refine tkB 11 (.bool false) true rfl (fun _ h => h) true (hSW _ hh1) ?_
                try simp only [Act.put, List.getElem_toArray, List.getElem_cons_zero, List.getElem_cons_succ, List.setIfInBounds_toArray, List.set_cons_zero, List.set_cons_succ]
                refine tkB 12 (.bool false) true rfl (fun _ h => h) true (hSW _ hh1) ?_
                try simp only [Act.put, List.getElem_toArray, List.getElem_cons_zero, List.getElem_cons_succ, List.setIfInBounds_toArray, List.set_cons_zero, List.set_cons_succ]
                refine tkB 13 (.agg #[.int .i64 z', .slice a' l.length c']) true rfl (fun _ h => h) true (hSW _ hh1) ?_
                try simp only [Act.put, List.getElem_toArray, List.getElem_cons_zero, List.getElem_cons_succ, List.setIfInBounds_toArray, List.set_cons_zero, List.set_cons_succ]
                refine tkB 14 (.agg #[.int .i64 zq, .slice aO lO.length cO, .slice aH lH.length cH]) true rfl (fun _ h => h) true (hSW _ hh1) ?_
                try simp only [Act.put, List.getElem_toArray, List.getElem_cons_zero, List.getElem_cons_succ, List.setIfInBounds_toArray, List.set_cons_zero, List.set_cons_succ]
                refine tkB 15 (.slice aa vs.length cc) true rfl (fun _ h => h) true (hSW _ hh1) ?_
                try simp only [Act.put, List.getElem_toArray, List.getElem_cons_zero, List.getElem_cons_succ, List.setIfInBounds_toArray, List.set_cons_zero, List.set_cons_succ]
                refine tkB 17 (.agg #[.int .i64 z', .slice a' l.length c']) true rfl (fun _ h => h) true (hSW _ hh1) ?_
                try simp only [Act.put, List.getElem_toArray, List.getElem_cons_zero, List.getElem_cons_succ, List.setIfInBounds_toArray, List.set_cons_zero, List.set_cons_succ]
                refine tkB 18 (.agg #[.int .i64 zq, .slice aO lO.length cO, .slice aH lH.length cH]) true rfl (fun _ h => h) true (hSW _ hh1) ?_
                try simp only [Act.put, List.getElem_toArray, List.getElem_cons_zero, List.getElem_cons_succ, List.setIfInBounds_toArray, List.set_cons_zero, List.set_cons_succ]
                refine tkB 19 (.slice aa vs.length cc) true rfl (fun _ h => h) true (hSW _ hh1) ?_
                try simp only [Act.put, List.getElem_toArray, List.getElem_cons_zero, List.getElem_cons_succ, List.setIfInBounds_toArray, List.set_cons_zero, List.set_cons_succ]
                refine wpAnyK_one (i := 16) (by kernel_rfl) rfl (by kernel_rfl) (b := true) (by kernel_rfl) (fun K hK => ?_)
                go_simp
                go_at_call 14
                refine (hSA2 a' aO aH aa c' cO cH cc wh1 (hE15 _ hh1) (hO15 _ hh1) (hH15 _ hh1) (hL15 _ hh1) (hV15 _ hh1)).mono ?_
                rintro e wf2 ⟨ax2, cx2, rfl, hiA2, hbA2⟩
                have hf2 := hh1.trans (hbA2.mono hh1.size)
                dsimp only
                refine hK.out _ _ (hSW _ hf2) ?_
                try simp only [Act.put, List.getElem_toArray, List.getElem_cons_zero, List.getElem_cons_succ, List.setIfInBounds_toArray, List.set_cons_zero, List.set_cons_succ]
                refine wpAnyK_one (i := 20) (by kernel_rfl) rfl (by kernel_rfl) (b := true) (by kernel_rfl) (fun K hK => ?_)
                go_simp
                go_at_call 15
                refine (hSB2 a' aO aH aa c' cO cH cc wf2 (hE15 _ hf2) (hO15 _ hf2) (hH15 _ hf2) (hV15 _ hf2)).mono ?_
                rintro e wg2 ⟨bx2, dx2, rfl, hiB2, hbB2⟩
                have hg2 := hf2.trans (hbB2.mono hf2.size)
                dsimp only
                refine hK.out _ _ (hSW _ hg2) ?_
                try simp only [Act.put, List.getElem_toArray, List.getElem_cons_zero, List.getElem_cons_succ, List.setIfInBounds_toArray, List.set_cons_zero, List.set_cons_succ]
                refine wpAnyK_one (i := 21) (by kernel_rfl) rfl (by kernel_rfl) (b := true) (by kernel_rfl) (fun K hK => ?_)
                go_simp
                go_at_call 13
                refine (icmp_same ax2 bx2 cx2 dx2 yl2 wg2 (hiA2.below hbB2) hiB2).mono ?_
                rintro e wh2 ⟨rfl, hbC2⟩
                have hh2 := hg2.trans (hbC2.mono hg2.size)
                dsimp only
                refine hK.out _ _ (hSW _ hh2) ?_
                try simp only [Act.put, List.getElem_toArray, List.getElem_cons_zero, List.getElem_cons_succ, List.setIfInBounds_toArray, List.set_cons_zero, List.set_cons_succ]
                refine tkB 22 (.bool false) true rfl (fun _ h => h) true (hSW _ hh2) ?_
                try simp only [Act.put, List.getElem_toArray, List.getElem_cons_zero, List.getElem_cons_succ, List.setIfInBounds_toArray, List.set_cons_zero, List.set_cons_succ]
                refine tkB 23 (.bool false) true rfl (fun _ h => h) true (hSW _ hh2) ?_
                try simp only [Act.put, List.getElem_toArray, List.getElem_cons_zero, List.getElem_cons_succ, List.setIfInBounds_toArray, List.set_cons_zero, List.set_cons_succ]
                refine wpAnyK_done (by kernel_rfl) ?_ _
                go_wp2_with fail
                go_roundw
                case rel => exact ⟨k + 1, by omega, by go_num, hh2⟩
                case measure => simp [intOf]; omega
    case neg =>
      have hltI3 : (i : Int) = 2 := by omega
      have hbr := hstay _ hgr
      have hRr := grown_blk hgr hR4 (fun e => by have e1 := Option.some.inj e; omega)
      have hPr := grown_blk hgr hP4 (fun e => by have e1 := Option.some.inj e; omega)
      have hWr := grown_blk hgr hW4 (fun e => by have e1 := Option.some.inj e; omega)
      have hSWr := Stb.step (D1 := fun b => b = dk) hSW3 (hgS _ hgr) (fun b e => .inl e) (fun b h => .inl h)
      have hszr : Bg + 3 ≤ wr.heap.size := by have h1 := hgr.size; omega
      have hS23 : ∀ W : World, wr.grownBy W (some dk) → W.cell? ⟨X, 0, none⟩ = some (.int .i64 zr) ∧ W.cell? ⟨X, 1, none⟩ = some (.slice ar rr.length cr) ∧ W.cell? ⟨X + 1, 0, none⟩ = some (.int .i64 zp) ∧ W.cell? ⟨X + 1, 1, none⟩ = some (.slice ao ow.length co) ∧ W.cell? ⟨X + 1, 2, none⟩ = some (.slice ah hv.length ch) ∧ W.cell? ⟨Bg + 1, 0, none⟩ = some (.int .i64 (n : Int)) ∧ W.cell? ⟨Bg + 1, 1, none⟩ = some (.slice ae es.length ce) ∧ W.cell? ⟨Bg + 1, 2, none⟩ = some (.int .i64 (P : Int)) ∧ W.cell? ⟨Bg + 1, 3, none⟩ = some (.slice bo n c2) ∧ W.cell? ⟨Bg + 1, 4, none⟩ = some (.slice bh vh.length c3) ∧ W.cell? ⟨Bg + 1, 5, none⟩ = some (.slice ak P ck) ∧ W.cell? ⟨Bg + 1, 6, none⟩ = some (.slice ab P cb) := fun U h => by
        have h1 := grown_blk h hRr (fun e => by have e1 := Option.some.inj e; omega)
        have h2 := grown_blk h hPr (fun e => by have e1 := Option.some.inj e; omega)
        have h3 := grown_blk h hWr (fun e => by have e1 := Option.some.inj e; omega)
        exact ⟨cell_blk h1, cell_blk h1, cell_blk h2, cell_blk h2, cell_blk h2, cell_blk h3, cell_blk h3, cell_blk h3, cell_blk h3, cell_blk h3, cell_blk h3, cell_blk h3⟩
      have hgd0 : wr.grownBy wr.drew (some dk) := grown_none (grown_of_below (Below.refl _ _).drew)
      clear hpick hA4 hstay hgS hgr hR4 hP4 hG4 hW4 hb34 hb04 hSE3 hSW3 hlo3 hR3 hP3 hG3 hW3 hb03
      go_upto_region 23 with fail
      refine wp_region_heldK (k := 100) (S := fun _ W => W.cell? ⟨X, 0, none⟩ = some (.int .i64 zr) ∧ W.cell? ⟨X, 1, none⟩ = some (.slice ar rr.length cr) ∧ W.cell? ⟨X + 1, 0, none⟩ = some (.int .i64 zp) ∧ W.cell? ⟨X + 1, 1, none⟩ = some (.slice ao ow.length co) ∧ W.cell? ⟨X + 1, 2, none⟩ = some (.slice ah hv.length ch) ∧ W.cell? ⟨Bg + 1, 0, none⟩ = some (.int .i64 (n : Int)) ∧ W.cell? ⟨Bg + 1, 1, none⟩ = some (.slice ae es.length ce) ∧ W.cell? ⟨Bg + 1, 2, none⟩ = some (.int .i64 (P : Int)) ∧ W.cell? ⟨Bg + 1, 3, none⟩ = some (.slice bo n c2) ∧ W.cell? ⟨Bg + 1, 4, none⟩ = some (.slice bh vh.length c3) ∧ W.cell? ⟨Bg + 1, 5, none⟩ = some (.slice ak P ck) ∧ W.cell? ⟨Bg + 1, 6, none⟩ = some (.slice ab P cb)) (by kernel_rfl) ?_
      refine tkB 0 (.agg #[.int .i64 (n : Int), .slice ae es.length ce, .int .i64 (P : Int), .slice bo n c2, .slice bh vh.length c3, .slice ak P ck, .slice ab P cb]) true rfl (fun _ h => h) true (hS23 _ hgd0) ?_
      try simp only [Act.put, List.getElem_toArray, List.getElem_cons_zero, List.getElem_cons_succ, List.setIfInBounds_toArray, List.set_cons_zero, List.set_cons_succ]
      refine tkB 1 (.pointer (some ⟨dk, 0, none⟩)) true rfl (fun _ h => h) true (hS23 _ hgd0) ?_
      try simp only [Act.put, List.getElem_toArray, List.getElem_cons_zero, List.getElem_cons_succ, List.setIfInBounds_toArray, List.set_cons_zero, List.set_cons_succ]
      refine tkB 2 (.agg #[.int .i64 (n : Int), .slice ae es.length ce, .int .i64 (P : Int), .slice bo n c2, .slice bh vh.length c3, .slice ak P ck, .slice ab P cb]) true rfl (fun _ h => h) true (hS23 _ hgd0) ?_
      try simp only [Act.put, List.getElem_toArray, List.getElem_cons_zero, List.getElem_cons_succ, List.setIfInBounds_toArray, List.set_cons_zero, List.set_cons_succ]
      refine tkB 4 (.agg #[.int .i64 zr, .slice ar rr.length cr]) true rfl (fun _ h => h) true (hS23 _ hgd0) ?_
      try simp only [Act.put, List.getElem_toArray, List.getElem_cons_zero, List.getElem_cons_succ, List.setIfInBounds_toArray, List.set_cons_zero, List.set_cons_succ]
      refine tkB 5 (.agg #[.int .i64 zp, .slice ao ow.length co, .slice ah hv.length ch]) true rfl (fun _ h => h) true (hS23 _ hgd0) ?_
      try simp only [Act.put, List.getElem_toArray, List.getElem_cons_zero, List.getElem_cons_succ, List.setIfInBounds_toArray, List.set_cons_zero, List.set_cons_succ]
      refine tkB 6 (.agg #[.int .i64 zr, .slice ar rr.length cr, .int .i64 zp, .slice ao ow.length co, .slice ah hv.length ch, .slice none 0 0, .slice none 0 0]) true rfl (fun _ h => h) true (hS23 _ hgd0) ?_
      try simp only [Act.put, List.getElem_toArray, List.getElem_cons_zero, List.getElem_cons_succ, List.setIfInBounds_toArray, List.set_cons_zero, List.set_cons_succ]
      refine tkB 9 (.int .i64 0) true rfl (fun _ h => h) true (hS23 _ hgd0) ?_
      try simp only [Act.put, List.getElem_toArray, List.getElem_cons_zero, List.getElem_cons_succ, List.setIfInBounds_toArray, List.set_cons_zero, List.set_cons_succ]
      refine wpAnyK_one (i := 3) (by kernel_rfl) rfl (by kernel_rfl) (b := true) (by kernel_rfl) (fun K hK => ?_)
      go_simp
      go_at_call 16
      refine (bent38_any dk n P es wo vh W _ wr.drew hdr.drew hG hpot (Stb.step hSWr (Fr.of_below (D := fun _ => False) (Below.refl _ _).drew) (fun _ h => h.elim) (fun b h => .inl h))).mono ?_
      rintro e w17 ⟨XB, vb, rfl, hSB, hOB, hd17, hg17'⟩
      obtain ⟨k0, k2, e1, e2, e3, e4, e5, l1, l3, l4, l5, l6, c1', c3', c4', c5', c6', rfl⟩ := hSB.now.shape
      have hg17 : wr.grownBy w17 (some dk) := grown_trans hgd0 hg17'
      dsimp only
      refine hK.out _ _ (hS23 _ hg17) ?_
      try simp only [Act.put, List.getElem_toArray, List.getElem_cons_zero, List.getElem_cons_succ, List.setIfInBounds_toArray, List.set_cons_zero, List.set_cons_succ]
      refine wpAnyK_one (i := 7) (by kernel_rfl) rfl (by kernel_rfl) (b := true) (by kernel_rfl) (fun K hK => ?_)
      go_simp
      have hb18' : Below w17.heap.size w17 (w17.alloc (.cells #[.int .i64 (n : Int), .slice ae es.length ce, .int .i64 (P : Int), .slice bo n c2, .slice bh vh.length c3, .slice ak P ck, .slice ab P cb, .int .i64 k0, .slice e1 l1 c1', .int .i64 k2, .slice e2 l3 c3', .slice e3 l4 c4', .slice e4 l5 c5', .slice e5 l6 c6', .int .i64 zr, .slice ar rr.length cr, .int .i64 zp, .slice ao ow.length co, .slice ah hv.length ch, .slice none 0 0, .slice none 0 0] 36)) := (Below.refl _ _).alloc (Nat.le_refl _) _
      refine hK.out _ _ (hS23 _ (grown_trans hg17 (grown_none (grown_of_below hb18')))) ?_
      try simp only [Act.put, List.getElem_toArray, List.getElem_cons_zero, List.getElem_cons_succ, List.setIfInBounds_toArray, List.set_cons_zero, List.set_cons_succ]
      refine wpAnyK_one (i := 8) (by kernel_rfl) rfl (by kernel_rfl) (b := true) (by kernel_rfl) (fun K hK => ?_)
      go_simp
      refine hK.out _ _ (hS23 _ (grown_trans hg17 (grown_none (grown_of_below hb18')))) ?_
      try simp only [Act.put, List.getElem_toArray, List.getElem_cons_zero, List.getElem_cons_succ, List.setIfInBounds_toArray, List.set_cons_zero, List.set_cons_succ]
      refine wpAnyK_done (by kernel_rfl) ?_ _
      clear hS23 hgd0 hg17' hRr hPr hWr
      obtain ⟨hA18, hb18⟩ := boxG_new w17 #[.int .i64 (n : Int), .slice ae es.length ce, .int .i64 (P : Int), .slice bo n c2, .slice bh vh.length c3, .slice ak P ck, .slice ab P cb, .int .i64 k0, .slice e1 l1 c1', .int .i64 k2, .slice e2 l3 c3', .slice e3 l4 c4', .slice e4 l5 c5', .slice e5 l6 c6', .int .i64 zr, .slice ar rr.length cr, .int .i64 zp, .slice ao ow.length co, .slice ah hv.length ch, .slice none 0 0, .slice none 0 0] 36
      obtain ⟨w18, hw18⟩ : ∃ U : World, U = w17.alloc (.cells #[.int .i64 (n : Int), .slice ae es.length ce, .int .i64 (P : Int), .slice bo n c2, .slice bh vh.length c3, .slice ak P ck, .slice ab P cb, .int .i64 k0, .slice e1 l1 c1', .int .i64 k2, .slice e2 l3 c3', .slice e3 l4 c4', .slice e4 l5 c5', .slice e5 l6 c6', .int .i64 zr, .slice ar rr.length cr, .int .i64 zp, .slice ao ow.length co, .slice ah hv.length ch, .slice none 0 0, .slice none 0 0] 36) := ⟨_, rfl⟩
      rw [← hw18] at hA18 hb18
      have HW18 := Lib.hid hw18
      have hg18 : wr.grownBy w18 (some dk) := grown_trans hg17 (grown_none (grown_of_below hb18))
      have hd18 := hd17.kept (grown_of_below hb18) (fun g e => by cases e)
      obtain ⟨B18, hB18⟩ : ∃ B, w17.heap.size = B := ⟨_, rfl⟩
      rw [hB18] at hA18
      have hsz18 : wr.heap.size ≤ B18 := by have h1 := hg17.size; omega
      have hb018 : Below w.heap.size w w18 := hbr.grown hg18 hbr.size (fun g e => by have e1 := Option.some.inj e; omega)
      have hstay : ∀ U, w18.grownBy U (some dk) → Below w.heap.size w U := fun U hg => hb018.grown hg hb018.size (fun g e => by have e1 := Option.some.inj e; omega)
      have hSB18 := Stb.step (D1 := fun b => b = dk) hSB (Fr.of_below (D := fun _ => False) hb18) (fun _ h => h.elim) (fun b h => .inl h)
      have hSW18 := Stb.step (D1 := fun b => b = dk) hSWr (fr_of_grown hg18) (fun b e => .inl e) (fun b h => .inl h)
      have hpickW : ∀ i, i < 3 → ∃ (XX : WdL) (p0 p2 : Int) (g1 g2 g3 g4 g5 : Option Addr) (r1 r3 r4 r5 r6 s1 s3 s4 s5 s6 : Nat), w18.cell? ⟨B18, i * 7, none⟩ = some (.int .i64 p0) ∧ w18.cell? ⟨B18, i * 7 + 1, none⟩ = some (.slice g1 r1 s1) ∧ w18.cell? ⟨B18, i * 7 + 2, none⟩ = some (.int .i64 p2) ∧ w18.cell? ⟨B18, i * 7 + 3, none⟩ = some (.slice g2 r3 s3) ∧ w18.cell? ⟨B18, i * 7 + 4, none⟩ = some (.slice g3 r4 s4) ∧ w18.cell? ⟨B18, i * 7 + 5, none⟩ = some (.slice g4 r5 s5) ∧ w18.cell? ⟨B18, i * 7 + 6, none⟩ = some (.slice g5 r6 s6) ∧
          BentOk XX ∧ ∀ U, w18.grownBy U (some dk) → WldAt U (.agg #[.int .i64 p0, .slice g1 r1 s1, .int .i64 p2, .slice g2 r3 s3, .slice g3 r4 s4, .slice g4 r5 s5, .slice g5 r6 s6]) XX := fun i hi => by
        match i, hi with
        | 0, _ => exact ⟨wdL n P es wo vh W, _, _, _, _, _, _, _, _, _, _, _, _, _, _, _, _, _, cell_blk hA18, cell_blk hA18, cell_blk hA18, cell_blk hA18, cell_blk hA18, cell_blk hA18, cell_blk hA18, ⟨hG.few, hG.hhl, .inr ⟨n, P, wo, W, rfl, hG, by omega⟩⟩, fun U hg => hSW18 U (fr_of_grown hg)⟩
        | 1, _ => exact ⟨XB, _, _, _, _, _, _, _, _, _, _, _, _, _, _, _, _, _, cell_blk hA18, cell_blk hA18, cell_blk hA18, cell_blk hA18, cell_blk hA18, cell_blk hA18, cell_blk hA18, hOB, fun U hg => hSB18 U (fr_of_grown hg)⟩
        | 2, _ => exact ⟨⟨zr, rr, zp, ow, hv, [], []⟩, _, _, _, _, _, _, _, _, _, _, _, _, _, _, _, _, _, cell_blk hA18, cell_blk hA18, cell_blk hA18, cell_blk hA18, cell_blk hA18, cell_blk hA18, cell_blk hA18, rawW_ok _ _ _ _ _ (by omega) (by omega), fun U hg => raw_at (hrr.below (hstay U hg)) (how.below (hstay U hg)) (hhv.below (hstay U hg))⟩
      clear hw18 hb18 hSB hSB18 hSW18 hSWr hOB hd17 hg17 hdr hbr hb018
      go_upto_region 24 with fail
      rw [← HW18.out]
      try rw [hB18]
      clear hB18
      go_loopw [170] (fun vi wr => ∃ i : Nat, i ≤ 3 ∧ vi = .int .i64 (i : Int) ∧ DeckAt wr dk ∧ w18.grownBy wr (some dk)) (fun vi _ => 3 - (intOf vi).toNat)
      case atStart => exact ⟨0, Nat.zero_le _, rfl, hd18, grown_refl _ _⟩
      case round =>
        clear hd18
        obtain ⟨i, hi3, rfl, hdr, hgr⟩ := hrel
        by_cases hlt4 : i < 3
        case neg =>
          have hlt43 : (i : Int) = 3 := by omega
          have hbe := hstay _ hgr
          clear hpickW hstay hA18
          go_wp2_with fail
          refine (rdawake_any _).mono ?_
          rintro e w99 ⟨rfl, hb99⟩
          go_wp2_with fail
          go_ret
          exact ⟨rfl, hbe.trans (hb99.mono hbe.size)⟩
        case pos =>
          have hlt43 : (i : Int) < 3 := by omega
          obtain ⟨XX, p0, p2, g1, g2, g3, g4, g5, r1, r3, r4, r5, r6, s1, s3, s4, s5, s6, y0', y1', y2', y3', y4', y5', y6', hOK, hWU⟩ := hpickW i hlt4
          have cl : ∀ {o v}, w18.cell? ⟨B18, o, none⟩ = some v → wr.cell? ⟨B18, o, none⟩ = some v := fun h => hgr.cell h (fun e => by have e1 := Option.some.inj e; (try dsimp only at e1); omega)
          have y0 := cl y0'
          have y1 := cl y1'
          have y2 := cl y2'
          have y3 := cl y3'
          have y4 := cl y4'
          have y5 := cl y5'
          have y6 := cl y6'
          clear cl y0' y1' y2' y3' y4' y5' y6' hpickW hA18
          obtain ⟨hB19, hb19⟩ := boxG_new wr #[.int .i64 p0, .slice g1 r1 s1, .int .i64 p2, .slice g2 r3 s3, .slice g3 r4 s4, .slice g4 r5 s5, .slice g5 r6 s6] 36
          obtain ⟨w19, hw19⟩ : ∃ U : World, U = wr.alloc (.cells #[.int .i64 p0, .slice g1 r1 s1, .int .i64 p2, .slice g2 r3 s3, .slice g3 r4 s4, .slice g4 r5 s5, .slice g5 r6 s6] 36) := ⟨_, rfl⟩
          rw [← hw19] at hB19 hb19
          have HW19 := Lib.hid hw19
          obtain ⟨B29, hB29⟩ : ∃ B, wr.heap.size = B := ⟨_, rfl⟩
          have hsz29 : B18 < B29 := by have h1 := cell_lt y0; rw [hB29] at h1; exact h1
          rw [hB29] at hB19
          have hd19 := hdr.kept (grown_of_below hb19) (fun g e => by cases e)
          have hg19 : w18.grownBy w19 (some dk) := grown_trans hgr (grown_none (grown_of_below hb19))
          have hgU : ∀ U, Below w19.heap.size w19 U → w18.grownBy U (some dk) := fun U h => grown_trans hg19 (grown_none (grown_of_below h))
          have hW19 : ∀ U, Below w19.heap.size w19 U → WldAt U (.agg #[.int .i64 p0, .slice g1 r1 s1, .int .i64 p2, .slice g2 r3 s3, .slice g3 r4 s4, .slice g4 r5 s5, .slice g5 r6 s6]) XX := fun U h => hWU U (hgU U h)
          have hSW : ∀ W : World, Below w19.heap.size w19 W → W.cell? ⟨B29, 0, none⟩ = some (.int .i64 p0) ∧ W.cell? ⟨B29, 1, none⟩ = some (.slice g1 r1 s1) ∧ W.cell? ⟨B29, 2, none⟩ = some (.int .i64 p2) ∧ W.cell? ⟨B29, 3, none⟩ = some (.slice g2 r3 s3) ∧ W.cell? ⟨B29, 4, none⟩ = some (.slice g3 r4 s4) ∧ W.cell? ⟨B29, 5, none⟩ = some (.slice g4 r5 s5) ∧ W.cell? ⟨B29, 6, none⟩ = some (.slice g5 r6 s6) := fun U h => ⟨cell_blk (lit_next' h hB19), cell_blk (lit_next' h hB19), cell_blk (lit_next' h hB19), cell_blk (lit_next' h hB19), cell_blk (lit_next' h hB19), cell_blk (lit_next' h hB19), cell_blk (lit_next' h hB19)⟩
          obtain ⟨nl, -, hNA, hNB⟩ := numbers_both XX hOK
          obtain ⟨L, hLl, hRA, hRB⟩ := ready_both XX hOK
          clear hw19 hdr hgr
          go_upto_region 26 with fail
          rw [← HW19.out]
          try rw [hB29]
          clear y0 y1 y2 y3 y4 y5 y6 hb19 hB29
          go_cut [186] from 174 to 187 (fun t wx => t = .bool false ∧ Below w19.heap.size w19 wx)
          case first =>
            as_aux_lemma =>
              have hbd0 : Below w19.heap.size w19 w19.drew := (Below.refl _ _).drew
              refine wp_region_heldK (k := 100) (S := fun _ W => W.cell? ⟨B29, 0, none⟩ = some (.int .i64 p0) ∧ W.cell? ⟨B29, 1, none⟩ = some (.slice g1 r1 s1) ∧ W.cell? ⟨B29, 2, none⟩ = some (.int .i64 p2) ∧ W.cell? ⟨B29, 3, none⟩ = some (.slice g2 r3 s3) ∧ W.cell? ⟨B29, 4, none⟩ = some (.slice g3 r4 s4) ∧ W.cell? ⟨B29, 5, none⟩ = some (.slice g4 r5 s5) ∧ W.cell? ⟨B29, 6, none⟩ = some (.slice g5 r6 s6)) (by kernel_rfl) ?_
              refine tkB 0 (.agg #[.int .i64 p0, .slice g1 r1 s1, .int .i64 p2, .slice g2 r3 s3, .slice g3 r4 s4, .slice g4 r5 s5, .slice g5 r6 s6]) true rfl (fun _ h => h) true (hSW _ hbd0) ?_
              try simp only [Act.put, List.getElem_toArray, List.getElem_cons_zero, List.getElem_cons_succ, List.setIfInBounds_toArray, List.set_cons_zero, List.set_cons_succ]
              refine tkB 2 (.agg #[.int .i64 p0, .slice g1 r1 s1, .int .i64 p2, .slice g2 r3 s3, .slice g3 r4 s4, .slice g4 r5 s5, .slice g5 r6 s6]) true rfl (fun _ h => h) true (hSW _ hbd0) ?_
              try simp only [Act.put, List.getElem_toArray, List.getElem_cons_zero, List.getElem_cons_succ, List.setIfInBounds_toArray, List.set_cons_zero, List.set_cons_succ]
              refine wpAnyK_one (i := 1) (by kernel_rfl) rfl (by kernel_rfl) (b := true) (by kernel_rfl) (fun K hK => ?_)
              go_simp
              go_at_call 17
              refine (rdvalid_any XX _ w19.drew (hW19 _ hbd0) hOK.bm).mono ?_
              rintro e wf1 ⟨rfl, hbvA⟩
              have hf1 := hbd0.trans (hbvA.mono hbd0.size)
              dsimp only
              refine hK.out _ _ (hSW _ hf1) ?_
              try simp only [Act.put, List.getElem_toArray, List.getElem_cons_zero, List.getElem_cons_succ, List.setIfInBounds_toArray, List.set_cons_zero, List.set_cons_succ]
              refine wpAnyK_one (i := 3) (by kernel_rfl) rfl (by kernel_rfl) (b := true) (by kernel_rfl) (fun K hK => ?_)
              go_simp
              go_at_call 18
              refine (valid38_any XX _ wf1 (hW19 _ hf1) hOK.bm).mono ?_
              rintro e wg1 ⟨rfl, hbvB⟩
              have hg1 := hf1.trans (hbvB.mono hf1.size)
              dsimp only
              refine hK.out _ _ (hSW _ hg1) ?_
              try simp only [Act.put, List.getElem_toArray, List.getElem_cons_zero, List.getElem_cons_succ, List.setIfInBounds_toArray, List.set_cons_zero, List.set_cons_succ]
              refine tkB 4 (.bool false) true rfl (fun _ h => h) true (hSW _ hg1) ?_
              try simp only [Act.put, List.getElem_toArray, List.getElem_cons_zero, List.getElem_cons_succ, List.setIfInBounds_toArray, List.set_cons_zero, List.set_cons_succ]
              refine tkB 5 (.bool false) true rfl (fun _ h => h) true (hSW _ hg1) ?_
              try simp only [Act.put, List.getElem_toArray, List.getElem_cons_zero, List.getElem_cons_succ, List.setIfInBounds_toArray, List.set_cons_zero, List.set_cons_succ]
              refine tkB 6 (.agg #[.int .i64 p0, .slice g1 r1 s1, .int .i64 p2, .slice g2 r3 s3, .slice g3 r4 s4, .slice g4 r5 s5, .slice g5 r6 s6]) true rfl (fun _ h => h) true (hSW _ hg1) ?_
              try simp only [Act.put, List.getElem_toArray, List.getElem_cons_zero, List.getElem_cons_succ, List.setIfInBounds_toArray, List.set_cons_zero, List.set_cons_succ]
              refine tkB 8 (.agg #[.int .i64 p0, .slice g1 r1 s1, .int .i64 p2, .slice g2 r3 s3, .slice g3 r4 s4, .slice g4 r5 s5, .slice g5 r6 s6]) true rfl (fun _ h => h) true (hSW _ hg1) ?_
              try simp only [Act.put, List.getElem_toArray, List.getElem_cons_zero, List.getElem_cons_succ, List.setIfInBounds_toArray, List.set_cons_zero, List.set_cons_succ]
              refine wpAnyK_one (i := 7) (by kernel_rfl) rfl (by kernel_rfl) (b := true) (by kernel_rfl) (fun K hK => ?_)
              go_simp
              go_at_call 19
              refine (hNA _ wg1 (hW19 _ hg1)).mono ?_
              rintro e wf2 ⟨ax, cx, rfl, hiA, hbA⟩
              have hf2 := hg1.trans (hbA.mono hg1.size)
              dsimp only
              refine hK.out _ _ (hSW _ hf2) ?_
              try simp only [Act.put, List.getElem_toArray, List.getElem_cons_zero, List.getElem_cons_succ, List.setIfInBounds_toArray, List.set_cons_zero, List.set_cons_succ]
              refine wpAnyK_one (i := 9) (by kernel_rfl) rfl (by kernel_rfl) (b := true) (by kernel_rfl) (fun K hK => ?_)
              go_simp
              go_at_call 20
              refine (hNB _ wf2 (hW19 _ hf2)).mono ?_
              rintro e wg2 ⟨bx, dx, rfl, hiB, hbB⟩
              have hg2 := hf2.trans (hbB.mono hf2.size)
              dsimp only
              refine hK.out _ _ (hSW _ hg2) ?_
              try simp only [Act.put, List.getElem_toArray, List.getElem_cons_zero, List.getElem_cons_succ, List.setIfInBounds_toArray, List.set_cons_zero, List.set_cons_succ]
              refine wpAnyK_one (i := 10) (by kernel_rfl) rfl (by kernel_rfl) (b := true) (by kernel_rfl) (fun K hK => ?_)
              go_simp
              go_at_call 13
              refine (icmp_same ax bx cx dx nl wg2 (hiA.below hbB) hiB).mono ?_
              rintro e wh2 ⟨rfl, hbC⟩
              have hh2 := hg2.trans (hbC.mono hg2.size)
              dsimp only
              refine hK.out _ _ (hSW _ hh2) ?_
              try simp only [Act.put, List.getElem_toArray, List.getElem_cons_zero, List.getElem_cons_succ, List.setIfInBounds_toArray, List.set_cons_zero, List.set_cons_succ]
              refine tkB 11 (.bool false) true rfl (fun _ h => h) true (hSW _ hh2) ?_
              try simp only [Act.put, List.getElem_toArray, List.getElem_cons_zero, List.getElem_cons_succ, List.setIfInBounds_toArray, List.set_cons_zero, List.set_cons_succ]
              refine tkB 12 (.bool false) true rfl (fun _ h => h) true (hSW _ hh2) ?_
              try simp only [Act.put, List.getElem_toArray, List.getElem_cons_zero, List.getElem_cons_succ, List.setIfInBounds_toArray, List.set_cons_zero, List.set_cons_succ]
              refine wpAnyK_done (by kernel_rfl) ?_ _
              clear hbd0 hf1 hg1 hf2 hg2 hiA hiB hbA hbB hbC hbvA hbvB
              go_wp2_with fail
              go_meet
              exact ⟨rfl, hh2⟩
          case rest =>
          obtain ⟨rfl, hh2⟩ := hcut
          clear hNA hNB
          go_upto_region 28 with fail
          go_cut [30, 31] from 187 to 191 (fun p q wx => ∃ (ap aq : Option Addr) (cp cq : Nat), p = .slice ap L.length cp ∧ q = .slice aq L.length cq ∧ RowAt encC wx (.slice ap L.length cp) L ∧ RowAt encC wx (.slice aq L.length cq) L ∧ Below w19.heap.size w19 wx)
          case first =>
            as_aux_lemma =>
              have hbe0 : Below w19.heap.size w19 wc.drew := hh2.drew
              refine wp_region_heldK (k := 100) (S := fun _ W => W.cell? ⟨B29, 0, none⟩ = some (.int .i64 p0) ∧ W.cell? ⟨B29, 1, none⟩ = some (.slice g1 r1 s1) ∧ W.cell? ⟨B29, 2, none⟩ = some (.int .i64 p2) ∧ W.cell? ⟨B29, 3, none⟩ = some (.slice g2 r3 s3) ∧ W.cell? ⟨B29, 4, none⟩ = some (.slice g3 r4 s4) ∧ W.cell? ⟨B29, 5, none⟩ = some (.slice g4 r5 s5) ∧ W.cell? ⟨B29, 6, none⟩ = some (.slice g5 r6 s6)) (by kernel_rfl) ?_
              refine tkB 0 (.agg #[.int .i64 p0, .slice g1 r1 s1, .int .i64 p2, .slice g2 r3 s3, .slice g3 r4 s4, .slice g4 r5 s5, .slice g5 r6 s6]) true rfl (fun _ h => h) true (hSW _ hbe0) ?_
              try simp only [Act.put, List.getElem_toArray, List.getElem_cons_zero, List.getElem_cons_succ, List.setIfInBounds_toArray, List.set_cons_zero, List.set_cons_succ]
              refine tkB 2 (.agg #[.int .i64 p0, .slice g1 r1 s1, .int .i64 p2, .slice g2 r3 s3, .slice g3 r4 s4, .slice g4 r5 s5, .slice g5 r6 s6]) true rfl (fun _ h => h) true (hSW _ hbe0) ?_
              try simp only [Act.put, List.getElem_toArray, List.getElem_cons_zero, List.getElem_cons_succ, List.setIfInBounds_toArray, List.set_cons_zero, List.set_cons_succ]
              refine wpAnyK_one (i := 1) (by kernel_rfl) rfl (by kernel_rfl) (b := true) (by kernel_rfl) (fun K hK => ?_)
              go_simp
              go_at_call 21
              refine (hRA _ wc.drew (hW19 _ hbe0)).mono ?_
              rintro e wf3 ⟨ap, cp, rfl, hiA, hbA⟩
              have hf3 := hbe0.trans (hbA.mono hbe0.size)
              dsimp only
              refine hK.out _ _ (hSW _ hf3) ?_
              try simp only [Act.put, List.getElem_toArray, List.getElem_cons_zero, List.getElem_cons_succ, List.setIfInBounds_toArray, List.set_cons_zero, List.set_cons_succ]
              refine wpAnyK_one (i := 3) (by kernel_rfl) rfl (by kernel_rfl) (b := true) (by kernel_rfl) (fun K hK => ?_)
              go_simp
              go_at_call 22
              refine (hRB _ wf3 (hW19 _ hf3)).mono ?_
              rintro e wg3 ⟨aq, cq, rfl, hiB, hbB⟩
              have hg3 := hf3.trans (hbB.mono hf3.size)
              dsimp only
              refine hK.out _ _ (hSW _ hg3) ?_
              try simp only [Act.put, List.getElem_toArray, List.getElem_cons_zero, List.getElem_cons_succ, List.setIfInBounds_toArray, List.set_cons_zero, List.set_cons_succ]
              refine tkB 4 (.slice ap L.length cp) true rfl (fun _ h => h) true (hSW _ hg3) ?_
              try simp only [Act.put, List.getElem_toArray, List.getElem_cons_zero, List.getElem_cons_succ, List.setIfInBounds_toArray, List.set_cons_zero, List.set_cons_succ]
              refine tkB 5 (.slice aq L.length cq) true rfl (fun _ h => h) true (hSW _ hg3) ?_
              try simp only [Act.put, List.getElem_toArray, List.getElem_cons_zero, List.getElem_cons_succ, List.setIfInBounds_toArray, List.set_cons_zero, List.set_cons_succ]
              refine wpAnyK_done (by kernel_rfl) ?_ _
              go_wp2_with fail
              go_meet
              exact ⟨ap, aq, cp, cq, rfl, rfl, hiA.below hbB, hiB, hg3⟩
          case rest =>
          obtain ⟨ap, aq, cp, cq, rfl, rfl, hpL, hqL, hh3⟩ := hcut
          clear hRA hRB hh2
          have hltL : ¬ ((L.length : Int) ≠ L.length) := fun h => h rfl
          go_upto_region 32 with fail
          have hL46 : L.length ≤ 4096 := hLl
          go_loopw [198] (fun vi wr => ∃ k : Nat, k ≤ L.length ∧ vi = .int .i64 (k : Int) ∧ Below wc.heap.size wc wr) (fun vi _ => L.length - (intOf vi).toNat)
          case atStart => exact ⟨0, Nat.zero_le _, rfl, Below.refl _ _⟩
          case round =>
            obtain ⟨k, hkL, rfl, hb5⟩ := hrel
            by_cases hlt5 : k < L.length
            case pos =>
              have hlt53 : (k : Int) < L.length := by omega
              obtain ⟨b1, o1, ⟨EX, EY⟩, rfl, hx1, hcap1, hc1⟩ := (hpL.below hb5).elem k hlt5
              obtain ⟨b2, o2, x2, rfl, hx2, hcap2, hc2⟩ := (hqL.below hb5).elem k hlt5
              rw [hx1] at hx2
              obtain rfl := Option.some.inj hx2
              have t0 := hc1 0 _ rfl
              have t1 := hc1 1 _ rfl
              have u0 := hc2 0 _ rfl
              have u1 := hc2 1 _ rfl
              have hk2 : encC.k = 2 := rfl
              rw [hk2, Nat.add_zero] at t0 u0
              rw [hk2] at t1 u1
              have heqq := fun W => eq_c2 EX EY W
              clear hc1 hc2 hx1 hpL hqL hk2 hcap1 hcap2
              go_wp2_with fail
              go_quiet (fail)
              have hbn := hb5.drewN nq
              go_wp2_with fail
              go_roundw
              case rel => exact ⟨k + 1, by omega, by go_num, hbn⟩
              case measure => simp [intOf]; omega
            case neg =>
              have hlt53 : ¬ (k : Int) < L.length := by omega
              have hh5 := hh3.trans (hb5.mono hh3.size)
              obtain ⟨wn, hwn⟩ : ∃ U : World, U = wr := ⟨_, rfl⟩
              rw [← hwn] at hh5 ⊢
              clear hwn hb5 hh3 hpL hqL
              have hdn := hd19.kept (grown_of_below hh5) (fun g e => by cases e)
              have hgn := hgU _ hh5
              have hBn := lit_next' hh5 hB19
              clear hh5
              go_wp2_with fail
              refine (next_any dk 4 _ hdn (by omega) (by omega)).mono ?_
              rintro e wn1 ⟨m1, -, -, rfl, hdn1, hgn1⟩
              go_wp2_with fail
              refine (next_any dk 4 _ hdn1 (by omega) (by omega)).mono ?_
              rintro e wn2 ⟨m2, -, -, rfl, hdn2, hgn2⟩
              go_wp2_with fail
              refine (next_any dk 3 _ hdn2 (by omega) (by omega)).mono ?_
              rintro e wn3 ⟨m3, -, -, rfl, hdn3, hgn3⟩
              go_wp2_with fail
              refine (next_any dk 3 _ hdn3 (by omega) (by omega)).mono ?_
              rintro e wn4 ⟨m4, -, -, rfl, hdn4, hgn4⟩
              have hgn5 : w18.grownBy wn4 (some dk) := grown_trans hgn (grown_trans hgn1 (grown_trans hgn2 (grown_trans hgn3 hgn4)))
              have hB5 : wn4.heap[B29]? = _ := grown_blk hgn4 (grown_blk hgn3 (grown_blk hgn2 (grown_blk hgn1 hBn (fun e => by have e1 := Option.some.inj e; omega)) (fun e => by have e1 := Option.some.inj e; omega)) (fun e => by have e1 := Option.some.inj e; omega)) (fun e => by have e1 := Option.some.inj e; omega)
              obtain ⟨hC20, hb20⟩ := boxG_new wn4 #[.int .i64 xf, .int .i64 xt, .int .i64 m1, .int .i64 m2, .int .i64 m3, .int .i64 m4] 54
              obtain ⟨w20, hw20⟩ : ∃ U : World, U = wn4.alloc (.cells #[.int .i64 xf, .int .i64 xt, .int .i64 m1, .int .i64 m2, .int .i64 m3, .int .i64 m4] 54) := ⟨_, rfl⟩
              rw [← hw20] at hC20 hb20
              have HW20 := Lib.hid hw20
              obtain ⟨B20, hB20⟩ : ∃ B, wn4.heap.size = B := ⟨_, rfl⟩
              rw [hB20] at hC20
              have hd20 := hdn4.kept (grown_of_below hb20) (fun g e => by cases e)
              have hg20 : w18.grownBy w20 (some dk) := grown_trans hgn5 (grown_none (grown_of_below hb20))
              have hB20' := lit_next' hb20 hB5
              have hpickC : ∀ k, k < 3 → ∃ (u v : Int), w20.cell? ⟨B20, k * 2, none⟩ = some (.int .i64 u) ∧ w20.cell? ⟨B20, k * 2 + 1, none⟩ = some (.int .i64 v) := fun k hk => by
                match k, hk with
                | 0, _ => exact ⟨xf, xt, cell_blk hC20, cell_blk hC20⟩
                | 1, _ => exact ⟨m1, m2, cell_blk hC20, cell_blk hC20⟩
                | 2, _ => exact ⟨m3, m4, cell_blk hC20, cell_blk hC20⟩
              have hgV : ∀ U, Below w20.heap.size w20 U → w18.grownBy U (some dk) := fun U h => grown_trans hg20 (grown_none (grown_of_below h))
              clear hw20 hdn hdn1 hdn2 hdn3 hdn4 hgn hgn1 hgn2 hgn3 hgn4 hgn5 hb20 hB5 hBn hgU hW19 hSW hd19 hg19
              go_upto_region 38 with fail
              rw [← HW20.out]
              try rw [hB20]
              clear hB20
              go_loopw [226] (fun vi wr => ∃ k : Nat, k ≤ 3 ∧ vi = .int .i64 (k : Int) ∧ Below w20.heap.size w20 wr) (fun vi _ => 3 - (intOf vi).toNat)
              case atStart => exact ⟨0, Nat.zero_le _, rfl, Below.refl _ _⟩
              case round =>
                obtain ⟨k, hk3, rfl, hb6⟩ := hrel
                by_cases hlt6 : k < 3
                case pos =>
                  as_aux_lemma =>
                    have hlt63 : (k : Int) < 3 := by omega
                    obtain ⟨cu, cv, t0', t1'⟩ := hpickC k hlt6
                    have t0 := (hb6.cell (p := ⟨B20, k * 2, none⟩) (cell_lt t0')).trans t0'
                    have t1 := (hb6.cell (p := ⟨B20, k * 2 + 1, none⟩) (cell_lt t1')).trans t1'
                    obtain ⟨hC21, hb21⟩ := boxG_new wr #[.int .i64 cu, .int .i64 cv] 54
                    obtain ⟨w21, hw21⟩ : ∃ U : World, U = wr.alloc (.cells #[.int .i64 cu, .int .i64 cv] 54) := ⟨_, rfl⟩
                    rw [← hw21] at hC21 hb21
                    have HW21 := Lib.hid hw21
                    obtain ⟨B34, hB34⟩ : ∃ B, wr.heap.size = B := ⟨_, rfl⟩
                    rw [hB34] at hC21
                    have hb621 := hb6.trans (hb21.mono hb6.size)
                    have hB21 := lit_next' hb621 hB20'
                    obtain ⟨Y1, f1, hFY, hDA, hDB⟩ := deliver_both XX hOK cu cv
                    clear hw21 t0' t1' hpickC hC20
                    go_upto_region 40 with fail
                    rw [← HW21.out]
                    try rw [hB34]
                    clear hB34 t0 t1
                    obtain ⟨x0, x1, x2, x3, x4, x5, x6⟩ := cells7 hB21
                    have t0 : w21.cell? ⟨B34, 0, none⟩ = some (.int .i64 cu) := cell_blk hC21
                    have t1 : w21.cell? ⟨B34, 1, none⟩ = some (.int .i64 cv) := cell_blk hC21
                    have hcall := hDA _ w21 (hWU _ (hgV _ hb621))
                    go_wp2_with fail
                    refine hcall.mono ?_
                    rintro e w22 ⟨v1, rfl, hv1, hb22⟩
                    obtain ⟨vak, vam, vaa, vab, vac, vad, vae, va1, va3, va4, va5, va6, vao1, vao3, vao4, vao5, vao6, rfl⟩ := hv1.shape
                    obtain ⟨hD23, hb23⟩ := boxG_new w22 #[.int .i64 vak, .slice vaa va1 vao1, .int .i64 vam, .slice vab va3 vao3, .slice vac va4 vao4, .slice vad va5 vao5, .slice vae va6 vao6] 36
                    obtain ⟨w23, hw23⟩ : ∃ U : World, U = w22.alloc (.cells #[.int .i64 vak, .slice vaa va1 vao1, .int .i64 vam, .slice vab va3 vao3, .slice vac va4 vao4, .slice vad va5 vao5, .slice vae va6 vao6] 36) := ⟨_, rfl⟩
                    rw [← hw23] at hD23 hb23
                    have HW23 := Lib.hid hw23
                    obtain ⟨B35, hB35⟩ : ∃ B, w22.heap.size = B := ⟨_, rfl⟩
                    rw [hB35] at hD23
                    have hb213 := hb22.trans (hb23.mono hb22.size)
                    have hb623 := hb621.trans (hb213.mono hb621.size)
                    have hB23 := lit_next' hb213 hB21
                    have hC23 := lit_next' hb213 hC21
                    have hv23 := hv1.below hb23
                    clear hw23 hcall hv1 x0 x1 x2 x3 x4 x5 x6 t0 t1 hb22 hb23 hDA
                    go_upto_region 41 with fail
                    rw [← HW23.out]
                    try rw [hB35]
                    clear hB35
                    obtain ⟨x0, x1, x2, x3, x4, x5, x6⟩ := cells7 hB23
                    have t0 : w23.cell? ⟨B34, 0, none⟩ = some (.int .i64 cu) := cell_blk hC23
                    have t1 : w23.cell? ⟨B34, 1, none⟩ = some (.int .i64 cv) := cell_blk hC23
                    have hcall := hDB _ w23 (hWU _ (hgV _ hb623))
                    go_wp2_with fail
                    refine hcall.mono ?_
                    rintro e w24 ⟨v2, rfl, hv2, hb24⟩
                    obtain ⟨vbk, vbm, vba, vbb, vbc, vbd, vbe, vb1, vb3, vb4, vb5, vb6, vbo1, vbo3, vbo4, vbo5, vbo6, rfl⟩ := hv2.shape
                    obtain ⟨hF25, hb25⟩ := boxG_new w24 #[.int .i64 vbk, .slice vba vb1 vbo1, .int .i64 vbm, .slice vbb vb3 vbo3, .slice vbc vb4 vbo4, .slice vbd vb5 vbo5, .slice vbe vb6 vbo6] 36
                    obtain ⟨w25, hw25⟩ : ∃ U : World, U = w24.alloc (.cells #[.int .i64 vbk, .slice vba vb1 vbo1, .int .i64 vbm, .slice vbb vb3 vbo3, .slice vbc vb4 vbo4, .slice vbd vb5 vbo5, .slice vbe vb6 vbo6] 36) := ⟨_, rfl⟩
                    rw [← hw25] at hF25 hb25
                    have HW25 := Lib.hid hw25
                    obtain ⟨B37, hB37⟩ : ∃ B, w24.heap.size = B := ⟨_, rfl⟩
                    rw [hB37] at hF25
                    have hb235 := hb24.trans (hb25.mono hb24.size)
                    have hb625 := hb623.trans (hb235.mono hb623.size)
                    have hD25 := lit_next' hb235 hD23
                    have hv25 := hv23.below hb235
                    have hv25' := hv2.below hb25
                    clear hw25 hcall hv2 hv23 x0 x1 x2 x3 x4 x5 x6 t0 t1 hb24 hb25 hDB hB21 hC21 hB23 hC23 hD23
                    go_upto_region 42 with fail
                    rw [← HW25.out]
                    try rw [hB37]
                    clear hB37
                    obtain ⟨x0, x1, x2, x3, x4, x5, x6⟩ := cells7 hD25
                    obtain ⟨y0, y1, y2, y3, y4, y5, y6⟩ := cells7 hF25
                    have hcall := same38_any Y1 _ _ w25 hFY hv25 hv25'
                    go_wp2_with fail
                    refine hcall.mono ?_
                    rintro e w26 ⟨rfl, hb26⟩
                    have hb626 := hb625.trans (hb26.mono hb625.size)
                    clear hcall hv25 hv25' x0 x1 x2 x3 x4 x5 x6 y0 y1 y2 y3 y4 y5 y6
                    go_wp2_with fail
                    go_roundw
                    case rel => exact ⟨k + 1, by omega, by go_num, hb626⟩
                    case measure => simp [intOf]; omega
                case neg =>
                  have hlt63 : (k : Int) = 3 := by omega
                  have hgw := hgV _ hb6
                  have hBw := lit_next' hb6 hB20'
                  have hdw := hd20.kept (grown_of_below hb6) (fun g e => by cases e)
                  obtain ⟨wn, hwn⟩ : ∃ U : World, U = wr := ⟨_, rfl⟩
                  rw [← hwn] at hgw hBw hdw ⊢
                  clear hwn hb6 hpickC hC20 hgV hd20 hB20' hg20
                  obtain ⟨x0, x1, x2, x3, x4, x5, x6⟩ := cells7 hBw
                  obtain ⟨Y1, kp, f1, hFY, hPA, hPB⟩ := play_both XX hOK sc
                  obtain ⟨Y2, f2, hFZ, hFA, hFB⟩ := finish_bothS XX hOK
                  have hsU : ∀ U, Below wn.heap.size wn U → IntsAt U (.slice aS sc.length cS) sc ∧ WldAt U (.agg #[.int .i64 p0, .slice g1 r1 s1, .int .i64 p2, .slice g2 r3 s3, .slice g3 r4 s4, .slice g4 r5 s5, .slice g5 r6 s6]) XX := fun U h => ⟨hsc.below (hstay U (grown_trans hgw (grown_none (grown_of_below h)))), hWU U (grown_trans hgw (grown_none (grown_of_below h)))⟩
                  have hcall := hPA _ aS cS wn (hsU _ (Below.refl _ _)).2 (hsU _ (Below.refl _ _)).1
                  go_wp2_with fail
                  refine hcall.mono ?_
                  rintro e wa ⟨v1, rfl, hv1, hba⟩
                  obtain ⟨vak, vam, vaa, vab, vac, vad, vae, va1, va3, va4, va5, va6, vao1, vao3, vao4, vao5, vao6, rfl⟩ := hv1.shape
                  obtain ⟨hDb, hbb⟩ := boxG_new wa #[.int .i64 vak, .slice vaa va1 vao1, .int .i64 vam, .slice vab va3 vao3, .slice vac va4 vao4, .slice vad va5 vao5, .slice vae va6 vao6] 36
                  obtain ⟨wb, hwb⟩ : ∃ U : World, U = wa.alloc (.cells #[.int .i64 vak, .slice vaa va1 vao1, .int .i64 vam, .slice vab va3 vao3, .slice vac va4 vao4, .slice vad va5 vao5, .slice vae va6 vao6] 36) := ⟨_, rfl⟩
                  rw [← hwb] at hDb hbb
                  have HWB := Lib.hid hwb
                  obtain ⟨B39, hB39⟩ : ∃ B, wa.heap.size = B := ⟨_, rfl⟩
                  rw [hB39] at hDb
                  have hbnb := hba.trans (hbb.mono hba.size)
                  have hBb := lit_next' hbnb hBw
                  have hvb := hv1.below hbb
                  have hn39 : wn.heap.size ≤ B39 := by have h1 := hba.size; omega
                  clear hwb hcall hv1 x0 x1 x2 x3 x4 x5 x6 hba hbb hPA
                  go_upto_region 46 with fail
                  rw [← HWB.out]
                  try rw [hB39]
                  clear hB39
                  obtain ⟨x0, x1, x2, x3, x4, x5, x6⟩ := cells7 hBb
                  have hcall := hPB _ aS cS wb (hsU _ hbnb).2 (hsU _ hbnb).1
                  go_wp2_with fail
                  refine hcall.mono ?_
                  rintro e wx ⟨v2, rfl, hv2, hbx⟩
                  obtain ⟨vbk, vbm, vba, vbb, vbc, vbd, vbe, vb1, vb3, vb4, vb5, vb6, vbo1, vbo3, vbo4, vbo5, vbo6, rfl⟩ := hv2.shape
                  obtain ⟨hFd, hbd⟩ := boxG_new wx #[.int .i64 vbk, .slice vba vb1 vbo1, .int .i64 vbm, .slice vbb vb3 vbo3, .slice vbc vb4 vbo4, .slice vbd vb5 vbo5, .slice vbe vb6 vbo6] 36
                  obtain ⟨wd, hwd⟩ : ∃ U : World, U = wx.alloc (.cells #[.int .i64 vbk, .slice vba vb1 vbo1, .int .i64 vbm, .slice vbb vb3 vbo3, .slice vbc vb4 vbo4, .slice vbd vb5 vbo5, .slice vbe vb6 vbo6] 36) := ⟨_, rfl⟩
                  rw [← hwd] at hFd hbd
                  have HWD := Lib.hid hwd
                  obtain ⟨B42, hB42⟩ : ∃ B, wx.heap.size = B := ⟨_, rfl⟩
                  rw [hB42] at hFd
                  have hbbd := hbx.trans (hbd.mono hbx.size)
                  have hbnd := hbnb.trans (hbbd.mono hbnb.size)
                  have hDd := lit_next' hbbd hDb
                  have hvd := hvb.below hbbd
                  have hvd' := hv2.below hbd
                  have h3942 : B39 < B42 := by have h1 := blk_lt hDb; have h2 := hbx.size; omega
                  have hBd := lit_next' hbnd hBw
                  clear hwd hcall hv2 hvb x0 x1 x2 x3 x4 x5 x6 hbx hbd hPB hBb hDb
                  go_upto_region 47 with fail
                  rw [← HWD.out]
                  try rw [hB42]
                  clear hB42
                  obtain ⟨x0, x1, x2, x3, x4, x5, x6⟩ := cells7 hDd
                  obtain ⟨y0, y1, y2, y3, y4, y5, y6⟩ := cells7 hFd
                  have hcall := same38_any Y1 _ _ wd hFY hvd hvd'
                  go_wp2_with fail
                  refine hcall.mono ?_
                  rintro e we ⟨rfl, hbe⟩
                  have hbne := hbnd.trans (hbe.mono hbnd.size)
                  have hBe := lit_next' hbe hBd
                  have hDe := lit_next' hbe hDd
                  have hFe := lit_next' hbe hFd
                  clear hcall hvd hvd' x0 x1 x2 x3 x4 x5 x6 y0 y1 y2 y3 y4 y5 y6 hBd hDd hFd hbnb hbbd hbnd hbe
                  obtain ⟨x0, x1, x2, x3, x4, x5, x6⟩ := cells7 hBe
                  have hcall := hFA _ we (hsU _ hbne).2
                  have hl29 : B29 < wn.heap.size := blk_lt hBw
                  have hl42 : B42 < we.heap.size := blk_lt hFe
                  go_wp2_with fail
                  refine hcall.mono ?_
                  rintro e wf ⟨v3, rfl, hv3, hbf⟩
                  obtain ⟨vck, vcm, vca, vcb, vcc, vcd, vce, vc1, vc3, vc4, vc5, vc6, vco1, vco3, vco4, vco5, vco6, rfl⟩ := hv3.now.shape
                  have hbnf := hbne.trans (hbf.mono hbne.size)
                  have hDf := lit_next' hbf hDe
                  have hFf := lit_next' hbf hFe
                  have hBf := lit_next' hbf hBe
                  obtain ⟨wg, hwg⟩ : ∃ U : World, U = (((((((wf.setCell ⟨B39, 0, none⟩ (.int .i64 vck)).setCell ⟨B39, 1, none⟩ (.slice vca vc1 vco1)).setCell ⟨B39, 2, none⟩ (.int .i64 vcm)).setCell ⟨B39, 3, none⟩ (.slice vcb vc3 vco3)).setCell ⟨B39, 4, none⟩ (.slice vcc vc4 vco4)).setCell ⟨B39, 5, none⟩ (.slice vcd vc5 vco5)).setCell ⟨B39, 6, none⟩ (.slice vce vc6 vco6)) := ⟨_, rfl⟩
                  have hDg := set7all (d0 := (.int .i64 vck)) (d1 := (.slice vca vc1 vco1)) (d2 := (.int .i64 vcm)) (d3 := (.slice vcb vc3 vco3)) (d4 := (.slice vcc vc4 vco4)) (d5 := (.slice vcd vc5 vco5)) (d6 := (.slice vce vc6 vco6)) hDf
                  have hgg := set7_grown wf B39 (.int .i64 vck) (.slice vca vc1 vco1) (.int .i64 vcm) (.slice vcb vc3 vco3) (.slice vcc vc4 vco4) (.slice vcd vc5 vco5) (.slice vce vc6 vco6)
                  have hfg := set7_fr wf B39 (.int .i64 vck) (.slice vca vc1 vco1) (.int .i64 vcm) (.slice vcb vc3 vco3) (.slice vcc vc4 vco4) (.slice vcd vc5 vco5) (.slice vce vc6 vco6)
                  rw [← hwg] at hDg hgg hfg
                  have HWG := Lib.hid hwg
                  have hBg2 := grown_blk hgg hBf (fun e => by have e1 := Option.some.inj e; omega)
                  have hFg := grown_blk hgg hFf (fun e => by have e1 := Option.some.inj e; omega)
                  have hgwg : w18.grownBy wg (some dk) := grown_fr (grown_trans hgw (grown_none (grown_of_below hbnf))) hfg (fun b e => by have h1 := hgw.size; omega)
                  have hwfs := hbnf.size
                  have hdg2 := (hdw.kept (grown_of_below hbnf) (fun g e => by cases e)).kept hgg (fun g e => by have e1 := Option.some.inj e; have h1 := hdw.lt; omega)
                  obtain ⟨y0, y1, y2, y3, y4, y5, y6⟩ := cells7 hDf
                  obtain ⟨fr0, fr1, fr2, fr3, fr4, fr5, fr6⟩ := frees7 hDf
                  clear hwg hcall x0 x1 x2 x3 x4 x5 x6 hBe hDe hFe hbne hFA hBf hFf
                  go_upto_region 50 with fail
                  rw [← HWG.out]
                  clear y0 y1 y2 y3 y4 y5 y6 fr0 fr1 fr2 fr3 fr4 fr5 fr6
                  obtain ⟨x0, x1, x2, x3, x4, x5, x6⟩ := cells7 hBg2
                  have hl42g : B42 < wg.heap.size := blk_lt hFg
                  have hcall := hFB _ (fun b => b = B42) wg (fun U hU => hWU U (grown_fr hgwg hU (fun b e => by have h1 := hgw.size; omega))) (fun b e => by omega)
                  go_wp2_with fail
                  refine hcall.mono ?_
                  rintro e wh ⟨v4, rfl, hv4, hbh⟩
                  obtain ⟨vdk, vdm, vda, vdb, vdc, vdd, vde, vd1, vd3, vd4, vd5, vd6, vdo1, vdo3, vdo4, vdo5, vdo6, rfl⟩ := hv4.now.shape
                  have hDh := lit_next' hbh hDg
                  have hFh := lit_next' hbh hFg
                  obtain ⟨wi, hwi⟩ : ∃ U : World, U = (((((((wh.setCell ⟨B42, 0, none⟩ (.int .i64 vdk)).setCell ⟨B42, 1, none⟩ (.slice vda vd1 vdo1)).setCell ⟨B42, 2, none⟩ (.int .i64 vdm)).setCell ⟨B42, 3, none⟩ (.slice vdb vd3 vdo3)).setCell ⟨B42, 4, none⟩ (.slice vdc vd4 vdo4)).setCell ⟨B42, 5, none⟩ (.slice vdd vd5 vdo5)).setCell ⟨B42, 6, none⟩ (.slice vde vd6 vdo6)) := ⟨_, rfl⟩
                  have hFi := set7all (d0 := (.int .i64 vdk)) (d1 := (.slice vda vd1 vdo1)) (d2 := (.int .i64 vdm)) (d3 := (.slice vdb vd3 vdo3)) (d4 := (.slice vdc vd4 vdo4)) (d5 := (.slice vdd vd5 vdo5)) (d6 := (.slice vde vd6 vdo6)) hFh
                  have hgi := set7_grown wh B42 (.int .i64 vdk) (.slice vda vd1 vdo1) (.int .i64 vdm) (.slice vdb vd3 vdo3) (.slice vdc vd4 vdo4) (.slice vdd vd5 vdo5) (.slice vde vd6 vdo6)
                  have hfi := set7_fr wh B42 (.int .i64 vdk) (.slice vda vd1 vdo1) (.int .i64 vdm) (.slice vdb vd3 vdo3) (.slice vdc vd4 vdo4) (.slice vdd vd5 vdo5) (.slice vde vd6 vdo6)
                  rw [← hwi] at hFi hgi hfi
                  have HWI := Lib.hid hwi
                  have hDi := grown_blk hgi hDh (fun e => by have e1 := Option.some.inj e; omega)
                  have hgwi : w18.grownBy wi (some dk) := grown_fr (grown_trans hgwg (grown_none (grown_of_below hbh))) hfi (fun b e => by have h1 := hgw.size; omega)
                  have hdi := (hdg2.kept (grown_of_below hbh) (fun g e => by cases e)).kept hgi (fun g e => by have e1 := Option.some.inj e; have h1 := hdw.lt; omega)
                  have hv4i := hv4 wi hfi
                  have hv3i := hv3 wi (((hfg.mono (fun b e => by have h1 : b = B39 := e; omega : ∀ b, b = B39 → b < we.heap.size)).trans (Fr.of_below (D := fun _ => False) hbh) (fun b h => h.elim)).trans hfi (fun b e => .inl (by omega)))
                  obtain ⟨y0, y1, y2, y3, y4, y5, y6⟩ := cells7 hFh
                  obtain ⟨fr0, fr1, fr2, fr3, fr4, fr5, fr6⟩ := frees7 hFh
                  clear hwi hcall x0 x1 x2 x3 x4 x5 x6 hFB hv3 hv4
                  go_upto_region 51 with fail
                  rw [← HWI.out]
                  clear y0 y1 y2 y3 y4 y5 y6 fr0 fr1 fr2 fr3 fr4 fr5 fr6
                  obtain ⟨x0, x1, x2, x3, x4, x5, x6⟩ := cells7 hDi
                  as_aux_lemma =>
                    obtain ⟨y0, y1, y2, y3, y4, y5, y6⟩ := cells7 hFi
                    have hcall := same38_any Y2 _ _ wi hFZ hv3i hv4i
                    go_wp2_with fail
                    refine hcall.mono ?_
                    rintro e wj ⟨rfl, hbj⟩
                    have hgwj : w18.grownBy wj (some dk) := grown_trans hgwi (grown_none (grown_of_below hbj))
                    have hdj := hdi.kept (grown_of_below hbj) (fun g e => by cases e)
                    clear hcall x0 x1 x2 x3 x4 x5 x6 y0 y1 y2 y3 y4 y5 y6
                    go_wp2_with fail
                    go_roundw
                    case rel => exact ⟨i + 1, by omega, by go_num, hdj, hgwj⟩
                    case measure => simp [intOf]; omega
end Go.Proofs.YtdkmdcdoiaelfaaGreat
