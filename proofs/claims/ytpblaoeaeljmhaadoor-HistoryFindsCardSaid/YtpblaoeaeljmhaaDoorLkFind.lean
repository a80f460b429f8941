/- The contracts of the search for a link, and of what an event must fit. -/
import Derived.Test.YtpblaoeaeljmhaaDoorLkChk
import Derived.Test.YtpblaoeaeljmhaaDoorLkSlices
namespace Go.Proofs.YtpblaoeaeljmhaaDoor
open Go.RowKit Go.BigFrame

set_option maxRecDepth 100000 in
theorem lfits_any (n : Int) (e : Ev) (w : World) : Calls Tryd.prog 47 #[.int .i64 n, .agg e.cells] w fun x w' => x = .returned (.int .i64 (fitS n e)) ∧ Below w.heap.size w w' := by
  have hck := fun W => evcheck_any e W
  unfold fitS
  obtain ⟨R, hR⟩ : ∃ R, evS e = R := ⟨_, rfl⟩
  rw [hR] at hck ⊢
  clear hR
  obtain ⟨k, t, u, v, a, b, c⟩ := e
  unfold Ev.cells at *
  dsimp only at *
  have hb0 : Below w.heap.size w (w.alloc (.cells #[.int .i64 k, .int .i64 t, .int .i64 u, .int .i64 v, .int .i64 a, .int .i64 b, .int .i64 c] 41)) := (Below.refl _ _).alloc (Nat.le_refl _) _
  have hG0 : (w.alloc (.cells #[.int .i64 k, .int .i64 t, .int .i64 u, .int .i64 v, .int .i64 a, .int .i64 b, .int .i64 c] 41)).heap[w.heap.size]? = some (.cells #[.int .i64 k, .int .i64 t, .int .i64 u, .int .i64 v, .int .i64 a, .int .i64 b, .int .i64 c] 41 (0, 0)) := heap_alloc_new _ _
  by_cases hz : R = 0
  case neg =>
    have d1 : (R != 0) = true := by simpa using hz
    rw [if_pos hz]
    clear hz
    go_enter Tryd.func47, Tryd.ntmps47
    go_wp2_with fail
    refine (hck _).mono ?_
    rintro x w1 ⟨rfl, hb1⟩
    go_wp2_with fail
    go_ret
    exact ⟨rfl, hb0.trans (hb1.mono hb0.size)⟩
  subst hz
  rw [if_neg (by simp)]
  by_cases hu : n ≤ u
  · have d1 : decide (n ≤ u) = true := decide_eq_true hu
    rw [if_pos (.inl hu)]
    clear hu
    go_enter Tryd.func47, Tryd.ntmps47
    go_wp2_with fail
    refine (hck _).mono ?_
    rintro x w1 ⟨rfl, hb1⟩
    have hG1 := lk_next hb1 hG0
    have c2 := cell_blk (j := 2) hG1
    go_wp2_with fail
    go_ret
    exact ⟨rfl, hb0.trans (hb1.mono hb0.size)⟩
  · have d1 : decide (n ≤ u) = false := decide_eq_false hu
    by_cases hv : n ≤ v
    · have d2 : decide (n ≤ v) = true := decide_eq_true hv
      rw [if_pos (.inr hv)]
      clear hu hv
      go_enter Tryd.func47, Tryd.ntmps47
      go_wp2_with fail
      refine (hck _).mono ?_
      rintro x w1 ⟨rfl, hb1⟩
      have hG1 := lk_next hb1 hG0
      have c2 := cell_blk (j := 2) hG1
      have c3 := cell_blk (j := 3) hG1
      go_wp2_with fail
      go_ret
      exact ⟨rfl, hb0.trans (hb1.mono hb0.size)⟩
    · have d2 : decide (n ≤ v) = false := decide_eq_false hv
      rw [if_neg (by omega)]
      clear hu hv
      go_enter Tryd.func47, Tryd.ntmps47
      go_wp2_with fail
      refine (hck _).mono ?_
      rintro x w1 ⟨rfl, hb1⟩
      have hG1 := lk_next hb1 hG0
      have c2 := cell_blk (j := 2) hG1
      have c3 := cell_blk (j := 3) hG1
      go_wp2_with fail
      go_ret
      exact ⟨rfl, hb0.trans (hb1.mono hb0.size)⟩
theorem gone_any (l : Lk) (t : Int) (w : World) : Calls Tryd.prog 70 #[.agg l.cells, .int .i64 t] w fun e w' => e = .returned (.agg (cutEv l t).cells) ∧ Below w.heap.size w w' := by
  obtain ⟨u, v, a1, a2, a3, a4⟩ := l
  unfold Lk.cells Ev.cells cutEv
  dsimp only
  go_enter Tryd.func70, Tryd.ntmps70
  go_wp2
  exact bodyPost_ret (v := .agg #[.int .i64 2, .int .i64 t, .int .i64 u, .int .i64 v, .int .i64 0, .int .i64 0, .int .i64 0]) (by simp [results, Tryd.results70, go_sem]) rfl ⟨rfl, ((Below.refl _ _).alloc (Nat.le_refl _) _).alloc (by simp) _⟩
/-- all ahead of i lie before t, none from j on -/
def BsL (ls : List Lk) (t : Lk) (i j : Nat) : Prop := (∀ k e, k < i → ls[k]? = some e → lkB e t = true) ∧ ∀ k e, j ≤ k → ls[k]? = some e → lkB e t = false
theorem BsL.up {ls : List Lk} {t : Lk} {i j m : Nat} (h : BsL ls t i j) (hs : ls.Pairwise fun a b => lkB a b = true) {e : Lk} (he : ls[m]? = some e) (hb : lkB e t = true) : BsL ls t (m + 1) j := by
  refine ⟨fun k x hk hx => ?_, h.2⟩
  by_cases hkm : k = m
  · subst hkm; rw [he] at hx; cases hx; exact hb
  · obtain ⟨h1, rfl⟩ := List.getElem?_eq_some_iff.1 hx
    obtain ⟨h2, rfl⟩ := List.getElem?_eq_some_iff.1 he
    exact lkB_trans (List.pairwise_iff_getElem.1 hs k m h1 h2 (by omega)) hb
theorem BsL.down {ls : List Lk} {t : Lk} {i j m : Nat} (h : BsL ls t i j) (hs : ls.Pairwise fun a b => lkB a b = true) {e : Lk} (he : ls[m]? = some e) (hb : lkB e t = false) : BsL ls t i m := by
  refine ⟨h.1, fun k x hk hx => ?_⟩
  by_cases hkm : k = m
  · subst hkm; rw [he] at hx; cases hx; exact hb
  · obtain ⟨h1, rfl⟩ := List.getElem?_eq_some_iff.1 hx
    obtain ⟨h2, rfl⟩ := List.getElem?_eq_some_iff.1 he
    cases hbx : lkB ls[k] t with
    | false => rfl
    | true =>
      have := lkB_trans (List.pairwise_iff_getElem.1 hs m k h2 h1 (by omega)) hbx
      rw [hb] at this; cases this
/-- whether a link of the target's edge lies at i -/
def thereB (ls : List Lk) (t : Lk) (i : Nat) : Bool := match ls[i]? with
  | none => false
  | some x => sameE x t
theorem sameE_iff (a b : Lk) : sameE a b = true ↔ a.u = b.u ∧ a.v = b.v := by simp [sameE]
set_option maxRecDepth 100000 in
set_option maxHeartbeats 3200000 in
theorem lbsearch_any (ls : List Lk) (t : Lk) (a : Option Addr) (cap : Nat) (w : World) (hl : RowAt encLk w (.slice a ls.length cap) ls) (hln : ls.length ≤ 100000) :
    Calls Tryd.prog 35 #[.slice a ls.length cap, .agg t.cells, .func (.func 36) #[] #[]] w fun e w' => ∃ i : Nat, e = .returned (.tuple #[.int .i64 i, .bool (thereB ls t i)]) ∧ i ≤ ls.length ∧ (ls.Pairwise (fun a b => lkB a b = true) → BsL ls t i i) ∧ Below w.heap.size w w' := by
  have hord := fun p W => lorder_any p t W
  have hzr := fun p => lkO_zero p t
  have hng := fun p => lkO_neg p t
  obtain ⟨T, hTT⟩ : ∃ T, t = T := ⟨_, rfl⟩
  rw [hTT]
  have HTT := Lib.hid hTT
  clear hTT
  rw [HTT.out] at hord hzr hng
  have hTc : T.cells = #[.int .i64 T.u, .int .i64 T.v, .int .i64 T.weight, .int .i64 T.label, .int .i64 T.sign, .int .i64 T.time] := rfl
  have hb1 : Below w.heap.size w (w.alloc (.cells #[.int .i64 T.u, .int .i64 T.v, .int .i64 T.weight, .int .i64 T.label, .int .i64 T.sign, .int .i64 T.time] 69)) := (Below.refl _ _).alloc (Nat.le_refl _) _
  have hT := heap_alloc_new w (.cells #[.int .i64 T.u, .int .i64 T.v, .int .i64 T.weight, .int .i64 T.label, .int .i64 T.sign, .int .i64 T.time] 69)
  have he1 := hl.below hb1
  have hz1 := blk_lt hT
  unfold Lk.cells at hord ⊢
  obtain ⟨tu, h⟩ : ∃ z, T.u = z := ⟨_, rfl⟩
  obtain ⟨tv, h'⟩ : ∃ z, T.v = z := ⟨_, rfl⟩
  obtain ⟨tw, h''⟩ : ∃ z, T.weight = z := ⟨_, rfl⟩
  obtain ⟨tl, h3⟩ : ∃ z, T.label = z := ⟨_, rfl⟩
  obtain ⟨ts, h4⟩ : ∃ z, T.sign = z := ⟨_, rfl⟩
  obtain ⟨tt, h5⟩ : ∃ z, T.time = z := ⟨_, rfl⟩
  rw [h, h', h'', h3, h4, h5] at hord hb1 hT he1 hz1 ⊢
  clear hTc h h' h'' h3 h4 h5 HTT
  go_enter Tryd.func35, Tryd.ntmps35
  go_wp2_with fail
  obtain ⟨w1, hw1⟩ : ∃ W : World, W = w.alloc (.cells #[.int .i64 tu, .int .i64 tv, .int .i64 tw, .int .i64 tl, .int .i64 ts, .int .i64 tt] 69) := ⟨_, rfl⟩
  rw [← hw1] at hb1 hT he1 hz1 ⊢
  clear hw1
  go_loopw [9, 10] (fun vi vj wr => ∃ i j : Nat, vi = .int .i64 i ∧ vj = .int .i64 j ∧ i ≤ j ∧ j ≤ ls.length ∧ Hid (ls.Pairwise (fun a b => lkB a b = true) → BsL ls T i j) ∧ Below w1.heap.size w1 wr) (fun vi vj _ => (intOf vj).toNat - (intOf vi).toNat)
  case atStart => exact ⟨0, ls.length, rfl, rfl, Nat.zero_le _, Nat.le_refl _, (show _ from fun _ => ⟨fun k e hk => by omega, fun k e hk hx => by have := (List.getElem?_eq_some_iff.1 hx).1; omega⟩), Below.refl _ _⟩
  case round =>
    obtain ⟨i, j, rfl, rfl, hij, hjl, HI, hb⟩ := hrel
    have hTr := lk_next hb hT
    have her := he1.below hb
    obtain ⟨t0, t1, t2, t3, t4, t5⟩ := cells6 hTr
    have xt : ∀ (g j : Nat) (v : Value), wr.cell? ⟨g, j, none⟩ = some v → ∀ z : Ext wr.heap.size wr, z.world.cell? ⟨g, j, none⟩ = some v := fun g j v h z => (z.below.cell (p := ⟨g, j, none⟩) (cell_lt h)).trans h
    have e0 := xt _ _ _ t0
    have e1 := xt _ _ _ t1
    have e2 := xt _ _ _ t2
    have e3 := xt _ _ _ t3
    have e4 := xt _ _ _ t4
    have e5 := xt _ _ _ t5
    by_cases hlt : i < j
    · obtain ⟨m, hm⟩ : ∃ m : Nat, ((i : Int) + (j : Int)) / 2 = (m : Int) := ⟨(i + j) / 2, by omega⟩
      have hmb : i ≤ m ∧ m < j := by omega
      have hml : m < ls.length := by omega
      obtain ⟨b, off, x, rfl, hx, hcap, c0, c1, c2, c3, c4, c5⟩ := lk_at her m hml
      have f0 := xt _ _ _ c0
      have f1 := xt _ _ _ c1
      have f2 := xt _ _ _ c2
      have f3 := xt _ _ _ c3
      have f4 := xt _ _ _ c4
      have f5 := xt _ _ _ c5
      have HX := Lib.hid hx
      have hcO := hord x
      have hnx := hng x
      obtain ⟨Z, hZ⟩ : ∃ Z, lkO x T = Z := ⟨_, rfl⟩
      rw [hZ] at hcO hnx
      obtain ⟨D, hD⟩ : ∃ D, lkB x T = D := ⟨_, rfl⟩
      rw [hD] at hnx
      have HD := Lib.hid hD
      have d1 : decide (Z < 0) = D := by
        cases D with
        | true => exact decide_eq_true (hnx.2 rfl)
        | false => exact decide_eq_false fun h => by have := hnx.1 h; cases this
      clear hx hZ hD hnx xt hord hzr hng c0 c1 c2 c3 c4 c5
      obtain ⟨xu, xv, x1, x2, x3, x4⟩ := x
      dsimp only at f0 f1 f2 f3 f4 f5 hcO
      cases D
      all_goals
        go_wp2_with fail
        refine wp_region_ext wr.heap.size wr (by kernel_rfl) (by kernel_rfl) (Below.refl _ _) ?_
        try simp only [List.append_eq, List.cons_append, List.nil_append]
        repeat (go_big_quiet_step ((go_at_call 36; exact Calls.ext_of (Nat.le_refl _) (hcO _))))
        refine wpQuiet_nil ?_
        rintro _ ⟨⟨wq, hq⟩, rfl⟩
        clear e0 e1 e2 e3 e4 e5 f0 f1 f2 f3 f4 f5
        go_wp2_with fail
        go_roundw
        case rel => first
          | exact ⟨i, m, rfl, rfl, hmb.1, by omega, (show _ from fun hs => (HI.out hs).down hs HX.out HD.out), hb.trans (hq.mono hb.size)⟩
          | exact ⟨m + 1, j, by go_num, rfl, by omega, hjl, (show _ from fun hs => (HI.out hs).up hs HX.out HD.out), hb.trans (hq.mono hb.size)⟩
        case measure => simp [intOf]; omega
    · obtain rfl : i = j := by omega
      by_cases hil : i < ls.length
      · obtain ⟨b, off, x, rfl, hx, hcap, c0, c1, c2, c3, c4, c5⟩ := lk_at her i hil
        have f0 := xt _ _ _ c0
        have f1 := xt _ _ _ c1
        have f2 := xt _ _ _ c2
        have f3 := xt _ _ _ c3
        have f4 := xt _ _ _ c4
        have f5 := xt _ _ _ c5
        have hcO := hord x
        have hzx := hzr x
        obtain ⟨Z, hZ⟩ : ∃ Z, lkO x T = Z := ⟨_, rfl⟩
        rw [hZ] at hcO hzx
        have hth : thereB ls T i = sameE x T := by unfold thereB; rw [hx]
        have d1 : (Z == 0) = thereB ls T i := by
          rw [hth, Bool.eq_iff_iff, sameE_iff, ← hzx]; simp
        have d2 : decide (i < ls.length) = true := decide_eq_true hil
        have d3 : decide ((i : Int) < (ls.length : Int)) = true := decide_eq_true (by omega)
        obtain ⟨TB, hTB⟩ : ∃ B, thereB ls T i = B := ⟨_, rfl⟩
        rw [hTB] at d1
        have HTB := Lib.hid hTB
        clear hx hZ hth hzx hTB xt hord hzr hng c0 c1 c2 c3 c4 c5
        obtain ⟨xu, xv, x1, x2, x3, x4⟩ := x
        dsimp only at f0 f1 f2 f3 f4 f5 hcO
        go_wp2_with fail
        refine wp_region_ext wr.heap.size wr (by kernel_rfl) (by kernel_rfl) (Below.refl _ _) ?_
        try simp only [List.append_eq, List.cons_append, List.nil_append]
        repeat (go_big_quiet_step ((go_at_call 36; exact Calls.ext_of (Nat.le_refl _) (hcO _))))
        refine wpQuiet_nil ?_
        rintro _ ⟨⟨wq, hq⟩, rfl⟩
        clear e0 e1 e2 e3 e4 e5 f0 f1 f2 f3 f4 f5
        go_wp2_with fail
        go_ret2
        exact ⟨i, by rw [HTB.out]; rfl, hjl, HI.out, (hb1.trans (hb.mono hb1.size)).trans (hq.mono (Nat.le_trans hb1.size hb.size))⟩
      · have d2 : decide (i < ls.length) = false := decide_eq_false hil
        have d3 : decide ((i : Int) < (ls.length : Int)) = false := decide_eq_false (by omega)
        have hTB : thereB ls T i = false := by unfold thereB; rw [List.getElem?_eq_none (by omega)]
        have HTB := Lib.hid hTB
        clear hTB xt hord hzr hng
        go_wp2_with fail
        refine wp_region_ext wr.heap.size wr (by kernel_rfl) (by kernel_rfl) (Below.refl _ _) ?_
        try simp only [List.append_eq, List.cons_append, List.nil_append]
        repeat (go_big_quiet_step (fail))
        refine wpQuiet_nil ?_
        rintro _ ⟨⟨wq, hq⟩, rfl⟩
        clear e0 e1 e2 e3 e4 e5
        go_wp2_with fail
        go_ret2
        exact ⟨i, by rw [HTB.out]; rfl, hjl, HI.out, (hb1.trans (hb.mono hb1.size)).trans (hq.mono (Nat.le_trans hb1.size hb.size))⟩
end Go.Proofs.YtpblaoeaeljmhaaDoor
