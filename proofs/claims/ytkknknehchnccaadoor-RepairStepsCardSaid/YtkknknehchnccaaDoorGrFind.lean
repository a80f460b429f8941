/- The contracts of the program's search for an edge. -/
import Derived.Test.YtkknknehchnccaaDoorGraphCheck
import Derived.Test.YtkknknehchnccaaDoorMasks
import Derived.BigQuiet
import Derived.Lib.Hide
namespace Go.Proofs.YtkknknehchnccaaDoor
open Go.RowKit Go.BigFrame

theorem gedge_any (u v : Int) (w : World) :
    Calls Tryd.prog 122 #[.int .i64 u, .int .i64 v] w fun e w' => e = .returned (.agg #[.int .i64 (min u v), .int .i64 (max u v)]) ∧ Below w.heap.size w w' := by
  go_enter Tryd.func122, Tryd.ntmps122
  go_wp2
  refine bodyPost_ret (v := .agg #[.int .i64 (min u v), .int .i64 (max u v)]) (by simp [results, Tryd.results122, go_sem]) rfl ⟨rfl, (Below.refl _ _).alloc (Nat.le_refl _) _⟩
theorem lit_next' {w w' : World} {g : Nat} {o : Obj} (hb : Below w.heap.size w w') (h : w.heap[g]? = some o) : w'.heap[g]? = some o := (hb.block g (blk_lt h)).trans h
/-- all ahead of i lie before t, none from j on -/
def BsI (es : List E2) (t : E2) (i j : Nat) : Prop := (∀ k e, k < i → es[k]? = some e → beforeB e t = true) ∧ ∀ k e, j ≤ k → es[k]? = some e → beforeB e t = false
theorem BsI.up {es : List E2} {t : E2} {i j m : Nat} (h : BsI es t i j) (hs : es.Pairwise fun a b => beforeB a b = true) {e : E2} (he : es[m]? = some e) (hb : beforeB e t = true) : BsI es t (m + 1) j := by
  refine ⟨fun k x hk hx => ?_, h.2⟩
  by_cases hkm : k = m
  · subst hkm; rw [he] at hx; cases hx; exact hb
  · obtain ⟨h1, rfl⟩ := List.getElem?_eq_some_iff.1 hx
    obtain ⟨h2, rfl⟩ := List.getElem?_eq_some_iff.1 he
    exact before_trans (List.pairwise_iff_getElem.1 hs k m h1 h2 (by omega)) hb
theorem BsI.down {es : List E2} {t : E2} {i j m : Nat} (h : BsI es t i j) (hs : es.Pairwise fun a b => beforeB a b = true) {e : E2} (he : es[m]? = some e) (hb : beforeB e t = false) : BsI es t i m := by
  refine ⟨h.1, fun k x hk hx => ?_⟩
  by_cases hkm : k = m
  · subst hkm; rw [he] at hx; cases hx; exact hb
  · obtain ⟨h1, rfl⟩ := List.getElem?_eq_some_iff.1 hx
    obtain ⟨h2, rfl⟩ := List.getElem?_eq_some_iff.1 he
    cases hbx : beforeB es[k] t with
    | false => rfl
    | true =>
      have := before_trans (List.pairwise_iff_getElem.1 hs m k h2 h1 (by omega)) hbx
      rw [hb] at this; cases this
set_option maxRecDepth 100000 in
set_option maxHeartbeats 3200000 in
theorem bsearch_any (es : List E2) (t : E2) (a : Option Addr) (cap : Nat) (w : World) (he : EdgesAt w (.slice a es.length cap) es) (hs : es.Pairwise fun a b => beforeB a b = true) (hl : es.length ≤ 100000) :
    Calls Tryd.prog 141 #[.slice a es.length cap, .agg #[.int .i64 t.1, .int .i64 t.2], .func (.func 137) #[] #[]] w fun e w' => ∃ (i : Nat) (b : Bool), e = .returned (.tuple #[.int .i64 i, .bool b]) ∧ i ≤ es.length ∧ BsI es t i i ∧ Below w.heap.size w w' := by
  obtain ⟨tu, tv⟩ := t
  dsimp only
  have hb1 : Below w.heap.size w (w.alloc (.cells #[.int .i64 tu, .int .i64 tv] 39)) := (Below.refl _ _).alloc (Nat.le_refl _) _
  have hT := heap_alloc_new w (.cells #[.int .i64 tu, .int .i64 tv] 39)
  have he1 := he.below hb1
  have hz1 := blk_lt hT
  go_enter Tryd.func141, Tryd.ntmps141
  go_wp2_with fail
  generalize w.alloc (.cells #[.int .i64 tu, .int .i64 tv] 39) = w1 at *
  go_loopw [9, 10] (fun vi vj wr => ∃ i j : Nat, vi = .int .i64 i ∧ vj = .int .i64 j ∧ i ≤ j ∧ j ≤ es.length ∧ Hid (BsI es (tu, tv) i j) ∧ Below w1.heap.size w1 wr) (fun vi vj _ => (intOf vj).toNat - (intOf vi).toNat)
  case atStart => exact ⟨0, es.length, rfl, rfl, Nat.zero_le _, Nat.le_refl _, (show _ from ⟨fun k e hk => by omega, fun k e hk hx => by have := (List.getElem?_eq_some_iff.1 hx).1; omega⟩), Below.refl _ _⟩
  case round =>
    obtain ⟨i, j, rfl, rfl, hij, hjl, HI, hb⟩ := hrel
    have hTr := lit_next' hb hT
    have her := he1.below hb
    have hget : ∀ m, m < es.length → ∃ b off x y, a = some ⟨b, off, none⟩ ∧ es[m]? = some (x, y) ∧ wr.cell? ⟨b, off + m * 2, none⟩ = some (.int .i64 x) ∧ wr.cell? ⟨b, off + m * 2 + 1, none⟩ = some (.int .i64 y) := fun m hm => by
      obtain ⟨a', cap', hv, _, _, _, hcell⟩ := her
      obtain ⟨b, off, ha, c0, c1⟩ := hcell m _ (List.getElem?_eq_getElem hm)
      obtain ⟨h1, _, _⟩ := Value.slice.inj hv
      exact ⟨b, off, es[m].1, es[m].2, h1.trans ha, List.getElem?_eq_getElem hm, c0, c1⟩
    have t0 : wr.cell? ⟨w.heap.size, 0, none⟩ = some (.int .i64 tu) := by rw [cell_blk hTr]; rfl
    have t1 : wr.cell? ⟨w.heap.size, 1, none⟩ = some (.int .i64 tv) := by rw [cell_blk hTr]; rfl
    have hzr := blk_lt hTr
    by_cases hlt : i < j
    · obtain ⟨m, hm⟩ : ∃ m : Nat, ((i : Int) + (j : Int)) / 2 = (m : Int) := ⟨(i + j) / 2, by omega⟩
      have hmb : i ≤ m ∧ m < j := by omega
      obtain ⟨b, off, x, y, rfl, hx, c0, c1⟩ := hget m (by omega)
      have HX := Lib.hid hx
      clear hget hx
      have e0 : ∀ z : Ext wr.heap.size wr, z.world.cell? ⟨w.heap.size, 0, none⟩ = some (.int .i64 tu) := fun z => (z.below.cell (p := ⟨w.heap.size, 0, none⟩) hzr).trans t0
      have e1 : ∀ z : Ext wr.heap.size wr, z.world.cell? ⟨w.heap.size, 1, none⟩ = some (.int .i64 tv) := fun z => (z.below.cell (p := ⟨w.heap.size, 1, none⟩) hzr).trans t1
      have e2 : ∀ z : Ext wr.heap.size wr, z.world.cell? ⟨b, off + m * 2, none⟩ = some (.int .i64 x) := fun z => (z.below.cell (p := ⟨b, off + m * 2, none⟩) (cell_lt c0)).trans c0
      have e3 : ∀ z : Ext wr.heap.size wr, z.world.cell? ⟨b, off + m * 2 + 1, none⟩ = some (.int .i64 y) := fun z => (z.below.cell (p := ⟨b, off + m * 2 + 1, none⟩) (cell_lt c1)).trans c1
      have hml : m < es.length := by omega
      obtain ⟨D, hD⟩ : ∃ D, beforeB (x, y) (tu, tv) = D := ⟨_, rfl⟩
      have d1 : decide (orderS (x, y) (tu, tv) < 0) = D := by
        cases D with
        | true => simpa using order_neg _ _ hD
        | false => have := order_pos _ _ hD; simp; omega
      have HD := Lib.hid hD
      clear hD
      cases D
      all_goals
        go_wp2_with fail
        refine wp_region_ext wr.heap.size wr (by kernel_rfl) (by kernel_rfl) (Below.refl _ _) ?_
        try simp only [List.append_eq, List.cons_append, List.nil_append]
        repeat (go_big_quiet_step ((go_at_call 137; exact Calls.ext_of (Nat.le_refl _) (order_any x y tu tv _))))
        refine wpQuiet_nil ?_
        rintro _ ⟨⟨wq, hq⟩, rfl⟩
        clear e0 e1 e2 e3
        go_wp2_with fail
        go_roundw
        case rel => first
          | exact ⟨i, m, rfl, rfl, hmb.1, by omega, HI.out.down hs HX.out HD.out, hb.trans (hq.mono hb.size)⟩
          | exact ⟨m + 1, j, by go_num, rfl, by omega, hjl, HI.out.up hs HX.out HD.out, hb.trans (hq.mono hb.size)⟩
        case measure => simp [intOf]; omega
    · obtain rfl : i = j := by omega
      by_cases hil : i < es.length
      · obtain ⟨b, off, x, y, rfl, hx, c0, c1⟩ := hget i hil
        clear hget hx
        have e0 : ∀ z : Ext wr.heap.size wr, z.world.cell? ⟨w.heap.size, 0, none⟩ = some (.int .i64 tu) := fun z => (z.below.cell (p := ⟨w.heap.size, 0, none⟩) hzr).trans t0
        have e1 : ∀ z : Ext wr.heap.size wr, z.world.cell? ⟨w.heap.size, 1, none⟩ = some (.int .i64 tv) := fun z => (z.below.cell (p := ⟨w.heap.size, 1, none⟩) hzr).trans t1
        have e2 : ∀ z : Ext wr.heap.size wr, z.world.cell? ⟨b, off + i * 2, none⟩ = some (.int .i64 x) := fun z => (z.below.cell (p := ⟨b, off + i * 2, none⟩) (cell_lt c0)).trans c0
        have e3 : ∀ z : Ext wr.heap.size wr, z.world.cell? ⟨b, off + i * 2 + 1, none⟩ = some (.int .i64 y) := fun z => (z.below.cell (p := ⟨b, off + i * 2 + 1, none⟩) (cell_lt c1)).trans c1
        have d2 : decide (i < es.length) = true := by simpa using hil
        have d3 : decide ((i : Int) < (es.length : Int)) = true := by simp; omega
        go_wp2_with fail
        refine wp_region_ext wr.heap.size wr (by kernel_rfl) (by kernel_rfl) (Below.refl _ _) ?_
        try simp only [List.append_eq, List.cons_append, List.nil_append]
        repeat (go_big_quiet_step ((go_at_call 137; exact Calls.ext_of (Nat.le_refl _) (order_any x y tu tv _))))
        refine wpQuiet_nil ?_
        rintro _ ⟨⟨wq, hq⟩, rfl⟩
        clear e0 e1 e2 e3
        go_wp2_with fail
        go_ret2
        exact ⟨i, _, rfl, hjl, HI.out, (hb1.trans (hb.mono hb1.size)).trans (hq.mono (Nat.le_trans hb1.size hb.size))⟩
      · have d2 : decide (i < es.length) = false := by simp; omega
        have d3 : decide ((i : Int) < (es.length : Int)) = false := by simp; omega
        clear hget
        go_wp2_with fail
        refine wp_region_ext wr.heap.size wr (by kernel_rfl) (by kernel_rfl) (Below.refl _ _) ?_
        try simp only [List.append_eq, List.cons_append, List.nil_append]
        repeat (go_big_quiet_step (fail))
        refine wpQuiet_nil ?_
        rintro _ ⟨⟨wq, hq⟩, rfl⟩
        go_wp2_with fail
        go_ret2
        exact ⟨i, _, rfl, hjl, HI.out, (hb1.trans (hb.mono hb1.size)).trans (hq.mono (Nat.le_trans hb1.size hb.size))⟩
theorem BsI.mem {es : List E2} {t : E2} {i : Nat} (h : BsI es t i i) (hs : es.Pairwise fun a b => beforeB a b = true) : t ∈ es ↔ es[i]? = some t := by
  constructor
  · intro hm
    obtain ⟨k, hk⟩ := List.mem_iff_getElem?.1 hm
    have h1 : ¬ k < i := fun hki => by have := h.1 k t hki hk; rw [before_irrefl] at this; cases this
    by_cases hki : k = i
    · rw [← hki]; exact hk
    · obtain ⟨h2, hk2⟩ := List.getElem?_eq_some_iff.1 hk
      have h3 : i < es.length := by omega
      have h4 := List.pairwise_iff_getElem.1 hs i k h3 h2 (by omega)
      rw [hk2] at h4
      have h5 := h.2 i es[i] (Nat.le_refl _) (List.getElem?_eq_getElem h3)
      rw [h4] at h5; cases h5
  · intro hi; exact List.mem_of_getElem? hi
set_option maxRecDepth 100000 in
set_option maxHeartbeats 3200000 in
theorem place_any (n : Int) (a : Option Addr) (cap : Nat) (es : List E2) (u v : Int) (w : World) (he : EdgesAt w (.slice a es.length cap) es) (hs : es.Pairwise fun a b => beforeB a b = true) (hl : es.length ≤ 100000) :
    Calls Tryd.prog 120 #[.agg #[.int .i64 n, .slice a es.length cap], .int .i64 u, .int .i64 v] w fun e w' => ∃ i : Nat, e = .returned (.tuple #[.int .i64 i, .bool (decide ((min u v, max u v) ∈ es))]) ∧ i ≤ es.length ∧ BsI es (min u v, max u v) i i ∧ Below w.heap.size w w' := by
  obtain ⟨tu, htu⟩ : ∃ t, min u v = t := ⟨_, rfl⟩
  obtain ⟨tv, htv⟩ : ∃ t, max u v = t := ⟨_, rfl⟩
  have hed := fun w => gedge_any u v w
  rw [htu, htv] at hed ⊢
  clear htu htv
  have hb0 : Below w.heap.size w (w.alloc (.cells #[.int .i64 n, .slice a es.length cap] 25)) := (Below.refl _ _).alloc (Nat.le_refl _) _
  have hG0 := heap_alloc_new w (.cells #[.int .i64 n, .slice a es.length cap] 25)
  go_enter Tryd.func120, Tryd.ntmps120
  go_wp2_with fail
  refine (hed _).mono ?_
  rintro e w1 ⟨rfl, hb1⟩
  have hb01 := hb0.trans (hb1.mono hb0.size)
  have hG1 := lit_next' hb1 hG0
  have hb02 := hb01.alloc hb01.size (.cells #[.int .i64 tu, .int .i64 tv] 39)
  have hG2 := (Below.heap_alloc w1 (.cells #[.int .i64 tu, .int .i64 tv] 39) _ (blk_lt hG1)).trans hG1
  have hT2 := heap_alloc_new w1 (.cells #[.int .i64 tu, .int .i64 tv] 39)
  have g0 : (w1.alloc (.cells #[.int .i64 tu, .int .i64 tv] 39)).cell? ⟨w.heap.size, 1, none⟩ = some (.slice a es.length cap) := by rw [cell_blk hG2]; rfl
  have he2 := he.below hb02
  have hz1 := blk_lt hG1
  clear hb1 hb0 hG0 hed hb01
  go_wp2_with fail
  refine (bsearch_any es (tu, tv) a cap _ he2 hs hl).mono ?_
  rintro e w3 ⟨i, b, rfl, hil, HB, hb3⟩
  have hb03 := hb02.trans (hb3.mono hb02.size)
  have hG3 := lit_next' hb3 hG2
  have hT3 := lit_next' hb3 hT2
  have he3 := he2.below hb3
  have hmem := HB.mem hs
  have HBB := Lib.hid HB
  obtain ⟨a', cap', hv, _, _, _, hcell⟩ := he3
  cases hv
  have g1 : w3.cell? ⟨w.heap.size, 1, none⟩ = some (.slice a es.length cap) := by rw [cell_blk hG3]; rfl
  have t0 : w3.cell? ⟨w1.heap.size, 0, none⟩ = some (.int .i64 tu) := by rw [cell_blk hT3]; rfl
  have t1 : w3.cell? ⟨w1.heap.size, 1, none⟩ = some (.int .i64 tv) := by rw [cell_blk hT3]; rfl
  clear he2 g0 hG2 hT2 hb3 HB
  by_cases hlt : i < es.length
  · obtain ⟨b0, off, ha, c0, c1⟩ := hcell i _ (List.getElem?_eq_getElem hlt)
    subst ha
    obtain ⟨x, hx⟩ : ∃ x, es[i].1 = x := ⟨_, rfl⟩
    obtain ⟨y, hy⟩ : ∃ y, es[i].2 = y := ⟨_, rfl⟩
    have hel : es[i] = (x, y) := by rw [← hx, ← hy]
    rw [hx] at c0
    rw [hy] at c1
    rw [List.getElem?_eq_getElem hlt, hel] at hmem
    have HM := Lib.hid hmem
    have d2 : decide (i < es.length) = true := by simpa using hlt
    have d3 : decide ((i : Int) < (es.length : Int)) = true := by simp; omega
    clear hcell hx hy hel hmem
    obtain ⟨D, hD⟩ : ∃ D, decide ((tu, tv) ∈ es) = D := ⟨_, rfl⟩
    have hDx : D = decide (x = tu ∧ y = tv) := by
      rw [← hD]
      have h : (tu, tv) ∈ es ↔ (x = tu ∧ y = tv) := HM.out.trans (by simp)
      exact decide_eq_decide.2 h
    have HDD := Lib.hid hD
    clear hD
    have hcase : (x = tu ∧ y = tv ∧ D = true) ∨ (x ≠ tu ∧ D = false) ∨ (x = tu ∧ y ≠ tv ∧ D = false) := by
      by_cases h1 : x = tu
      · by_cases h2 : y = tv
        · exact .inl ⟨h1, h2, by rw [hDx]; simp [h1, h2]⟩
        · exact .inr (.inr ⟨h1, h2, by rw [hDx]; simp [h2]⟩)
      · exact .inr (.inl ⟨h1, by rw [hDx]; simp [h1]⟩)
    clear hDx HM
    rcases hcase with ⟨rfl, rfl, rfl⟩ | ⟨hx, rfl⟩ | ⟨rfl, hy, rfl⟩
    case' inr.inl => have dx : (x == tu) = false := by simpa using hx
    case' inr.inr => have dy : (y == tv) = false := by simpa using hy
    all_goals
      go_wp2_with fail
      go_quiet (fail)
      go_wp2_with fail
      go_ret2
      exact ⟨i, by rw [HDD.out]; rfl, hil, HBB.out, hb03.trans (((Below.refl w3.heap.size w3).drewN _).mono hb03.size)⟩
  · have d2 : decide (i < es.length) = false := by simp; omega
    have d3 : decide ((i : Int) < (es.length : Int)) = false := by simp; omega
    have HM := Lib.hid hmem
    clear hcell hmem
    go_wp2_with fail
    go_quiet (fail)
    go_wp2_with fail
    go_ret2
    refine ⟨i, ?_, hil, HBB.out, hb03.trans (((Below.refl w3.heap.size w3).drewN _).mono hb03.size)⟩
    have hnm : decide ((tu, tv) ∈ es) = false := by
      rw [decide_eq_false_iff_not]
      intro h
      have h2 := HM.out.1 h
      rw [List.getElem?_eq_none (by omega)] at h2; cases h2
    rw [hnm]; rfl
end Go.Proofs.YtkknknehchnccaaDoor
