/- history.versions: the iterator that goes through the times of a history. -/
import Derived.Test.YtpblaoeaeljmhaaDoorRangeOwn
import Derived.Test.YtpblaoeaeljmhaaDoorLkStep
import Derived.Test.YtpblaoeaeljmhaaDoorLkAll
import Derived.Test.YtpblaoeaeljmhaaDoorLkChg
import Derived.Shelf.Abstract
import Derived.Shelf.RegionOpen
import Derived.OwnWalkIn
import Derived.TacticsInMore
import Derived.LoopNIn
import Derived.LoopIn
import Derived.BigQuiet
namespace Go.Proofs.YtpblaoeaeljmhaaDoor
open Go.RowKit Go.BigFrame
attribute [local go_sem] Oper.semAt_some

/-- what a round is handed -/
structure Ver where
  t : Int
  ls : List Lk
  a : Option Addr
  c : Nat
  ch : Bool
def Ver.word (x : Ver) : Int × List Lk × Bool := (x.t, x.ls, x.ch)
def blkOf (L : List Lk) (a : Option Addr) : Option Nat := if L.length = 0 then none else a.map (·.block)
def Ver.blk (x : Ver) : Option Nat := blkOf x.ls x.a
def verEnc (n : Int) (x : Ver) : Array Value := #[.int .i64 x.t, .agg #[.int .i64 n, .slice x.a x.ls.length x.c, .bool x.ch]]
/-- the times of a history, with the state behind all events of each of them -/
def verF (ls : List Lk) (ch : Bool) : List Ev → List (Int × List Lk × Bool)
  | [] => []
  | e :: es =>
    if (match es with | e2 :: _ => e2.time == e.time | [] => false) = true then verF (stepL e ls) (ch || decide (0 < (stepC e ls).length)) es
    else (e.time, stepL e ls, ch || decide (0 < (stepC e ls).length)) :: verF (stepL e ls) false es
def VerSt (n : Int) (b : Nat) (x : Ver) (W : World) : Prop := RowAt encLk W (.slice x.a x.ls.length x.c) x.ls ∧ (∀ p, x.a = some p → b + 3 ≤ p.block) ∧ VSt n x.ls
/-- what the iterator reads: its two boxes and the events -/
structure VerE (n : Int) (es : List Ev) (bn be : Nat) (ae : Option Addr) (ce : Nat) (W : World) : Prop where
  n : W.heap[bn]? = some (.cells #[.int .i64 n] 3 (0, 0))
  l : W.heap[be]? = some (.cells #[.slice ae es.length ce] 27 (0, 0))
  r : RowAt encEv W (.slice ae es.length ce) es
theorem set_three {w : World} {g T : Nat} {x y z u v q : Value} (h : w.heap[g]? = some (.cells #[x, y, z] T (0, 0))) : (((w.setCell ⟨g, 0, none⟩ u).setCell ⟨g, 1, none⟩ v).setCell ⟨g, 2, none⟩ q).heap[g]? = some (.cells #[u, v, q] T (0, 0)) := by
  rw [heap_setCell_same _ _ _ _ _ _ (heap_setCell_same _ _ _ _ _ _ (heap_setCell_same _ _ _ _ _ _ h))]
  rfl
set_option maxRecDepth 100000 in
set_option maxHeartbeats 3200000 in
theorem versions1_own (n : Int) (es : List Ev) (bn be : Nat) (ae : Option Addr) (ce : Nat) (b : Nat) (hn0 : 0 ≤ n) (hn1 : n ≤ 64) (hes : ∀ e ∈ es, fitS n e = 0) :
    SeqOwn Tryd.prog 33 #[.pointer (some ⟨bn, 0, none⟩), .pointer (some ⟨be, 0, none⟩)] (verEnc n) (VerSt n b) Ver.blk (VerE n es bn be ae ce) (fun xs => xs.map Ver.word = verF [] false es) (fun pre => pre.map Ver.word <+: verF [] false es) b := by
  intro l J Jx W hW hJ hF hE hY h0
  obtain ⟨RES, hRES⟩ : ∃ r, verF [] false es = r := ⟨_, rfl⟩
  rw [hRES]
  have HRES := Lib.hid hRES
  clear hRES
  have hE0 := hE _ _ _ h0
  have n0 := cell_blk (j := 0) hE0.n
  have b1 := World.grownBy_alloc W (.cells #[.int .i64 n, .slice none 0 0, .bool false] 55) none
  have h1 := hJ _ _ _ _ _ h0 b1 (fun r e => by cases e)
  have hG := heap_alloc_new W (.cells #[.int .i64 n, .slice none 0 0, .bool false] 55)
  rw [hW] at hG
  have hE1 := hE _ _ _ h1
  have l1 := cell_blk (j := 0) hE1.l
  have hz1 : b + 3 ≤ (W.alloc (.cells #[.int .i64 n, .slice none 0 0, .bool false] 55)).heap.size := by simp; omega
  have hv0 : VSt n ([] : List Lk) := ⟨hn0, hn1, by simp, List.Pairwise.nil⟩
  have hsm := hE0.r.small
  go_enter Tryd.func33, Tryd.ntmps33
  go_wp2_with fail
  clear n0 hE0 b1 h0 hE1 l1
  go_loopw [14] (fun vi wr => ∃ (i : Nat) (pre : List Ver) (L : List Lk) (al : Option Addr) (cl : Nat) (ch : Bool), i ≤ es.length ∧ vi = .int .i64 i ∧ J pre (blkOf L al) wr ∧ wr.heap[b + 2]? = some (.cells #[.int .i64 n, .slice al L.length cl, .bool ch] 55 (0, 0)) ∧ RowAt encLk wr (.slice al L.length cl) L ∧ Hid (∀ p, al = some p → b + 3 ≤ p.block) ∧ Hid (VSt n L) ∧ Hid (RES = pre.map Ver.word ++ verF L ch (es.drop i)) ∧ b + 3 ≤ wr.heap.size) (fun vi _ => es.length - (intOf vi).toNat)
  case atStart => exact ⟨0, [], [], none, 0, false, Nat.zero_le _, rfl, h1, hG, RowAt.nil _, (show ∀ _, _ from fun p h => by cases h), hv0, (show _ = _ by rw [List.drop_zero, HRES.out]; rfl), hz1⟩
  case round =>
    clear h1 hG hz1 hv0
    obtain ⟨i, pre, L, al, cl, ch, hi, rfl, hj, hG, hL, HA, HV, HR, hz⟩ := hrel
    by_cases hlt : i < es.length
    · have hlt3 : (i : Int) < es.length := by omega
      have hEv := hE _ _ _ hj
      obtain ⟨bb, off, e, hae, he, hcap, c0, c1, c2, c3, c4, c5, c6⟩ := ev_at hEv.r i hlt
      subst hae
      have hdr := drop_at es i e he
      have hln := HV.out.length_le
      have hst := fun W h => lstep_any n e L al cl W h HV.out.2.2.2 hln
      have hvs := stepL_valid (e := e) HV.out (hes e (List.mem_of_getElem? he))
      have hR := HR.out
      rw [hdr] at hR
      unfold verF at hR
      obtain ⟨SL, hSL⟩ : ∃ l, stepL e L = l := ⟨_, rfl⟩
      obtain ⟨SC, hSC⟩ : ∃ l, stepC e L = l := ⟨_, rfl⟩
      have hcl := stepC_len e L
      have hsl := stepL_len e L
      rw [hSL, hSC] at hst hR
      rw [hSC] at hcl
      rw [hSL] at hsl hvs
      obtain ⟨C1, hC1⟩ : ∃ c, (ch || decide (0 < SC.length)) = c := ⟨_, rfl⟩
      rw [hC1] at hR
      obtain ⟨D, hD⟩ : ∃ d, es.drop (i + 1) = d := ⟨_, rfl⟩
      obtain ⟨B6, hB6⟩ : ∃ c, (match es.drop (i + 1) with | e2 :: _ => e2.time == e.time | [] => false) = c := ⟨_, rfl⟩
      rw [hB6] at hR
      have HC1 := Lib.hid hC1
      have HVS := Lib.hid hvs
      have HE := Lib.hid he
      obtain ⟨xt, hxt⟩ : ∃ x, e.time = x := ⟨_, rfl⟩
      rw [hxt] at hR hB6
      have HB6 := Lib.hid hB6
      have HR2 := Lib.hid hR
      have hbx := World.grownBy_alloc wr (.cells e.cells 41) none
      have hX := heap_alloc_new wr (.cells e.cells 41)
      have hjx := hJ _ _ _ _ _ hj hbx (fun r e => by cases e)
      have hGx := grown_blk hbx hG (by simp)
      have hLx := hL.grown hbx (fun r e => by cases e)
      have hst2 := hst _ hLx
      unfold StepPost at hst2
      clear hst hR hdr hvs hSL hSC hC1 hB6 HR hL hj hEv hbx hD D
      clear he
      obtain ⟨k, t, u, v, wt, lb, sg⟩ := e
      dsimp only at hxt
      subst hxt
      unfold Ev.cells at hst2 hX hjx hGx hLx
      dsimp only at c0 c1 c2 c3 c4 c5 c6 hst2 hX hjx hGx hLx
      obtain ⟨e0, e1, e2, e3, e4, e5, e6⟩ := lk_cells7 hX
      have g0 := cell_blk (j := 0) hGx
      have g1 := cell_blk (j := 1) hGx
      go_wp2_with fail
      obtain ⟨X, hXX⟩ : ∃ X, wr.heap.size = X := ⟨_, rfl⟩
      rw [hXX] at hX
      try rw [hXX]
      refine hst2.mono ?_
      rintro _ w3 ⟨a1, k1, a3, k3, rfl, hr1, -, hn1, -, hb3⟩
      have hzx : X + 1 ≤ (wr.alloc (.cells #[.int .i64 k, .int .i64 t, .int .i64 u, .int .i64 v, .int .i64 wt, .int .i64 lb, .int .i64 sg] 41)).heap.size := by simp; omega
      have hg3 := Below.toGrown hb3
      have hj3 : J pre (blkOf SL a1) w3 := by
        refine hJ _ _ _ _ _ ?_ hg3 (fun r e => by cases e)
        unfold blkOf
        by_cases hsl : SL.length = 0
        · rw [if_pos hsl]
          exact hF _ _ none _ hjx (fun k e => by cases e)
        rw [if_neg hsl]
        cases a1 with
        | none => exact hF _ _ none _ hjx (fun k e => by cases e)
        | some p =>
          rcases hn1 p rfl with h | ⟨h, -, h0⟩
          · exact hF _ _ _ _ hjx (fun k e => by cases e; exact h)
          · unfold blkOf at hjx
            rw [h, if_neg (by omega)] at hjx
            exact hjx
      have hG3 := grown_blk hg3 hGx (by simp)
      have hX3 := grown_blk hg3 hX (by simp)
      have ha1 : ∀ p, a1 = some p → b + 3 ≤ p.block := fun p hp => by
        rcases hn1 p hp with h | ⟨h, -, -⟩
        · have h2 : (wr.alloc (.cells #[.int .i64 k, .int .i64 t, .int .i64 u, .int .i64 v, .int .i64 wt, .int .i64 lb, .int .i64 sg] 41)).heap.size = wr.heap.size + 1 := by simp
          rw [h2] at h; omega
        · exact HA.out p h
      have hz3 : b + 3 ≤ w3.heap.size := by have := hg3.size; simp at this; omega
      have hXb : X ≠ b + 2 := by omega
      have hbn := World.grownBy_alloc w3 (.cells #[.int .i64 n, .slice a1 SL.length k1] 53) none
      have hj4 := hJ _ _ _ _ _ hj3 hbn (fun r e => by cases e)
      have hG4 := grown_blk hbn hG3 (by simp)
      have hX4 := grown_blk hbn hX3 (by simp)
      have hr4 := hr1.grown hbn (fun r e => by cases e)
      have hY4 := heap_alloc_new w3 (.cells #[.int .i64 n, .slice a1 SL.length k1] 53)
      have hz4 : b + 3 ≤ (w3.alloc (.cells #[.int .i64 n, .slice a1 SL.length k1] 53)).heap.size := by simp; omega
      have HA1 := Lib.hid ha1
      clear hst2 hb3 hj3 hG3 hX3 hr1 hn1 ha1 hbn hjx hGx hLx hX e0 e1 e2 e3 e4 e5 e6 c0 c1 c2 c3 c4 c5 c6 g0 g1 hg3 hzx hG HA HV
      go_upto_region 5 with fail
      obtain ⟨w4, hw4⟩ : ∃ W' : World, W' = w3.alloc (.cells #[.int .i64 n, .slice a1 SL.length k1] 53) := ⟨_, rfl⟩
      obtain ⟨Y, hY0⟩ : ∃ Y, w3.heap.size = Y := ⟨_, rfl⟩
      rw [hY0] at hY4
      rw [← hw4] at hj4 hG4 hX4 hr4 hY4 hz4 ⊢
      try rw [hY0]
      clear hw4 hY0 hz3
      go_cut [] from 26 to 34 (fun wx => J pre (blkOf SL a1) wx ∧ wx.heap[b + 2]? = some (.cells #[.int .i64 n, .slice a1 SL.length k1, .bool C1] 55 (0, 0)) ∧ RowAt encLk wx (.slice a1 SL.length k1) SL ∧ wx.heap[X]? = some (.cells #[.int .i64 k, .int .i64 t, .int .i64 u, .int .i64 v, .int .i64 wt, .int .i64 lb, .int .i64 sg] 41 (0, 0)) ∧ b + 3 ≤ wx.heap.size)
      case first =>
        have y0 := cell_blk (j := 0) hY4
        have y1 := cell_blk (j := 1) hY4
        have g0 := cell_blk (j := 0) hG4
        have g1 := cell_blk (j := 1) hG4
        have g2 := cell_blk (j := 2) hG4
        have f0 := free_blk (j := 0) hG4
        have f1 := free_blk (j := 1) hG4
        have f2 := free_blk (j := 2) hG4
        have hfin : ∀ cv : Bool, (ch || decide (0 < SC.length)) = cv → J pre (blkOf SL a1) (((w4.setCell ⟨b + 2, 0, none⟩ (.int .i64 n)).setCell ⟨b + 2, 1, none⟩ (.slice a1 SL.length k1)).setCell ⟨b + 2, 2, none⟩ (.bool cv)) ∧ (((w4.setCell ⟨b + 2, 0, none⟩ (.int .i64 n)).setCell ⟨b + 2, 1, none⟩ (.slice a1 SL.length k1)).setCell ⟨b + 2, 2, none⟩ (.bool cv)).heap[b + 2]? = some (.cells #[.int .i64 n, .slice a1 SL.length k1, .bool C1] 55 (0, 0)) ∧ RowAt encLk (((w4.setCell ⟨b + 2, 0, none⟩ (.int .i64 n)).setCell ⟨b + 2, 1, none⟩ (.slice a1 SL.length k1)).setCell ⟨b + 2, 2, none⟩ (.bool cv)) (.slice a1 SL.length k1) SL ∧ (((w4.setCell ⟨b + 2, 0, none⟩ (.int .i64 n)).setCell ⟨b + 2, 1, none⟩ (.slice a1 SL.length k1)).setCell ⟨b + 2, 2, none⟩ (.bool cv)).heap[X]? = some (.cells #[.int .i64 k, .int .i64 t, .int .i64 u, .int .i64 v, .int .i64 wt, .int .i64 lb, .int .i64 sg] 41 (0, 0)) ∧ b + 3 ≤ (((w4.setCell ⟨b + 2, 0, none⟩ (.int .i64 n)).setCell ⟨b + 2, 1, none⟩ (.slice a1 SL.length k1)).setCell ⟨b + 2, 2, none⟩ (.bool cv)).heap.size := fun cv hcv => by
          have hgr : w4.grownBy (((w4.setCell ⟨b + 2, 0, none⟩ (.int .i64 n)).setCell ⟨b + 2, 1, none⟩ (.slice a1 SL.length k1)).setCell ⟨b + 2, 2, none⟩ (.bool cv)) (some (b + 2)) := grown_trans (grown_trans grown_lk grown_lk) grown_lk
          refine ⟨hJ _ _ _ _ _ hj4 hgr (fun r e => by cases e; rfl), ?_, hr4.grown hgr (fun g e n c p hp => by cases e; have := HA1.out p (Value.slice.inj hp).1; omega), grown_blk hgr hX4 (by intro e; have := Option.some.inj e; omega), Nat.le_trans hz4 hgr.size⟩
          rw [set_three hG4, ← HC1.out, hcv]
        have HF := Lib.hid hfin
        clear hfin hj4 hG4 hr4 hX4 hz4
        by_cases hch : ch = true
        · subst hch
          have HF2 := Lib.hid (HF.out true (by simp))
          clear HF
          go_wp2_with fail
          go_meet
          exact HF2.out
        · obtain rfl : ch = false := by simpa using hch
          by_cases hsc : 0 < SC.length
          · have hsc2 : (0 : Int) < SC.length := by omega
            have HF2 := Lib.hid (HF.out true (by simp [hsc]))
            clear HF
            go_wp2_with fail
            go_meet
            exact HF2.out
          · have hsc2 : ¬ (0 : Int) < SC.length := by omega
            have HF2 := Lib.hid (HF.out false (by simp [hsc]))
            clear HF
            go_wp2_with fail
            go_meet
            exact HF2.out
      case rest =>
      obtain ⟨hj5, hG5, hr5, hX5, hz5⟩ := hcut
      clear hj4 hG4 hX4 hr4 hY4 hz4
      go_upto_if 50 with fail
      have hEv := hE _ _ _ hj5
      have l1 := cell_blk (j := 0) hEv.l
      obtain ⟨-, x1, -, -, -, -, -⟩ := lk_cells7 hX5
      have v1 : IntKind.i64.wrap ((i : Int) + 1) = (i : Int) + 1 := IntWalk.i64_in _ (by omega)
      go_cut [50] from 35 to 50 (fun bv wx => bv = .bool B6 ∧ J pre (blkOf SL a1) wx ∧ wx.heap[b + 2]? = some (.cells #[.int .i64 n, .slice a1 SL.length k1, .bool C1] 55 (0, 0)) ∧ RowAt encLk wx (.slice a1 SL.length k1) SL ∧ wx.heap[X]? = some (.cells #[.int .i64 k, .int .i64 t, .int .i64 u, .int .i64 v, .int .i64 wt, .int .i64 lb, .int .i64 sg] 41 (0, 0)) ∧ b + 3 ≤ wx.heap.size)
      case first =>
        have hend := fun m => (show J pre (blkOf SL a1) (wc.drewN m) ∧ _ ∧ _ ∧ _ ∧ _ from
          have hfin : wc.grownBy (wc.drewN m) none := Below.toGrown ((Below.refl _ wc).drewN m)
          ⟨hJ _ _ _ _ _ hj5 hfin (fun r e => by cases e), grown_blk hfin hG5 (by simp), hr5.grown hfin (fun r e => by cases e), grown_blk hfin hX5 (by simp), Nat.le_trans hz5 hfin.size⟩)
        have HEND := Lib.hid hend
        clear hend
        by_cases h2 : i + 1 < es.length
        · obtain ⟨bb2, off2, e2, hae2, he2, -, -, d1, -, -, -, -, -⟩ := ev_at hEv.r (i + 1) h2
          have hbb := Option.some.inj hae2
          simp only [Addr.mk.injEq, and_true] at hbb
          obtain ⟨rfl, rfl⟩ := hbb
          have hB := HB6.out
          rw [drop_at es (i + 1) e2 he2] at hB
          dsimp only at hB
          obtain ⟨t2, ht2⟩ : ∃ z, e2.time = z := ⟨_, rfl⟩
          rw [ht2] at d1 hB
          have h3 : (i : Int) + 1 < es.length := by omega
          have HB := Lib.hid hB
          clear hB hae2 he2 ht2 hj5 hG5 hr5 hX5 HB6
          cases htt : (t2 == t)
          · go_quiet (fail)
            go_wp2_with fail
            go_meet
            exact ⟨by rw [← HB.out, htt], HEND.out _⟩
          · go_quiet (fail)
            go_wp2_with fail
            go_meet
            exact ⟨by rw [← HB.out, htt], HEND.out _⟩
        · have hB := HB6.out
          rw [List.drop_eq_nil_of_le (by omega)] at hB
          have h3 : ¬ (i : Int) + 1 < es.length := by omega
          have HB : Hid (false = B6) := hB
          clear hB hj5 hG5 hr5 hX5 HB6
          go_quiet (fail)
          go_wp2_with fail
          go_meet
          exact ⟨by rw [← HB.out], HEND.out _⟩
      case rest =>
      obtain ⟨rfl, hj6, hG6, hr6, hX6, hz6⟩ := hcut
      clear hj5 hG5 hr5 hX5 hz5 hEv l1 x1
      cases B6 with
      | true =>
        have hR := HR2.out
        rw [if_pos rfl] at hR
        have HR3 := Lib.hid hR
        clear hR HR2
        go_wp2_with fail
        go_roundw
        case rel => exact ⟨i + 1, pre, SL, a1, k1, C1, by omega, by go_num, hj6, hG6, hr6, HA1, HVS, HR3, hz6⟩
        case measure => simp [intOf]; omega
      | false =>
        have hR := HR2.out
        rw [if_neg (by decide)] at hR
        have HR3 := Lib.hid hR
        clear hR HR2
        obtain ⟨-, x1, -, -, -, -, -⟩ := lk_cells7 hX6
        have hG7' := hG6
        have g0 := cell_blk (j := 0) hG6
        have g1 := cell_blk (j := 1) hG6
        have g2 := cell_blk (j := 2) hG6
        obtain ⟨fn, tmps, assign, body, hy, hR⟩ := hY pre ⟨t, SL, a1, k1, C1⟩ _ hj6 ⟨hr6, HA1.out, HVS.out⟩ ⟨verF SL false (es.drop (i + 1)), by rw [HRES.out, HR3.out, List.map_append, List.append_assoc]; rfl⟩ hz6
        unfold verEnc at hy
        dsimp only at hy
        go_upto_region 7 with fail
        refine (wpIn_wide (n := 5)).1 ?_
        gi_wp2
        refine hR.mono ?_
        clear hR hy hj6 hG6 hr6 hX6 x1 g0 g1 g2
        rintro _ w7 (⟨rfl, hj7, ⟨hr7, -, -⟩, hg7, hz7⟩ | ⟨rfl, hjx⟩)
        · have hG7 := hg7.trans hG7'
          have hgr : w7.grownBy (w7.setCell ⟨b + 2, 2, none⟩ (.bool false)) (some (b + 2)) := grown_lk
          have hj8 := hJ _ _ _ _ _ hj7 hgr (fun r e => by cases e; rfl)
          have hG8 : (w7.setCell ⟨b + 2, 2, none⟩ (.bool false)).heap[b + 2]? = some (.cells #[.int .i64 n, .slice a1 SL.length k1, .bool false] 55 (0, 0)) := heap_setCell_same _ _ _ _ _ _ hG7
          have hr8 := hr7.grown hgr (fun g e n c p hp => by cases e; have := HA1.out p (Value.slice.inj hp).1; omega)
          have hz8 : b + 3 ≤ (w7.setCell ⟨b + 2, 2, none⟩ (.bool false)).heap.size := Nat.le_trans (Nat.le_trans hz6 hz7) hgr.size
          have g2 := cell_blk (j := 2) hG7
          have f2 := free_blk (j := 2) hG7
          have HR4 : Hid (RES = (pre ++ [(⟨t, SL, a1, k1, C1⟩ : Ver)]).map Ver.word ++ verF SL false (es.drop (i + 1))) := (show _ = _ by rw [HR3.out, List.map_append, List.append_assoc]; rfl)
          clear hG7 hr7 hg7 hz7 hgr hj7
          gi_wp2
          go_wp2_with fail
          go_roundw
          case rel => exact ⟨i + 1, pre ++ [(⟨t, SL, a1, k1, C1⟩ : Ver)], SL, a1, k1, false, by omega, by go_num, hj8, hG8, hr8, HA1, HVS, HR4, hz8⟩
          case measure => simp [intOf]; omega
        · gi_wp2
          go_wp2_with fail
          exact bodyPost_ret (results_none rfl _ _ _) rfl ⟨⟨_, rfl⟩, .inr ⟨pre ++ [(⟨t, SL, a1, k1, C1⟩ : Ver)], ⟨verF SL false (es.drop (i + 1)), by rw [HR3.out, List.map_append, List.append_assoc]; rfl⟩, hjx⟩⟩
    · obtain rfl : i = es.length := by omega
      have hlt3 : ¬ (es.length : Int) < es.length := by omega
      have hres : pre.map Ver.word = RES := by
        have h := HR.out
        rw [List.drop_length] at h
        rw [h]; simp [verF]
      have HRS := Lib.hid hres
      clear hres HR hL hG
      go_wp2_with fail
      go_end0
      first | exact ⟨⟨_, rfl⟩, .inl ⟨pre, _, HRS.out, hj⟩⟩ | exact ⟨⟨_, rfl⟩, .inl ⟨pre, HRS.out, _, hj⟩⟩ | exact ⟨_, .inl ⟨pre, HRS.out, _, hj⟩⟩
end Go.Proofs.YtpblaoeaeljmhaaDoor
