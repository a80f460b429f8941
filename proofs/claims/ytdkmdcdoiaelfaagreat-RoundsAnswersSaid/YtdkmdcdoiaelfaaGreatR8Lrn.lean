/- ref38.Settle (printed by wip/mkset38.py). ref37.Same, ref38.SameLists, SameBoxes, Same of equal worlds (printed by wip/mksame38.py). Rows of one's own that lie apart, and hold each other: a world of workers while it is made. ref38.Tell in a world of one's own (printed by wip/mkr8tell.py). ref38.Copy of any world that reads (printed by wip/mkr8copy.py). ref38.Learn in a world of one's own (printed by wip/mkr8lrn.py). -/
import Derived.Test.YtdkmdcdoiaelfaaGreatRdDel
import Derived.Test.YtdkmdcdoiaelfaaGreatRef09
import Derived.Test.YtdkmdcdoiaelfaaGreatRef03
import Derived.BigQuiet
import Derived.Test.YtdkmdcdoiaelfaaGreatSameI
import Derived.Test.YtdkmdcdoiaelfaaGreatRdDlv
import Derived.Test.YtdkmdcdoiaelfaaGreatRdTell
import Derived.Test.YtdkmdcdoiaelfaaGreatRef03New
namespace Go.Proofs.YtdkmdcdoiaelfaaGreat
open Go.RowKit Go.BigFrame

set_option maxRecDepth 100000 in
set_option maxHeartbeats 6400000 in
theorem settle38_any (n o P : Nat) (es : List E2) (ow : Nat → Nat) (hv x : List Int) (ae ao ah ax : Option Addr) (ce co ch cx : Nat) (w : World) (hg : Valid n es) (ho : o < P) (hf : fltS n es P (owI n ow) hv = 0) (hxl : x.length = n)
    (he : EdgesAt w (.slice ae es.length ce) es) (hO : IntsAt w (.slice ao n co) (owI n ow)) (hH : IntsAt w (.slice ah hv.length ch) hv) (hx : IntsAt w (.slice ax n cx) x) :
    Calls Tryz.prog 15 #[.agg #[.int .i64 (n : Int), .slice ae es.length ce], .agg #[.int .i64 (P : Int), .slice ao n co, .slice ah hv.length ch], .int .i64 (o : Int), .slice ax n cx] w fun e w' => ∃ ag cg, e = .returned (.slice ag n cg) ∧ w'.ownsRow w.heap.size 3 1 (.slice ag n cg) n (intsV (setX es n ow o x)) ∧ Below w.heap.size w w' := by
  have hn64 : n ≤ 64 := by have := hg.2.1; omega
  obtain ⟨hX0, hb0⟩ := boxG_new w #[.int .i64 (n : Int), .slice ae es.length ce] 25
  obtain ⟨w1, hw1⟩ : ∃ W : World, W = w.alloc (.cells #[.int .i64 (n : Int), .slice ae es.length ce] 25) := ⟨_, rfl⟩
  have hz1 : w1.heap.size = w.heap.size + 1 := by rw [hw1]; simp
  rw [← hw1] at hX0 hb0
  obtain ⟨hY0, hb1⟩ := boxG_new w1 #[.int .i64 (P : Int), .slice ao n co, .slice ah hv.length ch] 27
  obtain ⟨wA, hwA⟩ : ∃ W : World, W = w1.alloc (.cells #[.int .i64 (P : Int), .slice ao n co, .slice ah hv.length ch] 27) := ⟨_, rfl⟩
  rw [← hwA] at hY0 hb1
  have hX1 := lit_next' hb1 hX0
  have hbA := hb0.trans (hb1.mono hb0.size)
  rw [hz1] at hY0
  have hwA2 : wA = (w.alloc (.cells #[.int .i64 (n : Int), .slice ae es.length ce] 25)).alloc (.cells #[.int .i64 (P : Int), .slice ao n co, .slice ah hv.length ch] 27) := by rw [hwA, hw1]
  have HWA := Lib.hid hwA2
  clear hwA hw1 hwA2 hX0 hb0 hb1 hz1
  have hxA : IntsAt wA (.slice ax x.length cx) x := by rw [hxl]; exact hx.below hbA
  have HXL := Lib.hid hxl
  go_enter Tryz.func15, Tryz.ntmps15
  go_upto_region 1 with fail
  rw [← HWA.out]
  rw [hxl] at hxA
  go_upto_region 2 with (at_builtin; refine wpList_app_ints intsT rfl _ _ rfl wA.heap.size (.slice none 0 0) _ [] x rfl (World.ownsRow_nil _ _ _ _) rfl hxA (by simp; omega) (Nat.le_refl _) ?_; intro v2 w2 hown2 hg2; rw [List.nil_append] at hown2)
  rw [HXL.out] at hown2
  obtain ⟨ag, cg, hv2⟩ := owns_shape hown2
  subst hv2
  have hb2 : Below wA.heap.size wA w2 := below_of_grown hg2
  have hbw2 := hbA.trans (hb2.mono hbA.size)
  have hX2 := lit_next' hb2 hX1
  have hY2 := lit_next' hb2 hY0
  obtain ⟨k0, k1⟩ := cells2R hX2
  have y0 : w2.cell? ⟨w.heap.size + 1, 0, none⟩ = some (.int .i64 (P : Int)) := cell_blk hY2
  have y1 : w2.cell? ⟨w.heap.size + 1, 1, none⟩ = some (.slice ao n co) := cell_blk hY2
  have y2 : w2.cell? ⟨w.heap.size + 1, 2, none⟩ = some (.slice ah hv.length ch) := cell_blk hY2
  have hfa := fault38_any (n : Int) (P : Int) es (owI n ow) hv ae ao ah ce co ch w2 (he.below hbw2) (by rw [owI_length]; exact hO.below hbw2) (hH.below hbw2)
  rw [hf, owI_length] at hfa
  have ho3 : ¬ (o : Int) < 0 := by omega
  have ho4 : ¬ (P : Int) ≤ o := by omega
  have g1 : decide ((o : Int) < 0) = false := by simp
  have g2 : decide ((P : Int) ≤ o) = false := by simp; omega
  have g3 : decide (P ≤ o) = false := by simp; omega
  clear hg2
  go_wp2_with fail
  refine hfa.mono ?_
  rintro e w3 ⟨rfl, hb3⟩
  have hb23 := hb2.trans (hb3.mono hb2.size)
  have hX3 := lit_next' hb3 hX2
  have hY3 := lit_next' hb3 hY2
  have hown3 := hown2.kept (grown_of_below hb3) (Classical.em _)
  have hbw3 := hbA.trans (hb23.mono hbA.size)
  have HE3 := Lib.hid (he.below hbw3)
  have HO3 := Lib.hid (hO.below hbw3)
  clear k0 k1 y0 y1 y2 hfa hown2 hX2 hY2 hb2 hb3
  obtain ⟨k0, k1⟩ := cells2R hX3
  have y0 : w3.cell? ⟨w.heap.size + 1, 0, none⟩ = some (.int .i64 (P : Int)) := cell_blk hY3
  have hAs : w.heap.size + 1 < wA.heap.size := blk_lt hY0
  go_upto_region 5 with fail
  clear k0 k1 y0
  go_loopw [10] (fun vc wr => ∃ (y : List Int) (c : Bool), vc = .bool c ∧ Hid (c = false → swpL es n ow o y = y) ∧ Hid (setX es n ow o y = setX es n ow o x) ∧ Hid (y.length = n) ∧ wr.ownsRow wA.heap.size 3 1 (.slice ag n cg) n (intsV y) ∧ Below wA.heap.size wA wr ∧ w3.grownBy wr (Value.slice ag n cg).ownBlock) (fun vc wr => match vc with | .bool true => posS (readL wr (.slice ag n cg) n) + 1 | _ => 0)
  case atStart => exact ⟨x, true, rfl, (show _ → _ from fun e => by cases e), (show _ = _ from rfl), HXL, hown3, hb23, World.grownBy.refl _ _⟩
  case round =>
    obtain ⟨y, c, rfl, HC, HY, HL, hown, hb, hg3⟩ := hrel
    have hXr := lit_next' hb hX1
    have hYr := lit_next' hb hY0
    cases c with
    | false =>
      have hfix := HC.out rfl
      have hres : setX es n ow o x = y := by rw [← HY.out, setX_fixed hfix]
      go_wp2_with fail
      go_ret
      exact ⟨ag, cg, rfl, by first | exact owns_base hown (by omega) | (rw [hres]; exact owns_base hown (by omega)), hbA.trans (hb.mono hbA.size)⟩
    | true =>
      have hpy : posS (readL wr (.slice ag n cg) n) = posS y := by rw [readL_own hown]
      go_upto_region 8 with fail
      go_loopw [10, 11] (fun vc vi wr2 => ∃ (k : Nat) (c : Bool), k ≤ n ∧ vi = .int .i64 (k : Int) ∧ vc = .bool c ∧ Hid (c = true ↔ swpK es n ow o y k ≠ y) ∧ wr2.ownsRow wA.heap.size 3 1 (.slice ag n cg) n (intsV (swpK es n ow o y k)) ∧ Below wA.heap.size wA wr2 ∧ w3.grownBy wr2 (Value.slice ag n cg).ownBlock) (fun _ vi _ => n - (intOf vi).toNat)
      case atStart => exact ⟨0, false, Nat.zero_le _, rfl, rfl, (show _ ↔ _ from ⟨(fun e => by cases e), fun e => absurd rfl e⟩), hown, hb, hg3⟩
      case round =>
        clear hXr hYr hb hown
        obtain ⟨k, c, hk, rfl, rfl, HC2, hown, hb, hg4⟩ := hrel
        have hXr := lit_next' hb hX1
        have hYr := lit_next' hb hY0
        obtain ⟨k0, k1⟩ := cells2R hXr
        have y1 : wr.cell? ⟨w.heap.size + 1, 1, none⟩ = some (.slice ao n co) := cell_blk hYr
        have hzl := (swpK_dn (es := es) (n := n) (ow := ow) (w := o) y k).1.trans HL.out
        by_cases hlt : k < n
        case neg =>
          obtain rfl : k = n := by omega
          have hc6 : c = true ↔ swpL es k ow o y ≠ y := HC2.out
          have hp6 : c = true → posS (swpL es k ow o y) < posS y := fun e => posS_lt (swpL_dn y) (hc6.1 e)
          have hs6 : setX es k ow o (swpL es k ow o y) = setX es k ow o x := by
            rw [← HY.out]
            have h := setX_eq (es := es) (n := k) (ow := ow) (w := o) y
            by_cases e : swpL es k ow o y = y
            · rw [e]
            · rw [if_neg e] at h; exact h.symm
          have hf6 : c = false → swpL es k ow o (swpL es k ow o y) = swpL es k ow o y := fun e => by
            have : swpL es k ow o y = y := Classical.byContradiction fun h => by rw [hc6.2 h] at e; cases e
            rw [this, this]
          have hr6 := readL_own hown
          have hzl6 : (swpL es k ow o y).length = k := hzl
          have HF6 := Lib.hid hf6
          have HP6 := Lib.hid hp6
          have HS6 := Lib.hid hs6
          have HR6 := Lib.hid hr6
          have HPY := Lib.hid hpy
          have HZ6 := Lib.hid hzl6
          clear hf6 hp6 hs6 hr6 hpy hc6 hzl hzl6
          go_wp2_with fail
          go_roundw
          case rel => exact ⟨swpL es k ow o y, c, rfl, HF6, HS6, HZ6, hown, hb, hg4⟩
          case measure =>
            rw [HPY.out]
            cases c with
            | false => exact Nat.succ_pos _
            | true =>
              show posS (readL wr (.slice ag k cg) k) + 1 < posS y + 1
              rw [HR6.out]
              have := HP6.out rfl
              unfold swpL at this
              omega
        case pos =>
        have hlt3 : (k : Int) < n := by omega
        obtain ⟨z, hz⟩ : ∃ z, swpK es n ow o y k = z := ⟨_, rfl⟩
        have hst := swpK_step (es := es) (n := n) (ow := ow) (w := o) y k
        have hdn := swpK_dn (es := es) (n := n) (ow := ow) (w := o) y k
        rw [hz] at hst hzl hown hdn
        have HST := Lib.hid hst
        have HZ := Lib.hid hz
        have HZL := Lib.hid hzl
        have hbw := hbA.trans (hb.mono hbA.size)
        obtain ⟨bO, oO, rfl, cO⟩ := IntsAt.atn (hO.below hbw) (owI_length n ow) k hlt
        rw [getD_of (owI_get n ow k hlt)] at cO
        clear hst hz hzl
        by_cases hok : ow k = o
        case neg =>
          have d1 : ((ow k : Int) != (o : Int)) = true := by simp; omega
          have d2 : ((ow k : Int) == (o : Int)) = false := by simp; omega
          have hsv : swpK es n ow o y (k + 1) = z := by rw [HST.out]; unfold swpV; rw [if_neg (fun h => hok h.1)]
          have HC3 : Hid (c = true ↔ swpK es n ow o y (k + 1) ≠ y) := (show _ ↔ _ by rw [hsv, ← HZ.out]; exact HC2.out)
          have hown5 : wr.ownsRow wA.heap.size 3 1 (.slice ag n cg) n (intsV (swpK es n ow o y (k + 1))) := by rw [hsv]; exact hown
          clear hsv
          go_wp2_with fail
          go_roundw
          case rel => exact ⟨k + 1, c, by omega, by go_num, rfl, HC3, hown5, hb, hg4⟩
          case measure => simp [intOf]; omega
        case pos =>
        have d1 : ((ow k : Int) != (o : Int)) = false := by simp; omega
        have hne := neigh_any n ae ce es k wr (he.below hbw) hg
        rw [neigh_eq hg] at hne
        obtain ⟨LN, hLN⟩ : ∃ L, (nbL es n k).length = L := ⟨_, rfl⟩
        have hLl : ((nbL es n k).map fun (i : Nat) => (i : Int)).length = LN := by rw [List.length_map, hLN]
        have hL64 : LN ≤ 64 := by have := nb_lt hg k hlt; omega
        unfold IntsPost at hne
        rw [hLl] at hne
        have HLN := Lib.hid hLN
        clear hLN
        go_wp2_with fail
        refine hne.mono ?_
        rintro e w5 ⟨a5, c5, rfl, hN5, hb5⟩
        have hb5A := hb.trans (hb5.mono hb.size)
        have hown5 := hown.kept (grown_of_below hb5) (Classical.em _)
        have hg5 := grown_trans hg4 (grown_none (grown_of_below hb5))
        clear hne k0 k1 y1 hXr hYr
        go_upto_region 14 with fail
        go_loopw [12, 14] (fun vq vi wr => ∃ (t : Nat) (Q : List Int), t ≤ LN ∧ vi = .int .i64 (t : Int) ∧ Hid (Q = ((nbL es n k).take t).map fun u => z.getD u 0) ∧ Q.length ≤ t ∧ wr.ownsRow w5.heap.size 3 1 vq Q.length (intsV Q) ∧ Below w5.heap.size w5 wr) (fun _ vi _ => LN - (intOf vi).toNat)
        case atStart => exact ⟨0, [], Nat.zero_le _, rfl, (show _ = _ by simp), Nat.le_refl _, World.ownsRow_nil _ _ _ _, Below.refl _ _⟩
        case round =>
          obtain ⟨t, Q, ht, rfl, HQ, hQt, hownQ, hbt⟩ := hrel
          obtain ⟨aq, cq, hvq⟩ := owns_shape hownQ
          subst hvq
          have hownr := hown5.kept (grown_of_below hbt) (Classical.em _)
          have hbr := hb5A.trans (hbt.mono hb5A.size)
          have hgr := grown_trans hg5 (grown_none (grown_of_below hbt))
          obtain ⟨gK, cK, eK, hgA, hgn, hgl, hgf, hgc⟩ := ownsI_at hownr (by omega)
          cases eK
          by_cases hltt : t < LN
          · have hltt3 : (t : Int) < LN := by omega
            have hNk : IntsAt wr (.slice a5 ((nbL es n k).map fun (i : Nat) => (i : Int)).length c5) ((nbL es n k).map fun (i : Nat) => (i : Int)) := by rw [hLl]; exact hN5.below hbt
            obtain ⟨bN, oN, y', rfl, hy, -, -, cN⟩ := hNk.at t (by omega)
            have hku : t < (nbL es n k).length := by rw [HLN.out]; exact hltt
            obtain ⟨u, hu⟩ : ∃ u, (nbL es n k)[t]? = some u := ⟨_, List.getElem?_eq_getElem hku⟩
            rw [List.getElem?_map, hu] at hy
            obtain rfl := (Option.some.inj hy).symm
            have hun : u < n := List.mem_range.1 (List.mem_filter.1 (List.mem_of_getElem? hu)).1
            have hun3 : (u : Int) < n := by omega
            have cu := hgc u _ (get_of_getD (by rw [HZL.out]; exact hun))
            obtain ⟨zu, hzu⟩ : ∃ q, z.getD u 0 = q := ⟨_, rfl⟩
            rw [hzu] at cu
            have HQ2 : Hid (Q ++ [zu] = ((nbL es n k).take (t + 1)).map fun u => z.getD u 0) := (show _ = _ by rw [take_at _ _ _ hu, List.map_append, ← HQ.out]; simp only [List.map_cons, List.map_nil]; rw [hzu])
            have hlx := ints_lit1 wr zu 3
            have hownA := hownQ.alloc (.cells #[.int .i64 zu] 3)
            have hbA2 := hbt.alloc hbt.size (.cells #[.int .i64 zu] 3)
            clear hzu hu hNk HQ hgc hgf
            go_wp2_with (at_builtin; refine wpList_app_ints intsT rfl _ _ rfl w5.heap.size (.slice aq Q.length cq) _ Q [zu] rfl hownA rfl hlx (by rw [List.length_singleton]; omega) hbA2.size ?_; intro v7 w7 hown7 hgr7)
            have hb7 := hbA2.grown hgr7 hbA2.size (fun g e => (hownA.lt g e).1)
            go_roundw
            case rel => exact ⟨t + 1, Q ++ [zu], by omega, by go_num, HQ2, by simp; omega, hown7, hb7⟩
            case measure => simp [intOf]; omega
          · have htk : t = (nbL es n k).length := by rw [HLN.out]; omega
            have hLNe : (hX Q : Int) = nbH es n k z := by
              unfold nbH
              rw [HQ.out, htk, List.take_length]
            obtain ⟨a7, c7, e7, hi7, -⟩ := IntsAt.of_owns hownQ (by omega)
            cases e7
            have hH := h09_any aq cq Q wr (by omega) (falling_any aq cq Q wr hi7 (by omega))
            obtain ⟨H, hHH⟩ : ∃ H, hX Q = H := ⟨_, rfl⟩
            rw [hHH] at hH hLNe
            have HLE := Lib.hid hLNe
            clear hHH hLNe HQ hi7 hownQ htk hgc hgf
            go_wp2_with fail
            refine hH.mono ?_
            rintro e w7 ⟨rfl, hb7⟩
            have hown7 := hownr.kept (grown_of_below hb7) (Classical.em _)
            have hbr7 := hbr.trans (hb7.mono hbr.size)
            have hgr7 := grown_trans hgr (grown_none (grown_of_below hb7))
            obtain ⟨gK3, cK3, eK3, -, -, hgl3, hgf3, hgc3⟩ := ownsI_at hown7 (by omega)
            cases eK3
            have cKk := hgc3 k _ (get_of_getD (by rw [HZL.out]; exact hlt))
            have fKk := hgf3 k
            have hc6 : c = true ↔ z ≠ y := by have h := HC2.out; rw [HZ.out] at h; exact h
            obtain ⟨zk, hzk⟩ : ∃ q, z.getD k 0 = q := ⟨_, rfl⟩
            rw [hzk] at cKk
            clear hgc3 hgf3
            by_cases hlt5 : (H : Int) < zk
            · have hlt6 : decide ((H : Int) < zk) = true := decide_eq_true hlt5
              obtain ⟨hsv, hne⟩ := swpV_ne (ow := ow) (o := o) HZL.out hdn hlt hok (by rw [← HLE.out, hzk]; exact hlt5)
              have h6 : swpK es n ow o y (k + 1) = z.set k (H : Int) := by rw [HST.out, hsv, HLE.out]
              rw [← HLE.out] at hne
              have H6 := Lib.hid h6
              have hownS := ownsI_set hown7 k (H : Int)
              have hgS : w7.grownBy (w7.setCell ⟨gK, k, none⟩ (.int .i64 (H : Int))) (some gK) := grown_store
              have hbS := hbr7.grown hgS hbr7.size (fun g e => by have e1 := Option.some.inj e; omega)
              have hg8 := grown_trans hgr7 hgS
              clear h6 hsv
              go_wp2_with fail
              go_roundw
              case rel => exact ⟨k + 1, true, by omega, by go_num, rfl, (show _ ↔ _ by rw [H6.out]; exact ⟨fun _ => hne, fun _ => rfl⟩), by rw [H6.out]; exact hownS, hbS, hg8⟩
              case measure => simp [intOf]; omega
            · have hlt6 : decide ((H : Int) < zk) = false := decide_eq_false hlt5
              have h6 : swpK es n ow o y (k + 1) = z := by rw [HST.out]; unfold swpV; rw [if_neg (fun q => hlt5 (by rw [HLE.out, ← hzk]; exact q.2))]
              have H6 := Lib.hid h6
              clear h6
              go_wp2_with fail
              go_roundw
              case rel => exact ⟨k + 1, c, by omega, by go_num, rfl, (show _ ↔ _ by rw [H6.out]; exact hc6), by rw [H6.out]; exact hown7, hbr7, hgr7⟩
              case measure => simp [intOf]; omega
end Go.Proofs.YtdkmdcdoiaelfaaGreat

namespace Go.Proofs.YtdkmdcdoiaelfaaGreat
open Go.RowKit Go.BigFrame

theorem eq_msg (x y : Int) (b : Bool) (w : World) : (Op.equalIn 10000 89 (.agg #[.int .i64 x, .int .i64 y, .bool b]) (.agg #[.int .i64 x, .int .i64 y, .bool b])).run Tryz.prog w = .ok true w := by
  have h1 : ∀ d, (Op.equalIn (d + 1 + 1) 89 (.agg #[.int .i64 x, .int .i64 y, .bool b]) (.agg #[.int .i64 x, .int .i64 y, .bool b])).run Tryz.prog w = .ok true w := fun d => by
    rw [show (d + 1 + 1) = (d + 1) + 1 from rfl]
    simp [Op.equalIn, run_underlying Tryz.underlying89, run_underlying Tryz.underlying3, Sem.run_bind, part, isAgg, go_sem, Result.andThen]
  exact h1 9998
set_option maxRecDepth 100000 in
set_option maxHeartbeats 1600000 in
theorem samelists38_any (L : List (List Int)) (a a2 : Option Addr) (c c2 : Nat) (w : World) (h1 : KnA w (.slice a L.length c) L) (h2 : KnA w (.slice a2 L.length c2) L) (hl : L.length ≤ 1000) (hll : ∀ l ∈ L, l.length ≤ 1000000) :
    Calls Tryz.prog 44 #[.slice a L.length c, .slice a2 L.length c2] w fun e w' => e = .returned (.bool true) ∧ Below w.heap.size w w' := by
  go_enter Tryz.func44, Tryz.ntmps44
  go_upto_region 4 with fail
  go_loopw [5] (fun vi wr => ∃ i : Nat, i ≤ L.length ∧ vi = .int .i64 (i : Int) ∧ Below w.heap.size w wr) (fun vi _ => L.length - (intOf vi).toNat)
  case atStart => exact ⟨0, Nat.zero_le _, rfl, Below.refl _ _⟩
  case round =>
    obtain ⟨i, hi, rfl, hb⟩ := hrel
    by_cases hlt : i < L.length
    case neg =>
      have hlt3 : ¬ (i : Int) < L.length := by omega
      go_wp2_with fail
      go_ret
      exact ⟨rfl, hb⟩
    case pos =>
    have hlt3 : (i : Int) < L.length := by omega
    have hx : L[i]? = some L[i] := List.getElem?_eq_getElem hlt
    obtain ⟨R, hR⟩ : ∃ R, L[i] = R := ⟨_, rfl⟩
    rw [hR] at hx
    have hRl := hll R (List.mem_of_getElem? hx)
    obtain ⟨-, hcap, b, off, ⟨sa, sn, sc⟩, rfl, hc0, hR0⟩ := h1.at i _ hx
    obtain ⟨-, hcap2, b2, off2, ⟨sa2, sn2, sc2⟩, rfl, hc2, hR2⟩ := h2.at i _ hx
    obtain rfl : sn = R.length := IntsAt.lenE hR0
    obtain rfl : sn2 = R.length := IntsAt.lenE hR2
    have q1 := (hb.cell (p := ⟨b, off + i, none⟩) (cell_lt hc0)).trans hc0
    have q2 := (hb.cell (p := ⟨b2, off2 + i, none⟩) (cell_lt hc2)).trans hc2
    change wr.cell? _ = some (Value.slice sa R.length sc) at q1
    change wr.cell? _ = some (Value.slice sa2 R.length sc2) at q2
    have hI1 : IntsAt w (.slice sa R.length sc) R := hR0
    have hI2 : IntsAt w (.slice sa2 R.length sc2) R := hR2
    clear hR0 hR2 hR hx
    go_wp2_with fail
    go_quiet (fail)
    have hbn := hb.drewN nq
    obtain ⟨wq, hwq⟩ : ∃ W : World, W = wr.drewN nq := ⟨_, rfl⟩
    rw [← hwq] at hbn ⊢
    clear hwq hb q1 q2
    go_wp2_with fail
    go_loopw [6] (fun vj wr => ∃ j : Nat, j ≤ R.length ∧ vj = .int .i64 (j : Int) ∧ Below w.heap.size w wr) (fun vj _ => R.length - (intOf vj).toNat)
    case atStart => exact ⟨0, Nat.zero_le _, rfl, hbn⟩
    case round =>
      clear hbn
      obtain ⟨j, hj, rfl, hb⟩ := hrel
      have q1 := (hb.cell (p := ⟨b, off + i, none⟩) (cell_lt hc0)).trans hc0
      have q2 := (hb.cell (p := ⟨b2, off2 + i, none⟩) (cell_lt hc2)).trans hc2
      change wr.cell? _ = some (Value.slice sa R.length sc) at q1
      change wr.cell? _ = some (Value.slice sa2 R.length sc2) at q2
      by_cases hltj : j < R.length
      · have hltj3 : (j : Int) < R.length := by omega
        obtain ⟨b3, o3, rfl, y1⟩ := IntsAt.atn (hI1.below hb) rfl j hltj
        obtain ⟨b4, o4, rfl, y2⟩ := IntsAt.atn (hI2.below hb) rfl j hltj
        obtain ⟨Y, hY⟩ : ∃ Y, R.getD j 0 = Y := ⟨_, rfl⟩
        rw [hY] at y1 y2
        clear hY
        go_wp2_with fail
        go_quiet (fail)
        have hbn := hb.drewN nq
        go_wp2_with fail
        go_roundw
        case rel => exact ⟨j + 1, by omega, by go_num, hbn⟩
        case measure => simp [intOf]; omega
      · have hltj3 : ¬ (j : Int) < R.length := by omega
        go_wp2_with fail
        go_roundw
        case rel => exact ⟨i + 1, by omega, by go_num, hb⟩
        case measure => simp [intOf]; omega
set_option maxRecDepth 100000 in
set_option maxHeartbeats 3200000 in
theorem sameboxes38_any (L : List (List (List Msg))) (a a2 : Option Addr) (c c2 : Nat) (w : World) (h1 : BoxA w (.slice a L.length c) L) (h2 : BoxA w (.slice a2 L.length c2) L) (hl : L.length ≤ 1000) (hll : ∀ r ∈ L, r.length ≤ 1000000) (hlm : ∀ r ∈ L, ∀ m ∈ r, m.length ≤ 1000000) :
    Calls Tryz.prog 45 #[.slice a L.length c, .slice a2 L.length c2] w fun e w' => e = .returned (.bool true) ∧ Below w.heap.size w w' := by
  go_enter Tryz.func45, Tryz.ntmps45
  go_upto_region 4 with fail
  go_loopw [5] (fun vi wr => ∃ i : Nat, i ≤ L.length ∧ vi = .int .i64 (i : Int) ∧ Below w.heap.size w wr) (fun vi _ => L.length - (intOf vi).toNat)
  case atStart => exact ⟨0, Nat.zero_le _, rfl, Below.refl _ _⟩
  case round =>
    obtain ⟨i, hi, rfl, hb⟩ := hrel
    by_cases hlt : i < L.length
    case neg =>
      have hlt3 : ¬ (i : Int) < L.length := by omega
      go_wp2_with fail
      go_ret
      exact ⟨rfl, hb⟩
    case pos =>
    have hlt3 : (i : Int) < L.length := by omega
    have hx : L[i]? = some L[i] := List.getElem?_eq_getElem hlt
    obtain ⟨R, hR⟩ : ∃ R, L[i] = R := ⟨_, rfl⟩
    rw [hR] at hx
    have hRl := hll R (List.mem_of_getElem? hx)
    have hRm := hlm R (List.mem_of_getElem? hx)
    obtain ⟨-, hcap, b, off, ⟨sa, sn, sc⟩, rfl, hc0, hR0⟩ := h1.at i _ hx
    obtain ⟨-, hcap2, b2, off2, ⟨sa2, sn2, sc2⟩, rfl, hc2, hR2⟩ := h2.at i _ hx
    have hI1 : BoxR w (.slice sa sn sc) R := hR0
    have hI2 : BoxR w (.slice sa2 sn2 sc2) R := hR2
    obtain rfl : sn = R.length := (NestA.len hI1).1
    obtain rfl : sn2 = R.length := (NestA.len hI2).1
    have q1 := (hb.cell (p := ⟨b, off + i, none⟩) (cell_lt hc0)).trans hc0
    have q2 := (hb.cell (p := ⟨b2, off2 + i, none⟩) (cell_lt hc2)).trans hc2
    change wr.cell? _ = some (Value.slice sa R.length sc) at q1
    change wr.cell? _ = some (Value.slice sa2 R.length sc2) at q2
    clear hR0 hR2 hR hx
    go_wp2_with fail
    go_quiet (fail)
    have hbn := hb.drewN nq
    obtain ⟨wq, hwq⟩ : ∃ W : World, W = wr.drewN nq := ⟨_, rfl⟩
    rw [← hwq] at hbn ⊢
    clear hwq hb q1 q2
    go_wp2_with fail
    go_loopw [6] (fun vj wr => ∃ j : Nat, j ≤ R.length ∧ vj = .int .i64 (j : Int) ∧ Below w.heap.size w wr) (fun vj _ => R.length - (intOf vj).toNat)
    case atStart => exact ⟨0, Nat.zero_le _, rfl, hbn⟩
    case round =>
      clear hbn
      obtain ⟨j, hj, rfl, hb⟩ := hrel
      have q1 := (hb.cell (p := ⟨b, off + i, none⟩) (cell_lt hc0)).trans hc0
      have q2 := (hb.cell (p := ⟨b2, off2 + i, none⟩) (cell_lt hc2)).trans hc2
      change wr.cell? _ = some (Value.slice sa R.length sc) at q1
      change wr.cell? _ = some (Value.slice sa2 R.length sc2) at q2
      by_cases hltj : j < R.length
      case neg =>
        have hltj3 : ¬ (j : Int) < R.length := by omega
        go_wp2_with fail
        go_roundw
        case rel => exact ⟨i + 1, by omega, by go_num, hb⟩
        case measure => simp [intOf]; omega
      case pos =>
      have hltj3 : (j : Int) < R.length := by omega
      have hx : R[j]? = some R[j] := List.getElem?_eq_getElem hltj
      obtain ⟨M, hM⟩ : ∃ M, R[j] = M := ⟨_, rfl⟩
      rw [hM] at hx
      have hMl := hRm M (List.mem_of_getElem? hx)
      obtain ⟨-, hcap3, b3, off3, ⟨sa3, sn3, sc3⟩, rfl, hd1, hM1⟩ := hI1.at j _ hx
      obtain ⟨-, hcap4, b4, off4, ⟨sa4, sn4, sc4⟩, rfl, hd2, hM2⟩ := hI2.at j _ hx
      obtain rfl : sn3 = M.length := RowAt.lenE hM1
      obtain rfl : sn4 = M.length := RowAt.lenE hM2
      have hJ1 : RowAt encM w (.slice sa3 M.length sc3) M := hM1
      have hJ2 : RowAt encM w (.slice sa4 M.length sc4) M := hM2
      have q3 := (hb.cell (p := ⟨b3, off3 + j, none⟩) (cell_lt hd1)).trans hd1
      have q4 := (hb.cell (p := ⟨b4, off4 + j, none⟩) (cell_lt hd2)).trans hd2
      change wr.cell? _ = some (Value.slice sa3 M.length sc3) at q3
      change wr.cell? _ = some (Value.slice sa4 M.length sc4) at q4
      clear hM1 hM2 hM hx
      go_wp2_with fail
      go_quiet (fail)
      have hbn := hb.drewN nq
      obtain ⟨wq, hwq⟩ : ∃ W : World, W = wr.drewN nq := ⟨_, rfl⟩
      rw [← hwq] at hbn ⊢
      clear hwq hb q1 q2 q3 q4
      go_wp2_with fail
      go_loopw [7] (fun vt wr => ∃ t : Nat, t ≤ M.length ∧ vt = .int .i64 (t : Int) ∧ Below w.heap.size w wr) (fun vt _ => M.length - (intOf vt).toNat)
      case atStart => exact ⟨0, Nat.zero_le _, rfl, hbn⟩
      case round =>
        clear hbn
        obtain ⟨t, ht, rfl, hb⟩ := hrel
        have q1 := (hb.cell (p := ⟨b, off + i, none⟩) (cell_lt hc0)).trans hc0
        have q2 := (hb.cell (p := ⟨b2, off2 + i, none⟩) (cell_lt hc2)).trans hc2
        have q3 := (hb.cell (p := ⟨b3, off3 + j, none⟩) (cell_lt hd1)).trans hd1
        have q4 := (hb.cell (p := ⟨b4, off4 + j, none⟩) (cell_lt hd2)).trans hd2
        change wr.cell? _ = some (Value.slice (some ⟨b3, off3, none⟩) R.length sc) at q1
        change wr.cell? _ = some (Value.slice (some ⟨b4, off4, none⟩) R.length sc2) at q2
        change wr.cell? _ = some (Value.slice sa3 M.length sc3) at q3
        change wr.cell? _ = some (Value.slice sa4 M.length sc4) at q4
        by_cases hltt : t < M.length
        · have hltt3 : (t : Int) < M.length := by omega
          obtain ⟨b5, o5, ⟨X, Y, Z⟩, rfl, hx1, hcap5, hc5⟩ := (hJ1.below hb).elem t hltt
          obtain ⟨b6, o6, x6, rfl, hx2, hcap6, hc6⟩ := (hJ2.below hb).elem t hltt
          rw [hx1] at hx2
          obtain rfl := Option.some.inj hx2
          have e0 := hc5 0 _ rfl
          have e1 := hc5 1 _ rfl
          have e2 := hc5 2 _ rfl
          have f0 := hc6 0 _ rfl
          have f1 := hc6 1 _ rfl
          have f2 := hc6 2 _ rfl
          have hk3 : encM.k = 3 := rfl
          rw [hk3, Nat.add_zero] at e0 f0
          rw [hk3] at e1 e2 f1 f2
          have heqq := fun W => eq_msg X Y Z W
          clear hc5 hc6 hx1
          go_wp2_with fail
          go_quiet (fail)
          have hbn := hb.drewN nq
          go_wp2_with fail
          go_roundw
          case rel => exact ⟨t + 1, by omega, by go_num, hbn⟩
          case measure => simp [intOf]; omega
        · have hltt3 : ¬ (t : Int) < M.length := by omega
          go_wp2_with fail
          go_roundw
          case rel => exact ⟨j + 1, by omega, by go_num, hb⟩
          case measure => simp [intOf]; omega
end Go.Proofs.YtdkmdcdoiaelfaaGreat

namespace Go.Proofs.YtdkmdcdoiaelfaaGreat
open Go.RowKit Go.BigFrame

/-- rows of one's own, all apart -/
structure RowsV (w : World) (lo : Nat) (vs : Ix → Value) (TE kk len : Ix → Nat) (cs : Ix → List Value) : Prop where
  own : ∀ x, w.ownsRow lo (TE x) (kk x) (vs x) (len x) (cs x)
  apart : ∀ x y, x ≠ y → ∀ b, (vs x).ownBlock = some b → (vs y).ownBlock ≠ some b
section
variable {w w' : World} {lo : Nat} {vs : Ix → Value} {TE kk len : Ix → Nat} {cs : Ix → List Value}
theorem RowsV.kept {r : Option Nat} (h : RowsV w lo vs TE kk len cs) (hg : w.grownBy w' r) (h1 : ∀ x b, (vs x).ownBlock = some b → r ≠ some b) : RowsV w' lo vs TE kk len cs :=
  ⟨fun x => (h.own x).kept hg (by
      cases e : (vs x).ownBlock with
      | none => exact .inl rfl
      | some b => exact .inr fun e2 => h1 x b e e2.symm), h.apart⟩
theorem RowsV.below (h : RowsV w lo vs TE kk len cs) (hb : Below w.heap.size w w') : RowsV w' lo vs TE kk len cs := h.kept (grown_of_below hb) (fun _ _ _ => by simp)
theorem RowsV.lt (h : RowsV w lo vs TE kk len cs) {x : Ix} {b : Nat} (e : (vs x).ownBlock = some b) : lo ≤ b ∧ b < w.heap.size := (h.own x).lt b e
/-- one row has turned -/
theorem RowsV.set {x : Ix} {v : Value} {len' : Ix → Nat} {cs' : Ix → List Value} (h : RowsV w lo vs TE kk len cs) (hg : w.grownBy w' (vs x).ownBlock) (hown : w'.ownsRow lo (TE x) (kk x) v (len' x) (cs' x)) (hat : ∀ b, v.ownBlock = some b → (vs x).ownBlock = some b ∨ w.heap.size ≤ b)
    (h1 : ∀ y, y ≠ x → len' y = len y) (h2 : ∀ y, y ≠ x → cs' y = cs y) : RowsV w' lo (updX vs x v) TE kk len' cs' := by
  have hv : ∀ y, y ≠ x → ∀ b, (vs y).ownBlock = some b → v.ownBlock ≠ some b := fun y hne b hb e => by
    rcases hat b e with e2 | e2
    · exact h.apart y x hne b hb e2
    · have := (h.lt hb).2; omega
  refine ⟨fun y => ?_, fun y z hne b hb => ?_⟩
  · unfold updX
    by_cases e : y = x
    · subst e; rw [if_pos rfl]; exact hown
    · rw [if_neg e, h1 y e, h2 y e]
      refine (h.own y).kept hg ?_
      cases e2 : (vs y).ownBlock with
      | none => exact .inl rfl
      | some b => exact .inr fun e3 => h.apart y x e b e2 e3.symm
  · unfold updX at hb ⊢
    by_cases e : y = x
    · rw [if_pos e] at hb
      rw [if_neg (fun e2 => hne (e.trans e2.symm))]
      intro e3
      exact hv z (fun e2 => hne (e.trans e2.symm)) b e3 hb
    · rw [if_neg e] at hb
      by_cases e2 : z = x
      · rw [if_pos e2]; exact hv y e b hb
      · rw [if_neg e2]; exact h.apart y z hne b hb
end
/-- slices, as what a row holds -/
def ptrs (f : Nat → Value) (m : Nat) : List (Sl × Unit) := (List.range m).map fun j => (slOf (f j), ())
theorem ptrs_len (f : Nat → Value) (m : Nat) : (ptrs f m).length = m := by simp [ptrs]
theorem ptrs_succ (f : Nat → Value) (m : Nat) : ptrs f (m + 1) = ptrs f m ++ [(slOf (f m), ())] := by simp [ptrs, List.range_succ]
theorem ptrs_get {f : Nat → Value} {m i : Nat} (h : i < m) : (ptrs f m)[i]? = some (slOf (f i), ()) := by
  unfold ptrs
  rw [List.getElem?_map, List.getElem?_range h]; rfl
theorem ptrs_congr {f g : Nat → Value} {m : Nat} (h : ∀ i, i < m → f i = g i) : ptrs f m = ptrs g m := by
  unfold ptrs
  refine List.map_congr_left fun i hi => ?_
  rw [h i (List.mem_range.1 hi)]
/-- rows 0: known values; 1: the outer rows, 0 of the known values, 1 of the boxes, 2 and up of one worker's boxes; 2 and up: boxes -/
def TEr (x : Ix) : Nat := match x.1 with
  | 0 => 3
  | 1 => (match x.2 with | 0 => 22 | 1 => 75 | _ => 87)
  | _ => 89
def kkr (x : Ix) : Nat := if x.1 < 2 then 1 else encM.k
def lenR (K : Nat → List Int) (M : Nat → Nat → List Msg) (a b : Nat) (N : Nat → Nat) (x : Ix) : Nat := match x.1 with
  | 0 => (K x.2).length
  | 1 => (match x.2 with | 0 => a | 1 => b | r + 2 => N r)
  | r + 2 => (M r x.2).length
def csR (vs : Ix → Value) (K : Nat → List Int) (M : Nat → Nat → List Msg) (a b : Nat) (N : Nat → Nat) (x : Ix) : List Value := match x.1 with
  | 0 => intsV (K x.2)
  | 1 => (match x.2 with | 0 => flatR (encP Unit) (ptrs (fun j => vs (0, j)) a) | 1 => flatR (encP Unit) (ptrs (fun r => vs (1, r + 2)) b) | r + 2 => flatR (encP Unit) (ptrs (fun t => vs (r + 2, t)) (N r)))
  | r + 2 => flatR encM (M r x.2)
abbrev RowsS (w : World) (lo : Nat) (vs : Ix → Value) (K : Nat → List Int) (M : Nat → Nat → List Msg) (a b : Nat) (N : Nat → Nat) : Prop := RowsV w lo vs TEr kkr (lenR K M a b N) (csR vs K M a b N)
section
variable {w w' : World} {lo : Nat} {vs : Ix → Value} {K : Nat → List Int} {M : Nat → Nat → List Msg} {a b : Nat} {N : Nat → Nat} {v : Value}
theorem RowsS.o0 (h : RowsS w lo vs K M a b N) : w.ownsRow lo 22 (encP Unit).k (vs (1, 0)) (ptrs (fun j => vs (0, j)) a).length (flatR (encP Unit) (ptrs (fun j => vs (0, j)) a)) := by rw [ptrs_len]; exact h.own (1, 0)
theorem RowsS.o1 (h : RowsS w lo vs K M a b N) : w.ownsRow lo 75 (encP Unit).k (vs (1, 1)) (ptrs (fun r => vs (1, r + 2)) b).length (flatR (encP Unit) (ptrs (fun r => vs (1, r + 2)) b)) := by rw [ptrs_len]; exact h.own (1, 1)
theorem RowsS.row (h : RowsS w lo vs K M a b N) (r : Nat) : w.ownsRow lo 87 (encP Unit).k (vs (1, r + 2)) (ptrs (fun t => vs (r + 2, t)) (N r)).length (flatR (encP Unit) (ptrs (fun t => vs (r + 2, t)) (N r))) := by rw [ptrs_len]; exact h.own (1, r + 2)
theorem RowsS.sl (h : RowsS w lo vs K M a b N) (x : Ix) : slV (slOf (vs x)) = vs x := slOf_owns (h.own x)
theorem RowsS.void (w : World) (lo : Nat) : RowsS w lo (fun _ => .slice none 0 0) (fun _ => []) (fun _ _ => []) 0 0 (fun _ => 0) := by
  refine ⟨fun x => ?_, fun x y _ b e => by cases e⟩
  have h1 : lenR (fun _ => []) (fun _ _ => []) 0 0 (fun _ => 0) x = 0 := by
    obtain ⟨i, j⟩ := x
    match i, j with
    | 0, _ => rfl
    | 1, 0 => rfl
    | 1, 1 => rfl
    | 1, _ + 2 => rfl
    | _ + 2, _ => rfl
  have h2 : csR (fun _ => .slice none 0 0) (fun _ => []) (fun _ _ => []) 0 0 (fun _ => 0) x = [] := by
    obtain ⟨i, j⟩ := x
    match i, j with
    | 0, _ => rfl
    | 1, 0 => rfl
    | 1, 1 => rfl
    | 1, _ + 2 => rfl
    | _ + 2, _ => rfl
  rw [h1, h2]
  exact World.ownsRow_nil _ _ _ _
theorem updX_ne {α : Type} {f : Ix → α} {i j : Ix} {u : α} (h : j ≠ i) : updX f i u j = f j := if_neg h
theorem updX_eq {α : Type} {f : Ix → α} {i : Ix} {u : α} : updX f i u i = u := if_pos rfl
theorem ix1 {i i' j j' : Nat} (h : i ≠ i') : ((i, j) : Ix) ≠ (i', j') := fun e => h (Prod.mk.inj e).1
theorem ix2 {i i' j j' : Nat} (h : j ≠ j') : ((i, j) : Ix) ≠ (i', j') := fun e => h (Prod.mk.inj e).2
/-- a row of known values that is not yet in the outer row has turned -/
theorem RowsS.setK {j : Nat} {l : List Int} (h : RowsS w lo vs K M a b N) (ha : a ≤ j) (hg : w.grownBy w' (vs (0, j)).ownBlock) (hown : w'.ownsRow lo 3 1 v l.length (intsV l)) (hat : ∀ b, v.ownBlock = some b → (vs (0, j)).ownBlock = some b ∨ w.heap.size ≤ b) :
    RowsS w' lo (updX vs (0, j) v) (fun i => if i = j then l else K i) M a b N := by
  refine RowsV.set h hg ?_ hat (fun y hy => ?_) (fun y hy => ?_)
  · simp only [lenR, csR, if_true]; exact hown
  · obtain ⟨i, k⟩ := y
    match i, k with
    | 0, k => show (if k = j then l else K k).length = (K k).length; rw [if_neg fun e => hy (by rw [e])]
    | 1, 0 => rfl
    | 1, 1 => rfl
    | 1, _ + 2 => rfl
    | _ + 2, _ => rfl
  · obtain ⟨i, k⟩ := y
    match i, k with
    | 0, k => show intsV (if k = j then l else K k) = intsV (K k); rw [if_neg fun e => hy (by rw [e])]
    | 1, 0 => show flatR _ (ptrs _ a) = flatR _ (ptrs _ a); rw [ptrs_congr fun i hi => updX_ne (ix2 (by omega))]
    | 1, 1 => show flatR _ (ptrs _ b) = flatR _ (ptrs _ b); rw [ptrs_congr fun i _ => updX_ne (ix1 (by omega))]
    | 1, r + 2 => show flatR _ (ptrs _ (N r)) = flatR _ (ptrs _ (N r)); rw [ptrs_congr fun i _ => updX_ne (ix1 (by omega))]
    | _ + 2, _ => rfl
/-- the next row of known values is put into the outer row -/
theorem RowsS.putK (h : RowsS w lo vs K M a b N) (hg : w.grownBy w' (vs (1, 0)).ownBlock) (hown : w'.ownsRow lo 22 (encP Unit).k v (ptrs (fun j => vs (0, j)) (a + 1)).length (flatR (encP Unit) (ptrs (fun j => vs (0, j)) (a + 1)))) (hat : ∀ b, v.ownBlock = some b → (vs (1, 0)).ownBlock = some b ∨ w.heap.size ≤ b) :
    RowsS w' lo (updX vs (1, 0) v) K M (a + 1) b N := by
  rw [ptrs_len] at hown
  refine RowsV.set h hg ?_ hat (fun y hy => ?_) (fun y hy => ?_)
  · show w'.ownsRow lo _ _ v (a + 1) (flatR _ (ptrs _ (a + 1)))
    rw [ptrs_congr fun i _ => updX_ne (ix1 (by omega))]; exact hown
  · obtain ⟨i, k⟩ := y
    match i, k with
    | 0, k => rfl
    | 1, 0 => exact absurd rfl hy
    | 1, 1 => rfl
    | 1, _ + 2 => rfl
    | _ + 2, _ => rfl
  · obtain ⟨i, k⟩ := y
    match i, k with
    | 0, k => rfl
    | 1, 0 => exact absurd rfl hy
    | 1, 1 => show flatR _ (ptrs _ b) = flatR _ (ptrs _ b); rw [ptrs_congr fun i _ => updX_ne (ix2 (by omega))]
    | 1, r + 2 => show flatR _ (ptrs _ (N r)) = flatR _ (ptrs _ (N r)); rw [ptrs_congr fun i _ => updX_ne (ix1 (by omega))]
    | _ + 2, _ => rfl
/-- a box that is not yet in its worker's row has turned -/
theorem RowsS.setM {r t : Nat} {l : List Msg} (h : RowsS w lo vs K M a b N) (ht : N r ≤ t) (hg : w.grownBy w' (vs (r + 2, t)).ownBlock) (hown : w'.ownsRow lo 89 encM.k v l.length (flatR encM l)) (hat : ∀ b, v.ownBlock = some b → (vs (r + 2, t)).ownBlock = some b ∨ w.heap.size ≤ b) :
    RowsS w' lo (updX vs (r + 2, t) v) K (fun r' t' => if r' = r ∧ t' = t then l else M r' t') a b N := by
  refine RowsV.set h hg ?_ hat (fun y hy => ?_) (fun y hy => ?_)
  · show w'.ownsRow lo _ _ v (if r = r ∧ t = t then l else M r t).length (flatR encM (if r = r ∧ t = t then l else M r t))
    rw [if_pos ⟨rfl, rfl⟩]; exact hown
  · obtain ⟨i, k⟩ := y
    match i, k with
    | 0, k => rfl
    | 1, 0 => rfl
    | 1, 1 => rfl
    | 1, _ + 2 => rfl
    | r' + 2, t' => show (if r' = r ∧ t' = t then l else M r' t').length = (M r' t').length; rw [if_neg fun e => hy (by rw [e.1, e.2])]
  · obtain ⟨i, k⟩ := y
    match i, k with
    | 0, k => rfl
    | 1, 0 => show flatR _ (ptrs _ a) = flatR _ (ptrs _ a); rw [ptrs_congr fun i _ => updX_ne (ix1 (by omega))]
    | 1, 1 => show flatR _ (ptrs _ b) = flatR _ (ptrs _ b); rw [ptrs_congr fun i _ => updX_ne (ix1 (by omega))]
    | 1, r' + 2 =>
      show flatR _ (ptrs _ (N r')) = flatR _ (ptrs _ (N r'))
      rw [ptrs_congr fun i hi => updX_ne (fun e => by
        have e1 := (Prod.mk.inj e).1
        have e2 := (Prod.mk.inj e).2
        obtain rfl : r' = r := by omega
        omega)]
    | r' + 2, t' => show flatR encM (if r' = r ∧ t' = t then l else M r' t') = flatR encM (M r' t'); rw [if_neg fun e => hy (by rw [e.1, e.2])]
/-- a worker's row of boxes that is not yet in the outer row has turned -/
theorem RowsS.putM {r m : Nat} (h : RowsS w lo vs K M a b N) (hb : b ≤ r) (hg : w.grownBy w' (vs (1, r + 2)).ownBlock) (hown : w'.ownsRow lo 87 (encP Unit).k v (ptrs (fun t => vs (r + 2, t)) m).length (flatR (encP Unit) (ptrs (fun t => vs (r + 2, t)) m))) (hat : ∀ b, v.ownBlock = some b → (vs (1, r + 2)).ownBlock = some b ∨ w.heap.size ≤ b) :
    RowsS w' lo (updX vs (1, r + 2) v) K M a b (fun r' => if r' = r then m else N r') := by
  rw [ptrs_len] at hown
  refine RowsV.set h hg ?_ hat (fun y hy => ?_) (fun y hy => ?_)
  · show w'.ownsRow lo _ _ v (if r = r then m else N r) (flatR _ (ptrs _ (if r = r then m else N r)))
    rw [if_pos rfl, ptrs_congr fun i _ => updX_ne (ix1 (by omega))]; exact hown
  · obtain ⟨i, k⟩ := y
    match i, k with
    | 0, k => rfl
    | 1, 0 => rfl
    | 1, 1 => rfl
    | 1, r' + 2 => show (if r' = r then m else N r') = N r'; rw [if_neg fun e => hy (by rw [e])]
    | _ + 2, _ => rfl
  · obtain ⟨i, k⟩ := y
    match i, k with
    | 0, k => rfl
    | 1, 0 => show flatR _ (ptrs _ a) = flatR _ (ptrs _ a); rw [ptrs_congr fun i _ => updX_ne (ix1 (by omega))]
    | 1, 1 => show flatR _ (ptrs _ b) = flatR _ (ptrs _ b); rw [ptrs_congr fun i hi => updX_ne (ix2 (by omega))]
    | 1, r' + 2 =>
      show flatR _ (ptrs _ (if r' = r then m else N r')) = flatR _ (ptrs _ (N r'))
      rw [if_neg fun e => hy (by rw [e]), ptrs_congr fun i _ => updX_ne (ix1 (by omega))]
    | _ + 2, _ => rfl
/-- the next worker's row of boxes is put into the outer row -/
theorem RowsS.putR (h : RowsS w lo vs K M a b N) (hg : w.grownBy w' (vs (1, 1)).ownBlock) (hown : w'.ownsRow lo 75 (encP Unit).k v (ptrs (fun r => vs (1, r + 2)) (b + 1)).length (flatR (encP Unit) (ptrs (fun r => vs (1, r + 2)) (b + 1)))) (hat : ∀ b, v.ownBlock = some b → (vs (1, 1)).ownBlock = some b ∨ w.heap.size ≤ b) :
    RowsS w' lo (updX vs (1, 1) v) K M a (b + 1) N := by
  rw [ptrs_len] at hown
  refine RowsV.set h hg ?_ hat (fun y hy => ?_) (fun y hy => ?_)
  · show w'.ownsRow lo _ _ v (b + 1) (flatR _ (ptrs _ (b + 1)))
    rw [ptrs_congr fun i _ => updX_ne (ix2 (by omega))]; exact hown
  · obtain ⟨i, k⟩ := y
    match i, k with
    | 0, k => rfl
    | 1, 0 => rfl
    | 1, 1 => exact absurd rfl hy
    | 1, _ + 2 => rfl
    | _ + 2, _ => rfl
  · obtain ⟨i, k⟩ := y
    match i, k with
    | 0, k => rfl
    | 1, 0 => show flatR _ (ptrs _ a) = flatR _ (ptrs _ a); rw [ptrs_congr fun i _ => updX_ne (ix1 (by omega))]
    | 1, 1 => exact absurd rfl hy
    | 1, r + 2 => show flatR _ (ptrs _ (N r)) = flatR _ (ptrs _ (N r)); rw [ptrs_congr fun i _ => updX_ne (ix1 (by omega))]
    | _ + 2, _ => rfl
theorem RowsS.congr {K' : Nat → List Int} {M' : Nat → Nat → List Msg} {N' : Nat → Nat} (h : RowsS w lo vs K M a b N) (h1 : ∀ j, K' j = K j) (h2 : ∀ r t, M' r t = M r t) (h3 : ∀ r, N' r = N r) : RowsS w lo vs K' M' a b N' := by
  obtain rfl : K' = K := funext h1
  obtain rfl : M' = M := funext fun r => funext fun t => h2 r t
  obtain rfl : N' = N := funext h3
  exact h
/-- what is made is a world of one's own -/
theorem RowsS.world {P : Nat} (h : RowsS w lo vs K M P P N) (hP : 1 ≤ P) (hN : ∀ r, r < P → N r = P) : ∃ KB BB cK cB R cR, vs (1, 0) = .slice (some ⟨KB, 0, none⟩) P cK ∧ vs (1, 1) = .slice (some ⟨BB, 0, none⟩) P cB ∧ OwnW w lo P KB BB cK cB R cR vs K M := by
  obtain ⟨KB, cK, curK, eK, hKl, hKc, hKh, -, hKg⟩ := ownsP_at h.o0 (by rw [ptrs_len]; omega)
  obtain ⟨BB, cB, curB, eB, hBl, hBc, -, -, hBg⟩ := ownsP_at h.o1 (by rw [ptrs_len]; omega)
  rw [ptrs_len] at eK hKc eB hBc
  have hR : ∀ r, ∃ R cR, r < P → vs (1, r + 2) = .slice (some ⟨R, 0, none⟩) P cR ∧ lo ≤ R ∧ P ≤ cR ∧ (∀ t, w.frozen? ⟨R, t, none⟩ = false) ∧ ∀ t, t < P → w.cell? ⟨R, t, none⟩ = some (vs (r + 2, t)) := fun r => by
    by_cases hr : r < P
    · have h1 := h.row r
      rw [hN r hr] at h1
      obtain ⟨R, cR, cur, e, hl, hc, hh, -, hg⟩ := ownsP_at h1 (by rw [ptrs_len]; omega)
      rw [ptrs_len] at e hc
      refine ⟨R, cR, fun _ => ⟨e, hl, hc, fun t => free_blk hh, fun t ht => ?_⟩⟩
      rw [hg t _ (ptrs_get ht), h.sl]
    · exact ⟨0, 0, fun e => absurd e hr⟩
  obtain ⟨R, hR⟩ := Classical.axiomOfChoice hR
  obtain ⟨cR, hR⟩ := Classical.axiomOfChoice hR
  have bK : (vs (1, 0)).ownBlock = some KB := by rw [eK]; rfl
  have bB : (vs (1, 1)).ownBlock = some BB := by rw [eB]; rfl
  have bR : ∀ r, r < P → (vs (1, r + 2)).ownBlock = some (R r) := fun r hr => by rw [(hR r hr).1]; rfl
  have nt : ∀ x, CpI P P 0 x → x.1 ≠ 1 := fun x hx e => by rcases hx with hx | hx <;> omega
  have cb : ∀ x, CpI P P 0 x → ∃ y : Ix, y.1 = 1 ∧ y ≠ (1, 1) ∧ (vs y).ownBlock = some (CpA KB R x).1 ∧ (x.1 = 0 → y = (1, 0)) ∧ ∀ r, x.1 = r + 2 → y = (1, r + 2) := fun x hx => by
    obtain ⟨i, j⟩ := x
    match i with
    | 0 => exact ⟨(1, 0), rfl, ix2 (by omega), bK, fun _ => rfl, fun r e => by cases e⟩
    | 1 => exact absurd rfl (nt _ hx)
    | r + 2 =>
      have hr : r < P := by rcases hx with hx | hx <;> simp at hx; omega
      exact ⟨(1, r + 2), rfl, ix2 (by omega), bR r hr, fun e => (by simp at e), fun r' e => by simp at e; rw [e]⟩
  refine ⟨KB, BB, cK, cB, R, cR, eK, eB, ⟨⟨fun x hx => ?_, fun x hx => ?_, fun x hx => ?_, fun x hx => ?_, fun x y hx hy => ?_, fun x y _ _ hne => h.apart x y hne, fun x y hx hy hne => ?_⟩, fun r hr => ⟨?_, (hR r hr).2.2.1⟩, hKc, hBc, hBl, fun x hx e => ?_, fun x hx e => ?_⟩⟩
  · obtain ⟨y, -, -, e, -⟩ := cb x hx
    exact (h.lt e).1
  · obtain ⟨i, j⟩ := x
    match i with
    | 0 =>
      have hj : j < P := by rcases hx with hx | hx <;> simp at hx; exact hx
      show w.cell? ⟨KB, j, none⟩ = _
      rw [hKg j _ (ptrs_get hj), h.sl]
    | 1 => exact absurd rfl (nt _ hx)
    | r + 2 =>
      have hr : r < P ∧ j < P := by rcases hx with hx | hx <;> simp at hx; omega
      exact (hR r hr.1).2.2.2.2 j hr.2
  · obtain ⟨i, j⟩ := x
    match i with
    | 0 => exact free_blk hKh
    | 1 => exact absurd rfl (nt _ hx)
    | r + 2 =>
      have hr : r < P ∧ j < P := by rcases hx with hx | hx <;> simp at hx; omega
      exact (hR r hr.1).2.2.2.1 j
  · obtain ⟨i, j⟩ := x
    match i with
    | 0 => exact h.own (0, j)
    | 1 => exact absurd rfl (nt _ hx)
    | r + 2 => exact h.own (r + 2, j)
  · obtain ⟨z, hz, -, e, -⟩ := cb y hy
    exact fun e2 => h.apart x z (fun q => nt x hx (by rw [q]; exact hz)) _ e2 e
  · obtain ⟨z, -, -, e1, z0, z2⟩ := cb x hx
    obtain ⟨z', -, -, e2, z0', z2'⟩ := cb y hy
    intro e
    rw [e] at e1
    have hzz : z = z' := Classical.byContradiction fun q => h.apart z z' q _ e1 e2
    obtain ⟨i, j⟩ := x
    obtain ⟨i', j'⟩ := y
    have hi : i = i' := by
      match i, i' with
      | 0, 0 => rfl
      | 1, _ => exact absurd rfl (nt _ hx)
      | _, 1 => exact absurd rfl (nt _ hy)
      | 0, r + 2 =>
        rw [z0 rfl, z2' r rfl] at hzz
        have := (Prod.mk.inj hzz).2; omega
      | r + 2, 0 =>
        rw [z2 r rfl, z0' rfl] at hzz
        have := (Prod.mk.inj hzz).2; omega
      | r + 2, r' + 2 =>
        rw [z2 r rfl, z2' r' rfl] at hzz
        have := (Prod.mk.inj hzz).2; omega
    subst hi
    refine hne ?_
    match i with
    | 0 => have := (Prod.mk.inj e).2; rw [show j = j' from this]
    | 1 => exact absurd rfl (nt _ hx)
    | r + 2 => have := (Prod.mk.inj e).2; rw [show j = j' from this]
  · rw [hBg r _ (ptrs_get hr), h.sl, (hR r hr).1]
  · obtain ⟨z, -, hz, e1, -⟩ := cb x hx
    rw [e] at e1
    exact h.apart z (1, 1) hz _ e1 bB
  · exact h.apart x (1, 1) (fun q => nt x hx (by rw [q])) _ e bB
end
end Go.Proofs.YtdkmdcdoiaelfaaGreat

namespace Go.Proofs.YtdkmdcdoiaelfaaGreat
open Go.RowKit Go.BigFrame

/-- a worker owns one of the first nodes of a list -/
def nrB (ow : Nat → Nat) (t : Nat) (L : List Nat) (j : Nat) : Bool := (L.take j).any fun u => ow u == t
theorem nrB_zero (ow : Nat → Nat) (t : Nat) (L : List Nat) : nrB ow t L 0 = false := by simp [nrB]
theorem nrB_step {ow : Nat → Nat} {t : Nat} {L : List Nat} {j u : Nat} (h : L[j]? = some u) : nrB ow t L (j + 1) = (nrB ow t L j || (ow u == t)) := by
  unfold nrB
  rw [take_at _ _ _ h, List.any_append]; simp
theorem nrB_all {es : List E2} {n P : Nat} {ow : Nat → Nat} {v t : Nat} (ht : t < P) : (nrB ow t (nbL es n v) (nbL es n v).length && (t != ow v)) = decide (t ∈ ownL es n P ow v) := by
  unfold nrB ownL
  rw [List.take_length, Bool.eq_iff_iff, decide_eq_true_eq, List.mem_filter, List.mem_range, Bool.and_eq_true, Bool.and_eq_true]
  exact ⟨fun h => ⟨ht, h.2, h.1⟩, fun h => ⟨h.2.2, h.2.1⟩⟩
theorem cells7e {w : World} {g T : Nat} {c0 c1 c2 c3 c4 c5 c6 : Value} (h : w.heap[g]? = some (.cells #[c0, c1, c2, c3, c4, c5, c6] T (0, 0))) : w.cell? ⟨g, 2, none⟩ = some c2 ∧ w.cell? ⟨g, 3, none⟩ = some c3 ∧ w.cell? ⟨g, 5, none⟩ = some c5 ∧ w.cell? ⟨g, 6, none⟩ = some c6 := ⟨cell_blk h, cell_blk h, cell_blk h, cell_blk h⟩
set_option linter.unusedSimpArgs false in
set_option maxRecDepth 100000 in
set_option maxHeartbeats 6400000 in
theorem tell38_any (n P r v R cR KB BB cK cB gK cg : Nat) (es : List E2) (ow : Nat → Nat) (ae ao ah : Option Addr) (ce co ch lh lo : Nat) (x : List Int) (I : Ix → Prop) (ad : Ix → Nat × Nat) (vs : Ix → Value) (K N : Nat → List Int) (B : Nat → Nat → List Msg) (w : World)
    (hg : Valid n es) (hP : P ≤ 64) (hvn : v < n) (hr : r < P) (hov : ow v = r) (hlo : lo ≤ w.heap.size) (hW : GW w lo I ad vs K N B) (hI : ∀ t, t < P → I (r + 2, t)) (hA : ∀ t, t < P → ad (r + 2, t) = (R, t)) (hcR : P ≤ cR) (hR : R < w.heap.size)
    (hE : Stb (tellD R P r vs) w fun W => EdgesAt W (.slice ae es.length ce) es)
    (hO : Stb (tellD R P r vs) w fun W => IntsAt W (.slice ao n co) (owI n ow))
    (hBc : w.cell? ⟨BB, r, none⟩ = some (.slice (some ⟨R, 0, none⟩) P cR)) (hBd : ¬ tellD R P r vs BB) (hcB : P ≤ cB)
    (hKc : w.cell? ⟨KB, r, none⟩ = some (.slice (some ⟨gK, 0, none⟩) n cg)) (hKd : ¬ tellD R P r vs KB) (hcK : P ≤ cK) (_hcg : n ≤ cg)
    (hxc : w.cell? ⟨gK, v, none⟩ = some (.int .i64 (x.getD v 0))) (hxd : ¬ tellD R P r vs gK) (hB : ∀ t, t < P → (B r t).length ≤ 1000000) :
    Calls Tryz.prog 41 #[.agg #[.int .i64 (n : Int), .slice ae es.length ce, .int .i64 (P : Int), .slice ao n co, .slice ah lh ch, .slice (some ⟨KB, 0, none⟩) P cK, .slice (some ⟨BB, 0, none⟩) P cB], .int .i64 (r : Int), .int .i64 (v : Int)] w fun e w' => e = .returned (.tuple #[]) ∧ ∃ vs', GW w' lo I ad vs' K N (fun r' t' => if r' = r then B r t' ++ (if t' ∈ ownL es n P ow v then [((v : Int), x.getD v 0, false)] else []) else B r' t') ∧ Fr (tellD R P r vs) w w' ∧ (∀ t, t < P → ∀ b, (vs' (r + 2, t)).ownBlock = some b → tellD R P r vs b ∨ w.heap.size ≤ b) ∧ (∀ i, (∀ t, t < P → i ≠ (r + 2, t)) → vs' i = vs i) := by
  have hn64 : n ≤ 64 := by have := hg.2.1; omega
  obtain ⟨hXX, hb0⟩ := boxG_new w #[.int .i64 (n : Int), .slice ae es.length ce, .int .i64 (P : Int), .slice ao n co, .slice ah lh ch, .slice (some ⟨KB, 0, none⟩) P cK, .slice (some ⟨BB, 0, none⟩) P cB] 36
  obtain ⟨wA, hwA⟩ : ∃ W : World, W = w.alloc (.cells #[.int .i64 (n : Int), .slice ae es.length ce, .int .i64 (P : Int), .slice ao n co, .slice ah lh ch, .slice (some ⟨KB, 0, none⟩) P cK, .slice (some ⟨BB, 0, none⟩) P cB] 36) := ⟨_, rfl⟩
  obtain ⟨X, hX⟩ : ∃ X, w.heap.size = X := ⟨_, rfl⟩
  rw [← hwA] at hXX hb0
  have hzA : wA.heap.size = X + 1 := by rw [hwA, ← hX]; simp
  have HWA := Lib.hid hwA
  have HX := Lib.hid hX
  obtain ⟨D, hD⟩ : ∃ D, tellD R P r vs = D := ⟨_, rfl⟩
  rw [hD] at hO hE hBd hKd hxd ⊢
  have hDl : ∀ b, D b → b < X := fun b h => by
    rw [← hD] at h
    rcases h with h | ⟨t, ht, h⟩
    · omega
    · have := ((hW.own _ (hI t ht)).lt b h).2; omega
  have hDX : ¬ D X := fun h => by have := hDl X h; omega
  have hDo : ∀ t, t < P → ∀ b, (vs (r + 2, t)).ownBlock = some b → D b := fun t ht b h => by rw [← hD]; exact .inr ⟨t, ht, h⟩
  have hDR : D R := by rw [← hD]; exact .inl rfl
  have hWA := hW.below hb0
  rw [hX] at hXX hb0 hR hlo ⊢
  have hF0 : Fr D w wA := Fr.of_below (by rw [hX]; exact hb0)
  have hEA := hE wA hF0
  have hBA := hF0.cell hBc hBd
  have hKA := hF0.cell hKc hKd
  have hxA := hF0.cell hxc hxd
  have hBX : BB < X := by have := cell_lt hBc; omega
  have hKX : KB < X := by have := cell_lt hKc; omega
  have hGX : gK < X := by have := cell_lt hxc; omega
  have hBR : BB ≠ R := fun e => hBd (e ▸ hDR)
  have hKR : KB ≠ R := fun e => hKd (e ▸ hDR)
  have hGR : gK ≠ R := fun e => hxd (e ▸ hDR)
  have hXR : X ≠ R := fun e => hDX (e ▸ hDR)
  have hr3 : (r : Int) < P := by omega
  have hvn3 : (v : Int) < n := by omega
  have HA := Lib.hid hA
  have HI := Lib.hid hI
  have HB := Lib.hid hB
  have HO := Lib.hid hO
  have HDL := Lib.hid hDl
  have HDO := Lib.hid hDo
  have HOV := Lib.hid hov
  obtain ⟨OL, hOL⟩ : ∃ L, ownL es n P ow v = L := ⟨_, rfl⟩
  have hnr := fun t (ht : t < P) => nrB_all (es := es) (n := n) (ow := ow) (v := v) ht
  have hOLP : ∀ t ∈ OL, t < P := fun t ht => by rw [← hOL] at ht; exact (ownL_mem.1 ht).1
  rw [hOL] at hnr ⊢
  obtain ⟨xk, hxk⟩ : ∃ z, x.getD v 0 = z := ⟨_, rfl⟩
  rw [hxk] at hxA ⊢
  have hne := neigh_new n ae ce es v wA hEA hg
  rw [neigh_eq hg] at hne
  obtain ⟨NB, hNB⟩ : ∃ L, nbL es n v = L := ⟨_, rfl⟩
  have hNBl : ∀ u ∈ NB, u < n := fun u hu => by rw [← hNB] at hu; exact List.mem_range.1 (List.mem_filter.1 hu).1
  rw [hNB] at hne hnr
  obtain ⟨LN, hLN⟩ : ∃ L, NB.length = L := ⟨_, rfl⟩
  have hLl : (NB.map fun (i : Nat) => (i : Int)).length = LN := by rw [List.length_map, hLN]
  have hL64 : LN ≤ 64 := by have := nb_lt hg v hvn; rw [hNB] at this; omega
  unfold IntsNew at hne
  rw [hLl] at hne
  rw [hLN] at hnr
  have HLN := Lib.hid hLN
  have HNR := Lib.hid hnr
  have HLP := Lib.hid hOLP
  have HNL := Lib.hid hNBl
  have HW := Lib.hid hW
  clear hwA hX hE hO hBc hKc hxc hA hI hB hDl hDo hov hOL hnr hxk hNB hLN hOLP hNBl hEA hW
  obtain ⟨q0, q1, q2, q3, q4, q5, q6⟩ := cells7 hXX
  go_enter Tryz.func41, Tryz.ntmps41
  go_wp2_with (rw [← HWA.out, HX.out])
  refine hne.mono ?_
  rintro e w5 ⟨a5, c5, rfl, hN5, hb5, hp5⟩
  have hG5 := hWA.below hb5
  have hF5 := hF0.grown (grown_of_below hb5) (fun b e => by cases e)
  have hFA5 : Fr D wA w5 := Fr.of_below hb5
  have hX5 := lit_next' hb5 hXX
  have hB5 := hFA5.cell hBA hBd
  have hK5 := hFA5.cell hKA hKd
  have hx5 := hFA5.cell hxA hxd
  have hs5 : X + 1 ≤ w5.heap.size := by have := hb5.size; omega
  have hNd : ∀ n' c p, Value.slice a5 LN c5 = .slice (some p) n' c → ¬ D p.block := fun n' c p e h => by
    obtain rfl : a5 = some p := (Value.slice.inj e).1
    have h1 := hp5 p rfl
    have h2 := HDL.out _ h
    omega
  have HND := Lib.hid hNd
  have HF5 := Lib.hid hF5
  have HP5 := Lib.hid hp5
  clear q0 q1 q2 q3 q4 q5 q6 hne hBA hKA hxA hXX hWA hF0 hFA5 hNd hb5 hp5 hF5
  go_wp2_with fail
  go_loopw [7] (fun vi wr => ∃ (k : Nat) (vs1 : Ix → Value), k ≤ P ∧ vi = .int .i64 (k : Int) ∧ GW wr lo I ad vs1 K N (fun r' t' => if r' = r then B r t' ++ (if t' < k ∧ t' ∈ OL then [((v : Int), xk, false)] else []) else B r' t') ∧ Fr D w5 wr ∧ Hid (∀ t, t < P → ∀ b, (vs1 (r + 2, t)).ownBlock = some b → D b ∨ w5.heap.size ≤ b) ∧ Hid (∀ i, (∀ t, t < P → i ≠ (r + 2, t)) → vs1 i = vs i)) (fun vi _ => P - (intOf vi).toNat)
  case atStart => exact ⟨0, vs, Nat.zero_le _, rfl, GW.boxes hG5 (fun r' t' _ => by by_cases e : r' = r <;> simp [e]), Fr.refl _ _, (show ∀ t, _ from fun t ht b h => .inl (HDO.out t ht b h)), (show ∀ i, _ from fun i _ => rfl)⟩
  case round =>
    obtain ⟨k, vs1, hk, rfl, hG, hF, HV, HE⟩ := hrel
    clear hG5
    have hXr := hF.blk hX5 hDX
    have hXr2 := hXr
    obtain ⟨q2, q3, q5, q6⟩ := cells7e hXr
    by_cases hlt : k < P
    case neg =>
      obtain rfl : k = P := by omega
      have hG4 := GW.boxes hG (B' := fun r' t' => if r' = r then B r t' ++ (if t' ∈ OL then [((v : Int), xk, false)] else []) else B r' t') (fun r' t' _ => by
        by_cases e : r' = r
        · rw [if_pos e, if_pos e]
          by_cases e2 : t' ∈ OL
          · rw [if_pos ⟨HLP.out t' e2, e2⟩, if_pos e2]
          · rw [if_neg (fun q => e2 q.2), if_neg e2]
        · rw [if_neg e, if_neg e])
      have hFw := HF5.out.trans hF (fun b h => .inl h)
      go_wp2_with fail
      go_end0
      exact ⟨rfl, vs1, hG4, hFw, (fun t ht b h => by
        rcases HV.out t ht b h with h | h
        · exact .inl h
        · right; omega), HE.out⟩
    case pos =>
    have hlt3 : (k : Int) < P := by omega
    go_upto_region 7 with fail
    clear q2 q3 q5 q6 hXr
    obtain ⟨w6, hw6⟩ : ∃ W : World, W = wr := ⟨_, rfl⟩
    rw [← hw6] at hG hF hXr2 ⊢
    clear hw6
    go_loopw [8, 9] (fun vc vi wr => ∃ j : Nat, j ≤ LN ∧ vi = .int .i64 (j : Int) ∧ vc = .bool (nrB ow k NB j) ∧ Below w6.heap.size w6 wr) (fun _ vi _ => LN - (intOf vi).toNat)
    case atStart => exact ⟨0, Nat.zero_le _, rfl, by rw [nrB_zero], Below.refl _ _⟩
    case round =>
      obtain ⟨j, hj, rfl, rfl, hb⟩ := hrel
      have hF2 := hF.grown (grown_of_below hb) (fun b e => by cases e)
      have hXr := lit_next' hb hXr2
      obtain ⟨q2, q3, q5, q6⟩ := cells7e hXr
      have hO2 := HO.out wr (HF5.out.trans hF2 (fun b h => .inl h))
      by_cases hltj : j < LN
      case pos =>
        have hltj3 : (j : Int) < LN := by omega
        have hku : j < NB.length := by rw [HLN.out]; exact hltj
        obtain ⟨u, hu⟩ : ∃ u, NB[j]? = some u := ⟨_, List.getElem?_eq_getElem hku⟩
        have hun : u < n := HNL.out u (List.mem_of_getElem? hu)
        have hun3 : (u : Int) < n := by omega
        have hN2 : IntsAt wr (.slice a5 (NB.map fun (i : Nat) => (i : Int)).length c5) (NB.map fun (i : Nat) => (i : Int)) := by rw [hLl]; exact hF2.ints hN5 HND.out
        obtain ⟨bN, oN, y', rfl, hy, -, -, cN⟩ := hN2.at j (by omega)
        rw [List.getElem?_map, hu] at hy
        obtain rfl := (Option.some.inj hy).symm
        obtain ⟨bO, oO, rfl, cO⟩ := IntsAt.atn hO2 (owI_length n ow) u hun
        rw [getD_of (owI_get n ow u hun)] at cO
        have hst := nrB_step (ow := ow) (t := k) hu
        obtain ⟨NR, hNR⟩ : ∃ b, nrB ow k NB j = b := ⟨_, rfl⟩
        rw [hNR] at hst ⊢
        have hO2c : n ≤ co := by
          obtain ⟨_, _, hv', h1, _⟩ := (show IntsAt wr (.slice (some ⟨bO, oO, none⟩) (owI n ow).length co) (owI n ow) by rw [owI_length]; exact hO2)
          cases hv'
          rw [owI_length] at h1; exact h1
        have hN2c : LN ≤ c5 := by
          obtain ⟨_, _, hv', h1, _⟩ := hN2
          cases hv'
          omega
        clear hN2 hO2 hNR hu
        cases NR with
        | true =>
          have HST := Lib.hid (hst.trans (Bool.true_or _))
          clear hst
          go_wp2_with fail
          go_quiet (fail)
          have hbn := hb.drewN nq
          go_wp2_with fail
          go_roundw
          case rel => exact ⟨j + 1, by omega, by go_num, by rw [HST.out], hbn⟩
          case measure => simp [intOf]; omega
        | false =>
          rw [Bool.false_or] at hst
          have HST := Lib.hid hst
          clear hst
          by_cases hok : ow u = k
          · have d1 : ((ow u : Int) == (k : Int)) = true := by simp; omega
            have d2 : (ow u == k) = true := by simp; omega
            have H2 := Lib.hid (HST.out.trans d2)
            clear d2
            go_wp2_with fail
            go_quiet (fail)
            have hbn := hb.drewN nq
            go_wp2_with fail
            go_roundw
            case rel => exact ⟨j + 1, by omega, by go_num, by rw [H2.out], hbn⟩
            case measure => simp [intOf]; omega
          · have d1 : ((ow u : Int) == (k : Int)) = false := by simp; omega
            have d2 : (ow u == k) = false := by simp; omega
            have H2 := Lib.hid (HST.out.trans d2)
            clear d2
            go_wp2_with fail
            go_quiet (fail)
            have hbn := hb.drewN nq
            go_wp2_with fail
            go_roundw
            case rel => exact ⟨j + 1, by omega, by go_num, by rw [H2.out], hbn⟩
            case measure => simp [intOf]; omega
      case neg =>
        obtain rfl : j = LN := by omega
        have hall := HNR.out k hlt
        have hG2 := hG.below hb
        rw [HOV.out] at hall
        clear hO2 q2 q3
        by_cases hnear : nrB ow k NB j = false
        · have hnot : k ∉ OL := fun h => by rw [hnear, Bool.false_and] at hall; exact absurd (decide_eq_true h) (by rw [← hall]; simp)
          have hG3 := GW.boxes hG2 (B' := fun r' t' => if r' = r then B r t' ++ (if t' < k + 1 ∧ t' ∈ OL then [((v : Int), xk, false)] else []) else B r' t') (fun r' t' _ => by
            by_cases e : r' = r
            · rw [if_pos e, if_pos e]
              by_cases e2 : t' < k ∧ t' ∈ OL
              · rw [if_pos e2, if_pos ⟨by omega, e2.2⟩]
              · rw [if_neg e2, if_neg (fun q => e2 ⟨by have : t' ≠ k := fun e3 => hnot (e3 ▸ q.2); omega, q.2⟩)]
            · rw [if_neg e, if_neg e])
          rw [hnear]
          clear hall hnear hG hF hG2 hb
          go_wp2_with fail
          go_roundw
          case rel => exact ⟨k + 1, vs1, by omega, by go_num, hG3, hF2, HV, HE⟩
          case measure => simp [intOf]; omega
        have hnt : nrB ow k NB j = true := by cases h : nrB ow k NB j <;> simp_all
        rw [hnt, Bool.true_and] at hall
        rw [hnt]
        by_cases hkr : k = r
        · have d1 : ((k : Int) != (r : Int)) = false := by simp; omega
          have hnot : k ∉ OL := fun h => by have := decide_eq_true h; rw [← hall] at this; simp at this; exact this hkr
          have hG3 := GW.boxes hG2 (B' := fun r' t' => if r' = r then B r t' ++ (if t' < k + 1 ∧ t' ∈ OL then [((v : Int), xk, false)] else []) else B r' t') (fun r' t' _ => by
            by_cases e : r' = r
            · rw [if_pos e, if_pos e]
              by_cases e2 : t' < k ∧ t' ∈ OL
              · rw [if_pos e2, if_pos ⟨by omega, e2.2⟩]
              · rw [if_neg e2, if_neg (fun q => e2 ⟨by have : t' ≠ k := fun e3 => hnot (e3 ▸ q.2); omega, q.2⟩)]
            · rw [if_neg e, if_neg e])
          clear hall hnear hnt hG hF hG2 hb
          go_wp2_with fail
          go_roundw
          case rel => exact ⟨k + 1, vs1, by omega, by go_num, hG3, hF2, HV, HE⟩
          case measure => simp [intOf]; omega
        have d1 : ((k : Int) != (r : Int)) = true := by simp; omega
        have hin : k ∈ OL := by
          have : (k != r) = true := by simpa using hkr
          rw [this] at hall
          exact of_decide_eq_true hall.symm
        have hown0 := GW.box hG2 (HI.out k hlt)
        rw [if_pos rfl, if_neg (fun q => Nat.lt_irrefl _ q.1), List.append_nil] at hown0
        have hLlb : (B r k).length ≤ 1000000 := HB.out k hlt
        obtain ⟨L, hL⟩ : ∃ L, B r k = L := ⟨_, rfl⟩
        rw [hL] at hown0 hLlb
        have HL := Lib.hid hL
        have cRt := hG2.cell _ (HI.out k hlt)
        have fR := hG2.free _ (HI.out k hlt)
        rw [HA.out k hlt] at cRt fR
        dsimp only at cRt fR
        obtain ⟨av, cv, hvs⟩ := owns_shape hown0
        have HVS := Lib.hid hvs
        rw [hvs] at hown0 cRt
        have hvb : ∀ b, (Value.slice av L.length cv).ownBlock = some b → D b ∨ w5.heap.size ≤ b := fun b e => by rw [← hvs] at e; exact HV.out k hlt b e
        have hoX : (Value.slice av L.length cv).ownBlock ≠ some X := fun e => by
          rcases hvb X e with h | h
          · exact hDX h
          · omega
        have hoK : (Value.slice av L.length cv).ownBlock ≠ some gK := fun e => by
          rcases hvb gK e with h | h
          · exact hxd h
          · omega
        have hoKB : (Value.slice av L.length cv).ownBlock ≠ some KB := fun e => by
          rcases hvb KB e with h | h
          · exact hKd h
          · omega
        have hoBB : (Value.slice av L.length cv).ownBlock ≠ some BB := fun e => by
          rcases hvb BB e with h | h
          · exact hBd h
          · omega
        have hoR : (Value.slice av L.length cv).ownBlock ≠ some R := fun e => by
          rw [← hvs] at e
          have := hG2.off _ _ (HI.out k hlt) (HI.out k hlt)
          rw [HA.out k hlt] at this
          exact this e
        have cB2 := hF2.cell hB5 hBd
        have cK2 := hF2.cell hK5 hKd
        have cx2 := hF2.cell hx5 hxd
        have hal := fun o => (Below.refl wr.heap.size wr).alloc (Nat.le_refl _) o
        have hlit := rows_lit1 (E := encM) wr ((v : Int), xk, false) 89 #[.int .i64 (v : Int), .int .i64 xk, .bool false] rfl
        have hownA := hown0.alloc (.cells #[.int .i64 (v : Int), .int .i64 xk, .bool false] 89)
        have hlow : lo ≤ wr.heap.size + 1 := by have := hF2.size; omega
        clear hvs hL hall hnear hnt hG hF hb hvb hlt3
        have hlt3 : (k : Int) < P := by omega
        go_upto_region 11 with fail
        refine wp_region_heldK (k := 27) (S := fun b W => (W.cell? ⟨X, 5, none⟩ = some (.slice (some ⟨KB, 0, none⟩) P cK) ∧ W.cell? ⟨X, 6, none⟩ = some (.slice (some ⟨BB, 0, none⟩) P cB) ∧ W.cell? ⟨BB, r, none⟩ = some (.slice (some ⟨R, 0, none⟩) P cR) ∧ W.cell? ⟨KB, r, none⟩ = some (.slice (some ⟨gK, 0, none⟩) n cg) ∧ W.cell? ⟨gK, v, none⟩ = some (.int .i64 xk)) ∧ (match b with | false => W.cell? ⟨R, k, none⟩ = some (.slice av L.length cv) | true => True)) (by kernel_rfl) ?_
        have hS0 : (wr.drew.cell? ⟨X, 5, none⟩ = some (.slice (some ⟨KB, 0, none⟩) P cK) ∧ wr.drew.cell? ⟨X, 6, none⟩ = some (.slice (some ⟨BB, 0, none⟩) P cB) ∧ wr.drew.cell? ⟨BB, r, none⟩ = some (.slice (some ⟨R, 0, none⟩) P cR) ∧ wr.drew.cell? ⟨KB, r, none⟩ = some (.slice (some ⟨gK, 0, none⟩) n cg) ∧ wr.drew.cell? ⟨gK, v, none⟩ = some (.int .i64 xk)) ∧ wr.drew.cell? ⟨R, k, none⟩ = some (.slice av L.length cv) := ⟨⟨q5, q6, cB2, cK2, cx2⟩, cRt⟩
        refine tkA 0 (.pointer (some ⟨X, 6, none⟩)) true rfl (fun _ h => ⟨h.1, trivial⟩) false hS0 ?_
        refine tkA 1 (.slice (some ⟨BB, 0, none⟩) P cB) true rfl (fun _ h => ⟨h.1, trivial⟩) false hS0 ?_
        refine tkA 2 (.int .i64 (r : Int)) true rfl (fun _ h => ⟨h.1, trivial⟩) false hS0 ?_
        refine tkA 3 (.pointer (some ⟨BB, r, none⟩)) true rfl (fun _ h => ⟨h.1, trivial⟩) false hS0 ?_
        refine tkA 4 (.slice (some ⟨R, 0, none⟩) P cR) true rfl (fun _ h => ⟨h.1, trivial⟩) false hS0 ?_
        refine tkA 5 (.int .i64 (k : Int)) true rfl (fun _ h => ⟨h.1, trivial⟩) false hS0 ?_
        refine tkA 6 (.pointer (some ⟨X, 6, none⟩)) true rfl (fun _ h => ⟨h.1, trivial⟩) false hS0 ?_
        refine tkA 7 (.slice (some ⟨BB, 0, none⟩) P cB) true rfl (fun _ h => ⟨h.1, trivial⟩) false hS0 ?_
        refine tkA 8 (.int .i64 (r : Int)) true rfl (fun _ h => ⟨h.1, trivial⟩) false hS0 ?_
        refine tkA 9 (.pointer (some ⟨BB, r, none⟩)) true rfl (fun _ h => ⟨h.1, trivial⟩) false hS0 ?_
        refine tkA 10 (.slice (some ⟨R, 0, none⟩) P cR) true rfl (fun _ h => ⟨h.1, trivial⟩) false hS0 ?_
        refine tkA 11 (.int .i64 (k : Int)) true rfl (fun _ h => ⟨h.1, trivial⟩) false hS0 ?_
        refine tkA 12 (.pointer (some ⟨R, k, none⟩)) true rfl (fun _ h => ⟨h.1, trivial⟩) false hS0 ?_
        refine tkA 13 (.slice av L.length cv) false rfl (fun _ h => ⟨h.1, trivial⟩) false hS0 ?_
        refine tkA 14 (.int .i64 (v : Int)) true rfl (fun _ h => ⟨h.1, trivial⟩) false hS0 ?_
        refine tkA 15 (.pointer (some ⟨X, 5, none⟩)) true rfl (fun _ h => ⟨h.1, trivial⟩) false hS0 ?_
        refine tkA 16 (.slice (some ⟨KB, 0, none⟩) P cK) true rfl (fun _ h => ⟨h.1, trivial⟩) false hS0 ?_
        refine tkA 17 (.int .i64 (r : Int)) true rfl (fun _ h => ⟨h.1, trivial⟩) false hS0 ?_
        refine tkA 18 (.pointer (some ⟨KB, r, none⟩)) true rfl (fun _ h => ⟨h.1, trivial⟩) false hS0 ?_
        refine tkA 19 (.slice (some ⟨gK, 0, none⟩) n cg) true rfl (fun _ h => ⟨h.1, trivial⟩) false hS0 ?_
        refine tkA 20 (.int .i64 (v : Int)) true rfl (fun _ h => ⟨h.1, trivial⟩) false hS0 ?_
        refine tkA 21 (.pointer (some ⟨gK, v, none⟩)) true rfl (fun _ h => ⟨h.1, trivial⟩) false hS0 ?_
        refine tkA 22 (.int .i64 xk) true rfl (fun _ h => ⟨h.1, trivial⟩) false hS0 ?_
        refine tkA 23 (.agg #[.int .i64 (v : Int), .int .i64 xk, .bool false]) true rfl (fun _ h => ⟨h.1, trivial⟩) false hS0 ?_
        try simp only [Act.put, List.setIfInBounds_toArray, List.set_cons_zero, List.set_cons_succ]
        refine wpAnyK_one (i := 24) (by kernel_rfl) rfl (by rfl) (b := false) (by kernel_rfl) (fun K hK => ?_)
        go_simp
        refine hK.out _ _ ⟨⟨cell_alloc q5, cell_alloc q6, cell_alloc cB2, cell_alloc cK2, cell_alloc cx2⟩, cell_alloc cRt⟩ ?_
        try simp only [Act.put, List.setIfInBounds_toArray, List.set_cons_zero, List.set_cons_succ]
        refine wpAnyK_one (i := 25) (by kernel_rfl) rfl (by rfl) (b := false) (by kernel_rfl) (fun K hK => ?_)
        refine wp_app_rows_at msgT (.tmp 60) (.tmp 71) rfl lo (.slice av L.length cv) _ L [((v : Int), xk, false)] rfl (by exact hownA) rfl (by exact hlit) (by rw [List.length_singleton]; omega) (by rw [List.length_singleton]; omega) (by simpa using hlow) ?_
        intro v6 w6 hown6 hg6 hat6
        have gc : ∀ b o' u, b < wr.heap.size → (Value.slice av L.length cv).ownBlock ≠ some b → wr.cell? ⟨b, o', none⟩ = some u → w6.cell? ⟨b, o', none⟩ = some u := fun b o' u _ h1 h2 => hg6.cell (show (wr.alloc (.cells #[.int .i64 (v : Int), .int .i64 xk, .bool false] 89)).drew.cell? ⟨b, o', none⟩ = _ from cell_alloc h2) (fun e => h1 e.symm)
        have c5' := gc _ _ _ (cell_lt q5) hoX q5
        have c6' := gc _ _ _ (cell_lt q6) hoX q6
        have cB' := gc _ _ _ (cell_lt cB2) hoBB cB2
        have cK' := gc _ _ _ (cell_lt cK2) hoKB cK2
        have cx' := gc _ _ _ (cell_lt cx2) hoK cx2
        have cR6 := gc _ _ _ (cell_lt cRt) hoR cRt
        have hG4 := (hG2.below (hal (.cells #[.int .i64 (v : Int), .int .i64 xk, .bool false] 89))).below (Below.refl _ _).drew
        have hst := GW.step (v := v6) hG4 (HI.out k hlt) (by rw [HVS.out]; exact hg6) hown6 (fun b e => by
          rw [HVS.out]
          rcases hat6 with h | h
          · left; rw [← h]; exact e
          · right; rw [h] at e; have := Option.some.inj e; omega)
        have hF4 := (hF2.grown (grown_of_below (hal (.cells #[.int .i64 (v : Int), .int .i64 xk, .bool false] 89)).drew) (fun b e => by cases e)).grown hg6 (fun b e => by rw [← HVS.out] at e; exact HV.out k hlt b e)
        have hF6 := hF4.grown (grown_store (b := R) (j := k) (v := v6)) (fun b e => by cases e; exact .inl hDR)
        rw [HA.out k hlt] at hst
        have fR6 : w6.frozen? ⟨R, k, none⟩ = false := (heap_cell (hg6.block R (show R < (wr.alloc (.cells #[.int .i64 (v : Int), .int .i64 xk, .bool false] 89)).heap.size by have := cell_lt cRt; simp; omega) (fun e => hoR e.symm))).2.trans ((heap_cell (Below.heap_alloc _ _ _ (cell_lt cRt))).2.trans fR)
        have hv6 : ∀ b, v6.ownBlock = some b → D b ∨ w5.heap.size ≤ b := fun b e => by
          rcases hat6 with h | h
          · rw [h, ← HVS.out] at e; exact HV.out k hlt b e
          · rw [h] at e
            have h1 := Option.some.inj e
            have h2 := hF2.size
            right
            have h3 : (wr.alloc (.cells #[.int .i64 (v : Int), .int .i64 xk, .bool false] 89)).drew.heap.size = wr.heap.size + 1 := by simp
            omega
        obtain ⟨a6, c6, hv6s⟩ := owns_shape hown6
        subst hv6s
        refine hK.out _ _ ⟨⟨c5', c6', cB', cK', cx'⟩, cR6⟩ ?_
        try simp only [Act.put, List.setIfInBounds_toArray, List.set_cons_zero, List.set_cons_succ]
        refine tkA 26 (.pointer (some ⟨R, k, none⟩)) true rfl (fun _ h => ⟨h.1, trivial⟩) false ⟨⟨c5', c6', cB', cK', cx'⟩, cR6⟩ ?_
        try simp only [Act.put, List.setIfInBounds_toArray, List.set_cons_zero, List.set_cons_succ]
        refine wpAnyK_one (i := 27) (by kernel_rfl) rfl (by rfl) (b := true) (by kernel_rfl) (fun K hK => ?_)
        go_simp
        have nn : ∀ z b o' u, b ≠ R → w6.cell? ⟨b, o', none⟩ = some u → (w6.setCell ⟨R, k, none⟩ z).cell? ⟨b, o', none⟩ = some u := fun z b o' u h1 h2 => (World.cell?_setCell_far _ _ _ _ (by first | exact fun e => h1 e | exact fun e => h1 e.symm)).trans h2
        refine hK.out _ _ ⟨⟨nn _ _ _ _ hXR c5', nn _ _ _ _ hXR c6', nn _ _ _ _ hBR cB', nn _ _ _ _ hKR cK', nn _ _ _ _ hGR cx'⟩, trivial⟩ (wpAnyK_done (by kernel_rfl) ?_ _)
        have hG6 := GW.boxes hst (B' := fun r' t' => if r' = r then B r t' ++ (if t' < k + 1 ∧ t' ∈ OL then [((v : Int), xk, false)] else []) else B r' t') (fun r' t' _ => by
          by_cases e1 : r' = r
          · subst e1
            by_cases e2 : t' = k
            · subst e2
              rw [if_pos ⟨rfl, rfl⟩, if_pos rfl, if_pos ⟨by omega, hin⟩, HL.out]
            · rw [if_neg (fun q => e2 q.2), if_pos rfl, if_pos rfl]
              congr 1
              by_cases e3 : t' < k ∧ t' ∈ OL
              · rw [if_pos e3, if_pos ⟨by omega, e3.2⟩]
              · rw [if_neg e3, if_neg (fun q => e3 ⟨by omega, q.2⟩)]
          · rw [if_neg (fun q => e1 q.1), if_neg e1, if_neg e1])
        have HV6 : Hid (∀ t1, t1 < P → ∀ b, (updX vs1 (r + 2, k) (.slice a6 (L ++ [((v : Int), xk, false)]).length c6) (r + 2, t1)).ownBlock = some b → D b ∨ w5.heap.size ≤ b) := (show ∀ t1, _ from fun t1 h1 b e => by
          unfold updX at e
          by_cases q : t1 = k
          · rw [if_pos (by rw [q])] at e; exact hv6 b e
          · rw [if_neg (ix_ne q)] at e; exact HV.out t1 h1 b e)
        have HE6 : Hid (∀ i, (∀ t, t < P → i ≠ (r + 2, t)) → updX vs1 (r + 2, k) (.slice a6 (L ++ [((v : Int), xk, false)]).length c6) i = vs i) := (show ∀ i, _ from fun i hi => by
          unfold updX
          rw [if_neg (hi k hlt)]
          exact HE.out i hi)
        have hll : (L ++ [((v : Int), xk, false)]).length = L.length + 1 := by simp
        rw [hll] at hG6 HV6 HE6 hF6
        clear hst hG4 hF4 hown6 hg6 hat6 hv6 fR6 cR6 c5' c6' cB' cK' cx' hll gc nn q5 q6 cB2 cK2 cx2 cRt fR
        go_wp2_with fail
        go_roundw
        case rel => exact ⟨k + 1, _, by omega, by go_num, hG6, hF6, HV6, HE6⟩
        case measure => simp [intOf]; omega
end Go.Proofs.YtdkmdcdoiaelfaaGreat

namespace Go.Proofs.YtdkmdcdoiaelfaaGreat
open Go.RowKit Go.BigFrame

/-- what is copied behind some rows and boxes -/
def cpK (kn : List (List Int)) (a j : Nat) : List Int := if j < a then knF kn j else []
def cpM (bx : List (List (List Msg))) (b k r t : Nat) : List Msg := if r < b ∨ (r = b ∧ t < k) then bxF bx r t else []
def cpN (bx : List (List (List Msg))) (b k r : Nat) : Nat := if r < b then (bx.getD r []).length else if r = b then k else 0
theorem getD_out {α : Type} {l : List α} {d : α} {i : Nat} (h : l.length ≤ i) : l.getD i d = d := by rw [List.getD_eq_getElem?_getD, List.getElem?_eq_none h]; rfl
theorem getD_at {α : Type} {l : List α} {d x : α} {i : Nat} (h : l[i]? = some x) : l.getD i d = x := by rw [List.getD_eq_getElem?_getD, h]; rfl
theorem cpK_zero (kn : List (List Int)) (j : Nat) : cpK kn 0 j = [] := by unfold cpK; rw [if_neg (by omega)]
theorem cpK_step (kn : List (List Int)) (a j : Nat) : cpK kn (a + 1) j = if j = a then knF kn a else cpK kn a j := by
  unfold cpK
  by_cases e : j = a
  · subst e; rw [if_pos rfl, if_pos (by omega)]
  · rw [if_neg e]
    by_cases e2 : j < a
    · rw [if_pos e2, if_pos (by omega)]
    · rw [if_neg e2, if_neg (by omega)]
theorem cpK_all (kn : List (List Int)) (j : Nat) : knF kn j = cpK kn kn.length j := by
  unfold cpK
  by_cases e : j < kn.length
  · rw [if_pos e]
  · rw [if_neg e]; unfold knF; rw [getD_out (by omega)]
theorem cpM_zero (bx : List (List (List Msg))) (r t : Nat) : cpM bx 0 0 r t = [] := by unfold cpM; rw [if_neg (by omega)]
theorem cpM_step (bx : List (List (List Msg))) (b k r t : Nat) : cpM bx b (k + 1) r t = if r = b ∧ t = k then bxF bx b k else cpM bx b k r t := by
  unfold cpM
  by_cases e : r = b ∧ t = k
  · obtain ⟨rfl, rfl⟩ := e
    rw [if_pos (⟨rfl, rfl⟩ : r = r ∧ t = t), if_pos (.inr ⟨rfl, by omega⟩)]
  · rw [if_neg e]
    by_cases e2 : r < b ∨ (r = b ∧ t < k)
    · rw [if_pos e2, if_pos (by omega)]
    · rw [if_neg e2, if_neg (by omega)]
theorem cpM_row (bx : List (List (List Msg))) (b r t : Nat) : cpM bx (b + 1) 0 r t = cpM bx b (bx.getD b []).length r t := by
  unfold cpM
  by_cases e : r < b
  · rw [if_pos (.inl (by omega)), if_pos (.inl e)]
  · by_cases e2 : r = b
    · subst e2
      rw [if_pos (.inl (by omega))]
      by_cases e3 : t < (bx.getD r []).length
      · rw [if_pos (.inr ⟨rfl, e3⟩)]
      · rw [if_neg (by omega)]; unfold bxF; rw [getD_out (by omega)]
    · rw [if_neg (by omega), if_neg (by omega)]
theorem cpM_all (bx : List (List (List Msg))) (r t : Nat) : bxF bx r t = cpM bx bx.length 0 r t := by
  unfold cpM
  by_cases e : r < bx.length
  · rw [if_pos (.inl e)]
  · rw [if_neg (by omega)]; unfold bxF; rw [getD_out (l := bx) (by omega)]; rfl
theorem cpN_zero (bx : List (List (List Msg))) (r : Nat) : cpN bx 0 0 r = 0 := by unfold cpN; rw [if_neg (by omega)]; split <;> rfl
theorem cpN_step (bx : List (List (List Msg))) (b k r : Nat) : cpN bx b (k + 1) r = if r = b then k + 1 else cpN bx b k r := by
  unfold cpN
  by_cases e : r = b
  · subst e; rw [if_pos rfl, if_neg (by omega), if_pos rfl]
  · rw [if_neg e, if_neg e, if_neg e]
theorem cpN_at (bx : List (List (List Msg))) (b k : Nat) : cpN bx b k b = k := by unfold cpN; rw [if_neg (by omega), if_pos rfl]
theorem cpN_row (bx : List (List (List Msg))) (b r : Nat) : cpN bx (b + 1) 0 r = cpN bx b (bx.getD b []).length r := by
  unfold cpN
  by_cases e : r < b
  · rw [if_pos (by omega), if_pos e]
  · by_cases e2 : r = b
    · subst e2; rw [if_pos (by omega), if_neg e, if_pos rfl]
    · rw [if_neg (by omega), if_neg e, if_neg e2]; split <;> rfl
theorem cpN_all (bx : List (List (List Msg))) (r : Nat) : (bx.getD r []).length = cpN bx bx.length 0 r := by
  unfold cpN
  by_cases e : r < bx.length
  · rw [if_pos e]
  · rw [if_neg e, getD_out (by omega)]; split <;> rfl
/-- a world while it is copied: its rows, and the block from which it is read -/
structure CpS (w0 : World) (Y : Nat) (V0 V1 V2 V3 V4 : Value) (vs : Ix → Value) (K : Nat → List Int) (M : Nat → Nat → List Msg) (a b : Nat) (N : Nat → Nat) (wr : World) : Prop where
  rows : RowsS wr w0.heap.size vs K M a b N
  out : wr.heap[Y]? = some (.cells #[V0, V1, V2, V3, V4, vs (1, 0), vs (1, 1)] 36 (0, 0))
  fr : Fr (fun b => b = Y) w0 wr
section
variable {w0 w w' : World} {Y : Nat} {V0 V1 V2 V3 V4 : Value} {vs : Ix → Value} {K : Nat → List Int} {M : Nat → Nat → List Msg} {a b : Nat} {N : Nat → Nat} {v : Value}
theorem CpS.below (h : CpS w0 Y V0 V1 V2 V3 V4 vs K M a b N w) (hb : Below w.heap.size w w') : CpS w0 Y V0 V1 V2 V3 V4 vs K M a b N w' :=
  ⟨h.rows.below hb, lit_next' hb h.out, h.fr.grown (grown_of_below hb) (fun b e => by cases e)⟩
theorem CpS.congr {K' : Nat → List Int} {M' : Nat → Nat → List Msg} {N' : Nat → Nat} (h : CpS w0 Y V0 V1 V2 V3 V4 vs K M a b N w) (h1 : ∀ j, K' j = K j) (h2 : ∀ r t, M' r t = M r t) (h3 : ∀ r, N' r = N r) : CpS w0 Y V0 V1 V2 V3 V4 vs K' M' a b N' w := ⟨h.rows.congr h1 h2 h3, h.out, h.fr⟩
theorem CpS.setK {j : Nat} {l : List Int} (h : CpS w0 Y V0 V1 V2 V3 V4 vs K M a b N w) (ha : a ≤ j) (hb : Below w.heap.size w w') (hown : w'.ownsRow w.heap.size 3 1 v l.length (intsV l)) :
    CpS w0 Y V0 V1 V2 V3 V4 (updX vs (0, j) v) (fun i => if i = j then l else K i) M a b N w' :=
  ⟨h.rows.setK ha (grown_none (grown_of_below hb)) (owns_base hown h.fr.size) (fun b e => .inr (hown.lt b e).1), by rw [updX_ne (ix1 (by omega)), updX_ne (ix1 (by omega))]; exact lit_next' hb h.out, h.fr.grown (grown_of_below hb) (fun b e => by cases e)⟩
theorem CpS.setM {r t : Nat} {l : List Msg} (h : CpS w0 Y V0 V1 V2 V3 V4 vs K M a b N w) (ht : N r ≤ t) (hb : Below w.heap.size w w') (hown : w'.ownsRow w.heap.size 89 encM.k v l.length (flatR encM l)) :
    CpS w0 Y V0 V1 V2 V3 V4 (updX vs (r + 2, t) v) K (fun r' t' => if r' = r ∧ t' = t then l else M r' t') a b N w' :=
  ⟨h.rows.setM ht (grown_none (grown_of_below hb)) (owns_base hown h.fr.size) (fun b e => .inr (hown.lt b e).1), by rw [updX_ne (ix1 (by omega)), updX_ne (ix1 (by omega))]; exact lit_next' hb h.out, h.fr.grown (grown_of_below hb) (fun b e => by cases e)⟩
theorem CpS.low (h : CpS w0 Y V0 V1 V2 V3 V4 vs K M a b N w) (hY : Y < w0.heap.size) (x : Ix) : (vs x).ownBlock ≠ some Y := fun e => by have := (h.rows.lt e).1; omega
theorem CpS.grown (h : CpS w0 Y V0 V1 V2 V3 V4 vs K M a b N w) (x : Ix) (hg : w.grownBy w' (vs x).ownBlock) : Fr (fun b => b = Y) w0 w' := h.fr.grown hg (fun _ e => .inr (h.rows.lt e).1)
theorem CpS.putK (h : CpS w0 Y V0 V1 V2 V3 V4 vs K M a b N w) (hY : Y < w0.heap.size) (hown : w'.ownsRow w0.heap.size 22 (encP Unit).k v (ptrs (fun j => vs (0, j)) a ++ [(slOf (vs (0, a)), ())]).length (flatR (encP Unit) (ptrs (fun j => vs (0, j)) a ++ [(slOf (vs (0, a)), ())]))) (hg : w.grownBy w' (vs (1, 0)).ownBlock) (hat : v.ownBlock = (vs (1, 0)).ownBlock ∨ v.ownBlock = some w.heap.size) :
    CpS w0 Y V0 V1 V2 V3 V4 (updX vs (1, 0) v) K M (a + 1) b N (w'.setCell ⟨Y, 5, none⟩ v) := by
  have hr := h.rows.putK hg (by rw [ptrs_succ]; exact hown) (fun b e => by
    rcases hat with h1 | h1
    · exact .inl (h1 ▸ e)
    · rw [h1] at e; exact .inr (Nat.le_of_eq (Option.some.inj e)))
  have hst : w'.grownBy (w'.setCell ⟨Y, 5, none⟩ v) (some Y) := grown_store
  refine ⟨RowsV.kept hr hst (fun x b e q => ?_), ?_, (h.grown _ hg).grown hst (fun b e => .inl (Option.some.inj e).symm)⟩
  · have := (hr.lt e).1
    have := Option.some.inj q
    omega
  · have h1 := grown_blk hg h.out (fun e => h.low hY (1, 0) e.symm)
    rw [updX_eq, updX_ne (ix2 (by omega)), heap_setCell_same _ _ _ _ _ _ h1]; rfl
theorem CpS.putM {r m : Nat} (h : CpS w0 Y V0 V1 V2 V3 V4 vs K M a b N w) (hY : Y < w0.heap.size) (hb : b ≤ r) (_hm : N r = m) (hown : w'.ownsRow w0.heap.size 87 (encP Unit).k v (ptrs (fun t => vs (r + 2, t)) m ++ [(slOf (vs (r + 2, m)), ())]).length (flatR (encP Unit) (ptrs (fun t => vs (r + 2, t)) m ++ [(slOf (vs (r + 2, m)), ())]))) (hg : w.grownBy w' (vs (1, r + 2)).ownBlock) (hat : v.ownBlock = (vs (1, r + 2)).ownBlock ∨ v.ownBlock = some w.heap.size) :
    CpS w0 Y V0 V1 V2 V3 V4 (updX vs (1, r + 2) v) K M a b (fun r' => if r' = r then m + 1 else N r') w' := by
  have hr := h.rows.putM hb hg (by rw [ptrs_succ]; exact hown) (fun b e => by
    rcases hat with h1 | h1
    · exact .inl (h1 ▸ e)
    · rw [h1] at e; exact .inr (Nat.le_of_eq (Option.some.inj e)))
  refine ⟨hr, ?_, h.grown _ hg⟩
  rw [updX_ne (ix2 (by omega)), updX_ne (ix2 (by omega))]
  exact grown_blk hg h.out (fun e => h.low hY _ e.symm)
theorem CpS.clr {r : Nat} (h : CpS w0 Y V0 V1 V2 V3 V4 vs K M a b N w) (hb : b ≤ r) (hN : N r = 0) : CpS w0 Y V0 V1 V2 V3 V4 (updX vs (1, r + 2) (.slice none 0 0)) K M a b N w := by
  refine ⟨(h.rows.putM (m := 0) hb (World.grownBy.refl _ _) (World.ownsRow_nil _ _ _ _) (fun b e => by cases e)).congr (fun _ => rfl) (fun _ _ => rfl) (fun r' => ?_), ?_, h.fr⟩
  · by_cases e : r' = r
    · rw [if_pos e, e, hN]
    · rw [if_neg e]
  · rw [updX_ne (ix2 (by omega)), updX_ne (ix2 (by omega))]; exact h.out
theorem CpS.putR (h : CpS w0 Y V0 V1 V2 V3 V4 vs K M a b N w) (hY : Y < w0.heap.size) (hown : w'.ownsRow w0.heap.size 75 (encP Unit).k v (ptrs (fun r => vs (1, r + 2)) b ++ [(slOf (vs (1, b + 2)), ())]).length (flatR (encP Unit) (ptrs (fun r => vs (1, r + 2)) b ++ [(slOf (vs (1, b + 2)), ())]))) (hg : w.grownBy w' (vs (1, 1)).ownBlock) (hat : v.ownBlock = (vs (1, 1)).ownBlock ∨ v.ownBlock = some w.heap.size) :
    CpS w0 Y V0 V1 V2 V3 V4 (updX vs (1, 1) v) K M a (b + 1) N (w'.setCell ⟨Y, 6, none⟩ v) := by
  have hr := h.rows.putR hg (by rw [ptrs_succ]; exact hown) (fun b e => by
    rcases hat with h1 | h1
    · exact .inl (h1 ▸ e)
    · rw [h1] at e; exact .inr (Nat.le_of_eq (Option.some.inj e)))
  have hst : w'.grownBy (w'.setCell ⟨Y, 6, none⟩ v) (some Y) := grown_store
  refine ⟨RowsV.kept hr hst (fun x b e q => ?_), ?_, (h.grown _ hg).grown hst (fun b e => .inl (Option.some.inj e).symm)⟩
  · have := (hr.lt e).1
    have := Option.some.inj q
    omega
  · have h1 := grown_blk hg h.out (fun e => h.low hY (1, 1) e.symm)
    rw [updX_eq, updX_ne (ix2 (by omega)), heap_setCell_same _ _ _ _ _ _ h1]; rfl
theorem RowsV.base {lo lo' : Nat} {TE kk len : Ix → Nat} {cs : Ix → List Value} (h : RowsV w lo vs TE kk len cs) (hl : lo' ≤ lo) : RowsV w lo' vs TE kk len cs := ⟨fun x => owns_base (h.own x) hl, h.apart⟩
end
set_option linter.unusedSimpArgs false in
set_option maxRecDepth 100000 in
set_option maxHeartbeats 6400000 in
theorem copy38_any (n P : Int) (ae ao ah ak ab : Option Addr) (le lp lh ce co ch ck cb : Nat) (kn : List (List Int)) (bx : List (List (List Msg))) (w : World) (hkl : kn.length ≤ 1000000) (hbl : bx.length ≤ 1000000) (hk : KnA w (.slice ak kn.length ck) kn) (hki : ∀ l ∈ kn, l.length ≤ 1000000)
    (hb : BoxA w (.slice ab bx.length cb) bx) (hbr : ∀ r ∈ bx, r.length ≤ 1000000) (hbm : ∀ r ∈ bx, ∀ m ∈ r, m.length ≤ 1000000) :
    Calls Tryz.prog 49 #[.agg #[.int .i64 n, .slice ae le ce, .int .i64 P, .slice ao lp co, .slice ah lh ch, .slice ak kn.length ck, .slice ab bx.length cb]] w fun e w' => ∃ vs, e = .returned (.agg #[.int .i64 n, .slice ae le ce, .int .i64 P, .slice ao lp co, .slice ah lh ch, vs (1, 0), vs (1, 1)]) ∧ RowsS w' w.heap.size vs (knF kn) (bxF bx) kn.length bx.length (fun r => (bx.getD r []).length) ∧ Below w.heap.size w w' := by
  obtain ⟨hX0, hb0⟩ := boxG_new w #[.int .i64 n, .slice ae le ce, .int .i64 P, .slice ao lp co, .slice ah lh ch, .slice ak kn.length ck, .slice ab bx.length cb] 36
  obtain ⟨w1, hw1⟩ : ∃ V : World, V = w.alloc (.cells #[.int .i64 n, .slice ae le ce, .int .i64 P, .slice ao lp co, .slice ah lh ch, .slice ak kn.length ck, .slice ab bx.length cb] 36) := ⟨_, rfl⟩
  have hz1 : w1.heap.size = w.heap.size + 1 := by rw [hw1]; simp
  rw [← hw1] at hX0 hb0
  obtain ⟨hZ0, hb1⟩ := boxG_new w1 #[.int .i64 0, .slice none 0 0, .int .i64 0, .slice none 0 0, .slice none 0 0, .slice none 0 0, .slice none 0 0] 36
  obtain ⟨wA, hwA⟩ : ∃ V : World, V = w1.alloc (.cells #[.int .i64 0, .slice none 0 0, .int .i64 0, .slice none 0 0, .slice none 0 0, .slice none 0 0, .slice none 0 0] 36) := ⟨_, rfl⟩
  have hzA : wA.heap.size = w.heap.size + 2 := by rw [hwA]; simp [hz1]
  rw [← hwA] at hZ0 hb1
  have hX1 := lit_next' hb1 hX0
  have hbA := hb0.trans (hb1.mono hb0.size)
  obtain ⟨X, hX⟩ : ∃ X, w.heap.size = X := ⟨_, rfl⟩
  rw [hz1] at hZ0
  rw [hX] at hX1 hZ0 hzA
  have HX := Lib.hid hX
  have hwA2 : wA = (w.alloc (.cells #[.int .i64 n, .slice ae le ce, .int .i64 P, .slice ao lp co, .slice ah lh ch, .slice ak kn.length ck, .slice ab bx.length cb] 36)).alloc (.cells #[.int .i64 0, .slice none 0 0, .int .i64 0, .slice none 0 0, .slice none 0 0, .slice none 0 0, .slice none 0 0] 36) := by rw [hwA, hw1]
  have HWA := Lib.hid hwA2
  clear hX0 hb0 hb1 hz1 hw1 hwA hwA2 w1
  obtain ⟨hYs, hb0⟩ := boxG_new wA #[.int .i64 n, .slice ae le ce, .int .i64 P, .slice ao lp co, .slice ah lh ch, .slice none 0 0, .slice none 0 0] 36
  obtain ⟨w0, hw0⟩ : ∃ V : World, V = wA.alloc (.cells #[.int .i64 n, .slice ae le ce, .int .i64 P, .slice ao lp co, .slice ah lh ch, .slice none 0 0, .slice none 0 0] 36) := ⟨_, rfl⟩
  rw [← hw0] at hYs hb0
  have HW0 := Lib.hid hw0
  have hX2 := lit_next' hb0 hX1
  have hZ2 := lit_next' hb0 hZ0
  have hbw0 := hbA.trans (hb0.mono hbA.size)
  obtain ⟨Y, hY⟩ : ∃ Y, wA.heap.size = Y := ⟨_, rfl⟩
  rw [hY] at hYs
  have hYl : Y < w0.heap.size := blk_lt hYs
  have hXY : X + 1 < Y := by omega
  have HY := Lib.hid hY
  clear hw0 hY hbA hb0 hzA hX
  obtain ⟨x0, x1, x2, x3, x4, x5, x6⟩ := cells7 hX1
  go_enter Tryz.func49, Tryz.ntmps49
  go_upto_region 1 with fail
  rw [← HWA.out, HX.out]
  go_upto_region 2 with fail
  rw [← HW0.out]
  have hC0 : CpS w0 Y (.int .i64 n) (.slice ae le ce) (.int .i64 P) (.slice ao lp co) (.slice ah lh ch) (fun _ => .slice none 0 0) (cpK kn 0) (cpM bx 0 0) 0 0 (cpN bx 0 0) w0 := ⟨(RowsS.void w0 w0.heap.size).congr (cpK_zero kn) (cpM_zero bx) (cpN_zero bx), hYs, Fr.refl _ _⟩
  have hKN : KnA w0 (.slice ak kn.length ck) kn := hk.below hbw0
  have hBX : BoxA w0 (.slice ab bx.length cb) bx := hb.below hbw0
  clear x0 x1 x2 x3 x4 x5 x6 hX1 hZ0 hYs
  go_wp2_with fail
  rw [HY.out]
  go_loopw [4] (fun vi wr => ∃ (a : Nat) (vs : Ix → Value), a ≤ kn.length ∧ vi = .int .i64 (a : Int) ∧ CpS w0 Y (.int .i64 n) (.slice ae le ce) (.int .i64 P) (.slice ao lp co) (.slice ah lh ch) vs (cpK kn a) (cpM bx 0 0) a 0 (cpN bx 0 0) wr) (fun vi _ => kn.length - (intOf vi).toNat)
  case atStart => exact ⟨0, _, Nat.zero_le _, rfl, hC0⟩
  case round =>
    clear hC0
    obtain ⟨a, vs, ha, rfl, hC⟩ := hrel
    have hbr0 : Below w.heap.size w wr := hbw0.trans (hC.fr.below (fun b e => by have := HX.out; omega) hbw0.size)
    have hXr := hC.fr.blk hX2 (by omega)
    have x5 : wr.cell? ⟨X, 5, none⟩ = some (.slice ak kn.length ck) := cell_blk hXr
    by_cases hlt : a < kn.length
    · have hlt3 : (a : Int) < kn.length := by omega
      obtain ⟨L, hx⟩ : ∃ L, kn[a]? = some L := ⟨_, List.getElem?_eq_getElem hlt⟩
      have hLl := hki L (List.mem_of_getElem? hx)
      obtain ⟨-, hck, bk, ok, ⟨ra, rl, rc⟩, rfl, hc0, hI0⟩ := hk.at a L hx
      obtain rfl : rl = L.length := IntsAt.lenE hI0
      change w.cell? ⟨bk, ok + a, none⟩ = some (.slice ra L.length rc) at hc0
      change IntsAt w (.slice ra L.length rc) L at hI0
      have hbk := cell_lt hc0
      have hc := (hbr0.cell (p := ⟨bk, ok + a, none⟩) hbk).trans hc0
      have hI := hI0.below hbr0
      have hkL : knF kn a = L := getD_at hx
      have y5 : wr.cell? ⟨Y, 5, none⟩ = some (vs (1, 0)) := cell_blk hC.out
      go_upto_region 5 with fail
      refine wp_region_heldK (k := 11) (S := fun b W => (W.cell? ⟨X, 5, none⟩ = some (.slice (some ⟨bk, ok, none⟩) kn.length ck) ∧ W.cell? ⟨bk, ok + a, none⟩ = some (.slice ra L.length rc)) ∧ (match b with | false => W.cell? ⟨Y, 5, none⟩ = some (vs (1, 0)) | true => True)) (by kernel_rfl) ?_
      have hS0 : (wr.drew.cell? ⟨X, 5, none⟩ = some (.slice (some ⟨bk, ok, none⟩) kn.length ck) ∧ wr.drew.cell? ⟨bk, ok + a, none⟩ = some (.slice ra L.length rc)) ∧ wr.drew.cell? ⟨Y, 5, none⟩ = some (vs (1, 0)) := ⟨⟨x5, hc⟩, y5⟩
      refine tkA 0 (.pointer (some ⟨Y, 5, none⟩)) true rfl (fun _ h => ⟨h.1, trivial⟩) false hS0 ?_
      refine tkA 1 (vs (1, 0)) false rfl (fun _ h => ⟨h.1, trivial⟩) false hS0 ?_
      refine tkA 2 (.pointer (some ⟨X, 5, none⟩)) true rfl (fun _ h => ⟨h.1, trivial⟩) false hS0 ?_
      refine tkA 3 (.slice (some ⟨bk, ok, none⟩) kn.length ck) true rfl (fun _ h => ⟨h.1, trivial⟩) false hS0 ?_
      refine tkA 4 (.int .i64 (a : Int)) true rfl (fun _ h => ⟨h.1, trivial⟩) false hS0 ?_
      refine tkA 5 (.pointer (some ⟨bk, ok + a, none⟩)) true rfl (fun _ h => ⟨h.1, trivial⟩) false hS0 ?_
      refine tkA 6 (.slice ra L.length rc) true rfl (fun _ h => ⟨h.1, trivial⟩) false hS0 ?_
      try simp only [Act.put, List.setIfInBounds_toArray, List.set_cons_zero, List.set_cons_succ]
      refine wpAnyK_one (i := 7) (by kernel_rfl) rfl (by rfl) (b := false) (by kernel_rfl) (fun K hK => ?_)
      refine wp_app_ints intsT (.const (.slice none 0 0)) (.tmp 26) (by kernel_rfl) wr.drew.heap.size (.slice none 0 0) (.slice ra L.length rc) [] L (by kernel_rfl) (World.ownsRow_nil _ _ _ _) (by kernel_rfl) (by exact hI.below (Below.refl _ _).drew) (by simp; omega) (Nat.le_refl _) ?_
      intro v6 w6 hown6 hg6
      rw [List.nil_append] at hown6
      have hb6 : Below wr.heap.size wr w6 := ((Below.refl wr.heap.size wr).drew).trans (below_of_grown hg6)
      obtain ⟨a6, c6, hv6⟩ := owns_shape hown6
      subst hv6
      have hC6 := hC.setK (Nat.le_refl a) hb6 hown6
      obtain ⟨vs2, hvs2⟩ : ∃ V, V = updX vs (0, a) (.slice a6 L.length c6) := ⟨_, rfl⟩
      have e0 : vs2 (1, 0) = vs (1, 0) := by rw [hvs2]; exact updX_ne (ix1 (by omega))
      have e2 : vs2 (0, a) = .slice a6 L.length c6 := by rw [hvs2]; exact updX_eq
      rw [← hvs2] at hC6
      have hX6 := (hb6.cell (p := ⟨X, 5, none⟩) (cell_lt x5)).trans x5
      have hc6 := (hb6.cell (p := ⟨bk, ok + a, none⟩) (cell_lt hc)).trans hc
      have hY6 := (hb6.cell (p := ⟨Y, 5, none⟩) (cell_lt y5)).trans y5
      refine hK.out _ _ ⟨⟨hX6, hc6⟩, hY6⟩ ?_
      try simp only [Act.put, List.setIfInBounds_toArray, List.set_cons_zero, List.set_cons_succ]
      refine wpAnyK_one (i := 8) (by kernel_rfl) rfl (by rfl) (b := false) (by kernel_rfl) (fun K hK => ?_)
      go_simp
      refine hK.out _ _ ⟨⟨cell_alloc hX6, cell_alloc hc6⟩, cell_alloc hY6⟩ ?_
      try simp only [Act.put, List.setIfInBounds_toArray, List.set_cons_zero, List.set_cons_succ]
      have hb8 : Below w6.heap.size w6 (w6.alloc (.cells #[.slice a6 L.length c6] 22)) := (Below.refl _ _).alloc (Nat.le_refl _) _
      have hC8 := hC6.below hb8
      have hown8 := hC8.rows.o0
      rw [e0] at hown8
      have hlit := rows_lit1 (E := encP Unit) w6 (slOf (.slice a6 L.length c6), ()) 22 #[.slice a6 L.length c6] rfl
      refine wpAnyK_one (i := 9) (by kernel_rfl) rfl (by rfl) (b := false) (by kernel_rfl) (fun K hK => ?_)
      refine wp_app_rows_at (rrT Unit) (.tmp 21) (.tmp 28) (by kernel_rfl) w0.heap.size (vs (1, 0)) _ (ptrs (fun j => vs2 (0, j)) a) [(slOf (.slice a6 L.length c6), ())] (by kernel_rfl) (by exact hown8) (by kernel_rfl) (by exact hlit) (by rw [ptrs_len, List.length_singleton]; omega) (by rw [ptrs_len, List.length_singleton]; omega) (by exact hC8.fr.size) ?_
      intro v9 w9 hown9 hg9 hat9
      have hC9 := (hC8.putK hYl (by rw [e2]; exact hown9) (by rw [e0]; exact hg9) (by rw [e0]; exact hat9)).congr (K' := cpK kn (a + 1)) (fun j => by rw [cpK_step, hkL]) (fun _ _ => rfl) (fun _ => rfl)
      have gc : ∀ b o' u, b < w0.heap.size → w6.cell? ⟨b, o', none⟩ = some u → w9.cell? ⟨b, o', none⟩ = some u := fun b o' u h1 h2 => hg9.cell (cell_alloc h2) (fun e => by have h3 := (hC.rows.lt e.symm).1; exact Nat.lt_irrefl _ (Nat.lt_of_lt_of_le h1 h3))
      have hwX : w.heap.size ≤ X := by rw [HX.out]; exact Nat.le_refl _
      have hX9 := gc _ _ _ (by omega) hX6
      have hc9 := gc _ _ _ (by omega) hc6
      have hY9 := gc _ _ _ hYl hY6
      have f9 : w9.frozen? ⟨Y, 5, none⟩ = false := free_blk (j := 5) (grown_blk hg9 hC8.out (fun e => by have := (hC.rows.lt e.symm).1; omega))
      obtain ⟨a9, c9, hv9⟩ := owns_shape hown9
      rw [List.length_append, ptrs_len, List.length_singleton] at hv9
      subst hv9
      refine hK.out _ _ ⟨⟨hX9, hc9⟩, hY9⟩ ?_
      try simp only [Act.put, List.setIfInBounds_toArray, List.set_cons_zero, List.set_cons_succ]
      refine tkA 10 (.pointer (some ⟨Y, 5, none⟩)) true rfl (fun _ h => ⟨h.1, trivial⟩) false (show (w9.cell? ⟨X, 5, none⟩ = some (.slice (some ⟨bk, ok, none⟩) kn.length ck) ∧ w9.cell? ⟨bk, ok + a, none⟩ = some (.slice ra L.length rc)) ∧ w9.cell? ⟨Y, 5, none⟩ = some (vs (1, 0)) from ⟨⟨hX9, hc9⟩, hY9⟩) ?_
      try simp only [Act.put, List.setIfInBounds_toArray, List.set_cons_zero, List.set_cons_succ]
      refine wpAnyK_one (i := 11) (by kernel_rfl) rfl (by rfl) (b := true) (by kernel_rfl) (fun K hK => ?_)
      go_simp
      have nn : ∀ z b o' u, b ≠ Y → w9.cell? ⟨b, o', none⟩ = some u → (w9.setCell ⟨Y, 5, none⟩ z).cell? ⟨b, o', none⟩ = some u := fun z b o' u h1 h2 => (World.cell?_setCell_far _ _ _ _ (by first | exact fun e => h1 e | exact fun e => h1 e.symm)).trans h2
      refine hK.out _ _ ⟨⟨nn _ _ _ _ (by omega) hX9, nn _ _ _ _ (by omega) hc9⟩, trivial⟩ (wpAnyK_done (by kernel_rfl) ?_ _)
      clear hC8 hC6 hown6 hg6 hown8 hlit hg9 hat9 f9 hX9 hc9 hY9 hX6 hc6 hY6 gc nn hb8 hb6 hC x5 y5 hc hI
      go_wp2_with fail
      go_roundw
      case rel => exact ⟨a + 1, _, by omega, by go_num, hC9⟩
      case measure => simp [intOf]; omega
    · obtain rfl : a = kn.length := by omega
      have x6 : wr.cell? ⟨X, 6, none⟩ = some (.slice ab bx.length cb) := cell_blk hXr
      go_wp2_with fail
      obtain ⟨w2, hw2⟩ : ∃ V : World, V = wr := ⟨_, rfl⟩
      rw [← hw2] at hC hXr hbr0 ⊢
      clear x5 x6 hw2
      go_loopw [5] (fun vi wr => ∃ (b : Nat) (vs : Ix → Value), b ≤ bx.length ∧ vi = .int .i64 (b : Int) ∧ CpS w0 Y (.int .i64 n) (.slice ae le ce) (.int .i64 P) (.slice ao lp co) (.slice ah lh ch) vs (cpK kn kn.length) (cpM bx b 0) kn.length b (cpN bx b 0) wr) (fun vi _ => bx.length - (intOf vi).toNat)
      case atStart => exact ⟨0, _, Nat.zero_le _, rfl, hC⟩
      case round =>
        clear hC hXr hbr0
        clear vs
        obtain ⟨b, vs, hbb, rfl, hC⟩ := hrel
        have hbr0 : Below w.heap.size w wr := hbw0.trans (hC.fr.below (fun b e => by have := HX.out; omega) hbw0.size)
        have hXr := hC.fr.blk hX2 (by omega)
        have x6 : wr.cell? ⟨X, 6, none⟩ = some (.slice ab bx.length cb) := cell_blk hXr
        by_cases hlt : b < bx.length
        · have hlt3 : (b : Int) < bx.length := by omega
          obtain ⟨row, hx⟩ : ∃ row, bx[b]? = some row := ⟨_, List.getElem?_eq_getElem hlt⟩
          have hrl := hbr row (List.mem_of_getElem? hx)
          have hbm2 := hbm row (List.mem_of_getElem? hx)
          have hrow : bx.getD b [] = row := getD_at hx
          go_wp2_with fail
          obtain ⟨w3, hw3⟩ : ∃ V : World, V = wr := ⟨_, rfl⟩
          rw [← hw3] at hC hXr hbr0 x6 ⊢
          clear hw3 x6
          go_loopw [6, 7] (fun vr vi wr => ∃ (k : Nat) (vs : Ix → Value), k ≤ row.length ∧ vi = .int .i64 (k : Int) ∧ vr = vs (1, b + 2) ∧ CpS w0 Y (.int .i64 n) (.slice ae le ce) (.int .i64 P) (.slice ao lp co) (.slice ah lh ch) vs (cpK kn kn.length) (cpM bx b k) kn.length b (cpN bx b k) wr) (fun _ vi _ => row.length - (intOf vi).toNat)
          case atStart =>
            exact ⟨0, _, Nat.zero_le _, rfl, updX_eq.symm, hC.clr (Nat.le_refl b) (cpN_at bx b 0)⟩
          case round =>
            clear hC hXr hbr0
            clear vs
            obtain ⟨k, vs, hkk, rfl, rfl, hC⟩ := hrel
            have hbr0 : Below w.heap.size w wr := hbw0.trans (hC.fr.below (fun b e => by have := HX.out; omega) hbw0.size)
            have hXr := hC.fr.blk hX2 (by omega)
            have x6 : wr.cell? ⟨X, 6, none⟩ = some (.slice ab bx.length cb) := cell_blk hXr
            obtain ⟨-, hcb, bb, ob, ⟨sa, sl, sc⟩, rfl, hcB0, hR0⟩ := hb.at b row hx
            obtain ⟨rfl, hsc, -⟩ := NestA.len hR0
            change w.cell? ⟨bb, ob + b, none⟩ = some (.slice sa row.length sc) at hcB0
            change BoxR w (.slice sa row.length sc) row at hR0
            have hbb2 := cell_lt hcB0
            have hcB := (hbr0.cell (p := ⟨bb, ob + b, none⟩) hbb2).trans hcB0
            by_cases hlk : k < row.length
            · have hlk3 : (k : Int) < row.length := by omega
              obtain ⟨box, hxk⟩ : ∃ m, row[k]? = some m := ⟨_, List.getElem?_eq_getElem hlk⟩
              have hml := hbm2 box (List.mem_of_getElem? hxk)
              obtain ⟨-, -, bm, om, ⟨ma, ml, mc⟩, rfl, hcM0, hM0⟩ := hR0.at k box hxk
              obtain rfl : ml = box.length := RowAt.lenE hM0
              change w.cell? ⟨bm, om + k, none⟩ = some (.slice ma box.length mc) at hcM0
              change RowAt encM w (.slice ma box.length mc) box at hM0
              have hbm3 := cell_lt hcM0
              have hcM := (hbr0.cell (p := ⟨bm, om + k, none⟩) hbm3).trans hcM0
              have hM := hM0.below hbr0
              have hbF : bxF bx b k = box := by unfold bxF; rw [hrow]; exact getD_at hxk
              go_upto_region 13 with fail
              go_upto_region 12 with (first
                | (at_builtin
                   refine wpList_app_rows msgT rfl (.const (.slice none 0 0)) (.tmp 56) (by kernel_rfl) wr.heap.size (.slice none 0 0) (.slice ma box.length mc) [] box (by kernel_rfl) (World.ownsRow_nil _ _ _ _) (by kernel_rfl) (by exact hM) (by simp; omega) (by simp; omega) (Nat.le_refl _) ?_
                   intro v6 w6 hown6 hg6
                   rw [List.nil_append] at hown6
                   have hb6 : Below wr.heap.size wr w6 := below_of_grown hg6
                   obtain ⟨a6, c6, hv6⟩ := owns_shape hown6
                   subst hv6
                   have hC6 := hC.setM (r := b) (t := k) (Nat.le_of_eq (cpN_at bx b k)) hb6 hown6
                   obtain ⟨vs2, hvs2⟩ : ∃ V, V = updX vs (b + 2, k) (.slice a6 box.length c6) := ⟨_, rfl⟩
                   have e0 : vs2 (1, b + 2) = vs (1, b + 2) := by rw [hvs2]; exact updX_ne (ix1 (by omega))
                   have e2 : vs2 (b + 2, k) = .slice a6 box.length c6 := by rw [hvs2]; exact updX_eq
                   rw [← hvs2] at hC6
                   have hb8 : Below w6.heap.size w6 (w6.alloc (.cells #[.slice a6 box.length c6] 87)) := (Below.refl _ _).alloc (Nat.le_refl _) _
                   have hC8 := hC6.below hb8
                   have hown8 := hC8.rows.row b
                   rw [e0, cpN_at] at hown8
                   have hlit := rows_lit1 (E := encP Unit) w6 (slOf (.slice a6 box.length c6), ()) 87 #[.slice a6 box.length c6] rfl)
                | (at_builtin
                   refine wpList_app_rows_at' (rmT Unit) rfl (.tmp 48) (.tmp 58) (by kernel_rfl) w0.heap.size (vs (1, b + 2)) (.slice (some ⟨w6.heap.size, 0, none⟩) 1 1) (ptrs (fun t => vs2 (b + 2, t)) k) [(slOf (.slice a6 box.length c6), ())] (by kernel_rfl) (by exact hown8) (by kernel_rfl) (by exact hlit) (by rw [ptrs_len, List.length_singleton]; omega) (by rw [ptrs_len, List.length_singleton]; omega) (by exact hC8.fr.size) ?_
                   intro v9 w9 hown9 hg9 hat9
                   obtain ⟨a9, c9, hv9⟩ := owns_shape hown9
                   rw [List.length_append, ptrs_len, List.length_singleton] at hv9
                   subst hv9))
              have hC9 := (hC8.putM hYl (Nat.le_refl b) (cpN_at bx b k) (by rw [e2]; exact hown9) (by rw [e0]; exact hg9) (by rw [e0]; exact hat9)).congr (M' := cpM bx b (k + 1)) (N' := cpN bx b (k + 1)) (fun _ => rfl) (fun r t => by rw [cpM_step, hbF]) (fun r => cpN_step bx b k r)
              clear hC8 hC6 hown6 hg6 hown8 hlit hg9 hat9 hb8 hb6 hC x6 hcB hcM hM hown9
              go_wp2_with fail
              go_roundw
              case rel => exact ⟨k + 1, _, by omega, by go_num, updX_eq.symm, hC9⟩
              case measure => simp [intOf]; omega
            · obtain rfl : k = row.length := by omega
              have y6 : wr.cell? ⟨Y, 6, none⟩ = some (vs (1, 1)) := cell_blk hC.out
              obtain ⟨aR, cR, eR⟩ := owns_shape (hC.rows.row b)
              rw [ptrs_len, cpN_at] at eR
              rw [eR]
              go_upto_region 14 with fail
              have hb8 : Below wr.heap.size wr (wr.alloc (.cells #[.slice aR row.length cR] 75)) := (Below.refl _ _).alloc (Nat.le_refl _) _
              have hC8 := hC.below hb8
              have hown8 := hC8.rows.o1
              have hlit := rows_lit1 (E := encP Unit) wr (slOf (.slice aR row.length cR), ()) 75 #[.slice aR row.length cR] rfl
              go_upto_region 8 with (first
                | (at_builtin
                   refine wpList_app_rows_at' (rrmT Unit) rfl (.tmp 61) (.tmp 63) (by kernel_rfl) w0.heap.size (vs (1, 1)) (.slice (some ⟨wr.heap.size, 0, none⟩) 1 1) (ptrs (fun r => vs (1, r + 2)) b) [(slOf (.slice aR row.length cR), ())] (by kernel_rfl) (by exact hown8) (by kernel_rfl) (by exact hlit) (by rw [ptrs_len, List.length_singleton]; omega) (by rw [ptrs_len, List.length_singleton]; omega) (by exact hC8.fr.size) ?_
                   intro v9 w9 hown9 hg9 hat9
                   have hY9 : w9.cell? ⟨Y, 6, none⟩ = some (vs (1, 1)) := hg9.cell (cell_alloc y6) (fun e => by have h3 := (hC.rows.lt e.symm).1; exact Nat.lt_irrefl _ (Nat.lt_of_lt_of_le hYl h3))
                   have f9 : w9.frozen? ⟨Y, 6, none⟩ = false := free_blk (j := 6) (grown_blk hg9 hC8.out (fun e => by have h3 := (hC.rows.lt e.symm).1; exact Nat.lt_irrefl _ (Nat.lt_of_lt_of_le hYl h3)))
                   obtain ⟨a9, c9, hv9⟩ := owns_shape hown9
                   rw [List.length_append, ptrs_len, List.length_singleton] at hv9
                   subst hv9))
              have hC9 := (hC8.putR (v := .slice a9 (b + 1) c9) (w' := w9) hYl (by rw [eR]; exact hown9) (by exact hg9) (by exact hat9)).congr (M' := cpM bx (b + 1) 0) (N' := cpN bx (b + 1) 0) (fun _ => rfl) (fun r t => by rw [cpM_row, hrow]) (fun r => by rw [cpN_row, hrow])
              clear hC8 hown8 hlit hg9 hat9 f9 hY9 hb8 hC x6 y6 hcB hown9
              go_wp2_with fail
              go_roundw
              case rel => exact ⟨b + 1, _, by omega, by go_num, hC9⟩
              case measure => simp [intOf]; omega
        · obtain rfl : b = bx.length := by omega
          obtain ⟨aK, cK, eK⟩ := owns_shape (hC.rows.o0)
          obtain ⟨aB, cB, eB⟩ := owns_shape (hC.rows.o1)
          rw [ptrs_len] at eK eB
          have hYr := hC.out
          rw [eK, eB] at hYr
          have hZr := hC.fr.blk hZ2 (by omega)
          obtain ⟨wF, hwF⟩ : ∃ V : World, V = (((((((wr.setCell ⟨X + 1, 0, none⟩ (.int .i64 n)).setCell ⟨X + 1, 1, none⟩ (.slice ae le ce)).setCell ⟨X + 1, 2, none⟩ (.int .i64 P)).setCell ⟨X + 1, 3, none⟩ (.slice ao lp co)).setCell ⟨X + 1, 4, none⟩ (.slice ah lh ch)).setCell ⟨X + 1, 5, none⟩ (.slice aK kn.length cK)).setCell ⟨X + 1, 6, none⟩ (.slice aB bx.length cB)) := ⟨_, rfl⟩
          have hfin := set7all (d0 := .int .i64 n) (d1 := .slice ae le ce) (d2 := .int .i64 P) (d3 := .slice ao lp co) (d4 := .slice ah lh ch) (d5 := .slice aK kn.length cK) (d6 := .slice aB bx.length cB) hZr
          have hgF := set7_grown wr (X + 1) (.int .i64 n) (.slice ae le ce) (.int .i64 P) (.slice ao lp co) (.slice ah lh ch) (.slice aK kn.length cK) (.slice aB bx.length cB)
          rw [← hwF] at hfin hgF
          have HWF := Lib.hid hwF
          have hrows : RowsS wF w.heap.size vs (knF kn) (bxF bx) kn.length bx.length (fun r => (bx.getD r []).length) := by
            refine RowsV.base (RowsS.congr (RowsV.kept hC.rows hgF (fun x b e q => ?_)) (cpK_all kn) (cpM_all bx) (cpN_all bx)) hbw0.size
            have := (hC.rows.lt e).1
            have := Option.some.inj q
            omega
          have hbF : Below w.heap.size w wF := hbr0.grown hgF hbr0.size (fun k e => by cases e; have := HX.out; omega)
          obtain ⟨y0, y1, y2, y3, y4, y5, y6⟩ := cells7 hYr
          obtain ⟨t0, t1, t2, t3, t4, t5, t6⟩ := cells7 hfin
          obtain ⟨z0, z1, z2, z3, z4, z5, z6⟩ := cells7 hZr
          have fZ := fun j => free_blk (j := j) hZr
          have f0 := fZ 0
          have f1 := fZ 1
          have f2 := fZ 2
          have f3 := fZ 3
          have f4 := fZ 4
          have f5 := fZ 5
          have f6 := fZ 6
          clear hwF hgF hfin fZ
          go_wp2_with fail
          rw [← HWF.out]
          exact bodyPost_ret (v := .agg #[.int .i64 n, .slice ae le ce, .int .i64 P, .slice ao lp co, .slice ah lh ch, .slice aK kn.length cK, .slice aB bx.length cB]) (by simp [results, Tryz.results49, go_sem, t0, t1, t2, t3, t4, t5, t6]) rfl ⟨vs, by rw [eK, eB], hrows, hbF⟩
end Go.Proofs.YtdkmdcdoiaelfaaGreat

namespace Go.Proofs.YtdkmdcdoiaelfaaGreat
open Go.RowKit Go.BigFrame

theorem GW.stepK {w w' : World} {lo : Nat} {I : Ix → Prop} {ad : Ix → Nat × Nat} {vs : Ix → Value} {K N : Nat → List Int} {B : Nat → Nat → List Msg} {j : Nat} {l : List Int} {v : Value} (h : GW w lo I ad vs K N B) (hi : I (0, j)) (hg : w.grownBy w' (vs (0, j)).ownBlock) (hown : w'.ownsRow lo 3 1 v l.length (intsV l)) (hat : ∀ b, v.ownBlock = some b → (vs (0, j)).ownBlock = some b ∨ w.heap.size ≤ b) :
    GW (w'.setCell ⟨(ad (0, j)).1, (ad (0, j)).2, none⟩ v) lo I ad (updX vs (0, j) v) (fun t => if t = j then l else K t) N B := by
  refine (GridA.step h hi hg hown hat).congr (fun x _ => ?_) (fun x _ => ?_)
  all_goals
    obtain ⟨a, b⟩ := x
    unfold updX
    match a with
    | 0 =>
      by_cases e : b = j
      · subst e; rw [if_pos rfl]; simp [lenF, csF]
      · rw [if_neg (fun q => e (Prod.mk.inj q).2)]; simp [lenF, csF, e]
    | 1 => rw [if_neg (fun q => by have := (Prod.mk.inj q).1; omega)]; rfl
    | r + 2 => rw [if_neg (fun q => by have := (Prod.mk.inj q).1; omega)]; rfl
/-- the blocks in which Learn stores -/
def lrnD (KB R P j : Nat) (vs : Ix → Value) (b : Nat) : Prop := b = KB ∨ (vs (0, j)).ownBlock = some b ∨ tellD R P j vs b
theorem ix1' {i i' j j' : Nat} (h : i ≠ i') : ((i, j) : Ix) ≠ (i', j') := fun e => h (Prod.mk.inj e).1
theorem cells3 {w : World} {g T : Nat} {c0 c1 c2 : Value} (h : w.heap[g]? = some (.cells #[c0, c1, c2] T (0, 0))) : w.cell? ⟨g, 0, none⟩ = some c0 ∧ w.cell? ⟨g, 1, none⟩ = some c1 ∧ w.cell? ⟨g, 2, none⟩ = some c2 := ⟨cell_blk h, cell_blk h, cell_blk h⟩
set_option linter.unusedSimpArgs false in
set_option maxRecDepth 100000 in
set_option maxHeartbeats 6400000 in
theorem learn38_any (n P j u KB BB R cK cB cR : Nat) (es : List E2) (ow : Nat → Nat) (hv : List Int) (ae ao ah : Option Addr) (ce co ch lo : Nat) (m1 : Int) (mb : Bool) (I : Ix → Prop) (ad : Ix → Nat × Nat) (vs : Ix → Value) (KN N : Nat → List Int) (B : Nat → Nat → List Msg) (x X2 : List Int) (w : World)
    (hg : Valid n es) (hf : fltS n es P (owI n ow) hv = 0) (hP : P ≤ 64) (hj : j < P) (hun : u < n) (hlo : lo ≤ w.heap.size) (hW : GW w lo I ad vs KN N B) (hI0 : I (0, j)) (hA0 : ad (0, j) = (KB, j)) (hI : ∀ t, t < P → I (j + 2, t)) (hA : ∀ t, t < P → ad (j + 2, t) = (R, t))
    (hcR : P ≤ cR) (hcK : P ≤ cK) (hcB : P ≤ cB) (hKx : KN j = x) (hxl : x.length = n) (hX2 : setX es n ow j (x.set u (min (x.getD u 0) m1)) = X2) (hBc : w.cell? ⟨BB, j, none⟩ = some (.slice (some ⟨R, 0, none⟩) P cR)) (hBd : ¬ lrnD KB R P j vs BB)
    (hE : Stb (lrnD KB R P j vs) w fun U => EdgesAt U (.slice ae es.length ce) es) (hO : Stb (lrnD KB R P j vs) w fun U => IntsAt U (.slice ao n co) (owI n ow)) (hH : Stb (lrnD KB R P j vs) w fun U => IntsAt U (.slice ah hv.length ch) hv)
    (hB : ∀ t, t < P → (B j t).length ≤ 900000) :
    Calls Tryz.prog 60 #[.agg #[.int .i64 (n : Int), .slice ae es.length ce, .int .i64 (P : Int), .slice ao n co, .slice ah hv.length ch, .slice (some ⟨KB, 0, none⟩) P cK, .slice (some ⟨BB, 0, none⟩) P cB], .int .i64 (j : Int), .agg #[.int .i64 (u : Int), .int .i64 m1, .bool mb]] w fun e w' => e = .returned (.tuple #[]) ∧ ∃ vs', GW w' lo I ad vs' (fun t => if t = j then X2 else KN t) N (fun r t => if r = j then B j t ++ telL es n P ow j X2 (fun v => decide (X2.getD v 0 < x.getD v 0)) t else B r t) ∧ Fr (lrnD KB R P j vs) w w' ∧ ∀ y, I y → ∀ b, (vs' y).ownBlock = some b → (vs y).ownBlock = some b ∨ lrnD KB R P j vs b ∨ w.heap.size ≤ b := by
  have hn64 : n ≤ 64 := by have := hg.2.1; omega
  have hj3 : (j : Int) < P := by omega
  have hun3 : (u : Int) < n := by omega
  obtain ⟨hX0, hb0⟩ := boxG_new w #[.int .i64 (n : Int), .slice ae es.length ce, .int .i64 (P : Int), .slice ao n co, .slice ah hv.length ch, .slice (some ⟨KB, 0, none⟩) P cK, .slice (some ⟨BB, 0, none⟩) P cB] 36
  obtain ⟨w1, hw1⟩ : ∃ V : World, V = w.alloc (.cells #[.int .i64 (n : Int), .slice ae es.length ce, .int .i64 (P : Int), .slice ao n co, .slice ah hv.length ch, .slice (some ⟨KB, 0, none⟩) P cK, .slice (some ⟨BB, 0, none⟩) P cB] 36) := ⟨_, rfl⟩
  have hz1 : w1.heap.size = w.heap.size + 1 := by rw [hw1]; simp
  rw [← hw1] at hX0 hb0
  obtain ⟨hM0, hb1⟩ := boxG_new w1 #[.int .i64 (u : Int), .int .i64 m1, .bool mb] 89
  obtain ⟨wA, hwA⟩ : ∃ V : World, V = w1.alloc (.cells #[.int .i64 (u : Int), .int .i64 m1, .bool mb] 89) := ⟨_, rfl⟩
  have hzA : wA.heap.size = w.heap.size + 2 := by rw [hwA]; simp [hz1]
  rw [← hwA] at hM0 hb1
  have hX1 := lit_next' hb1 hX0
  have hbA := hb0.trans (hb1.mono hb0.size)
  obtain ⟨X, hX⟩ : ∃ X, w.heap.size = X := ⟨_, rfl⟩
  rw [hz1] at hM0
  rw [hX] at hX1 hM0 hzA
  have HX := Lib.hid hX
  have hwA2 : wA = (w.alloc (.cells #[.int .i64 (n : Int), .slice ae es.length ce, .int .i64 (P : Int), .slice ao n co, .slice ah hv.length ch, .slice (some ⟨KB, 0, none⟩) P cK, .slice (some ⟨BB, 0, none⟩) P cB] 36)).alloc (.cells #[.int .i64 (u : Int), .int .i64 m1, .bool mb] 89) := by rw [hwA, hw1]
  have HWA := Lib.hid hwA2
  clear hX0 hb0 hb1 hz1 hw1 hwA hwA2 w1
  obtain ⟨D, hD⟩ : ∃ D, lrnD KB R P j vs = D := ⟨_, rfl⟩
  -- the row that the worker knows
  have hown0 : w.ownsRow lo 3 1 (vs (0, j)) n (intsV x) := by
    have h := GW.kn hW hI0
    rw [hKx, hxl] at h
    exact h
  obtain ⟨gK, cg, eK, -, hcg, -, -, -⟩ := ownsI_at hown0 (by omega)
  have hKc : w.cell? ⟨KB, j, none⟩ = some (.slice (some ⟨gK, 0, none⟩) n cg) := by
    have h := hW.cell (0, j) hI0
    rw [hA0, eK] at h; exact h
  have hKB : KB < X := by have := cell_lt hKc; omega
  have hR0 : R < X := by
    have h := hW.lt (j + 2, j) (hI j hj)
    rw [hA j hj] at h
    rw [← hX]; exact h
  have hDl : ∀ b, D b → b < X := fun b h => by
    rw [← hD] at h
    rcases h with h | h | h | ⟨t, ht, h⟩
    · omega
    · have := ((hW.own _ hI0).lt b h).2; omega
    · omega
    · have := ((hW.own _ (hI t ht)).lt b h).2; omega
  have hDX : ∀ b, X ≤ b → ¬ D b := fun b hb h => by have := hDl b h; omega
  have hDK : D KB := by rw [← hD]; exact .inl rfl
  have hDg : D gK := by rw [← hD, ]; exact .inr (.inl (by rw [eK]; rfl))
  have hDR : D R := by rw [← hD]; exact .inr (.inr (.inl rfl))
  have hDt : ∀ t, t < P → ∀ b, (vs (j + 2, t)).ownBlock = some b → D b := fun t ht b h => by rw [← hD]; exact .inr (.inr (.inr ⟨t, ht, h⟩))
  rw [hD] at hBd hE hO hH ⊢
  have hKR : KB ≠ R := fun e => by
    have h := hW.dist (0, j) (j + 2, j) hI0 (hI j hj) (fun q => by have := (Prod.mk.inj q).1; omega)
    rw [hA0, hA j hj, e] at h
    exact h rfl
  have hBX : BB < X := by have := cell_lt hBc; omega
  have hF0 : Fr D w wA := Fr.of_below hbA
  have hWA := hW.below hbA
  have hownA : wA.ownsRow lo 3 1 (.slice (some ⟨gK, 0, none⟩) n cg) n (intsV x) := by
    have h := hown0.kept (grown_of_below hbA) (Classical.em _)
    rw [eK] at h; exact h
  have hxA : IntsAt wA (.slice (some ⟨gK, 0, none⟩) n cg) x := by
    obtain ⟨a', c', e, h, -⟩ := IntsAt.of_owns (show wA.ownsRow lo 3 1 (.slice (some ⟨gK, 0, none⟩) n cg) x.length (intsV x) by rw [hxl]; exact hownA) (by omega)
    rw [e]; exact h
  have hKA := (hbA.cell (p := ⟨KB, j, none⟩) (cell_lt hKc)).trans hKc
  obtain ⟨x0, x1', x2, x3, x4, x5, x6⟩ := cells7 hX1
  have HXL := Lib.hid hxl
  have HX2 := Lib.hid hX2
  have HKX := Lib.hid hKx
  clear hxl hX2 hKx hown0 hX hD
  go_enter Tryz.func60, Tryz.ntmps60
  go_upto_region 1 with fail
  rw [← HWA.out, HX.out]
  go_upto_region 2 with (at_builtin; refine wpList_app_ints intsT rfl _ _ rfl wA.heap.size (.slice none 0 0) _ [] x rfl (World.ownsRow_nil _ _ _ _) rfl hxA (by rw [HXL.out]; simp; omega) (Nat.le_refl _) ?_; intro v2 w2 hown2 hg2; rw [List.nil_append] at hown2)
  rw [HXL.out] at hown2
  obtain ⟨gO, cO, hv2, hgO, hcO, -, -, hOc⟩ := ownsI_at hown2 (by omega)
  subst hv2
  have hb2 : Below wA.heap.size wA w2 := below_of_grown hg2
  have hX2' := lit_next' hb2 hX1
  have hM2 := lit_next' hb2 hM0
  have hW2 := hWA.below hb2
  have hF2 : Fr D w w2 := hF0.grown (grown_of_below hb2) (fun b e => by cases e)
  have hown2K := hownA.kept (grown_of_below hb2) (Classical.em _)
  obtain ⟨gK', cg', eK', -, -, hgl, hgf, hgc⟩ := ownsI_at hown2K (by omega)
  cases eK'
  obtain ⟨xu, hxu⟩ : ∃ q, x.getD u 0 = q := ⟨_, rfl⟩
  have cu : w2.cell? ⟨gK, u, none⟩ = some (.int .i64 xu) := by
    rw [← hxu]
    exact hgc u _ (get_of_getD (by rw [HXL.out]; exact hun))
  have fu := hgf u
  have HXU' : Hid (xu = x.getD u 0) := (show _ = _ from hxu.symm)
  have cK2 := (hb2.cell (p := ⟨KB, j, none⟩) (cell_lt hKA)).trans hKA
  clear hgf hgc hg2 hxu x0 x1' x2 x3 x4 x5 x6
  obtain ⟨x0, x1', x2, x3, x4, x5, x6⟩ := cells7 hX2'
  obtain ⟨m0, m1', m2⟩ := cells3 hM2
  refine wp_region_heldK (k := 20) (S := fun b W => (W.cell? ⟨X, 5, none⟩ = some (.slice (some ⟨KB, 0, none⟩) P cK) ∧ W.cell? ⟨KB, j, none⟩ = some (.slice (some ⟨gK, 0, none⟩) n cg) ∧ W.cell? ⟨X + 1, 0, none⟩ = some (.int .i64 (u : Int)) ∧ W.cell? ⟨X + 1, 1, none⟩ = some (.int .i64 m1)) ∧ (match b with | false => W.cell? ⟨gK, u, none⟩ = some (.int .i64 xu) | true => True)) (by kernel_rfl) ?_
  have hS0 : (w2.drew.cell? ⟨X, 5, none⟩ = some (.slice (some ⟨KB, 0, none⟩) P cK) ∧ w2.drew.cell? ⟨KB, j, none⟩ = some (.slice (some ⟨gK, 0, none⟩) n cg) ∧ w2.drew.cell? ⟨X + 1, 0, none⟩ = some (.int .i64 (u : Int)) ∧ w2.drew.cell? ⟨X + 1, 1, none⟩ = some (.int .i64 m1)) ∧ w2.drew.cell? ⟨gK, u, none⟩ = some (.int .i64 xu) := ⟨⟨x5, cK2, m0, m1'⟩, cu⟩
  refine tkA 0 (.pointer (some ⟨X, 5, none⟩)) true rfl (fun _ h => ⟨h.1, trivial⟩) false hS0 ?_
  refine tkA 1 (.slice (some ⟨KB, 0, none⟩) P cK) true rfl (fun _ h => ⟨h.1, trivial⟩) false hS0 ?_
  refine tkA 2 (.int .i64 (j : Int)) true rfl (fun _ h => ⟨h.1, trivial⟩) false hS0 ?_
  refine tkA 3 (.pointer (some ⟨KB, j, none⟩)) true rfl (fun _ h => ⟨h.1, trivial⟩) false hS0 ?_
  refine tkA 4 (.slice (some ⟨gK, 0, none⟩) n cg) true rfl (fun _ h => ⟨h.1, trivial⟩) false hS0 ?_
  refine tkA 5 (.pointer (some ⟨X + 1, 0, none⟩)) true rfl (fun _ h => ⟨h.1, trivial⟩) false hS0 ?_
  refine tkA 6 (.int .i64 (u : Int)) true rfl (fun _ h => ⟨h.1, trivial⟩) false hS0 ?_
  refine tkA 7 (.pointer (some ⟨X, 5, none⟩)) true rfl (fun _ h => ⟨h.1, trivial⟩) false hS0 ?_
  refine tkA 8 (.slice (some ⟨KB, 0, none⟩) P cK) true rfl (fun _ h => ⟨h.1, trivial⟩) false hS0 ?_
  refine tkA 9 (.int .i64 (j : Int)) true rfl (fun _ h => ⟨h.1, trivial⟩) false hS0 ?_
  refine tkA 10 (.pointer (some ⟨KB, j, none⟩)) true rfl (fun _ h => ⟨h.1, trivial⟩) false hS0 ?_
  refine tkA 11 (.slice (some ⟨gK, 0, none⟩) n cg) true rfl (fun _ h => ⟨h.1, trivial⟩) false hS0 ?_
  refine tkA 12 (.pointer (some ⟨X + 1, 0, none⟩)) true rfl (fun _ h => ⟨h.1, trivial⟩) false hS0 ?_
  refine tkA 13 (.int .i64 (u : Int)) true rfl (fun _ h => ⟨h.1, trivial⟩) false hS0 ?_
  refine tkA 14 (.pointer (some ⟨gK, u, none⟩)) true rfl (fun _ h => ⟨h.1, trivial⟩) false hS0 ?_
  refine tkA 15 (.int .i64 xu) false rfl (fun _ h => ⟨h.1, trivial⟩) false hS0 ?_
  refine tkA 16 (.pointer (some ⟨X + 1, 1, none⟩)) true rfl (fun _ h => ⟨h.1, trivial⟩) false hS0 ?_
  refine tkA 17 (.int .i64 m1) true rfl (fun _ h => ⟨h.1, trivial⟩) false hS0 ?_
  try simp only [Act.put, List.setIfInBounds_toArray, List.set_cons_zero, List.set_cons_succ]
  refine wpAnyK_one (i := 18) (by kernel_rfl) rfl (by rfl) (b := false) (by kernel_rfl) (fun K hK => ?_)
  go_simp
  refine hK.out _ _ hS0 ?_
  try simp only [Act.put, List.setIfInBounds_toArray, List.set_cons_zero, List.set_cons_succ]
  refine tkA 19 (.pointer (some ⟨gK, u, none⟩)) true rfl (fun _ h => ⟨h.1, trivial⟩) false hS0 ?_
  try simp only [Act.put, List.setIfInBounds_toArray, List.set_cons_zero, List.set_cons_succ]
  refine wpAnyK_one (i := 20) (by kernel_rfl) rfl (by rfl) (b := true) (by kernel_rfl) (fun K hK => ?_)
  go_simp
  have nn : ∀ z b o' q, b ≠ gK → w2.cell? ⟨b, o', none⟩ = some q → (w2.setCell ⟨gK, u, none⟩ z).cell? ⟨b, o', none⟩ = some q := fun z b o' q h1 h2 => (World.cell?_setCell_far _ _ _ _ (by first | exact fun e => h1 e | exact fun e => h1 e.symm)).trans h2
  have hgX : gK < X := hDl gK hDg
  have hKg0 : KB ≠ gK := fun e => by
    have h := hW.off (0, j) (0, j) hI0 hI0
    rw [eK, hA0, e] at h
    exact h rfl
  refine hK.out _ _ ⟨⟨nn _ _ _ _ (by omega) x5, nn _ _ _ _ hKg0 cK2, nn _ _ _ _ (by omega) m0, nn _ _ _ _ (by omega) m1'⟩, trivial⟩ (wpAnyK_done (by kernel_rfl) ?_ _)
  clear nn hS0 hKg0 hgX
  obtain ⟨x1, hx1⟩ : ∃ l, x.set u (min xu m1) = l := ⟨_, rfl⟩
  obtain ⟨w3, hw3⟩ : ∃ V : World, V = (w2.setCell ⟨gK, u, none⟩ (.int .i64 (min xu m1))).drew := ⟨_, rfl⟩
  have hg3 : w2.grownBy w3 (some gK) := by rw [hw3]; exact grown_trans grown_store (grown_none (grown_of_below (Below.refl _ _).drew))
  have hx1l : x1.length = n := by rw [← hx1, List.length_set]; exact HXL.out
  have hown3 : w3.ownsRow lo 3 1 (vs (0, j)) x1.length (intsV x1) := by
    rw [hw3, ← hx1, List.length_set, HXL.out, eK]
    exact (ownsI_set hown2K u (min xu m1)).kept (grown_of_below (Below.refl _ _).drew) (Classical.em _)
  have hG3 := GW.turnK hW2 hI0 (by rw [eK]; exact hg3) hown3
  have hF3 : Fr D w w3 := hF2.grown hg3 (fun b e => by cases e; exact .inl hDg)
  have hKg : KB ≠ gK := fun e => by
    have h := hW.off (0, j) (0, j) hI0 hI0
    rw [eK, hA0, e] at h
    exact h rfl
  have hX3 := grown_blk hg3 hX2' (fun e => by have e2 : X = gK := Option.some.inj e; have := hDl gK hDg; omega)
  have cK3 : w3.cell? ⟨KB, j, none⟩ = some (.slice (some ⟨gK, 0, none⟩) n cg) := hg3.cell cK2 (fun e => hKg (Option.some.inj e))
  have hgO3 : w3.ownsRow wA.heap.size 3 1 (.slice (some ⟨gO, 0, none⟩) n cO) n (intsV x) := hown2.kept hg3 (.inr fun e => by have e2 : gO = gK := Option.some.inj e; have := hDl gK hDg; omega)
  have hE3 := hE w3 hF3
  have hO3 := hO w3 hF3
  have hH3 := hH w3 hF3
  have hxi3 : IntsAt w3 (.slice (some ⟨gK, 0, none⟩) n cg) x1 := by
    obtain ⟨a', c', e, h, -⟩ := IntsAt.of_owns hown3 (by omega)
    rw [eK, hx1l] at e
    rw [e, ← hx1l]; exact h
  have hset := settle38_any n j P es ow hv x1 ae ao ah (some ⟨gK, 0, none⟩) ce co ch cg w3.drew hg hj hf hx1l (hE3.below (Below.refl _ _).drew) (hO3.below (Below.refl _ _).drew) (hH3.below (Below.refl _ _).drew) (hxi3.below (Below.refl _ _).drew)
  have hx12 : setX es n ow j x1 = X2 := by rw [← hx1, HXU'.out, HX2.out]
  rw [hx12] at hset
  have hz3 : w2.heap.size ≤ w3.heap.size := hg3.size
  have hgOb : X ≤ gO := by omega
  have HW3 := Lib.hid hw3
  clear hw3 hX2' hM2 hW2 hown2K hgl cu fu cK2 x0 x1' x2 x3 x4 x5 x6 m0 m1' m2 hown2 hxA hWA hownA hKA hX1 hM0 hF2 hg3
  obtain ⟨x0, x1', x2, x3, x4, x5, x6⟩ := cells7 hX3
  rw [← HW3.out]
  go_wp2_with fail
  go_upto_region 3 with fail
  refine wp_region_heldK (k := 15) (S := fun b W => (W.cell? ⟨X, 0, none⟩ = some (.int .i64 (n : Int)) ∧ W.cell? ⟨X, 1, none⟩ = some (.slice ae es.length ce) ∧ W.cell? ⟨X, 2, none⟩ = some (.int .i64 (P : Int)) ∧ W.cell? ⟨X, 3, none⟩ = some (.slice ao n co) ∧ W.cell? ⟨X, 4, none⟩ = some (.slice ah hv.length ch) ∧ W.cell? ⟨X, 5, none⟩ = some (.slice (some ⟨KB, 0, none⟩) P cK)) ∧ (match b with | false => W.cell? ⟨KB, j, none⟩ = some (.slice (some ⟨gK, 0, none⟩) n cg) | true => True)) (by kernel_rfl) ?_
  have hS0 : (w3.drew.cell? ⟨X, 0, none⟩ = some (.int .i64 (n : Int)) ∧ w3.drew.cell? ⟨X, 1, none⟩ = some (.slice ae es.length ce) ∧ w3.drew.cell? ⟨X, 2, none⟩ = some (.int .i64 (P : Int)) ∧ w3.drew.cell? ⟨X, 3, none⟩ = some (.slice ao n co) ∧ w3.drew.cell? ⟨X, 4, none⟩ = some (.slice ah hv.length ch) ∧ w3.drew.cell? ⟨X, 5, none⟩ = some (.slice (some ⟨KB, 0, none⟩) P cK)) ∧ w3.drew.cell? ⟨KB, j, none⟩ = some (.slice (some ⟨gK, 0, none⟩) n cg) := ⟨⟨x0, x1', x2, x3, x4, x5⟩, cK3⟩
  refine tkA 0 (.pointer (some ⟨X, 5, none⟩)) true rfl (fun _ h => ⟨h.1, trivial⟩) false hS0 ?_
  refine tkA 1 (.slice (some ⟨KB, 0, none⟩) P cK) true rfl (fun _ h => ⟨h.1, trivial⟩) false hS0 ?_
  refine tkA 2 (.int .i64 (j : Int)) true rfl (fun _ h => ⟨h.1, trivial⟩) false hS0 ?_
  refine tkA 3 (.pointer (some ⟨X, 0, none⟩)) true rfl (fun _ h => ⟨h.1, trivial⟩) false hS0 ?_
  refine tkA 4 (.agg #[.int .i64 (n : Int), .slice ae es.length ce]) true rfl (fun _ h => ⟨h.1, trivial⟩) false hS0 ?_
  refine tkA 5 (.pointer (some ⟨X, 2, none⟩)) true rfl (fun _ h => ⟨h.1, trivial⟩) false hS0 ?_
  refine tkA 6 (.agg #[.int .i64 (P : Int), .slice ao n co, .slice ah hv.length ch]) true rfl (fun _ h => ⟨h.1, trivial⟩) false hS0 ?_
  refine tkA 7 (.int .i64 (j : Int)) true rfl (fun _ h => ⟨h.1, trivial⟩) false hS0 ?_
  refine tkA 8 (.pointer (some ⟨X, 5, none⟩)) true rfl (fun _ h => ⟨h.1, trivial⟩) false hS0 ?_
  refine tkA 9 (.slice (some ⟨KB, 0, none⟩) P cK) true rfl (fun _ h => ⟨h.1, trivial⟩) false hS0 ?_
  refine tkA 10 (.int .i64 (j : Int)) true rfl (fun _ h => ⟨h.1, trivial⟩) false hS0 ?_
  refine tkA 11 (.pointer (some ⟨KB, j, none⟩)) true rfl (fun _ h => ⟨h.1, trivial⟩) false hS0 ?_
  refine tkA 12 (.slice (some ⟨gK, 0, none⟩) n cg) false rfl (fun _ h => ⟨h.1, trivial⟩) false hS0 ?_
  try simp only [Act.put, List.setIfInBounds_toArray, List.set_cons_zero, List.set_cons_succ]
  refine wpAnyK_one (i := 13) (by kernel_rfl) rfl (by rfl) (b := false) (by kernel_rfl) (fun K hK => ?_)
  go_simp
  go_at_call 15
  refine hset.mono ?_
  rintro e w4 ⟨ag, cA, rfl, hown4, hb4'⟩
  have hb4 : Below w3.heap.size w3 w4 := (Below.refl w3.heap.size w3).drew.trans hb4'
  obtain ⟨gA, cA', eA, hgA, hcA, -, -, -⟩ := ownsI_at hown4 (by omega)
  cases eA
  have hXl3 := blk_lt hX3
  have cl : ∀ o' q, w3.cell? ⟨X, o', none⟩ = some q → w4.cell? ⟨X, o', none⟩ = some q := fun o' q h => (hb4.cell (p := ⟨X, o', none⟩) hXl3).trans h
  have cK4 := (hb4.cell (p := ⟨KB, j, none⟩) (cell_lt cK3)).trans cK3
  have hS4 : (w4.cell? ⟨X, 0, none⟩ = some (.int .i64 (n : Int)) ∧ w4.cell? ⟨X, 1, none⟩ = some (.slice ae es.length ce) ∧ w4.cell? ⟨X, 2, none⟩ = some (.int .i64 (P : Int)) ∧ w4.cell? ⟨X, 3, none⟩ = some (.slice ao n co) ∧ w4.cell? ⟨X, 4, none⟩ = some (.slice ah hv.length ch) ∧ w4.cell? ⟨X, 5, none⟩ = some (.slice (some ⟨KB, 0, none⟩) P cK)) ∧ w4.cell? ⟨KB, j, none⟩ = some (.slice (some ⟨gK, 0, none⟩) n cg) := ⟨⟨cl _ _ x0, cl _ _ x1', cl _ _ x2, cl _ _ x3, cl _ _ x4, cl _ _ x5⟩, cK4⟩
  have f4 : w4.frozen? ⟨KB, j, none⟩ = false := by
    have h := (hG3.below hb4).free (0, j) hI0
    rw [hA0] at h; exact h
  dsimp only
  refine hK.out _ _ hS4 ?_
  try simp only [Act.put, List.setIfInBounds_toArray, List.set_cons_zero, List.set_cons_succ]
  refine tkA 14 (.pointer (some ⟨KB, j, none⟩)) true rfl (fun _ h => ⟨h.1, trivial⟩) false hS4 ?_
  try simp only [Act.put, List.setIfInBounds_toArray, List.set_cons_zero, List.set_cons_succ]
  refine wpAnyK_one (i := 15) (by kernel_rfl) rfl (by rfl) (b := true) (by kernel_rfl) (fun K hK => ?_)
  go_simp
  have hKX2 : KB ≠ X := by omega
  have nn : ∀ z o' q, w4.cell? ⟨X, o', none⟩ = some q → (w4.setCell ⟨KB, j, none⟩ z).cell? ⟨X, o', none⟩ = some q := fun z o' q h2 => (World.cell?_setCell_far _ _ _ _ (by first | exact fun e => hKX2 e | exact fun e => hKX2 e.symm)).trans h2
  refine hK.out _ _ ⟨⟨nn _ _ _ hS4.1.1, nn _ _ _ hS4.1.2.1, nn _ _ _ hS4.1.2.2.1, nn _ _ _ hS4.1.2.2.2.1, nn _ _ _ hS4.1.2.2.2.2.1, nn _ _ _ hS4.1.2.2.2.2.2⟩, trivial⟩ (wpAnyK_done (by kernel_rfl) ?_ _)
  have hX2L : X2.length = n := by
    have h := hown4.1
    simpa [intsV] using h
  have hlo3 : lo ≤ w3.heap.size := Nat.le_trans hlo hF3.size
  have hown4' : w4.ownsRow lo 3 1 (.slice (some ⟨gA, 0, none⟩) n cA) X2.length (intsV X2) := by rw [hX2L]; exact owns_base hown4 hlo3
  have hG5 := (GW.stepK hG3 hI0 (grown_none (grown_of_below hb4)) hown4' (fun b e => .inr (by cases e; exact hgA))).congrKB (K' := (fun t => if t = j then X2 else KN t)) (B' := B) (fun t _ => by
    by_cases e : t = j
    · rw [if_pos e, if_pos e]
    · rw [if_neg e, if_neg e, if_neg e]) (fun _ _ _ => rfl)
  rw [hA0] at hG5
  obtain ⟨vs5, hvs5⟩ : ∃ V, V = updX vs (0, j) (.slice (some ⟨gA, 0, none⟩) n cA) := ⟨_, rfl⟩
  have hv5 : vs5 (0, j) = .slice (some ⟨gA, 0, none⟩) n cA := by rw [hvs5]; unfold updX; exact if_pos rfl
  have hv5o : ∀ y, y ≠ (0, j) → vs5 y = vs y := fun y hy => by rw [hvs5]; unfold updX; exact if_neg hy
  have hv5b : ∀ t, vs5 (j + 2, t) = vs (j + 2, t) := fun t => hv5o _ (ix1' (by omega))
  rw [← hvs5] at hG5
  have hst5 : w4.grownBy (w4.setCell ⟨KB, j, none⟩ (.slice (some ⟨gA, 0, none⟩) n cA)) (some KB) := grown_store
  have hF5 : Fr D w (w4.setCell ⟨KB, j, none⟩ (.slice (some ⟨gA, 0, none⟩) n cA)) := (hF3.grown (grown_of_below hb4) (fun b e => by cases e)).grown hst5 (fun b e => by cases e; exact .inl hDK)
  have hX5 : (w4.setCell ⟨KB, j, none⟩ (.slice (some ⟨gA, 0, none⟩) n cA)).heap[X]? = _ := grown_blk hst5 (lit_next' hb4 hX3) (fun e => hKX2 (Option.some.inj e).symm)
  have hgO5 : (w4.setCell ⟨KB, j, none⟩ (.slice (some ⟨gA, 0, none⟩) n cA)).ownsRow wA.heap.size 3 1 (.slice (some ⟨gO, 0, none⟩) n cO) n (intsV x) := (hgO3.kept (grown_of_below hb4) (Classical.em _)).kept hst5 (.inr fun e => by have e2 : gO = KB := Option.some.inj e; omega)
  obtain ⟨w5, hw5⟩ : ∃ V : World, V = w4.setCell ⟨KB, j, none⟩ (.slice (some ⟨gA, 0, none⟩) n cA) := ⟨_, rfl⟩
  rw [← hw5] at hG5 hF5 hX5 hgO5
  have HW5 := Lib.hid hw5
  have HX2L := Lib.hid hX2L
  have HGA : Hid (w.heap.size ≤ gA) := (show w.heap.size ≤ gA from Nat.le_trans hF3.size hgA)
  clear hX2L hw5 hvs5 hst5 nn cl f4 cK4 hS4 hS0 hown4 hown4' hb4 hb4' hG3 hX3 cK3 hgO3 hE3 hO3 hH3 hxi3 x0 x1' x2 x3 x4 x5 x6 hXl3
  rw [← HW5.out]
  go_wp2_with fail
  go_loopw [7] (fun vi wr => ∃ (k : Nat) (vs1 : Ix → Value), k ≤ n ∧ vi = .int .i64 (k : Int) ∧ GW wr lo I ad vs1 (fun t => if t = j then X2 else KN t) N (fun r t => if r = j then B j t ++ telK es n P ow j X2 (fun v => decide (X2.getD v 0 < x.getD v 0)) k t else B r t) ∧ Fr D w5 wr ∧ Hid (∀ t, t < P → ∀ b, (vs1 (j + 2, t)).ownBlock = some b → D b ∨ w5.heap.size ≤ b) ∧ Hid (∀ y, (∀ t, t < P → y ≠ (j + 2, t)) → vs1 y = vs5 y)) (fun vi _ => n - (intOf vi).toNat)
  case atStart => exact ⟨0, vs5, Nat.zero_le _, rfl, GW.boxes hG5 (fun r' t' _ => by by_cases e : r' = j <;> simp [e, telK]), Fr.refl _ _, (show ∀ t, _ from fun t ht b h => .inl (hDt t ht b (by rw [← h, hv5b]))), (show ∀ y, _ from fun y _ => rfl)⟩
  case round =>
    clear hG5
    obtain ⟨k, vs1, hk, rfl, hG, hF, HV, HE⟩ := hrel
    have hFr := hF5.trans hF (fun b h => .inl h)
    have hXr := hF.blk hX5 (hDX X (Nat.le_refl _))
    obtain ⟨q0, q1, q2, q3, q4, q5, q6⟩ := cells7 hXr
    have hv0 : vs1 (0, j) = .slice (some ⟨gA, 0, none⟩) n cA := by rw [HE.out (0, j) (fun t _ => ix1' (by omega)), hv5]
    by_cases hlt : k < n
    · have hlt3 : (k : Int) < n := by omega
      have hst := fun t => telK_step es n P ow j X2 (fun v => decide (X2.getD v 0 < x.getD v 0)) k t
      have hO2 := hO wr hFr
      obtain ⟨bO, oO, rfl, cO2⟩ := hO2.atn (owI_length n ow) k hlt
      rw [getD_of (owI_get n ow k hlt)] at cO2
      have cKr : wr.cell? ⟨KB, j, none⟩ = some (.slice (some ⟨gA, 0, none⟩) n cA) := by
        have h := hG.cell (0, j) hI0
        rw [hA0, hv0] at h; exact h
      have cAr : wr.cell? ⟨gA, k, none⟩ = some (.int .i64 (X2.getD k 0)) := by
        have h := GW.kn hG hI0
        rw [if_pos rfl, HX2L.out, hv0] at h
        obtain ⟨_, _, e6, -, -, -, -, h7⟩ := ownsI_at h (by omega)
        cases e6
        exact h7 k _ (get_of_getD (by rw [HX2L.out]; exact hlt))
      have cOr : wr.cell? ⟨gO, k, none⟩ = some (.int .i64 (x.getD k 0)) := by
        refine hF.cell ?_ (hDX gO hgOb)
        obtain ⟨_, _, e6, -, -, -, -, h7⟩ := ownsI_at hgO5 (by omega)
        cases e6
        exact h7 k _ (get_of_getD (by rw [HXL.out]; exact hlt))
      obtain ⟨xk, hxk⟩ : ∃ q, X2.getD k 0 = q := ⟨_, rfl⟩
      obtain ⟨ok, hok⟩ : ∃ q, x.getD k 0 = q := ⟨_, rfl⟩
      have HXK := Lib.hid hxk
      have HOK := Lib.hid hok
      rw [hxk] at cAr
      rw [hok] at cOr
      rw [hxk, hok] at hst
      have HST : Hid (∀ t, telK es n P ow j X2 (fun v => decide (X2.getD v 0 < x.getD v 0)) (k + 1) t = telK es n P ow j X2 (fun v => decide (X2.getD v 0 < x.getD v 0)) k t ++ if ((ow k == j && decide (xk < ok)) && decide (t ∈ ownL es n P ow k)) = true then [((k : Int), xk, false)] else []) := hst
      clear hst hxk hok hO2
      by_cases ho : ow k = j
      · have d1 : decide ((ow k : Int) = (j : Int)) = true := by simp; omega
        have d1' : ((ow k : Int) == (j : Int)) = true := by simp; omega
        by_cases hd : xk < ok
        · have d2 : decide (xk < ok) = true := decide_eq_true hd
          go_wp2_with fail
          go_quiet (fail)
          obtain ⟨w6, hw6⟩ : ∃ V : World, V = wr.drewN nq := ⟨_, rfl⟩
          have hb6 : Below wr.heap.size wr w6 := by rw [hw6]; exact (Below.refl _ _).drewN nq
          rw [← hw6]
          have hG6 := hG.below hb6
          have hF6 := hF.grown (grown_of_below hb6) (fun b e => by cases e)
          have hFw6 := hF5.trans hF6 (fun b h => .inl h)
          have hX6 := hF6.blk hX5 (hDX X (Nat.le_refl _))
          have hz5 := hF5.size
          have hz6 := hF6.size
          have hTD : ∀ b, tellD R P j vs1 b → D b ∨ w5.heap.size ≤ b := fun b h => by
            rcases h with h | ⟨t, ht, h⟩
            · subst h; exact .inl hDR
            · exact HV.out t ht b h
          have hKd : ¬ tellD R P j vs1 KB := fun h => by
            rcases h with h | ⟨t, ht, h⟩
            · exact hKR h
            · have h1 := hG.off (j + 2, t) (0, j) (hI t ht) hI0
              rw [hA0] at h1; exact h1 h
          have hxd : ¬ tellD R P j vs1 gA := fun h => by
            have hg0 : (vs1 (0, j)).ownBlock = some gA := by rw [hv0]; rfl
            rcases h with h | ⟨t, ht, h⟩
            · have h1 := hG.off (0, j) (j + 2, j) hI0 (hI j hj)
              rw [hA j hj, hg0, h] at h1; exact h1 rfl
            · exact hG.apart (0, j) (j + 2, t) hI0 (hI t ht) (ix1' (by omega)) gA hg0 h
          have hXs : X ≤ w5.heap.size := by rw [← HX.out]; exact hz5
          have hBd6 : ¬ tellD R P j vs1 BB := fun h => by
            rcases hTD BB h with h3 | h3
            · exact hBd h3
            · omega
          have hst2 : ∀ {p : World → Prop}, Stb D w p → Stb (tellD R P j vs1) w6 p := fun h => Stb.step h hFw6 (fun b h => .inl h) (fun b h => (hTD b h).imp id (fun q => Nat.le_trans hz5 q))
          have cK6 := (hb6.cell (p := ⟨KB, j, none⟩) (cell_lt cKr)).trans cKr
          have cA6 := (hb6.cell (p := ⟨gA, k, none⟩) (cell_lt cAr)).trans cAr
          have htel := tell38_any n P j k R cR KB BB cK cB gA cA es ow ae (some ⟨bO, oO, none⟩) ah ce co ch hv.length lo X2 I ad vs1 (fun t => if t = j then X2 else KN t) N (fun r t => if r = j then B j t ++ telK es n P ow j X2 (fun v => decide (X2.getD v 0 < x.getD v 0)) k t else B r t) w6 hg hP hlt hj ho (by omega) hG6 hI hA hcR (by omega) (hst2 hE) (hst2 hO) (hFw6.cell hBc hBd) hBd6 hcB cK6 hKd hcK hcA (by rw [HXK.out]; exact cA6) hxd (fun t ht => by
            rw [if_pos rfl, List.length_append]
            have h1 := hB t ht
            have h2 := telK_len es n P ow j X2 (fun v => decide (X2.getD v 0 < x.getD v 0)) k t
            omega)
          rw [HXK.out] at htel
          clear hw6 hG hF hst2 cK6 cA6 hG6 hxd hKd hBd6 q0 q1 q2 q3 q4 q5 q6 cAr cOr cKr cO2
          obtain ⟨q0, q1, q2, q3, q4, q5, q6⟩ := cells7 hX6
          go_wp2_with fail
          refine htel.mono ?_
          rintro e w7 ⟨rfl, vs2, hG7, hF7, hv7, hs7⟩
          have hG8 := GW.boxes hG7 (B' := fun r t => if r = j then B j t ++ telK es n P ow j X2 (fun v => decide (X2.getD v 0 < x.getD v 0)) (k + 1) t else B r t) (fun r t _ => by
            by_cases e : r = j
            · rw [if_pos e, if_pos e, HST.out, d2, ho]
              simp
            · rw [if_neg e, if_neg e, if_neg e])
          have hF8 := hF6.trans hF7 hTD
          have HV8 : Hid (∀ t, t < P → ∀ b, (vs2 (j + 2, t)).ownBlock = some b → D b ∨ w5.heap.size ≤ b) := (show ∀ t, _ from fun t ht b e => by
            rcases hv7 t ht b e with h | h
            · exact hTD b h
            · right; omega)
          have HE8 : Hid (∀ y, (∀ t, t < P → y ≠ (j + 2, t)) → vs2 y = vs5 y) := (show ∀ y, _ from fun y hy => (hs7 y hy).trans (HE.out y hy))
          clear hG7 hF7 hv7 hs7
          go_wp2_with fail
          go_roundw
          case rel => exact ⟨k + 1, vs2, by omega, by go_num, hG8, hF8, HV8, HE8⟩
          case measure => simp [intOf]; omega
        · have d2 : decide (xk < ok) = false := decide_eq_false hd
          have hG2 := GW.boxes hG (B' := fun r t => if r = j then B j t ++ telK es n P ow j X2 (fun v => decide (X2.getD v 0 < x.getD v 0)) (k + 1) t else B r t) (fun r t _ => by
            by_cases e : r = j
            · rw [if_pos e, if_pos e, HST.out, d2]; simp
            · rw [if_neg e, if_neg e])
          go_wp2_with fail
          go_quiet (fail)
          have hb := (Below.refl wr.heap.size wr).drewN nq
          have hG3 := hG2.below hb
          have hF3 := hF.grown (grown_of_below hb) (fun b e => by cases e)
          clear hG2 hG hF
          go_wp2_with fail
          go_roundw
          case rel => exact ⟨k + 1, vs1, by omega, by go_num, hG3, hF3, HV, HE⟩
          case measure => simp [intOf]; omega
      · have d1 : decide ((ow k : Int) = (j : Int)) = false := by simp; omega
        have d1' : ((ow k : Int) == (j : Int)) = false := by simp; omega
        have hG2 := GW.boxes hG (B' := fun r t => if r = j then B j t ++ telK es n P ow j X2 (fun v => decide (X2.getD v 0 < x.getD v 0)) (k + 1) t else B r t) (fun r t _ => by
          by_cases e : r = j
          · rw [if_pos e, if_pos e, telK_no _ _ _ _ _ _ _ _ _ (fun h => ho h.1)]
          · rw [if_neg e, if_neg e])
        go_wp2_with fail
        go_quiet (fail)
        have hb := (Below.refl wr.heap.size wr).drewN nq
        have hG3 := hG2.below hb
        have hF3 := hF.grown (grown_of_below hb) (fun b e => by cases e)
        clear hG2 hG hF
        go_wp2_with fail
        go_roundw
        case rel => exact ⟨k + 1, vs1, by omega, by go_num, hG3, hF3, HV, HE⟩
        case measure => simp [intOf]; omega
    · obtain rfl : k = n := by omega
      go_wp2_with fail
      go_end0
      refine ⟨rfl, vs1, hG, hFr, fun y hy b e => ?_⟩
      have hz5 := hF5.size
      by_cases hy2 : ∃ t, t < P ∧ y = (j + 2, t)
      · obtain ⟨t, ht, rfl⟩ := hy2
        rcases HV.out t ht b e with h | h
        · exact .inr (.inl h)
        · exact .inr (.inr (by omega))
      · rw [HE.out y (fun t ht e2 => hy2 ⟨t, ht, e2⟩)] at e
        by_cases hy3 : y = (0, j)
        · subst hy3
          rw [hv5] at e
          have e3 := Option.some.inj e
          exact .inr (.inr (by have := HGA.out; have e4 : gA = b := e3; omega))
        · rw [hv5o y hy3] at e
          exact .inl e
end Go.Proofs.YtdkmdcdoiaelfaaGreat
