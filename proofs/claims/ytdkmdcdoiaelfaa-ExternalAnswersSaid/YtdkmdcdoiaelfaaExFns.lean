/- The contracts of the program's Pass, Degrees and Cores on runs. -/
import Derived.Test.YtdkmdcdoiaelfaaExNb
import Derived.Test.YtdkmdcdoiaelfaaExPass
import Derived.Test.YtdkmdcdoiaelfaaSEqual
namespace Go.Proofs.Ytdkmdcdoiaelfaa
open Go.RowKit Go.BigFrame

def passX (size : Int) (rs : List E2) (x : List Int) : List Int × Int :=
  if (graphR size x.length rs).2.2 ≠ 0 then ([], (graphR size x.length rs).2.2) else (passL (graphR size x.length rs).2.1 x.length x, 0)
def degXR (size m : Int) (rs : List E2) : List Int × Int :=
  if (graphR size m rs).2.2 ≠ 0 then ([], (graphR size m rs).2.2) else (degL (graphR size m rs).2.1 m.toNat, 0)
def corXR (size m : Int) (rs : List E2) : List Int × Int × Int :=
  if (graphR size m rs).2.2 ≠ 0 then ([], 0, (graphR size m rs).2.2) else ((corsX (graphR size m rs).2.1 m.toNat).1, ((corsX (graphR size m rs).2.1 m.toNat).2 : Nat), 0)
theorem recN_lt {n : Nat} {es : List E2} (hv : Valid n es) : ∀ e ∈ recN es n, 0 ≤ e.1 ∧ e.1 < n := fun e he => by
  have h1 := recN_ok hv e he
  have h2 := (recOk_iff e).1 h1.1
  omega
theorem rows_nb (es : List E2) (n : Nat) : (List.range n).map (rowR (recN es n)) = (List.range n).map fun v => castL (nbL es n v) :=
  List.map_congr_left fun v hv => recN_row es n v (List.mem_range.1 hv)
theorem nb_ok {n : Nat} {es : List E2} (hn : n ≤ 64) : ∀ v, v < n → (∀ y, y ∈ nbL es n v → y < n) ∧ (nbL es n v).length ≤ 64 := fun v _ => by
  unfold nbL
  refine ⟨fun y hy => List.mem_range.1 (List.mem_filter.1 hy).1, ?_⟩
  have : ((List.range n).filter fun x => adjB es v x).length ≤ n := by
    have := List.length_filter_le (fun x => adjB es v x) (List.range n)
    rw [List.length_range] at this; exact this
  omega
/-- the neighbours of the run of a graph -/
theorem exnb_rec (size : Int) (n : Nat) (a : Option Addr) (cap : Nat) (es : List E2) (w : World) (hv : Valid n es) (he : EdgesAt w (.slice a (recN es n).length cap) (recN es n)) (hl : (recN es n).length ≤ 100000) :
    Calls Try.prog 58 #[.agg #[.int .i64 size, .slice a (recN es n).length cap], .int .i64 n] w fun e w' => ∃ g, e = .returned (.slice (some ⟨g, 0, none⟩) n n) ∧ w.heap.size ≤ g ∧ RowsAt w' (.slice (some ⟨g, 0, none⟩) n n) ((List.range n).map fun v => castL (nbL es n v)) ∧ Below w.heap.size w w' := by
  have h := exnb_any size n a cap (recN es n) w he hl (by have := hv.2.1; omega) (recN_lt hv)
  rw [rows_nb] at h
  exact h
set_option maxRecDepth 100000 in
set_option maxHeartbeats 3200000 in
theorem expass_any (size : Int) (a a2 : Option Addr) (cap c2 : Nat) (rs : List E2) (x : List Int) (w : World) (he : EdgesAt w (.slice a rs.length cap) rs) (hl : rs.length ≤ 100000) (hi : IntsAt w (.slice a2 x.length c2) x) :
    Calls Try.prog 24 #[.agg #[.int .i64 size, .slice a rs.length cap], .slice a2 x.length c2] w (TPost w (passX size rs x)) := by
  obtain ⟨hxA, hb0⟩ := boxG_new w #[.int .i64 size, .slice a rs.length cap] 33
  obtain ⟨wA, hwA⟩ : ∃ W : World, W = w.alloc (.cells #[.int .i64 size, .slice a rs.length cap] 33) := ⟨_, rfl⟩
  rw [← hwA] at hxA hb0
  have HWA := Lib.hid hwA
  clear hwA
  have hgr := rungraph_any size x.length a cap rs wA (he.below hb0) hl
  unfold passX TPost
  obtain ⟨⟨k, es, C⟩, hG⟩ : ∃ F, graphR size x.length rs = F := ⟨_, rfl⟩
  rw [hG] at hgr ⊢
  unfold RGPost at hgr
  dsimp only at hgr ⊢
  obtain ⟨k0, k1⟩ := cells2R hxA
  by_cases hz : C = 0
  case neg =>
    rw [if_pos hz]
    have d1 : (C != 0) = true := by simpa using hz
    clear hz hG
    go_enter Try.func24, Try.ntmps24
    go_wp2_with (rw [← HWA.out])
    refine hgr.mono ?_
    rintro e w1 ⟨ag, cg, rfl, -, -, hb1⟩
    have hb01 := hb0.trans (hb1.mono hb0.size)
    go_wp2_with fail
    go_ret2
    exact ⟨none, 0, rfl, ints_nil _, fun p h => (by cases h), hb01.alloc hb01.size _⟩
  subst hz
  rw [if_neg (by simp)]
  obtain ⟨n, hxn, rfl, hv, rfl, -, -⟩ := graphR_of hG
  have hxl : x.length = n := by omega
  clear hG
  have hn64 : n ≤ 64 := by have := hv.2.1; omega
  obtain ⟨PL, hPL⟩ : ∃ P, passL es x.length x = P := ⟨_, rfl⟩
  rw [hPL]
  have hPL2 : passG (nbL es n) n x = PL := by rw [← hPL, hxl]; rfl
  have HPL := Lib.hid hPL2
  have HXL := Lib.hid hxl
  have hi2 : IntsAt w (.slice a2 n c2) x := by rw [← hxl]; exact hi
  rw [hxl] at hgr ⊢
  clear hPL hPL2 hxl hxn hi
  have hnl : PL.length = n := by rw [← HPL.out]; exact passG_length _ _ _
  have HNL := Lib.hid hnl
  rw [hnl]
  clear hnl
  go_enter Try.func24, Try.ntmps24
  go_wp2_with (rw [← HWA.out])
  refine hgr.mono ?_
  rintro e w1 ⟨ag, cg, rfl, -, -, hb1⟩
  obtain ⟨-, hbG⟩ := boxG_new w1 #[.int .i64 n, .slice ag es.length cg] 27
  have hb12 := hb1.trans (hbG.mono hb1.size)
  have hx2 := lit_next' hb12 hxA
  have hb02 := hb0.trans (hb12.mono hb0.size)
  obtain ⟨w2, hw2⟩ : ∃ W : World, W = w1.alloc (.cells #[.int .i64 n, .slice ag es.length cg] 27) := ⟨_, rfl⟩
  rw [← hw2] at hx2 hb02
  have HW2 := Lib.hid hw2
  clear hw2 hbG hb12 hb1 k0 k1
  obtain ⟨k0, k1⟩ := cells2R hx2
  go_upto_region 2 with fail
  rw [← HW2.out]
  go_wp2_with fail
  refine (exnb_rec size n a cap es w2 hv (he.below hb02) hl).mono ?_
  rintro e w3 ⟨g, rfl, hg, hrows, hb3⟩
  have hb03 := hb02.trans (hb3.mono hb02.size)
  go_wp2_with fail
  refine (pass_any (nbL es n) n _ a2 n c2 x w3 hrows (hi2.below hb03) HXL.out hn64 (nb_ok hn64)).mono ?_
  rintro e w4 ⟨g2, rfl, hg2, hnum, hb4⟩
  rw [HPL.out] at hnum
  have hint := hnum.ints (by rw [HNL.out]; omega)
  rw [HNL.out] at hint
  have hb04 := hb03.trans (hb4.mono hb03.size)
  go_wp2_with fail
  go_ret2
  exact ⟨_, n, rfl, hint, fun p h => by cases h; have := hb03.size; show w.heap.size ≤ g2; omega, hb04⟩
theorem rowR_cnt (rs : List E2) (x : Nat) (y : Int) (i : Nat) : ((rowR (rs ++ [((x : Int), y)]) i).length : Int) = if i = x then ((rowR rs x).length : Int) + 1 else ((rowR rs i).length : Int) := by
  rw [rowR_snoc]
  by_cases h : i = x
  · rw [if_pos h, if_pos h, h]; simp
  · rw [if_neg h, if_neg h]
theorem degL_rows {n : Nat} (es : List E2) : fnL n (fun i => ((rowR (recN es n) i).length : Int)) = degL es n := by
  unfold degL fnL
  refine List.map_congr_left fun i hi => ?_
  have : rowR (recN es n) i = (nbL es n i).map fun (j : Nat) => (j : Int) := recN_row es n i (List.mem_range.1 hi)
  rw [this, List.length_map]
set_option maxRecDepth 100000 in
set_option maxHeartbeats 3200000 in
theorem exdeg_any (size m : Int) (a : Option Addr) (cap : Nat) (rs : List E2) (w : World) (he : EdgesAt w (.slice a rs.length cap) rs) (hl : rs.length ≤ 100000) :
    Calls Try.prog 22 #[.agg #[.int .i64 size, .slice a rs.length cap], .int .i64 m] w (TPost w (degXR size m rs)) := by
  obtain ⟨hxA, hb0⟩ := boxG_new w #[.int .i64 size, .slice a rs.length cap] 33
  obtain ⟨wA, hwA⟩ : ∃ W : World, W = w.alloc (.cells #[.int .i64 size, .slice a rs.length cap] 33) := ⟨_, rfl⟩
  rw [← hwA] at hxA hb0
  have HWA := Lib.hid hwA
  clear hwA
  have hgr := rungraph_any size m a cap rs wA (he.below hb0) hl
  unfold degXR TPost
  obtain ⟨⟨k, es, C⟩, hG⟩ : ∃ F, graphR size m rs = F := ⟨_, rfl⟩
  rw [hG] at hgr ⊢
  unfold RGPost at hgr
  dsimp only at hgr ⊢
  obtain ⟨k0, k1⟩ := cells2R hxA
  by_cases hz : C = 0
  case neg =>
    rw [if_pos hz]
    have d1 : (C != 0) = true := by simpa using hz
    clear hz hG
    go_enter Try.func22, Try.ntmps22
    go_wp2_with (rw [← HWA.out])
    refine hgr.mono ?_
    rintro e w1 ⟨ag, cg, rfl, -, -, hb1⟩
    have hb01 := hb0.trans (hb1.mono hb0.size)
    go_wp2_with fail
    go_ret2
    exact ⟨none, 0, rfl, ints_nil _, fun p h => (by cases h), hb01.alloc hb01.size _⟩
  subst hz
  rw [if_neg (by simp)]
  obtain ⟨n, rfl, rfl, hv, hrs, -, -⟩ := graphR_of hG
  clear hG
  have hn64 : n ≤ 64 := by have := hv.2.1; omega
  rw [Int.toNat_natCast]
  obtain ⟨PL, hPL⟩ : ∃ P, degL es n = P := ⟨_, rfl⟩
  rw [hPL]
  have hlast : fnL n (fun i => ((rowR rs i).length : Int)) = PL := by rw [← hPL, hrs]; exact degL_rows es
  have hlt := recN_lt hv
  rw [← hrs] at hlt
  have HLT := Lib.hid hlt
  have HLAST := Lib.hid hlast
  have hnl : PL.length = n := by rw [← hPL]; exact degL_length _ _
  have HNL := Lib.hid hnl
  rw [hnl]
  clear hnl hPL hlast hlt hrs
  have hmk := make_ints n (by omega)
  go_enter Try.func22, Try.ntmps22
  go_wp2_with (rw [← HWA.out])
  refine hgr.mono ?_
  rintro e w1 ⟨ag, cg, rfl, -, -, hb1⟩
  obtain ⟨-, hbG⟩ := boxG_new w1 #[.int .i64 n, .slice ag es.length cg] 27
  have hb12 := hb1.trans (hbG.mono hb1.size)
  have hx2 := lit_next' hb12 hxA
  have hb02 := hb0.trans (hb12.mono hb0.size)
  obtain ⟨w2, hw2⟩ : ∃ W : World, W = w1.alloc (.cells #[.int .i64 n, .slice ag es.length cg] 27) := ⟨_, rfl⟩
  rw [← hw2] at hx2 hb02
  have HW2 := Lib.hid hw2
  clear hw2 hbG hb12 hb1 k0 k1
  go_upto_region 2 with fail
  rw [← HW2.out]
  obtain ⟨hZ, hb3⟩ := (show NumAt (w2.alloc (.cells (intsV (List.replicate n 0)).toArray 3)) w2.heap.size (fnL n (fun i => ((rowR (rs.take 0) i).length : Int))) ∧ Below w2.heap.size w2 (w2.alloc (.cells (intsV (List.replicate n 0)).toArray 3)) from by
    refine ⟨?_, (Below.refl _ _).alloc (Nat.le_refl _) _⟩
    have : fnL n (fun i => ((rowR (rs.take 0) i).length : Int)) = List.replicate n 0 := by
      apply List.ext_getElem?
      intro j
      by_cases hj : j < n
      · rw [fnL_get n _ j hj]; simp [hj, rowR]
      · rw [List.getElem?_eq_none (by rw [fnL_length]; omega), List.getElem?_eq_none (by simp; omega)]
    rw [this]
    exact heap_alloc_new _ _)
  obtain ⟨w3, hw3⟩ : ∃ W : World, W = w2.alloc (.cells (intsV (List.replicate n 0)).toArray 3) := ⟨_, rfl⟩
  obtain ⟨g, hg⟩ : ∃ g, w2.heap.size = g := ⟨_, rfl⟩
  have hx3 := lit_next' hb3 hx2
  have hb03 := hb02.trans (hb3.mono hb02.size)
  rw [← hw3] at hZ hx3 hb03
  rw [hg] at hZ
  have HW3 := Lib.hid hw3
  have HG := Lib.hid hg
  have hwg : w.heap.size < g := by rw [← hg]; exact blk_lt hx2
  clear hw3 hg hb3 hx2 hb02
  go_upto_region 5 with fail
  rw [← HW3.out, HG.out]
  obtain ⟨k0, k1⟩ := cells2R hx3
  go_wp2_with fail
  clear k0 k1
  go_loopw [25] (fun vi wr => ∃ k : Nat, k ≤ rs.length ∧ vi = .int .i64 k ∧ NumAt wr g (fnL n (fun i => ((rowR (rs.take k) i).length : Int))) ∧ Below w.heap.size w wr) (fun vi _ => rs.length - (intOf vi).toNat)
  case atStart => exact ⟨0, Nat.zero_le _, rfl, hZ, hb03⟩
  case round =>
    clear hZ hb03 hx3
    obtain ⟨k, hk, rfl, hZ, hb⟩ := hrel
    by_cases hlt : k < rs.length
    · have hlt3 : (k : Int) < rs.length := by omega
      obtain ⟨b, off, x0, y, rfl, hxy, -, -, c0, c1⟩ := (he.below hb).at k hlt
      obtain ⟨hx0, hxn⟩ := HLT.out _ (List.mem_of_getElem? hxy)
      dsimp only at hx0 hxn
      obtain ⟨x, rfl⟩ := Int.eq_ofNat_of_zero_le hx0
      have hxn2 : x < n := by omega
      obtain ⟨hXX, hXb⟩ := box_pair wr x y 37
      have hZX : NumAt (wr.alloc (.cells #[.int .i64 (x : Int), .int .i64 y] 37)) g _ := lit_next' hXb hZ
      have hbX := hb.trans (hXb.mono hb.size)
      have hcx := numAt_fn hZX x hxn2
      have hZ2 := numAt_set hZX x (((rowR (rs.take k) x).length : Int) + 1)
      have hcg : fnL n (fun i => if i = x then ((rowR (rs.take k) x).length : Int) + 1 else ((rowR (rs.take k) i).length : Int)) = fnL n (fun i => ((rowR (rs.take (k + 1)) i).length : Int)) := by
        unfold fnL
        refine List.map_congr_left fun i _ => ?_
        rw [take_at _ _ _ hxy, rowR_cnt]
      rw [hcg] at hZ2
      have hrl : (rowR (rs.take k) x).length ≤ 100000 := by have := rowR_len (rs.take k) x; rw [List.length_take] at this; omega
      obtain ⟨R, hR⟩ : ∃ R, (rowR (rs.take k) x).length = R := ⟨_, rfl⟩
      rw [hR] at hcx hZ2 hrl
      have hwr : IntKind.i64.wrap ((R : Int) + 1) = (R : Int) + 1 := IntWalk.i64_in _ (by omega)
      have hfx := free_blk (j := x) hZX
      have hb2 := hbX.setCell (p := ⟨g, x, none⟩) (by show w.heap.size ≤ g; omega) (.int .i64 ((R : Int) + 1))
      obtain ⟨wX, hwX⟩ : ∃ W : World, W = wr.alloc (.cells #[.int .i64 (x : Int), .int .i64 y] 37) := ⟨_, rfl⟩
      obtain ⟨X, hX⟩ : ∃ X, wr.heap.size = X := ⟨_, rfl⟩
      rw [← hwX] at hXX hcx hZ2 hfx hb2
      rw [hX] at hXX
      have HWX := Lib.hid hwX
      have HX := Lib.hid hX
      obtain ⟨x0, x1⟩ := cells2R hXX
      clear hwX hX hXb hbX hZX hZ hb hR hcg hxy hXX
      go_upto_region 8 with fail
      rw [← HWX.out, HX.out]
      go_wp2_with fail
      go_roundw
      case rel => exact ⟨k + 1, by omega, by go_num, hZ2, hb2⟩
      case measure => simp [intOf]; omega
    · obtain rfl : k = rs.length := by omega
      rw [List.take_length, HLAST.out] at hZ
      have hint := hZ.ints (by rw [HNL.out]; omega)
      rw [HNL.out] at hint
      go_wp2_with fail
      go_ret2
      exact ⟨_, n, rfl, hint, fun p h => by cases h; show w.heap.size ≤ g; omega, hb⟩
end Go.Proofs.Ytdkmdcdoiaelfaa
