/- The contract of the program's supports of a run. -/
import Derived.Test.YtdkmdcdoiaelfaaRunBlk
import Derived.Test.YtdkmdcdoiaelfaaExFns
import Derived.Test.YtdkmdcdoiaelfaaShelf
import Derived.Deep.DeepCutAuto
namespace Go.Proofs.Ytdkmdcdoiaelfaa
open Go.RowKit Go.BigFrame

/-- three numbers -/
def encT : Enc (E2 × Nat) where
  k := 3
  enc p := [.int .i64 p.1.1, .int .i64 p.1.2, .int .i64 (p.2 : Int)]
  len _ := rfl
  one p u hu := by simp only [List.mem_cons, List.not_mem_nil, or_false] at hu; rcases hu with rfl | rfl | rfl <;> rfl
  pos := by decide
theorem triT : SliceT Try.prog 66 71 (.agg #[.int .i64 0, .int .i64 0, .int .i64 0]) encT.k 24 := ⟨Try.underlying66, by kernel_rfl, rfl, by decide⟩
/-- how many second nodes of u's records, of the first so many, are such of v's, too -/
def cntB (a b : List Int) (t : Nat) : Nat := (a.take t).countP fun w => decide (w ∈ b)
theorem cntB_step (a b : List Int) (t : Nat) (x : Int) (h : a[t]? = some x) : cntB a b (t + 1) = cntB a b t + if x ∈ b then 1 else 0 := by
  unfold cntB
  rw [take_at _ _ _ h, List.countP_append]
  simp [List.countP_cons]
theorem cntB_le (a b : List Int) (t : Nat) : cntB a b t ≤ a.length := by
  unfold cntB
  exact Nat.le_trans List.countP_le_length (by rw [List.length_take]; omega)
def supE (rs : List E2) (e : E2) : E2 × Nat := (e, cntB (rowR rs e.1.toNat) (rowR rs e.2.toNat) (rowR rs e.1.toNat).length)
def supL (rs l : List E2) : List (E2 × Nat) := (l.filter fun e => !decide (e.2 < e.1)).map (supE rs)
theorem supL_step (rs l : List E2) (t : Nat) (e : E2) (h : l[t]? = some e) : supL rs (l.take (t + 1)) = if e.2 < e.1 then supL rs (l.take t) else supL rs (l.take t) ++ [supE rs e] := by
  unfold supL
  rw [take_at _ _ _ h, List.filter_append, List.map_append]
  by_cases hq : e.2 < e.1
  · rw [if_pos hq]; simp [hq]
  · rw [if_neg hq]; simp [hq]
theorem supL_len (rs l : List E2) : (supL rs l).length ≤ l.length := by
  unfold supL
  rw [List.length_map]; exact List.length_filter_le _ _
/-- the shelf's search, of a slice that reads as a list -/
theorem bs_any (a : Option Addr) (c : Nat) (l : List Int) (x : Int) (w : World) (hi : IntsAt w (.slice a l.length c) l) (hs : l.Pairwise (· ≤ ·)) (hl : l.length ≤ 100000) :
    Calls Try.prog 75 #[.slice a l.length c, .int .i64 x] w fun e w' => ∃ q : Int, e = .returned (.tuple #[.int .i64 q, .bool (decide (x ∈ l))]) ∧ Below w.heap.size w w' := by
  cases l with
  | nil =>
    refine (Try.slices_BinarySearch_int_empty a c x w).mono ?_
    rintro e w' ⟨rfl, rfl⟩
    exact ⟨0, by simp, Below.refl _ _⟩
  | cons y l =>
    obtain ⟨_, _, hv, h1, h2, h3, h4⟩ := hi
    cases hv
    obtain ⟨b, off, rfl, -⟩ := h4 0 y rfl
    have hc : ∀ j, j < (y :: l).length → w.cell? ⟨b, off + j, none⟩ = some (.int .i64 ((y :: l).getD j 0)) := fun j hj => by
      obtain ⟨b', off', e, c0⟩ := h4 j _ (List.getElem?_eq_getElem hj)
      cases e
      rw [List.getD_eq_getElem?_getD, List.getElem?_eq_getElem hj]; exact c0
    refine (Try.slices_BinarySearch_int b off (y :: l).length c (y :: l) x w (Nat.le_refl _) (by omega) hc (by rw [List.take_length]; exact hs)).mono ?_
    rintro e w' ⟨rfl, q, rfl⟩
    have hm : ((y :: l).take (y :: l).length).contains x = decide (x ∈ y :: l) := by
      rw [List.take_length, Bool.eq_iff_iff, List.contains_iff_mem, decide_eq_true_eq]
    exact ⟨((((y :: l).take (y :: l).length).countP (· < x) : Nat) : Int), by rw [hm], (Below.refl _ _).drewN _⟩
/-- how many blocks are read -/
def rdsL (S : Nat) (rs l : List E2) : Nat := ((l.filter fun e => !decide (e.2 < e.1)).map fun e => rdsN S rs e.1 + rdsN S rs e.2).sum
theorem rdsL_step (S : Nat) (rs l : List E2) (t : Nat) (e : E2) (h : l[t]? = some e) : rdsL S rs (l.take (t + 1)) = if e.2 < e.1 then rdsL S rs (l.take t) else rdsL S rs (l.take t) + (rdsN S rs e.1 + rdsN S rs e.2) := by
  unfold rdsL
  rw [take_at _ _ _ h, List.filter_append]
  by_cases hq : e.2 < e.1
  · rw [if_pos hq]; simp [hq]
  · rw [if_neg hq]; simp [hq]
/-- the supports of a run, how many blocks are read, or the error -/
def SPostR (w : World) (l : List (E2 × Nat)) (C : Int) (R : Nat) (e : Ending) (w' : World) : Prop := ∃ a c, e = .returned (.tuple #[.slice a l.length c, .int .i64 (R : Int), .int .i64 C]) ∧ RowAt encT w' (.slice a l.length c) l ∧ (∀ p, a = some p → w.heap.size ≤ p.block) ∧ Below w.heap.size w w'
theorem rowT_nil (w : World) : RowAt encT w (.slice none 0 0) [] := ⟨none, 0, rfl, Nat.le_refl _, fun _ => rfl, Nat.zero_le _, fun i x h => by cases h⟩
def SPost (w : World) (l : List (E2 × Nat)) (C : Int) (e : Ending) (w' : World) : Prop := ∃ a c, ∃ r : Nat, e = .returned (.tuple #[.slice a l.length c, .int .i64 (r : Int), .int .i64 C]) ∧ RowAt encT w' (.slice a l.length c) l ∧ (∀ p, a = some p → w.heap.size ≤ p.block) ∧ Below w.heap.size w w'
set_option maxRecDepth 100000 in
set_option maxHeartbeats 6400000 in
theorem exsupR_any (size : Int) (k0 : Int) (es : List E2) (a : Option Addr) (cap : Nat) (rs : List E2) (w : World) (he : EdgesAt w (.slice a rs.length cap) rs) (hl : rs.length ≤ 10000) (hgr0 : graphR size 64 rs = (k0, es, 0)) (hck : chkR size rs = 0)
    (hok : ∀ e ∈ rs, 0 ≤ e.1 ∧ 0 ≤ e.2) (hsr : ∀ v, (rowR rs v).Pairwise (· ≤ ·)) :
    Calls Try.prog 34 #[.agg #[.int .i64 size, .slice a rs.length cap]] w (SPostR w (supL rs rs) 0 (rdsL size.toNat rs rs)) := by
  obtain ⟨hxA, hb0⟩ := boxG_new w #[.int .i64 size, .slice a rs.length cap] 33
  obtain ⟨wA, hwA⟩ : ∃ W : World, W = w.alloc (.cells #[.int .i64 size, .slice a rs.length cap] 33) := ⟨_, rfl⟩
  rw [← hwA] at hxA hb0
  have HWA := Lib.hid hwA
  clear hwA
  have hgr := rungraph_any size 64 a cap rs wA (he.below hb0) (by omega)
  rw [hgr0] at hgr
  unfold RGPost at hgr
  dsimp only at hgr
  unfold SPostR
  obtain ⟨q0, q1⟩ := cells2R hxA
  have HOK := Lib.hid hok
  have HSR := Lib.hid hsr
  clear hok hsr hgr0
  go_enter Try.func34, Try.ntmps34
  go_wp2_with (rw [← HWA.out])
  refine hgr.mono ?_
  rintro e w1 ⟨ag, cg, rfl, -, -, hb1⟩
  obtain ⟨-, hbG⟩ := boxG_new w1 #[.int .i64 k0, .slice ag es.length cg] 27
  have hb12 := hb1.trans (hbG.mono hb1.size)
  have hx2 := lit_next' hb12 hxA
  have hb02 := hb0.trans (hb12.mono hb0.size)
  obtain ⟨w2, hw2⟩ : ∃ W : World, W = w1.alloc (.cells #[.int .i64 k0, .slice ag es.length cg] 27) := ⟨_, rfl⟩
  rw [← hw2] at hx2 hb02
  have HW2 := Lib.hid hw2
  clear hw2 hbG hb12 hb1 q0 q1 hgr
  obtain ⟨q0, q1⟩ := cells2R hx2
  go_upto_region 2 with fail
  rw [← HW2.out]
  go_wp2_with fail
  go_loopw [7, 8, 33] (fun vo vr vi wr => ∃ (k r : Nat) (l : List (E2 × Nat)), k ≤ rs.length ∧ vi = .int .i64 (k : Int) ∧ vr = .int .i64 (r : Int) ∧ r ≤ k * 20000 ∧ Hid (r = rdsL size.toNat rs (rs.take k)) ∧ Hid (l = supL rs (rs.take k)) ∧ l.length ≤ k ∧ wr.ownsRow w2.heap.size 71 encT.k vo l.length (flatR encT l) ∧ Below w2.heap.size w2 wr) (fun _ _ vi _ => rs.length - (intOf vi).toNat)
  case atStart => exact ⟨0, 0, [], Nat.zero_le _, rfl, rfl, Nat.le_refl _, (show _ = _ by simp [rdsL]), (show _ = _ by simp [supL]), Nat.le_refl _, World.ownsRow_nil _ _ _ _, Below.refl _ _⟩
  case round =>
    obtain ⟨k, r, l, hk, rfl, rfl, hrk, HRR, HLL, hlk, hown, hb⟩ := hrel
    obtain ⟨ao, co, hvo⟩ := owns_shape hown
    subst hvo
    have hb0r := hb02.trans (hb.mono hb02.size)
    have hxr := lit_next' hb hx2
    clear q0 q1
    obtain ⟨q0, q1⟩ := cells2R hxr
    by_cases hlt : k < rs.length
    · have hlt3 : (k : Int) < rs.length := by omega
      obtain ⟨b9, o9, x, y, rfl, hxy, -, -, c0, c1⟩ := (he.below hb0r).at k hlt
      obtain ⟨hx0, hy0⟩ := HOK.out _ (List.mem_of_getElem? hxy)
      dsimp only at hx0 hy0
      have hst := supL_step rs rs k (x, y) hxy
      rw [← HLL.out] at hst
      dsimp only at hst
      have HST := Lib.hid hst
      have hrst := rdsL_step size.toNat rs rs k (x, y) hxy
      rw [← HRR.out] at hrst
      dsimp only at hrst
      have HRST := Lib.hid hrst
      clear hrst
      obtain ⟨hXX, hXb⟩ := box_pair wr x y 37
      have hbX := hb.trans (hXb.mono hb.size)
      have hownX := hown.kept (grown_of_below hXb) (Classical.em _)
      have hxX := lit_next' hXb hxr
      obtain ⟨wX, hwX⟩ : ∃ W : World, W = wr.alloc (.cells #[.int .i64 x, .int .i64 y] 37) := ⟨_, rfl⟩
      obtain ⟨X, hX⟩ : ∃ X, wr.heap.size = X := ⟨_, rfl⟩
      rw [← hwX] at hXX hbX hownX hxX
      rw [hX] at hXX
      have HWX := Lib.hid hwX
      have HX := Lib.hid hX
      clear hwX hX hXb hst hxy hown
      obtain ⟨x0, x1⟩ := cells2R hXX
      have hbw : Below w.heap.size w wX := hb02.trans (hbX.mono hb02.size)
      obtain ⟨u, rfl⟩ := Int.eq_ofNat_of_zero_le hx0
      obtain ⟨v, rfl⟩ := Int.eq_ofNat_of_zero_le hy0
      go_upto_region 9 with fail
      rw [← HWX.out, HX.out]
      by_cases hgt : v < u
      · have hg3 : decide ((v : Int) < (u : Int)) = true := decide_eq_true (by omega)
        have h6 := HST.out
        rw [if_pos (by omega)] at h6
        go_wp2_with fail
        go_roundw
        case rel => exact ⟨k + 1, r, l, by omega, by go_num, rfl, by omega, (show _ = _ by rw [HRST.out, if_pos (by omega)]), (show _ = _ from h6.symm), by omega, hownX, hbX⟩
        case measure => simp [intOf]; omega
      · have hg3 : decide ((v : Int) < (u : Int)) = false := decide_eq_false (by omega)
        have hg4 : decide (v < u) = false := decide_eq_false hgt
        have h6 := HST.out
        rw [if_neg (by omega)] at h6
        have HL6 := Lib.hid h6
        have hn1 := rneigh_any size _ cap rs u wX (he.below hbw) (by omega) hck
        have h7 := HRST.out
        rw [if_neg (by omega)] at h7
        have HR7 := Lib.hid h7
        clear h6 h7 HST HRST q0 q1
        obtain ⟨q0, q1⟩ := cells2R hxX
        go_wp2_with fail
        refine hn1.mono ?_
        rintro e w3 ⟨na, c3, r3, a3, rfl, hr3, rfl, hi3, hp3, hb3⟩
        have hbX3 := hbX.trans (hb3.mono hbX.size)
        have hbw3 := hbw.trans (hb3.mono hbw.size)
        have hown3 := hownX.kept (grown_of_below hb3) (Classical.em _)
        have hx3 := lit_next' hb3 hxX
        have hXX3 := lit_next' hb3 hXX
        have hn2 := rneigh_any size _ cap rs v w3 (he.below hbw3) (by omega) hck
        clear hn1 x0 x1 q0 q1
        obtain ⟨q0, q1⟩ := cells2R hx3
        obtain ⟨x0, x1⟩ := cells2R hXX3
        go_wp2_with fail
        refine hn2.mono ?_
        rintro e w4 ⟨nb, c4, r4, a4, rfl, hr4, rfl, hi4, hp4, hb4⟩
        have hbX4 := hbX3.trans (hb4.mono hbX3.size)
        have hown4 := hown3.kept (grown_of_below hb4) (Classical.em _)
        have hXX4 := lit_next' hb4 hXX3
        have hi34 := hi3.below hb4
        have hsv := HSR.out v
        have hlu := rowR_len rs u
        have hlv := rowR_len rs v
        have HR34 : Hid (r3 = rdsN size.toNat rs (u : Int) ∧ r4 = rdsN size.toNat rs (v : Int)) := (show _ ∧ _ from ⟨hr3.2, hr4.2⟩)
        have hr3 := hr3.1
        have hr4 := hr4.1
        obtain ⟨A, hA⟩ : ∃ A, rowR rs u = A := ⟨_, rfl⟩
        obtain ⟨B, hB⟩ : ∃ B, rowR rs v = B := ⟨_, rfl⟩
        have hsE : supE rs ((u : Int), (v : Int)) = (((u : Int), (v : Int)), cntB A B A.length) := by
          unfold supE
          dsimp only
          rw [Int.toNat_natCast, Int.toNat_natCast, hA, hB]
        rw [hA] at hi3 hi34 hlu
        rw [hB] at hi4 hsv hlv
        rw [hsE] at HL6
        rw [hA, hB]
        clear hn2 x0 x1 q0 q1 hA hB hsE hi3
        obtain ⟨x0, x1⟩ := cells2R hXX4
        go_wp2_with fail
        have hz4 := hbX4.size
        go_loopw [17, 69] (fun vn vi wr => ∃ t : Nat, t ≤ A.length ∧ vi = .int .i64 (t : Int) ∧ vn = .int .i64 (cntB A B t : Int) ∧ Below w4.heap.size w4 wr) (fun _ vi _ => A.length - (intOf vi).toNat)
        case atStart => exact ⟨0, Nat.zero_le _, rfl, rfl, Below.refl _ _⟩
        case round =>
          clear x0 x1
          obtain ⟨t, ht, rfl, rfl, hb⟩ := hrel
          by_cases hltt : t < A.length
          · have hltt3 : (t : Int) < A.length := by omega
            have hxx : A[t]? = some A[t] := List.getElem?_eq_getElem hltt
            obtain ⟨z, hz⟩ : ∃ z, A[t] = z := ⟨_, rfl⟩
            rw [hz] at hxx
            obtain ⟨b7, o7, rfl, y0⟩ : ∃ b off, a3 = some ⟨b, off, none⟩ ∧ wr.cell? ⟨b, off + t, none⟩ = some (.int .i64 z) := by
              obtain ⟨_, _, hv', _, _, _, hc⟩ := hi34.below hb
              cases hv'
              exact hc t _ hxx
            have hcc : A.length ≤ c3 := by obtain ⟨_, _, hv', h1, _⟩ := hi34; cases hv'; exact h1
            have hst := cntB_step A B t z hxx
            have hcle := cntB_le A B t
            have hbs := bs_any a4 c4 B z wr (hi4.below hb) hsv (by omega)
            have HST := Lib.hid hst
            obtain ⟨D, hD⟩ : ∃ D, decide (z ∈ B) = D := ⟨_, rfl⟩
            rw [hD] at hbs
            have HD := Lib.hid hD
            obtain ⟨C, hC⟩ : ∃ C, cntB A B t = C := ⟨_, rfl⟩
            rw [hC] at hcle
            rw [hC]
            have HC := Lib.hid hC
            clear hst hD hz hxx hC
            go_wp2_with fail
            refine hbs.mono ?_
            rintro e w5 ⟨q, rfl, hb5⟩
            have hb45 := hb.trans (hb5.mono hb.size)
            have hC9 : (C : Int) + 1 ≤ 9000000000 := by omega
            cases D
            · have hn : cntB A B (t + 1) = C := by rw [HST.out, if_neg (of_decide_eq_false HD.out), HC.out]; rfl
              go_wp2_with fail
              go_roundw
              case rel => exact ⟨t + 1, by omega, by go_num, by rw [hn], hb45⟩
              case measure => simp [intOf]; omega
            · have hn : cntB A B (t + 1) = C + 1 := by rw [HST.out, if_pos (of_decide_eq_true HD.out), HC.out]
              go_wp2_with fail
              go_roundw
              case rel => exact ⟨t + 1, by omega, by go_num, by rw [hn]; go_num, hb45⟩
              case measure => simp [intOf]; omega
          · obtain rfl : t = A.length := by omega
            have hcle := cntB_le A B A.length
            obtain ⟨C, hC⟩ : ∃ C, cntB A B A.length = C := ⟨_, rfl⟩
            rw [hC] at hcle HL6
            rw [hC]
            clear hC
            have hb2r := hbX4.trans (hb.mono hbX4.size)
            have hownr := hown4.kept (grown_of_below hb) (Classical.em _)
            have hXXr := lit_next' hb hXX4
            obtain ⟨x0, x1⟩ := cells2R hXXr
            have hlit := rows_lit1 (E := encT) wr (((u : Int), (v : Int)), C) 71 #[.int .i64 (u : Int), .int .i64 (v : Int), .int .i64 (C : Int)] rfl
            have hownA := hownr.alloc (.cells #[.int .i64 (u : Int), .int .i64 (v : Int), .int .i64 (C : Int)] 71)
            have hbA := hb2r.alloc hb2r.size (.cells #[.int .i64 (u : Int), .int .i64 (v : Int), .int .i64 (C : Int)] 71)
            go_wp2_with (at_builtin; refine wpList_app_rows triT rfl _ _ rfl w2.heap.size (.slice ao l.length co) _ l [(((u : Int), (v : Int)), C)] rfl hownA rfl hlit (by rw [List.length_singleton]; omega) (by rw [List.length_singleton]; omega) hbA.size ?_; intro v6 w6 hown6 hg6)
            have hb6 := hbA.grown hg6 hbA.size (fun g e => (hownA.lt g e).1)
            have hr9 : (r : Int) + ((r3 : Int) + (r4 : Int)) ≤ 9000000000 := by omega
            go_roundw
            case rel => exact ⟨k + 1, r + (r3 + r4), l ++ [(((u : Int), (v : Int)), C)], by omega, by go_num, by go_num, by omega, (show _ = _ by rw [HR7.out, HR34.out.1, HR34.out.2]), (show _ = _ from HL6.out.symm), by rw [List.length_append, List.length_singleton]; omega, hown6, hb6⟩
            case measure => simp [intOf]; omega
    · obtain rfl : k = rs.length := by omega
      have hf := HLL.out
      rw [List.take_length] at hf
      subst hf
      have hfr := HRR.out
      rw [List.take_length] at hfr
      subst hfr
      obtain ⟨a8, c8, hv8, hr8, hp8⟩ := RowAt.of_owns hown (by omega)
      cases hv8
      go_wp2_with fail
      go_ret3
      exact ⟨_, _, rfl, hr8, fun p e => Nat.le_trans hb02.size (hp8 p e), hb02.trans (hb.mono hb02.size)⟩
theorem exsup_any (size : Int) (k0 : Int) (es : List E2) (a : Option Addr) (cap : Nat) (rs : List E2) (w : World) (he : EdgesAt w (.slice a rs.length cap) rs) (hl : rs.length ≤ 10000) (hgr0 : graphR size 64 rs = (k0, es, 0)) (hck : chkR size rs = 0)
    (hok : ∀ e ∈ rs, 0 ≤ e.1 ∧ 0 ≤ e.2) (hsr : ∀ v, (rowR rs v).Pairwise (· ≤ ·)) :
    Calls Try.prog 34 #[.agg #[.int .i64 size, .slice a rs.length cap]] w (SPost w (supL rs rs) 0) :=
  (exsupR_any size k0 es a cap rs w he hl hgr0 hck hok hsr).mono fun _ _ ⟨a, c, h⟩ => ⟨a, c, _, h⟩
/-- the error -/
theorem exsupE_any (size : Int) (C : Int) (a : Option Addr) (cap : Nat) (rs : List E2) (w : World) (he : EdgesAt w (.slice a rs.length cap) rs) (hl : rs.length ≤ 10000) (hgr0 : (graphR size 64 rs).2.2 = C) (hC : C ≠ 0) :
    Calls Try.prog 34 #[.agg #[.int .i64 size, .slice a rs.length cap]] w (SPostR w [] C 0) := by
  obtain ⟨hxA, hb0⟩ := boxG_new w #[.int .i64 size, .slice a rs.length cap] 33
  obtain ⟨wA, hwA⟩ : ∃ W : World, W = w.alloc (.cells #[.int .i64 size, .slice a rs.length cap] 33) := ⟨_, rfl⟩
  rw [← hwA] at hxA hb0
  have HWA := Lib.hid hwA
  clear hwA
  have hgr := rungraph_any size 64 a cap rs wA (he.below hb0) (by omega)
  obtain ⟨⟨k, es, C'⟩, hG⟩ : ∃ F, graphR size 64 rs = F := ⟨_, rfl⟩
  rw [hG] at hgr hgr0
  dsimp only at hgr0
  subst hgr0
  unfold RGPost at hgr
  unfold SPostR
  dsimp only [List.length_nil] at hgr ⊢
  obtain ⟨q0, q1⟩ := cells2R hxA
  have d1 : (C' != 0) = true := by simpa using hC
  clear hC hG
  go_enter Try.func34, Try.ntmps34
  go_wp2_with (rw [← HWA.out])
  refine hgr.mono ?_
  rintro e w1 ⟨ag, cg, rfl, -, -, hb1⟩
  have hb01 := hb0.trans (hb1.mono hb0.size)
  go_wp2_with fail
  go_ret3
  exact ⟨none, 0, rfl, rowT_nil _, fun p h => (by cases h), hb01.alloc hb01.size _⟩
end Go.Proofs.Ytdkmdcdoiaelfaa
