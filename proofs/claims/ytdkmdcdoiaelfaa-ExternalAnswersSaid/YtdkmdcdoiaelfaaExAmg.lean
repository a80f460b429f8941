/- The contract of the program's count of triangles among the records of three groups. -/
import Derived.Test.YtdkmdcdoiaelfaaExNb
import Derived.Test.YtdkmdcdoiaelfaaDegH
import Derived.Test.YtdkmdcdoiaelfaaExtP
import Derived.Deep.RegionHeld3
import Derived.Deep.DeepCutAuto
namespace Go.Proofs.Ytdkmdcdoiaelfaa
open Go.RowKit Go.BigFrame

/-- a third node that makes a triangle of the groups that are asked for -/
def amW (part : List E2) (g : Int) (W : List Int) (x : E2) (w : Int) : Bool := !decide (w < x.2) && (decide (w ∈ rowR part x.1.toNat) && decide (srt [x.1.tmod g, x.2.tmod g, w.tmod g] = W))
def amX (part : List E2) (g : Int) (W : List Int) (x : E2) : Nat := if x.2 < x.1 then 0 else (rowR part x.2.toNat).countP (amW part g W x)
def amN (part : List E2) (g : Int) (W : List Int) (l : List E2) : Nat := (l.map (amX part g W)).sum
theorem amN_snoc (part : List E2) (g : Int) (W : List Int) (l : List E2) (x : E2) : amN part g W (l ++ [x]) = amN part g W l + amX part g W x := by simp [amN]
theorem amX_le (part : List E2) (g : Int) (W : List Int) (x : E2) : amX part g W x ≤ part.length := by
  unfold amX
  split
  · exact Nat.zero_le _
  · exact Nat.le_trans List.countP_le_length (rowR_len _ _)
theorem icontains_any (a : Option Addr) (cap : Nat) (xs : List Int) (x : Int) (w : World) (hi : IntsAt w (.slice a xs.length cap) xs) :
    Calls Try.prog 102 #[.slice a xs.length cap, .int .i64 x] w fun e w' => e = .returned (.bool (decide (x ∈ xs))) ∧ w = w' := by
  obtain ⟨a', cap', e, h1, h2, h3, h4⟩ := hi
  cases e
  cases xs with
  | nil =>
    refine (Try.slices_Contains_int_empty a cap x w).mono ?_
    rintro e w' ⟨rfl, rfl⟩
    exact ⟨by simp, rfl⟩
  | cons y ys =>
    obtain ⟨b, off, rfl, -⟩ := h4 0 y rfl
    refine (Try.slices_Contains_int b off (y :: ys).length cap (y :: ys) x w (Nat.le_refl _) (by omega) (fun j hj => ?_)).mono ?_
    · obtain ⟨b', off', e, c⟩ := h4 j _ (get_of_getD hj)
      cases e
      exact c
    · rintro e w' ⟨rfl, rfl⟩
      exact ⟨by rw [List.take_length]; simp, rfl⟩
theorem eq_i3 (x y z x' y' z' : Int) (W : World) : (Op.equalIn 10000 71 (.agg #[.int .i64 x, .int .i64 y, .int .i64 z]) (.agg #[.int .i64 x', .int .i64 y', .int .i64 z'])).run Try.prog W = .ok (x == x' && (y == y' && z == z')) W := by
  obtain ⟨i, hi⟩ : ∃ i, Try.prog.info? 3 = some i := Option.isSome_iff_exists.1 (by kernel_rfl)
  have hc : Try.prog.cellsOf 3 = 1 := by kernel_rfl
  have hr : List.range 3 = [0, 1, 2] := rfl
  have h1 : ∀ d, (Op.equalIn (d + 1 + 1) 71 (.agg #[.int .i64 x, .int .i64 y, .int .i64 z]) (.agg #[.int .i64 x', .int .i64 y', .int .i64 z'])).run Try.prog W = .ok (x == x' && (y == y' && z == z')) W := fun d => by
    rw [run_equalIn_array (w := W) (d + 1) #[.int .i64 x, .int .i64 y, .int .i64 z] #[.int .i64 x', .int .i64 y', .int .i64 z'] Try.underlying71 hi, hc, hr]
    simp [Op.eqItems, Sem.run_bind, part, isAgg, go_sem, Op.equalIn, run_underlying Try.underlying3, Result.andThen]
    by_cases e1 : x = x' <;> by_cases e2 : y = y' <;> by_cases e3 : z = z' <;> simp [e1, e2, e3]
  exact h1 9998
theorem arr_at3 (A : Addr) (c : Nat) (W : World) : (Instr.arrayAt 71 (.slice (some A) 3 c)).run Try.prog W = .ok (.pointer (some A)) W := by
  unfold Instr.arrayAt
  simp [Sem.run_bind, go_sem, run_underlying Try.underlying71, Result.andThen]
theorem own_lit3 (w : World) (a b c : Int) : (w.alloc (.cells #[.int .i64 a, .int .i64 b, .int .i64 c] 3)).ownsRow w.heap.size 3 1 (.slice (some ⟨w.heap.size, 0, none⟩) 3 3) [a, b, c].length (intsV [a, b, c]) :=
  ⟨rfl, .inr ⟨w.heap.size, 3, _, rfl, Nat.le_refl _, heap_alloc_new _ _, Nat.le_refl _, by unfold maxLen; omega, rfl, rfl⟩⟩
theorem srt3 (a b c : Int) : ∃ p q r, srt [a, b, c] = [p, q, r] := by
  have := srt_length [a, b, c]
  match h : srt [a, b, c], this with
  | [p, q, r], _ => exact ⟨p, q, r, rfl⟩
set_option maxRecDepth 100000 in
set_option maxHeartbeats 6400000 in
theorem among_any (G : Nat) (W1 W2 W3 : Int) (a : Option Addr) (cap : Nat) (part : List E2) (w : World) (he : EdgesAt w (.slice a part.length cap) part) (hl : part.length ≤ 10000) (hr : ∀ e ∈ part, recOk e = true) (hG : 1 ≤ G) (hG2 : G ≤ 16) :
    Calls Try.prog 57 #[.slice a part.length cap, .int .i64 (G : Int), .agg #[.int .i64 W1, .int .i64 W2, .int .i64 W3]] w fun e w' => e = .returned (.int .i64 (amN part G [W1, W2, W3] part : Nat)) ∧ Below w.heap.size w w' := by
  have HR : Hid (∀ e ∈ part, 0 ≤ e.1 ∧ e.1 < 64 ∧ 0 ≤ e.2 ∧ e.2 < 64) := (show ∀ e ∈ part, _ from fun e h => by have := (recOk_iff e).1 (hr e h); omega)
  clear hr
  have hxA := heap_alloc_new w (.cells #[.int .i64 W1, .int .i64 W2, .int .i64 W3] 71)
  have hb0 := (Below.refl w.heap.size w).alloc (Nat.le_refl _) (.cells #[.int .i64 W1, .int .i64 W2, .int .i64 W3] 71)
  obtain ⟨wA, hwA⟩ : ∃ W : World, W = w.alloc (.cells #[.int .i64 W1, .int .i64 W2, .int .i64 W3] 71) := ⟨_, rfl⟩
  rw [← hwA] at hxA hb0
  have HWA := Lib.hid hwA
  clear hwA
  have hnb := exnb_any 0 64 a cap part wA (he.below hb0) (by omega) (by omega) (fun e h => by have := HR.out e h; omega)
  obtain ⟨N, hN⟩ : ∃ N, amN part G [W1, W2, W3] part = N := ⟨_, rfl⟩
  rw [hN]
  have HN := Lib.hid hN
  clear hN
  go_enter Try.func57, Try.ntmps57
  go_wp2_with (rw [← HWA.out])
  refine hnb.mono ?_
  rintro e w1 ⟨g, rfl, hg, hrows, hb1⟩
  have hx1 := lit_next' hb1 hxA
  have hb01 := hb0.trans (hb1.mono hb0.size)
  have hrows1 : RowsAt w1 (.slice (some ⟨g, 0, none⟩) ((List.range 64).map (rowR part)).length 64) ((List.range 64).map (rowR part)) := by simpa using hrows
  clear hnb hxA hb1 hrows
  go_wp2_with fail
  go_loopw [8, 19] (fun vn vi wr => ∃ k s : Nat, k ≤ part.length ∧ vi = .int .i64 k ∧ vn = .int .i64 s ∧ Hid (s = amN part G [W1, W2, W3] (part.take k)) ∧ s ≤ k * 10000 ∧ Below w1.heap.size w1 wr) (fun _ vi _ => part.length - (intOf vi).toNat)
  case atStart => exact ⟨0, 0, Nat.zero_le _, rfl, rfl, (show _ = _ from rfl), Nat.le_refl _, Below.refl _ _⟩
  case round =>
    obtain ⟨k, s, hk, rfl, rfl, HS, hsb, hb⟩ := hrel
    have hbw := hb01.trans (hb.mono hb01.size)
    by_cases hlt : k < part.length
    · have hlt3 : (k : Int) < part.length := by omega
      obtain ⟨b, off, x0, y0, rfl, hxy, -, -, c0, c1⟩ := (he.below hbw).at k hlt
      obtain ⟨hx0, hx64, hy0, hy64⟩ := HR.out _ (List.mem_of_getElem? hxy)
      dsimp only at hx0 hx64 hy0 hy64
      obtain ⟨x, rfl⟩ := Int.eq_ofNat_of_zero_le hx0
      obtain ⟨y, rfl⟩ := Int.eq_ofNat_of_zero_le hy0
      have hst : amN part G [W1, W2, W3] (part.take (k + 1)) = s + amX part G [W1, W2, W3] ((x : Int), (y : Int)) := by rw [take_at _ _ _ hxy, amN_snoc, ← HS.out]
      have HST := Lib.hid hst
      obtain ⟨hXX, hXb⟩ := box_pair wr x y 37
      have hbX := hb.trans (hXb.mono hb.size)
      obtain ⟨wX, hwX⟩ : ∃ W : World, W = wr.alloc (.cells #[.int .i64 (x : Int), .int .i64 (y : Int)] 37) := ⟨_, rfl⟩
      obtain ⟨X, hX⟩ : ∃ X, wr.heap.size = X := ⟨_, rfl⟩
      rw [← hwX] at hXX hbX
      rw [hX] at hXX
      have HWX := Lib.hid hwX
      have HX := Lib.hid hX
      obtain ⟨x0, x1⟩ := cells2R hXX
      clear hwX hX hXb hst hxy HS hx0 hy0
      by_cases hyx : (y : Int) < x
      · have d1 : decide ((y : Int) < (x : Int)) = true := by simpa using hyx
        have d1' : decide (y < x) = true := by simp; omega
        have HS2 : Hid (s = amN part G [W1, W2, W3] (part.take (k + 1))) := (show _ = _ by rw [HST.out]; unfold amX; rw [if_pos hyx]; rfl)
        clear hyx HST
        go_upto_region 6 with fail
        rw [← HWX.out, HX.out]
        go_wp2_with fail
        go_roundw
        case rel => exact ⟨k + 1, s, by omega, by go_num, rfl, HS2, by omega, hbX⟩
        case measure => simp [intOf]; omega
      · have d1 : decide ((y : Int) < (x : Int)) = false := by simpa using hyx
        have d1' : decide (y < x) = false := by simp; omega
        have hax : amX part G [W1, W2, W3] ((x : Int), (y : Int)) = (rowR part y).countP (amW part G [W1, W2, W3] ((x : Int), (y : Int))) := by unfold amX; rw [if_neg hyx]; rfl
        rw [hax] at HST
        have hy64n : y < 64 := by omega
        have hx64n : x < 64 := by omega
        obtain ⟨b2, o2, ay, cy, e2, -, hcy, hrowy⟩ := (hrows1.below hbX).at y (rowR part y) (range_get _ 64 y hy64n)
        obtain ⟨b3, o3, ax, cx, e3, -, hcx, hrowx⟩ := (hrows1.below hbX).at x (rowR part x) (range_get _ 64 x hx64n)
        cases e2
        cases e3
        have hRl := rowR_len part y
        obtain ⟨R, hR⟩ : ∃ R, rowR part y = R := ⟨_, rfl⟩
        rw [hR] at hcy hrowy hRl
        have HRR := Lib.hid hR
        have hcy0 : wX.cell? ⟨g, y, none⟩ = some (.slice ay R.length cy) := by simpa using hcy
        have hcx0 : wX.cell? ⟨g, x, none⟩ = some (.slice ax (rowR part x).length cx) := by simpa using hcx
        clear hyx hax hR hcy hcx
        go_upto_region 6 with fail
        rw [← HWX.out, HX.out]
        have HRV : Hid (∀ v ∈ R, 0 ≤ v ∧ v < 64) := (show ∀ v ∈ R, _ from fun v hv => by
          rw [← HRR.out] at hv
          unfold rowR at hv
          rw [List.mem_map] at hv
          obtain ⟨e, he2, rfl⟩ := hv
          have := HR.out e (List.mem_filter.1 he2).1
          omega)
        obtain ⟨AM, hAM⟩ : ∃ AM : Int → Bool, amW part G [W1, W2, W3] ((x : Int), (y : Int)) = AM := ⟨_, rfl⟩
        rw [hAM] at HST
        have HAM : Hid (∀ v, AM v = (!decide (v < (y : Int)) && (decide (v ∈ rowR part x) && decide (srt [(x : Int).tmod G, (y : Int).tmod G, v.tmod G] = [W1, W2, W3])))) := (show ∀ v, _ from fun v => by rw [← hAM]; rfl)
        obtain ⟨RX, hRX⟩ : ∃ R, rowR part x = R := ⟨_, rfl⟩
        rw [hRX] at hrowx hcx0 HAM
        have hG0 : ((G : Int) == 0) = false := by simp; omega
        have hG1 : ¬ (G : Int) = 0 := by omega
        have hG3 : ¬ G = 0 := by omega
        clear hAM hRX
        go_wp2_with fail
        go_loopw [8, 34] (fun vn vi wr2 => ∃ t c : Nat, t ≤ R.length ∧ vi = .int .i64 t ∧ vn = .int .i64 ((s + c : Nat) : Int) ∧ Hid (c = (R.take t).countP AM) ∧ c ≤ t ∧ Below wX.heap.size wX wr2) (fun _ vi _ => R.length - (intOf vi).toNat)
        case atStart => exact ⟨0, 0, Nat.zero_le _, rfl, rfl, (show _ = _ from rfl), Nat.le_refl _, Below.refl _ _⟩
        case round =>
          obtain ⟨t, c, ht, rfl, rfl, HC, hct, hb4⟩ := hrel
          by_cases hlt2 : t < R.length
          · have hlt4 : (t : Int) < R.length := by omega
            obtain ⟨b5, o5, v, e5, hv, -, -, c5⟩ := (hrowy.below hb4).at t hlt2
            subst e5
            obtain ⟨hv0, hv64⟩ := HRV.out v (List.mem_of_getElem? hv)
            have hcc : (R.take (t + 1)).countP AM = c + (if AM v = true then 1 else 0) := by
              rw [take_at _ _ _ hv, List.countP_append, ← HC.out]
              congr 1
              cases hh : AM v <;> simp [hh]
            have HCC := Lib.hid hcc
            have hXr := lit_next' hb4 hXX
            obtain ⟨x0, x1⟩ := cells2R hXr
            have hcx2 := (hb4.cell (p := ⟨g, x, none⟩) (cell_lt hcx0)).trans hcx0
            have hx64' : (x : Int) < 64 := by omega
            clear hcc hv HC
            by_cases hvy : v < (y : Int)
            · have d3 : decide (v < (y : Int)) = true := by simpa using hvy
              have HC2 : Hid (c = (R.take (t + 1)).countP AM) := (show _ = _ by rw [HCC.out, HAM.out, d3]; simp)
              clear hvy
              go_wp2_with fail
              go_roundw
              case rel => exact ⟨t + 1, c, by omega, by go_num, rfl, HC2, by omega, hb4⟩
              case measure => simp [intOf]; omega
            · have d3 : decide (v < (y : Int)) = false := by simpa using hvy
              have hco := icontains_any ax cx RX v wr (hrowx.below hb4)
              obtain ⟨D, hD⟩ : ∃ D, decide (v ∈ RX) = D := ⟨_, rfl⟩
              rw [hD] at hco
              have HD := Lib.hid hD
              clear hvy hD
              cases D
              · have HC2 : Hid (c = (R.take (t + 1)).countP AM) := (show _ = _ by rw [HCC.out, HAM.out, d3, HD.out]; simp)
                go_wp2_with fail
                refine hco.mono ?_
                rintro e w6 ⟨rfl, rfl⟩
                go_wp2_with fail
                go_roundw
                case rel => exact ⟨t + 1, c, by omega, by go_num, rfl, HC2, by omega, hb4⟩
                case measure => simp [intOf]; omega
              · go_wp2_with fail
                refine hco.mono ?_
                rintro e w6 ⟨rfl, rfl⟩
                have hSS : ∀ W : World, Below wr.heap.size wr W → W.cell? ⟨X, 0, none⟩ = some (.int .i64 (x : Int)) ∧ W.cell? ⟨X, 1, none⟩ = some (.int .i64 (y : Int)) := fun W h => cells2R (lit_next' h hXr)
                have hbd : Below wr.heap.size wr wr.drew := (Below.refl _ _).drew
                have hbl := (Below.refl wr.heap.size wr).alloc (Nat.le_refl _) (.cells #[.int .i64 ((x : Int).tmod G), .int .i64 ((y : Int).tmod G), .int .i64 (v.tmod G)] 3)
                have hbld := hbl.drew
                go_wp2_with fail
                go_region_held3 (fun w' => w'.cell? ⟨X, 0, none⟩ = some (.int .i64 (x : Int)) ∧ w'.cell? ⟨X, 1, none⟩ = some (.int .i64 (y : Int)))
                  (first | with_reducible exact hSS _ hbd | with_reducible exact hSS _ hbl | with_reducible exact hSS _ hbld)
                  (first | fail)
                have hown0 := (own_lit3 wr ((x : Int).tmod G) ((y : Int).tmod G) (v.tmod G)).drew
                have hso := sort_own _ [(x : Int).tmod G, (y : Int).tmod G, v.tmod G] _ hown0 (by simp)
                obtain ⟨p, q, r, hs3⟩ := srt3 ((x : Int).tmod G) ((y : Int).tmod G) (v.tmod G)
                rw [hs3] at hso
                have HAV : Hid (AM v = decide ([p, q, r] = [W1, W2, W3])) := (show _ = _ by rw [HAM.out, d3, HD.out, hs3]; simp)
                have HCC2 := Lib.hid (show (R.take (t + 1)).countP AM = c + (if decide ([p, q, r] = [W1, W2, W3]) = true then 1 else 0) by rw [HCC.out, HAV.out])
                have hx1r := (lit_next' hbX hx1)
                have hxw := lit_next' hb4 hx1r
                have hxwd := lit_next' hbld hxw
                have hO := heap_alloc_new wr (.cells #[.int .i64 ((x : Int).tmod G), .int .i64 ((y : Int).tmod G), .int .i64 (v.tmod G)] 3)
                obtain ⟨wO, hwO⟩ : ∃ W : World, W = (wr.alloc (.cells #[.int .i64 ((x : Int).tmod G), .int .i64 ((y : Int).tmod G), .int .i64 (v.tmod G)] 3)).drew := ⟨_, rfl⟩
                obtain ⟨O, hO2⟩ : ∃ O, wr.heap.size = O := ⟨_, rfl⟩
                rw [← hwO] at hso hxwd hbld
                rw [hO2] at hso
                have HWO := Lib.hid hwO
                have HO := Lib.hid hO2
                have hwO2 : w.heap.size < O := by rw [← hO2]; exact blk_lt hxw
                clear hwO hO hown0 hSS hbd hbl hs3 hco hxw hx1r HCC HAV
                go_upto_region 12 with fail
                rw [← HWO.out, HO.out]
                go_wp2_with fail
                refine hso.mono ?_
                rintro e w8 ⟨rfl, hown8, hg8⟩
                have u0 : w8.cell? ⟨O, 0, none⟩ = some (.int .i64 p) := hown8.cellAt 0 (by simp)
                have u1 : w8.cell? ⟨O, 1, none⟩ = some (.int .i64 q) := hown8.cellAt 1 (by simp)
                have u2 : w8.cell? ⟨O, 2, none⟩ = some (.int .i64 r) := hown8.cellAt 2 (by simp)
                have hxw8 := grown_blk hg8 hxwd (fun e => by have := Option.some.inj e; dsimp only at this; omega)
                have v0 : w8.cell? ⟨w.heap.size, 0, none⟩ = some (.int .i64 W1) := cell_blk hxw8
                have v1 : w8.cell? ⟨w.heap.size, 1, none⟩ = some (.int .i64 W2) := cell_blk hxw8
                have v2 : w8.cell? ⟨w.heap.size, 2, none⟩ = some (.int .i64 W3) := cell_blk hxw8
                have hb8 : Below wX.heap.size wX w8 := by
                  rw [HWO.out] at hg8
                  have h1 := (hb4.alloc hb4.size (.cells #[.int .i64 ((x : Int).tmod G), .int .i64 ((y : Int).tmod G), .int .i64 (v.tmod G)] 3)).drew
                  exact h1.grown hg8 h1.size (fun j e => by have := Option.some.inj e; dsimp only at this; have := hb4.size; omega)
                have heq := fun W => eq_i3 p q r W1 W2 W3 W
                have har := fun W => arr_at3 ⟨O, 0, none⟩ 3 W
                obtain ⟨E, hE⟩ : ∃ E, (p == W1 && (q == W2 && r == W3)) = E := ⟨_, rfl⟩
                have hE2 : decide ([p, q, r] = [W1, W2, W3]) = E := by rw [← hE, Bool.eq_iff_iff]; simp
                rw [hE] at heq
                have HC3 := HCC2.out
                rw [hE2] at HC3
                have hci : IntKind.i64.wrap ((s : Int) + c + 1) = (s : Int) + c + 1 := IntWalk.i64_in _ (by omega)
                have HCE := Lib.hid HC3
                clear hE hE2 HC3 HCC2 hso hg8 hown8 hxw8 hxwd
                go_wp2_with fail
                go_quiet (fail)
                have hb9 := hb8.drewN nq
                cases E
                · have HC2 : Hid (c = (R.take (t + 1)).countP AM) := (show _ = _ by rw [HCE.out]; simp)
                  go_wp2_with fail
                  go_roundw
                  case rel => exact ⟨t + 1, c, by omega, by go_num, rfl, HC2, by omega, hb9⟩
                  case measure => simp [intOf]; omega
                · have HC2 : Hid (c + 1 = (R.take (t + 1)).countP AM) := (show _ = _ by rw [HCE.out]; simp)
                  go_wp2_with fail
                  go_roundw
                  case rel => exact ⟨t + 1, c + 1, by omega, by go_num, by go_num, HC2, by omega, hb9⟩
                  case measure => simp [intOf]; omega
          · obtain rfl : t = R.length := by omega
            have HS2 : Hid (s + c = amN part G [W1, W2, W3] (part.take (k + 1))) := (show _ = _ by rw [HST.out, HC.out, List.take_length, HRR.out])
            have hb6 := hbX.trans (hb4.mono hbX.size)
            go_wp2_with fail
            go_roundw
            case rel => exact ⟨k + 1, s + c, by omega, by go_num, by go_num, HS2, by omega, hb6⟩
            case measure => simp [intOf]; omega
    · obtain rfl : k = part.length := by omega
      have hs : s = N := by rw [HS.out, List.take_length]; exact HN.out
      subst hs
      go_wp2_with fail
      go_ret
      exact ⟨rfl, hbw⟩
end Go.Proofs.Ytdkmdcdoiaelfaa
