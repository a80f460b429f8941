/- The contract of a pass of the program, at rows of neighbours. -/
import Derived.Test.YtdkmdcdoiaelfaaExtP
import Derived.Test.YtdkmdcdoiaelfaaDegH
import Derived.Test.YtdkmdcdoiaelfaaGrid
import Derived.Deep.RegionHeld3
import Derived.Deep.DeepCutAuto
namespace Go.Proofs.Ytdkmdcdoiaelfaa
open Go.RowKit Go.BigFrame

/-- a pass over lists of neighbours -/
def passG (N : Nat → List Nat) (n : Nat) (x : List Int) : List Int := (List.range n).map fun v => min (x.getD v 0) (hX ((N v).map fun w => x.getD w 0) : Int)
theorem passG_nb (es : List E2) (n : Nat) (x : List Int) : passG (nbL es n) n x = passL es n x := rfl
theorem passG_length (N : Nat → List Nat) (n : Nat) (x : List Int) : (passG N n x).length = n := by simp [passG]
set_option maxRecDepth 100000 in
set_option maxHeartbeats 6400000 in
theorem pass_any (N : Nat → List Nat) (n : Nat) (a a2 : Option Addr) (cap c2 : Nat) (x : List Int) (w : World) (hr : RowsAt w (.slice a n cap) ((List.range n).map fun v => castL (N v))) (hi : IntsAt w (.slice a2 n c2) x) (hx : x.length = n) (hn : n ≤ 64) (hN : ∀ v, v < n → (∀ y, y ∈ N v → y < n) ∧ (N v).length ≤ 64) :
    Calls Try.prog 59 #[.slice a n cap, .slice a2 n c2] w fun e w' => ∃ g, e = .returned (.slice (some ⟨g, 0, none⟩) n n) ∧ w.heap.size ≤ g ∧ NumAt w' g (passG N n x) ∧ Below w.heap.size w w' := by
  have hmk := make_ints n (by omega)
  have HN := Lib.hid hN
  have HX := Lib.hid hx
  obtain ⟨F, hF⟩ : ∃ F : Nat → Int, (fun v => min (x.getD v 0) (hX ((N v).map fun w => x.getD w 0) : Int)) = F := ⟨_, rfl⟩
  have HF : Hid (∀ v, F v = min (x.getD v 0) (hX ((N v).map fun w => x.getD w 0) : Int)) := (show ∀ v, _ from fun v => by rw [← hF])
  have hpf : passG N n x = fnL n F := by rw [← hF]; rfl
  rw [hpf]
  have hi0 : IntsAt w (.slice a2 x.length c2) x := by rw [hx]; exact hi
  have hr0 : RowsAt w (.slice a ((List.range n).map fun v => castL (N v)).length cap) ((List.range n).map fun v => castL (N v)) := by simpa using hr
  clear hN hx hF hpf hr hi
  go_enter Try.func59, Try.ntmps59
  go_upto_region 2 with fail
  obtain ⟨hZ, hb1⟩ := (show NumAt (w.alloc (.cells (intsV (List.replicate n 0)).toArray 3)) w.heap.size (fnL n (fun v => if v < 0 then F v else 0)) ∧ Below w.heap.size w (w.alloc (.cells (intsV (List.replicate n 0)).toArray 3)) from by
    refine ⟨?_, (Below.refl _ _).alloc (Nat.le_refl _) _⟩
    have : fnL n (fun v => if v < 0 then F v else 0) = List.replicate n 0 := by
      apply List.ext_getElem?
      intro j
      by_cases hj : j < n
      · rw [fnL_get n _ j hj]; simp [hj]
      · rw [List.getElem?_eq_none (by rw [fnL_length]; omega), List.getElem?_eq_none (by simp; omega)]
    rw [this]
    exact heap_alloc_new _ _)
  obtain ⟨w1, hw1⟩ : ∃ W : World, W = w.alloc (.cells (intsV (List.replicate n 0)).toArray 3) := ⟨_, rfl⟩
  obtain ⟨g, hg⟩ : ∃ g, w.heap.size = g := ⟨_, rfl⟩
  rw [← hw1] at hZ hb1 ⊢
  rw [hg] at hZ ⊢
  have HG := Lib.hid hg
  clear hw1 hg
  have hgl : g < w1.heap.size := blk_lt hZ
  go_wp2_with fail
  go_loopw [16] (fun vi wr => ∃ k : Nat, k ≤ n ∧ vi = .int .i64 k ∧ NumAt wr g (fnL n (fun v => if v < k then F v else 0)) ∧ Below w.heap.size w wr) (fun vi _ => n - (intOf vi).toNat)
  case atStart => exact ⟨0, Nat.zero_le _, rfl, hZ, hb1⟩
  case round =>
    clear hZ hb1 hgl
    obtain ⟨k, hk, rfl, hZ, hb⟩ := hrel
    have hgl : g < wr.heap.size := blk_lt hZ
    by_cases hlt : k < n
    · have hlt3 : (k : Int) < n := by omega
      obtain ⟨b, off, a3, c3, rfl, -, hc, hrow⟩ := (hr0.below hb).at k (castL (N k)) (range_get _ n k hlt)
      obtain ⟨b2, o2, xk, e2, hxk, -, -, cx⟩ := (hi0.below hb).at k (by rw [HX.out]; exact hlt)
      obtain ⟨b20, o20, y0, e20, hy0, -, -, cx0⟩ := hi0.at k (by rw [HX.out]; exact hlt)
      have hxd : x.getD k 0 = xk := getD_of hxk
      have hb2g : b2 < g := by rw [e2] at e20; cases e20; rw [← HG.out]; exact cell_lt cx0
      subst e2
      clear hy0 cx0 e20
      obtain ⟨hNk, hNl⟩ := HN.out k hlt
      have HCL := Lib.hid (castL_length (N k))
      have hNc : (castL (N k)).length ≤ 64 := by rw [HCL.out]; exact hNl
      go_wp2_with fail
      go_loopw [8, 23] (fun vs vi wr2 => ∃ t : Nat, t ≤ (castL (N k)).length ∧ vi = .int .i64 t ∧ ∃ L : List Int, Hid (L = ((N k).take t).map fun w => x.getD w 0) ∧ L.length ≤ t ∧ wr2.ownsRow wr.heap.size 3 1 vs L.length (intsV L) ∧ Below wr.heap.size wr wr2) (fun _ vi _ => (castL (N k)).length - (intOf vi).toNat)
      case atStart => exact ⟨0, Nat.zero_le _, rfl, [], (show _ = _ by simp), by simp, World.ownsRow_nil _ _ _ _, Below.refl _ _⟩
      case round =>
        obtain ⟨t, ht, rfl, L, HL, hLt, hown, hb2⟩ := hrel
        obtain ⟨av, cv, hvs⟩ := owns_shape hown
        subst hvs
        by_cases hlt2 : t < (castL (N k)).length
        · have hlt4 : (t : Int) < (castL (N k)).length := by omega
          have hts : t < (N k).length := by rw [← HCL.out]; exact hlt2
          obtain ⟨y, hy⟩ : ∃ y, (N k)[t]? = some y := ⟨_, List.getElem?_eq_getElem hts⟩
          have hyn : y < n := hNk y (List.mem_of_getElem? hy)
          obtain ⟨b5, o5, z, e5, hz, -, -, c5⟩ := (hrow.below hb2).at t hlt2
          obtain rfl : z = y := by
            unfold castL at hz
            rw [List.getElem?_map, hy] at hz
            exact (Option.some.inj hz).symm
          subst e5
          obtain ⟨b6, o6, u, e6, hu, -, -, c6⟩ := ((hi0.below hb).below hb2).at y (by rw [HX.out]; exact hyn)
          cases e6
          have hyl : (y : Int) < n := by omega
          have hud : x.getD y 0 = u := getD_of hu
          have HL2 : Hid (L ++ [u] = ((N k).take (t + 1)).map fun w => x.getD w 0) := (show _ = _ by rw [take_at _ _ _ hy, List.map_append, ← HL.out]; simp only [List.map_cons, List.map_nil]; rw [hud])
          have hlx := ints_lit1 wr u 3
          have hownA := hown.alloc (.cells #[.int .i64 u] 3)
          have hbA := hb2.alloc hb2.size (.cells #[.int .i64 u] 3)
          clear hud hu hz hy HL
          go_wp2_with (at_builtin; refine wpList_app_ints intsT rfl _ _ rfl _ (.slice av L.length cv) _ L [u] rfl hownA rfl hlx (by simp; omega) hbA.size ?_; intro v7 w7 hown7 hg7)
          have hb7 := hbA.grown hg7 hbA.size (fun g e => (hownA.lt g e).1)
          go_roundw
          case rel => exact ⟨t + 1, by omega, by go_num, L ++ [u], HL2, by simp; omega, hown7, hb7⟩
          case measure => simp [intOf]; omega
        · have htk : t = (N k).length := by rw [← HCL.out]; omega
          have hLN : L = (N k).map fun w => x.getD w 0 := by rw [HL.out, htk, List.take_length]
          obtain ⟨a7, c7, e7, hi7, -⟩ := IntsAt.of_owns hown (by omega)
          cases e7
          have hZ2 : NumAt wr g (fnL n (fun v => if v < k then F v else 0)) := (hb2.block g (by omega)).trans hZ
          have hFk : F k = min xk (hX L : Int) := by rw [HF.out, hxd, hLN]
          have hbd : Below wr.heap.size wr wr.drew := (Below.refl _ _).drew
          have hH := degh_any av cv L wr.drew (hi7.below hbd) (by omega)
          obtain ⟨H, hHH⟩ : ∃ H, hX L = H := ⟨_, rfl⟩
          rw [hHH] at hH hFk
          have HFK := Lib.hid hFk
          have cx2 : wr.cell? ⟨b2, o2 + k, none⟩ = some (.int .i64 xk) := (hb2.cell (p := ⟨b2, o2 + k, none⟩) (cell_lt cx)).trans cx
          have hSS : ∀ W : World, Below wr.heap.size wr W → W.cell? ⟨b2, o2 + k, none⟩ = some (.int .i64 xk) := fun W h => (h.cell (p := ⟨b2, o2 + k, none⟩) (cell_lt cx2)).trans cx2
          have hbw := hb.trans (hb2.mono hb.size)
          have hne : some b2 ≠ some g := fun e => by have := Option.some.inj e; omega
          have hzz : ∀ W : World, NumAt W g (fnL n (fun v => if v < k then F v else 0)) → W.cell? ⟨g, k, none⟩ = some (.int .i64 0) := fun W h => by have := numAt_fn h k hlt; rw [if_neg (Nat.lt_irrefl k)] at this; exact this
          clear hHH hFk hLN HL hi7 hown htk hxk hxd
          go_wp2_with fail
          go_region_held3 (fun w' => w'.cell? ⟨b2, o2 + k, none⟩ = some (.int .i64 xk))
            (first | with_reducible exact hSS _ hbd | with_reducible exact hSS _ hb7 | with_reducible exact hSF)
            (first | (go_at_call 104; (with_reducible refine hH.mono ?_); rintro e w7 ⟨rfl, hb7'⟩; have hb7 := hbd.trans (hb7'.mono hbd.size); have hZ7 : NumAt w7 g (fnL n (fun v => if v < k then F v else 0)) := (hb7.block g (blk_lt hZ2)).trans hZ2; have f7 := free_blk (j := k) hZ7; have z7 := hzz w7 hZ7; have hSF : (w7.setCell ⟨g, k, none⟩ (.int .i64 (min xk (H : Int)))).cell? ⟨b2, o2 + k, none⟩ = some (.int .i64 xk) := (grown_store (b := g)).cell (hSS w7 hb7) hne))
          have hZ8 := numAt_set hZ7 k (min xk (H : Int))
          have hcg : fnL n (fun v => if v = k then min xk (H : Int) else if v < k then F v else 0) = fnL n (fun v => if v < k + 1 then F v else 0) := by
            apply List.ext_getElem?
            intro j
            by_cases hj : j < n
            · rw [fnL_get n _ j hj, fnL_get n _ j hj]
              by_cases e : j = k
              · rw [if_pos e, if_pos (by omega), e, HFK.out]
              · rw [if_neg e]
                by_cases e2 : j < k
                · rw [if_pos e2, if_pos (by omega)]
                · rw [if_neg e2, if_neg (by omega)]
            · rw [List.getElem?_eq_none (by rw [fnL_length]; omega), List.getElem?_eq_none (by rw [fnL_length]; omega)]
          rw [hcg] at hZ8
          have hb8 := (hbw.trans (hb7.mono hbw.size)).setCell (p := ⟨g, k, none⟩) (by show w.heap.size ≤ g; rw [HG.out]; exact Nat.le_refl _) (.int .i64 (min xk (H : Int)))
          clear hcg hZ7 f7 z7 hSF hb7 hb7' hzz hSS hH
          go_wp2_with fail
          go_roundw
          case rel => exact ⟨k + 1, by omega, by go_num, hZ8, hb8⟩
          case measure => simp [intOf]; omega
    · obtain rfl : k = n := by omega
      have hfin : fnL k (fun v => if v < k then F v else 0) = fnL k F := by
        apply List.ext_getElem?
        intro j
        by_cases hj : j < k
        · rw [fnL_get k _ j hj, fnL_get k _ j hj, if_pos hj]
        · rw [List.getElem?_eq_none (by rw [fnL_length]; omega), List.getElem?_eq_none (by rw [fnL_length]; omega)]
      rw [hfin] at hZ
      go_wp2_with fail
      go_ret
      exact ⟨g, rfl, by rw [HG.out]; exact Nat.le_refl _, hZ, hb⟩
end Go.Proofs.Ytdkmdcdoiaelfaa
