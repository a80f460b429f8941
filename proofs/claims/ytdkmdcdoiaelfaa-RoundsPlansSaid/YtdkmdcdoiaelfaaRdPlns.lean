/- The walk of the law on rounds at the beginning: as many messages as nodes have other workers that own neighbours. -/
import Derived.Test.YtdkmdcdoiaelfaaRdAwk
import Derived.Test.YtdkmdcdoiaelfaaRdPlan
import Derived.Test.YtdkmdcdoiaelfaaMkGraph
import Derived.Test.YtdkmdcdoiaelfaaRef03
import Derived.Deep.RegionWith
namespace Go.Proofs.Ytdkmdcdoiaelfaa
open Go.RowKit Go.BigFrame

theorem GoodW.wd {n P : Nat} {es : List E2} {ow : Nat → Nat} {hv : List Int} {W : WdP} (_h : GoodW n P es ow hv W) : (wdL n P es ow hv W).bx = bxL P W := rfl
/-- messages of the rows before i, and of the first k boxes of row i -/
def cntB (P : Nat) (W : WdP) (i : Nat) : Nat := sumR i fun a => sumR P fun b => (W.bx a b).length
theorem cntB_all (P : Nat) (W : WdP) : cntB P W P = bxN P W := rfl
theorem WldAt.shape2 {w : World} {v : Value} {W : WdL} (h : WldAt w v W) : ∃ (k0 k2 : Int) (ae ao ah ak ab : Option Addr) (l1 l3 l4 l5 l6 c1 c3 c4 c5 c6 : Nat), v = .agg #[.int .i64 k0, .slice ae l1 c1, .int .i64 k2, .slice ao l3 c3, .slice ah l4 c4, .slice ak l5 c5, .slice ab l6 c6] ∧ KnA w (.slice ak l5 c5) W.kn ∧ BoxA w (.slice ab l6 c6) W.bx := by
  obtain ⟨ae, ao, ah, ak, ab, ce, co, ch, ck, cb, rfl, -, -, -, hk, hb⟩ := h
  exact ⟨_, _, _, _, _, _, _, _, _, _, _, _, _, _, _, _, _, rfl, hk, hb⟩
theorem sumR_bd (f : Nat → Nat) (c : Nat) : ∀ n, (∀ v, v < n → f v ≤ c) → sumR n f ≤ n * c
  | 0, _ => by rw [sumR]; omega
  | n + 1, h => by
    have := sumR_bd f c n (fun v hv => h v (by omega))
    have := h n (by omega)
    rw [sumR, Nat.succ_mul]; omega
set_option linter.unusedSimpArgs false in
set_option maxRecDepth 100000 in
set_option maxHeartbeats 6400000 in
theorem rdplans_law (a : Option Addr) (len cap : Nat) (w : World) (hl : ListAt w a len) :
    Calls Try.prog 7 #[.slice a len cap] w fun e w' => e = .returned (.bool true) ∧ Below w.heap.size w w' := by
  by_cases hfew : len ≤ 500
  case neg =>
    have hd : decide (len ≤ 500) = false := by simpa using hfew
    go_enter Try.func7, Try.ntmps7
    go_wp2_with (first
      | (go_at_call 14; refine (few_any _ _ _ _).mono ?_; rintro e w' ⟨rfl, rfl⟩)
      | (go_at_call 29; refine (rdawake_any _).mono ?_; rintro e w' ⟨rfl, hb⟩))
    go_ret
    exact ⟨rfl, hb⟩
  case pos =>
  have hd : decide (len ≤ 500) = true := by simpa using hfew
  have hdk := deck_new (cap := cap) hl
  have hb1 : Below w.heap.size w (w.alloc (.cells #[.slice a len cap, .int .i64 0] 92)) := (Below.refl _ _).alloc (Nat.le_refl _) _
  go_enter Try.func7, Try.ntmps7
  go_wp2_with (first
    | (go_at_call 14; refine (few_any _ _ _ _).mono ?_; rintro e w' ⟨rfl, rfl⟩)
    | (go_at_call 17; refine (new_any _ _ _ _).mono ?_; rintro e w' ⟨rfl, rfl⟩)
    | (go_at_call 16; refine (mkgraph_any w.heap.size 8 _ hdk (by omega) (by omega)).mono ?_; rintro e w2 ⟨n0, es, a2, cap2, rfl, he2, hv, hn9, hd2, hg2, ho2⟩))
  have hb2 : Below w.heap.size w w2 := below_deck hb1 hg2 (Nat.le_refl _) hb1.size
  obtain ⟨n, rfl⟩ := Int.eq_ofNat_of_zero_le hv.1
  have hn8 : n ≤ 8 := by omega
  have hes := hv.length_le
  obtain ⟨hG0, hb3⟩ := boxG_new w2 #[.int .i64 (n : Int), .slice a2 es.length cap2] 27
  obtain ⟨w3, hw3⟩ : ∃ W : World, W = w2.alloc (.cells #[.int .i64 (n : Int), .slice a2 es.length cap2] 27) := ⟨_, rfl⟩
  rw [← hw3] at hG0 hb3
  have he3 := he2.below hb3
  have hd3 := hd2.kept (grown_of_below hb3) (fun g e => by cases e)
  obtain ⟨Bg, hBg⟩ : ∃ B, w2.heap.size = B := ⟨_, rfl⟩
  rw [hBg] at hG0
  have HW3 := Lib.hid hw3
  have hb03 := hb2.trans (hb3.mono hb2.size)
  have hdb : w.heap.size < w2.heap.size := hd2.lt
  clear hw3 hdk hb1 hg2 hd2 he2 hb3
  rw [← HW3.out]
  refine (fplan_any w.heap.size n w3 hd3 (by omega)).mono ?_
  rintro e w4 ⟨P, ow, hv2, ao, ah, co, ch, rfl, hP1, hP4, how, hhv, hhl, hO4, hH4, hMO, -, -, hg4⟩
  have hb4 : Below w.heap.size w w4 := below_deck hb03 hg4 (Nat.le_refl _) hb03.size
  have hG4 := grown_blk hg4 hG0 (fun e => by have e1 : Bg = w.heap.size := Option.some.inj e; omega)
  have he4 := he3.grown hg4 (fun g e n' c' p ep e2 => by
    have e1 : w.heap.size = g := Option.some.inj e
    have h1 := ho2 p (Value.slice.inj ep).1
    simp at h1
    omega)
  obtain ⟨hp0, hb5⟩ := boxG_new w4 #[.int .i64 (P : Int), .slice ao n co, .slice ah hv2.length ch] 54
  obtain ⟨w5, hw5⟩ : ∃ W : World, W = w4.alloc (.cells #[.int .i64 (P : Int), .slice ao n co, .slice ah hv2.length ch] 54) := ⟨_, rfl⟩
  rw [← hw5] at hp0 hb5
  have hG5 := lit_next' hb5 hG4
  have he5 := he4.below hb5
  have hO5 := hO4.below hb5
  have hH5 := hH4.below hb5
  have hb05 := hb4.trans (hb5.mono hb4.size)
  have hlow : LowV w5.heap.size (.slice ao n co) := (hMO.mono (Nat.le_refl _) hb5.size).low
  obtain ⟨Bp, hBp⟩ : ∃ B, w4.heap.size = B := ⟨_, rfl⟩
  rw [hBp] at hp0
  obtain ⟨x0, x1⟩ := cells2R hG5
  have y0 : w5.cell? ⟨Bp, 0, none⟩ = some (.int .i64 (P : Int)) := cell_blk hp0
  have y1 : w5.cell? ⟨Bp, 1, none⟩ = some (.slice ao n co) := cell_blk hp0
  have y2 : w5.cell? ⟨Bp, 2, none⟩ = some (.slice ah hv2.length ch) := cell_blk hp0
  have x0u := x0
  have x1u := x1
  have y0u := y0
  have y1u := y1
  have y2u := y2
  rw [hw5] at x0u x1u y0u y1u y2u
  have HW5 := Lib.hid hw5
  have hst := rdstart_any n P es ow hv2 a2 ao ah cap2 co ch w5 hv ⟨hP1, by omega⟩ how hhv (by omega) he5 hO5 hH5 hlow
  clear hw5 hd3 he3 he4 hO4 hH4 hG4 hG0 hb5 hb4 hb03 hg4 hMO
  go_wp2_with (rw [← HW5.out])
  refine hst.mono ?_
  rintro e w6 ⟨v6, rfl, hw6, hb6⟩
  obtain ⟨k0, k2, ae, ao1, ah1, ak, ab, l1, l3, l4, l5, l6, c1, c3, c4, c5, c6, rfl, -, hB6⟩ := hw6.shape2
  obtain ⟨SW, hSW⟩ : ∃ S, staP es n P ow = S := ⟨_, rfl⟩
  have hgw := GoodW.start hv ⟨hP1, by omega⟩ how hhv (by omega)
  have hbl : ∀ i j, (SW.bx i j).length ≤ 8 := fun i j => by
    have h1 := telK_len es n P ow i (setX es n ow i (beg es n ow i)) (fun _ => true) n j
    rw [telK_all] at h1
    rw [← hSW]
    show (telL es n P ow i (setX es n ow i (beg es n ow i)) (fun _ => true) j).length ≤ 8
    omega
  have hall := sta_bxN es n P ow how
  rw [hSW] at hB6 hgw hall
  have hB6' : BoxA w6 (.slice ab l6 c6) (bxL P SW) := hB6
  have hl6 : l6 = P := (NestA.len hB6').1.trans (bxL_len P SW)
  subst hl6
  obtain ⟨hw0, hb7⟩ := boxG_new w6 #[.int .i64 k0, .slice ae l1 c1, .int .i64 k2, .slice ao1 l3 c3, .slice ah1 l4 c4, .slice ak l5 c5, .slice ab l6 c6] 59
  obtain ⟨w7, hw7⟩ : ∃ W : World, W = w6.alloc (.cells #[.int .i64 k0, .slice ae l1 c1, .int .i64 k2, .slice ao1 l3 c3, .slice ah1 l4 c4, .slice ak l5 c5, .slice ab l6 c6] 59) := ⟨_, rfl⟩
  rw [← hw7] at hw0 hb7
  have hb57 := hb6.trans (hb7.mono hb6.size)
  have hB7 := hB6'.below hb7
  have hG7 := lit_next' hb57 hG5
  have hp7 := lit_next' hb57 hp0
  have he7 := he5.below hb57
  have hO7 := hO5.below hb57
  have hH7 := hH5.below hb57
  have hb07 := hb05.trans (hb57.mono hb05.size)
  obtain ⟨Bw, hBw⟩ : ∃ B, w6.heap.size = B := ⟨_, rfl⟩
  rw [hBw] at hw0
  have q6 : w7.cell? ⟨Bw, 6, none⟩ = some (.slice ab l6 c6) := cell_blk hw0
  have q6u := q6
  rw [hw7] at q6u
  have HW7 := Lib.hid hw7
  clear hw7 hst x0 x1 y0 y1 y2 x0u x1u y0u y1u y2u hB6 hB6' hb6 hb7 he5 hO5 hH5 hG5 hp0 hb57 hw6
  go_wp2_with (rw [← HW7.out])
  clear q6 q6u
  have hbS : ∀ i k, k ≤ l6 → (sumR k fun b => (SW.bx i b).length) ≤ k * 8 := fun i k _ => sumR_bd _ 8 k (fun b _ => hbl i b)
  have hcS : ∀ i, i ≤ l6 → cntB l6 SW i ≤ i * (l6 * 8) := fun i _ => sumR_bd _ (l6 * 8) i (fun a _ => hbS a l6 (Nat.le_refl _))
  have hl64 : l6 * (l6 * 8) ≤ 4 * (4 * 8) := Nat.mul_le_mul hP4 (Nat.mul_le_mul hP4 (Nat.le_refl _))
  go_loopw [8, 39] (fun vn vi wr => ∃ (i c : Nat), i ≤ l6 ∧ Hid (c = cntB l6 SW i) ∧ vn = .int .i64 (c : Int) ∧ vi = .int .i64 (i : Int) ∧ Below w7.heap.size w7 wr) (fun _ vi _ => l6 - (intOf vi).toNat)
  case atStart => exact ⟨0, 0, Nat.zero_le _, rfl, rfl, rfl, Below.refl _ _⟩
  case round =>
    obtain ⟨i, c, hi, HC, rfl, rfl, hbr⟩ := hrel
    by_cases hlt : i < l6
    · have hlt3 : (i : Int) < l6 := by omega
      obtain ⟨-, hcap, b, off, sl, rfl, hc0, hR0⟩ := hB7.at i _ (bxL_row l6 SW i hlt)
      obtain ⟨sa, sn, sc⟩ := sl
      have hR3 : BoxR w7 (.slice sa sn sc) ((List.range l6).map (SW.bx i)) := hR0
      have hsn : sn = l6 := (NestA.len hR3).1.trans (by simp)
      have hc1 := (hbr.cell (p := ⟨b, off + i, none⟩) (cell_lt hc0)).trans hc0
      change wr.cell? _ = some (Value.slice sa sn sc) at hc1
      have hcb : c ≤ 128 := by have := hcS i hi; have := HC.out; have : i * (l6 * 8) ≤ l6 * (l6 * 8) := Nat.mul_le_mul_right _ hi; omega
      subst hsn
      clear hR0 hc0
      go_wp2_with fail
      go_loopw [8, 45] (fun vn vk wr => ∃ (k d : Nat), k ≤ sn ∧ Hid (d = c + sumR k fun b => (SW.bx i b).length) ∧ vn = .int .i64 (d : Int) ∧ vk = .int .i64 (k : Int) ∧ Below w7.heap.size w7 wr) (fun _ vk _ => sn - (intOf vk).toNat)
      case atStart => exact ⟨0, c, Nat.zero_le _, rfl, rfl, rfl, hbr⟩
      case round =>
        clear hbr hc1
        obtain ⟨k, d, hk, HD, rfl, rfl, hbr⟩ := hrel
        by_cases hlt5 : k < sn
        · have hlt6 : (k : Int) < sn := by omega
          have hbk : ((List.range sn).map (SW.bx i))[k]? = some (SW.bx i k) := by rw [List.getElem?_map, List.getElem?_range hlt5]; rfl
          obtain ⟨-, hcapr, b2, off2, sl, rfl, hc2, hi2⟩ := hR3.at k _ hbk
          obtain ⟨sa2, sn2, sc2⟩ := sl
          have hsn2 : sn2 = (SW.bx i k).length := RowAt.lenE hi2
          have hc3 := (hbr.cell (p := ⟨b2, off2 + k, none⟩) (cell_lt hc2)).trans hc2
          change wr.cell? _ = some (Value.slice sa2 sn2 sc2) at hc3
          have hdb2 : d ≤ 1000 := by have := hbS i k hk; have := HD.out; omega
          have hs8 : sn2 ≤ 8 := by rw [hsn2]; exact hbl i k
          have HD2 : Hid (d + sn2 = c + sumR (k + 1) fun b => (SW.bx i b).length) := (show _ = _ by rw [sumR, HD.out, hsn2]; omega)
          clear hi2 hsn2 hbk hc2
          go_wp2_with fail
          go_roundw
          case rel => exact ⟨k + 1, d + sn2, by omega, HD2, by go_num, by go_num, hbr⟩
          case measure => simp [intOf]; omega
        · have hke : k = sn := by omega
          have HC2 : Hid (d = cntB sn SW (i + 1)) := (show _ = _ by rw [HD.out, HC.out, hke]; rfl)
          go_wp2_with fail
          go_roundw
          case rel => exact ⟨i + 1, d, by omega, HC2, rfl, by go_num, hbr⟩
          case measure => simp [intOf]; omega
    · have hie : l6 = i := by omega
      subst hie
      have HC2 : Hid (c = sumR n fun v => (ownL es n l6 ow v).length) := (show _ = _ by rw [HC.out, cntB_all]; exact hall)
      have hcb : c ≤ 128 := by have := hcS l6 hi; have := HC.out; omega
      clear HC hall hB7 hcS hbS
      have hG8 := lit_next' hbr hG7
      have hp8 := lit_next' hbr hp7
      have he8 := he7.below hbr
      have hO8 := hO7.below hbr
      have hH8 := hH7.below hbr
      have hb08 := hb07.trans (hbr.mono hb07.size)
      have hoB : ∀ v, (ownL es n l6 ow v).length ≤ 4 := fun v => Nat.le_trans (ownL_len64 es n l6 ow v) hP4
      go_wp2_with fail
      go_loopw [9, 14] (fun vw vv wq => ∃ (v c2 : Nat), v ≤ n ∧ Hid (c2 = sumR v fun u => (ownL es n l6 ow u).length) ∧ vw = .int .i64 (c2 : Int) ∧ vv = .int .i64 (v : Int) ∧ Below wr.heap.size wr wq) (fun _ vv _ => n - (intOf vv).toNat)
      case atStart => exact ⟨0, 0, Nat.zero_le _, rfl, rfl, rfl, Below.refl _ _⟩
      case round =>
        clear hbr
        obtain ⟨v, c2, hvn, HV, rfl, rfl, hbr⟩ := hrel
        have hG9 := lit_next' hbr hG8
        have hp9 := lit_next' hbr hp8
        have he9 := he8.below hbr
        have hO9 := hO8.below hbr
        have hH9 := hH8.below hbr
        have hb09 := hb08.trans (hbr.mono hb08.size)
        obtain ⟨x0, x1⟩ := cells2R hG9
        have y0 : wr.cell? ⟨Bp, 0, none⟩ = some (.int .i64 (l6 : Int)) := cell_blk hp9
        have y1 : wr.cell? ⟨Bp, 1, none⟩ = some (.slice ao n co) := cell_blk hp9
        have y2 : wr.cell? ⟨Bp, 2, none⟩ = some (.slice ah hv2.length ch) := cell_blk hp9
        have hc2b : c2 ≤ 32 := by have := HV.out; have := sumR_bd (fun u => (ownL es n l6 ow u).length) 4 v (fun u _ => hoB u); omega
        by_cases hltv : v < n
        · have hlv3 : (v : Int) < n := by omega
          have hne := neigh_any n a2 cap2 es v wr he9 hv
          rw [neigh_eq hv] at hne
          obtain ⟨L, hL⟩ : ∃ L, (nbL es n v).length = L := ⟨_, rfl⟩
          have hLn : ((nbL es n v).map fun (i : Nat) => (i : Int)).length = L := by rw [List.length_map, hL]
          have hL8 : L ≤ 64 := by have := nb_lt hv v hltv; omega
          unfold IntsPost at hne
          rw [hLn] at hne
          have HL := Lib.hid hL
          clear hL
          go_wp2_with fail
          refine hne.mono ?_
          rintro e w10 ⟨a10, c10, rfl, hN10, hb10⟩
          have hp10 := lit_next' hb10 hp9
          have hO10 := hO9.below hb10
          clear hne x0 x1 y0 y1 y2
          go_wp2_with fail
          go_loopw [15, 65] (fun vs vk wd => ∃ k : Nat, k ≤ L ∧ vk = .int .i64 (k : Int) ∧ wd.ownsRow w10.heap.size 3 1 vs k (intsV (((nbL es n v).take k).map fun y => ((ow y : Nat) : Int))) ∧ Below w10.heap.size w10 wd) (fun _ vk _ => L - (intOf vk).toNat)
          case atStart => exact ⟨0, Nat.zero_le _, rfl, World.ownsRow_nil _ _ _ _, Below.refl _ _⟩
          case round =>
            obtain ⟨k, hkL, rfl, hown, hbk⟩ := hrel
            obtain ⟨aX, cs, hvs⟩ := owns_shape hown
            subst hvs
            have hpk := lit_next' hbk hp10
            have hOk := hO10.below hbk
            have y1 : wr.cell? ⟨Bp, 1, none⟩ = some (.slice ao n co) := cell_blk hpk
            by_cases hltk : k < L
            · have hlk3 : (k : Int) < L := by omega
              have hNk : IntsAt wr (.slice a10 ((nbL es n v).map fun (i : Nat) => (i : Int)).length c10) ((nbL es n v).map fun (i : Nat) => (i : Int)) := by rw [hLn]; exact hN10.below hbk
              obtain ⟨bN, oN, y, rfl, hy, -, -, cN⟩ := hNk.at k (by omega)
              have hku : k < (nbL es n v).length := by rw [HL.out]; exact hltk
              obtain ⟨u, hu⟩ : ∃ u, (nbL es n v)[k]? = some u := ⟨_, List.getElem?_eq_getElem hku⟩
              rw [List.getElem?_map, hu] at hy
              obtain rfl := (Option.some.inj hy).symm
              have hun : u < n := List.mem_range.1 (List.mem_filter.1 (List.mem_of_getElem? hu)).1
              have hun3 : (u : Int) < n := by omega
              have hO2 : IntsAt wr (.slice ao (owI n ow).length co) (owI n ow) := by rw [owI_length]; exact hOk
              obtain ⟨bo, oo, z, rfl, hz, -, -, cO⟩ := hO2.at u (by rw [owI_length]; exact hun)
              rw [owI_get n ow u hun] at hz
              obtain rfl := (Option.some.inj hz).symm
              have htk : ((nbL es n v).take (k + 1)).map (fun y => ((ow y : Nat) : Int)) = ((nbL es n v).take k).map (fun y => ((ow y : Nat) : Int)) ++ [((ow u : Nat) : Int)] := by rw [take_at _ _ _ hu]; simp
              obtain ⟨XS, hXS⟩ : ∃ X, ((nbL es n v).take k).map (fun y => ((ow y : Nat) : Int)) = X := ⟨_, rfl⟩
              have hXl : XS.length = k := by rw [← hXS, List.length_map, List.length_take]; omega
              rw [hXS] at hown htk
              have HT := Lib.hid htk
              have HXl := Lib.hid hXl
              have hlx := ints_lit1 wr ((ow u : Nat) : Int) 3
              have hbaL : Below wr.heap.size wr (wr.alloc (.cells #[.int .i64 ((ow u : Nat) : Int)] 3)) := (Below.refl _ _).alloc (Nat.le_refl _) _
              have hownA : (wr.alloc (.cells #[.int .i64 ((ow u : Nat) : Int)] 3)).ownsRow w10.heap.size 3 1 (.slice aX k cs) XS.length (intsV XS) := by rw [hXl]; exact hown.alloc _
              have hbs := hbk.size
              have hbs2 := hbaL.size
              clear htk hXl hXS hu hy hz hku
              go_wp2_with (at_builtin; refine wpList_app_ints intsT rfl _ _ rfl w10.heap.size _ _ XS [((ow u : Nat) : Int)] rfl hownA rfl hlx (by rw [HXl.out]; simp; omega) (by omega) ?_; intro v6 w6 hown6 hg6)
              go_roundw
              case rel => exact ⟨k + 1, by omega, by go_num, by rw [HT.out]; have h9 := hown6; rw [List.length_append, HXl.out] at h9; exact h9, below_app' (hbk.trans (hbaL.mono hbs)) hownA hg6⟩
              case measure => simp [intOf]; omega
            · have hke : k = L := by omega
              subst hke
              have htl : (nbL es n v).take k = nbL es n v := List.take_of_length_le (by rw [HL.out]; omega)
              rw [htl] at hown
              obtain ⟨NL, hNL⟩ : ∃ X, (nbL es n v).map (fun y => ((ow y : Nat) : Int)) = X := ⟨_, rfl⟩
              have hNLl : NL.length = k := by rw [← hNL, List.length_map, HL.out]
              have hmo := minus_own (es := es) how v
              rw [hNL] at hown hmo
              have hO2 : IntsAt wr (.slice ao (owI n ow).length co) (owI n ow) := by rw [owI_length]; exact hOk
              obtain ⟨bo, oo, z, rfl, hz, -, -, cO⟩ := hO2.at v (by rw [owI_length]; exact hltv)
              rw [owI_get n ow v hltv] at hz
              obtain rfl := (Option.some.inj hz).symm
              have hlx := ints_lit1 wr ((ow v : Nat) : Int) 3
              have hbaL : Below wr.heap.size wr (wr.alloc (.cells #[.int .i64 ((ow v : Nat) : Int)] 3)) := (Below.refl _ _).alloc (Nat.le_refl _) _
              obtain ⟨_, _, e9, hiN, -⟩ := IntsAt.of_owns (xs := NL) (by rw [hNLl]; exact hown) (by omega)
              rw [hNLl] at e9 hiN
              cases e9
              have hmi := minus_any aX (some ⟨wr.heap.size, 0, none⟩) cs 1 NL [((ow v : Nat) : Int)] _ (by rw [hNLl]; exact hiN.below hbaL) hlx (by omega)
              rw [hmo, hNLl] at hmi
              obtain ⟨M, hM⟩ : ∃ M, (ownL es n l6 ow v).length = M := ⟨_, rfl⟩
              have hMl : (castL (ownL es n l6 ow v)).length = M := by rw [castL, List.length_map, hM]
              have hM4 : M ≤ 4 := by rw [← hM]; exact hoB v
              have HV2 : Hid (c2 + M = sumR (v + 1) fun u => (ownL es n l6 ow u).length) := (show _ = _ by rw [sumR, HV.out, hM])
              unfold IntsNw at hmi
              rw [hMl] at hmi
              simp only [List.length_singleton] at hmi
              have hbs := hbk.size
              clear hM hMl hmo hNL htl hz hO2
              go_wp2_with fail
              refine hmi.mono ?_
              rintro e w12 ⟨a12, c12, rfl, -, -, hb12⟩
              have hbE := hb10.trans ((hbk.trans ((hbaL.trans (hb12.mono hbaL.size)).mono hbs)).mono hb10.size)
              have hbF := hbr.trans (hbE.mono hbr.size)
              go_wp2_with fail
              go_roundw
              case rel => exact ⟨v + 1, c2 + M, by omega, HV2, by go_num, by go_num, hbF⟩
              case measure => simp [intOf]; omega
        · have hve : v = n := by omega
          have hcc : c2 = c := by rw [HV.out, HC2.out, hve]
          subst hcc
          have hpl := flt_wd (ow := ow) hv ⟨hP1, by omega⟩ how hhv
          unfold fltS at hpl
          rw [if_neg (fun h => h ((valid_iff _ _).2 hv))] at hpl
          have hck := rpcheck_any (l6 : Int) n (owI n ow) hv2 ao ah co ch wr (by rw [owI_length]; exact hO9) hH9
          rw [hpl, owI_length] at hck
          clear hpl
          go_wp2_with fail
          refine hck.mono ?_
          rintro e w13 ⟨rfl, hb13⟩
          have hb013 := hb09.trans (hb13.mono hb09.size)
          go_wp2_with fail
          refine (rdawake_any _).mono ?_
          rintro e w14 ⟨rfl, hb14⟩
          go_wp2_with fail
          go_ret
          exact ⟨rfl, hb013.trans (hb14.mono hb013.size)⟩
end Go.Proofs.Ytdkmdcdoiaelfaa
