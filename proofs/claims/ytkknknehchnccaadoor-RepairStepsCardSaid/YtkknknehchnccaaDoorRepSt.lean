/- The walk of the law RepairSteps. -/
import Derived.Test.YtkknknehchnccaaDoorScLow
import Derived.Deep.CutRange
namespace Go.Proofs.YtkknknehchnccaaDoor
open Go.RowKit Go.BigFrame

theorem ListAt.belowS {w w' : World} {a : Option Addr} {len : Nat} (h : ListAt w a len) (hb : Below w.heap.size w w') : ListAt w' a len := ⟨h.1, fun j hj => by
  obtain ⟨c, off, x, ha, hc, hx⟩ := h.2 j hj
  exact ⟨c, off, x, ha, (hb.cell (p := ⟨c, off + j, none⟩) (cell_lt hc)).trans hc, hx⟩⟩
set_option maxRecDepth 100000 in
set_option maxHeartbeats 12800000 in
theorem repairSteps_law (rn : Int) (ra ra2 : Option Addr) (rlen rcap rl2 rc2 : Nat) (res : List E2) (rns : List Int) (a0 : Option Addr) (len0 cap0 : Nat) (u v : Int) (w : World) (hl : ListAt w a0 len0) (hT : TzAt w)
    (hrs : rlen ≤ 100000 → res.length = rlen ∧ EdgesAt w (.slice ra res.length rcap) res) (hns : rl2 ≤ 100000 → rns.length = rl2 ∧ IntsAt w (.slice ra2 rns.length rc2) rns) :
    Calls Tryd.prog 8 #[.agg #[.int .i64 rn, .slice ra rlen rcap, .slice ra2 rl2 rc2], .slice a0 len0 cap0, .int .i64 u, .int .i64 v] w fun e w' => e = .returned (.bool true) ∧ Below w.heap.size w w' := by
  obtain ⟨hxR, hbR⟩ := box_new w #[.int .i64 rn, .slice ra rlen rcap, .slice ra2 rl2 rc2] 62
  obtain ⟨wA, hwA⟩ : ∃ W : World, W = w.alloc (.cells #[.int .i64 rn, .slice ra rlen rcap, .slice ra2 rl2 rc2] 62) := ⟨_, rfl⟩
  rw [← hwA] at hxR hbR
  have HWA := Lib.hid hwA
  clear hwA
  go_enter Tryd.func8, Tryd.ntmps8
  go_upto_region 1 with fail
  rw [← HWA.out]
  go_cut [57] from 35 to 57 (fun bv wx => ∃ B : Bool, bv = .bool B ∧ (B = false → rlen ≤ 40 ∧ rl2 ≤ 80) ∧ Below wA.heap.size wA wx)
  case first =>
    obtain ⟨x0, x1, x2⟩ := cells3 hxR
    by_cases h1 : rlen ≤ 40
    · obtain ⟨hrl, hre⟩ := hrs (by omega)
      subst hrl
      have hre2 := hre.below hbR
      have d1 : decide ((40 : Int) < (res.length : Int)) = false := by simp; omega
      have d1' : decide (40 < res.length) = false := by simp; omega
      have d4 : decide ((80 : Int) < (rl2 : Int)) = decide (80 < rl2) := by rw [decide_eq_decide]; omega
      obtain ⟨D, hD⟩ : ∃ D, decide (80 < rl2) = D := ⟨_, rfl⟩
      have HD := Lib.hid hD
      rw [hD] at d4
      by_cases h2 : rn ≤ 12
      · have d2 : decide (12 < rn) = false := by simp; omega
        clear h2 hD hrs hns h1
        go_wp2_with fail
        go_meet
        exact ⟨D, rfl, fun e => ⟨by simpa using d1', by have := HD.out; rw [e] at this; simpa using this⟩, Below.refl _ _⟩
      · have d2 : decide (12 < rn) = true := by simp; omega
        have hck := check_any rn ra rcap res wA hre2
        obtain ⟨C, hC⟩ : ∃ C, checkS rn res = C := ⟨_, rfl⟩
        rw [hC] at hck
        by_cases h3 : C = 0
        · subst h3
          clear h2 hD hrs hns h1 hC
          go_wp2_with fail
          refine hck.mono ?_
          rintro _ w1 ⟨rfl, hb1⟩
          obtain ⟨y0, y1, y2⟩ := cells3 (lit_next' hb1 hxR)
          go_wp2_with fail
          go_meet
          exact ⟨true, rfl, (fun e => by cases e), hb1⟩
        · have d3 : (C == 0) = false := by simpa using h3
          clear h2 hD hrs hns h1 hC h3
          go_wp2_with fail
          refine hck.mono ?_
          rintro _ w1 ⟨rfl, hb1⟩
          obtain ⟨y0, y1, y2⟩ := cells3 (lit_next' hb1 hxR)
          go_wp2_with fail
          go_meet
          exact ⟨D, rfl, fun e => ⟨by simpa using d1', by have := HD.out; rw [e] at this; simpa using this⟩, hb1⟩
    · have d1 : decide ((40 : Int) < (rlen : Int)) = true := by simp; omega
      have d1' : decide (40 < rlen) = true := by simp; omega
      clear hrs hns h1
      go_wp2_with fail
      go_meet
      exact ⟨true, rfl, (fun e => by cases e), Below.refl _ _⟩
  case rest =>
  obtain ⟨B, rfl, hB, hbc⟩ := hcut
  have hb1 := hbR.trans (hbc.mono hbR.size)
  cases B
  case true =>
    clear hB
    go_wp2_with fail
    refine (awake11_any wc (hT.below hb1)).mono ?_
    rintro _ wz ⟨rfl, hbz⟩
    go_wp2_with fail
    go_ret
    exact ⟨rfl, hb1.trans (hbz.mono hb1.size)⟩
  case false =>
  obtain ⟨h1, h2⟩ := hB rfl
  obtain ⟨hrl, hre⟩ := hrs (by omega)
  obtain ⟨hrl2, hri⟩ := hns (by omega)
  subst hrl hrl2
  clear hrs hns hB
  have hxc := lit_next' hbc hxR
  have hdk := deck_new (cap := cap0) (hl.belowS hb1)
  obtain ⟨b, hb⟩ : ∃ b, wc.heap.size = b := ⟨_, rfl⟩
  have hbD : Below wc.heap.size wc (wc.alloc (.cells #[.slice a0 len0 cap0, .int .i64 0] 86)) := (Below.refl _ _).alloc (Nat.le_refl _) _
  have hxD := lit_next' hbD hxc
  have hb2 := hb1.trans (hbD.mono hb1.size)
  have hwb : w.heap.size < b := by rw [← hb]; exact blk_lt hxc
  rw [hb] at hdk
  clear hbD hxc hbc hxR hbR hl
  go_wp2_with (first
    | (go_at_call 13; refine (new_any _ _ _ _).mono ?_; rintro e w' ⟨rfl, rfl⟩))
  refine (cores_any b _ hdk).mono ?_
  rintro e w3 ⟨n, es, l, a4, c4, g, rfl, hv, hn8, hll, he, hi, hea, hgw, hd3, hg3⟩
  have hbw := hdk.lt
  have hx3 := grown_blk hg3 hxD (fun e => by have := Option.some.inj e; omega)
  have hb3 := hb2.grown hg3 hb2.size (fun k e => by cases e; omega)
  have hqc : CIn w3 (b + 1) a4 c4 es (some ⟨g, 0, none⟩) n l := ⟨he, hi, fun p hp => by have := hea p hp; omega, fun p hp => by cases hp; dsimp only; omega⟩
  obtain ⟨hcx, hcb⟩ := box_new w3 #[.int .i64 n, .slice a4 es.length c4, .slice (some ⟨g, 0, none⟩) l.length n] 62
  have hd4 := deck_below hd3 hcb
  have hx4 := lit_next' hcb hx3
  have hq4 := hqc.below hcb
  have hb4 := hb3.trans (hcb.mono hb3.size)
  obtain ⟨w4, hw4⟩ : ∃ W : World, W = w3.alloc (.cells #[.int .i64 n, .slice a4 es.length c4, .slice (some ⟨g, 0, none⟩) l.length n] 62) := ⟨_, rfl⟩
  obtain ⟨Q, hQ⟩ : ∃ Q, w3.heap.size = Q := ⟨_, rfl⟩
  rw [← hw4] at hcx hcb hd4 hx4 hq4 hb4
  rw [hQ] at hcx
  have HW4 := Lib.hid hw4
  have HQ := Lib.hid hQ
  have HLL := Lib.hid hll
  have HB := Lib.hid hb
  clear hw4 hQ hll hcb hb3 hqc hx3 hd3 hg3 he hi hea hgw hb2 hxD hdk hb hbw
  go_upto_region 5 with fail
  rw [← HW4.out, HQ.out]
  obtain ⟨x0, x1, x2⟩ := cells3 hcx
  obtain ⟨y0, y1, y2⟩ := cells3 hx4
  obtain ⟨hPP, hPb⟩ := box_new w4 #[.int .i64 n, .slice a4 es.length c4, .slice (some ⟨g, 0, none⟩) l.length n, .int .i64 rn, .slice ra res.length rcap, .slice ra2 rns.length rc2] 62
  obtain ⟨w5, hw5⟩ : ∃ W : World, W = w4.alloc (.cells #[.int .i64 n, .slice a4 es.length c4, .slice (some ⟨g, 0, none⟩) l.length n, .int .i64 rn, .slice ra res.length rcap, .slice ra2 rns.length rc2] 62) := ⟨_, rfl⟩
  obtain ⟨P, hP⟩ : ∃ Q, w4.heap.size = Q := ⟨_, rfl⟩
  rw [← hw5] at hPP hPb
  rw [hP] at hPP
  have hd5 := deck_below hd4 hPb
  have hq5 := hq4.below hPb
  have hb5 := hb4.trans (hPb.mono hb4.size)
  have hbP : b < P := by rw [← hP]; exact hd4.lt
  have HW5 := Lib.hid hw5
  have HP := Lib.hid hP
  clear hw5 hP hPb hb4 hq4 hd4 hcx hx4
  go_upto_region 6 with fail
  rw [← HW5.out, HP.out]
  go_wp2_with fail
  go_loopw [67] (fun vi wr => ∃ j : Nat, j ≤ 2 ∧ vi = .int .i64 j ∧ DeckAt wr b ∧ w5.grownBy wr (some b)) (fun vi _ => 2 - (intOf vi).toNat)
  case atStart => exact ⟨0, by omega, rfl, hd5, grown_none (grown_of_below (Below.refl _ _))⟩
  case round =>
    obtain ⟨j, hj, rfl, hdr, hgr⟩ := hrel
    have hber := hb5.grown hgr hb5.size (fun k e => by cases e; omega)
    by_cases hlt : j < 2
    · have hlt3 : (j : Int) < 2 := by omega
      have hPr := grown_blk hgr hPP (fun e => by have := Option.some.inj e; omega)
      obtain ⟨nx, ax, cx, a2x, c2x, ex, lx, hc0, hc1, hc2, hK⟩ : ∃ (nx : Int) (ax : Option Addr) (cx : Nat) (a2x : Option Addr) (c2x : Nat) (ex : List E2) (lx : List Int), wr.cell? ⟨P, j * 3, none⟩ = some (.int .i64 nx) ∧ wr.cell? ⟨P, j * 3 + 1, none⟩ = some (.slice ax ex.length cx) ∧ wr.cell? ⟨P, j * 3 + 2, none⟩ = some (.slice a2x lx.length c2x) ∧
          ∀ W : World, w5.grownBy W (some b) → EdgesAt W (.slice ax ex.length cx) ex ∧ IntsAt W (.slice a2x lx.length c2x) lx := by
        rcases (show j = 0 ∨ j = 1 by omega) with rfl | rfl
        · exact ⟨n, a4, c4, _, n, es, l, cell_blk hPr, cell_blk hPr, cell_blk hPr, fun W hg => ⟨(hq5.grown hg (fun k e => by cases e; omega)).e, (hq5.grown hg (fun k e => by cases e; omega)).i⟩⟩
        · exact ⟨rn, ra, rcap, ra2, rc2, res, rns, cell_blk hPr, cell_blk hPr, cell_blk hPr, fun W hg => ⟨hre.below (hb5.grown hg hb5.size (fun k e => by cases e; omega)), hri.below (hb5.grown hg hb5.size (fun k e => by cases e; omega))⟩⟩
      obtain ⟨hXX, hXb⟩ := box_new wr #[.int .i64 nx, .slice ax ex.length cx, .slice a2x lx.length c2x] 62
      have hg6 := grown_trans hgr (grown_none (grown_of_below hXb))
      have hd6 := deck_below hdr hXb
      obtain ⟨w6, hw6⟩ : ∃ W : World, W = wr.alloc (.cells #[.int .i64 nx, .slice ax ex.length cx, .slice a2x lx.length c2x] 62) := ⟨_, rfl⟩
      obtain ⟨X, hX⟩ : ∃ Q, wr.heap.size = Q := ⟨_, rfl⟩
      rw [← hw6] at hXX hg6 hd6
      rw [hX] at hXX
      have hbX : b < X := by rw [← hX]; exact hdr.lt
      have HW6 := Lib.hid hw6
      have HX := Lib.hid hX
      clear hw6 hX hXb
      have hbe6 := hb5.grown hg6 hb5.size (fun k e => by cases e; omega)
      have hop1 := rpopen_any nx ax cx ex w6 (hK w6 hg6).1 (hT.below hbe6)
      have hop2 := fun W h => ropen11_any nx ax cx ex W h
      obtain ⟨⟨⟨on, oe, ol⟩, oc⟩, hO⟩ : ∃ F, copX nx ex = F := ⟨_, rfl⟩
      rw [hO] at hop1 hop2
      unfold OPost at hop1 hop2
      dsimp only at hop1 hop2
      clear hO
      go_upto_region 8 with fail
      rw [← HW6.out, HX.out]
      obtain ⟨x0, x1, x2⟩ := cells3 hXX
      go_wp2_with fail
      refine hop1.mono ?_
      rintro _ w7 ⟨b1, d1, b2, d2, rfl, hq7, hb7⟩
      obtain ⟨hYY, hYb⟩ := box_new w7 #[.int .i64 on, .slice b1 oe.length d1, .slice b2 ol.length d2] 62
      have hb8 := hb7.trans (hYb.mono hb7.size)
      have hX8 := lit_next' hb8 hXX
      have hg8 := grown_trans hg6 (grown_none (grown_of_below hb8))
      have hd8 := deck_below hd6 hb8
      have hq8 := hq7.below hYb
      obtain ⟨w8, hw8⟩ : ∃ W : World, W = w7.alloc (.cells #[.int .i64 on, .slice b1 oe.length d1, .slice b2 ol.length d2] 62) := ⟨_, rfl⟩
      obtain ⟨Y, hY⟩ : ∃ Q, w7.heap.size = Q := ⟨_, rfl⟩
      rw [← hw8] at hYY hX8 hg8 hd8 hq8
      rw [hY] at hYY
      have HW8 := Lib.hid hw8
      have HY := Lib.hid hY
      clear hw8 hY hYb hb8 hb7 hq7 x0 x1 x2 hop1 hXX hd6 hg6 hbe6 hc0 hc1 hc2 hPr hdr
      go_upto_region 9 with fail
      rw [← HW8.out, HY.out]
      obtain ⟨x0, x1, x2⟩ := cells3 hX8
      go_wp2_with fail
      refine (hop2 w8 (hK w8 hg8).1).mono ?_
      rintro _ w9 ⟨b3, d3, b4, d4, rfl, hq9, hb9⟩
      obtain ⟨hZZ, hZb⟩ := box_new w9 #[.int .i64 on, .slice b3 oe.length d3, .slice b4 ol.length d4] 62
      have hb10 := hb9.trans (hZb.mono hb9.size)
      have hX10 := lit_next' hb10 hX8
      have hY10 := lit_next' hb10 hYY
      have hg10 := grown_trans hg8 (grown_none (grown_of_below hb10))
      have hd10 := deck_below hd8 hb10
      have hq10 := hq8.below hb10
      have hr10 := hq9.below hZb
      obtain ⟨w10, hw10⟩ : ∃ W : World, W = w9.alloc (.cells #[.int .i64 on, .slice b3 oe.length d3, .slice b4 ol.length d4] 62) := ⟨_, rfl⟩
      obtain ⟨Z, hZ⟩ : ∃ Q, w9.heap.size = Q := ⟨_, rfl⟩
      rw [← hw10] at hZZ hX10 hY10 hg10 hd10 hq10 hr10
      rw [hZ] at hZZ
      have HW10 := Lib.hid hw10
      have HZ := Lib.hid hZ
      clear hw10 hZ hZb hb10 hb9 hq8 hq9 x0 x1 x2 hop2 hX8 hd8 hg8 hYY
      have n1 : (oc != oc) = false := by simp
      have hbd : Below w10.heap.size w10 w10.drew := (Below.refl _ _).drew
      have hsm := rsame11_same on b1 b2 b3 b4 d1 d2 d3 d4 oe ol w10.drew (hq10.e.below hbd) (hq10.i.below hbd) (hr10.e.below hbd) (hr10.i.below hbd)
      have hva := fun W h1 h2 h3 => rpvalid_any nx ax a2x cx c2x ex lx W h1 h2 h3
      have hvb := fun W h1 h2 => rvalid11_any nx ax a2x cx c2x ex lx W h1 h2
      obtain ⟨CV, hCV⟩ : ∃ C, crOk ⟨nx, ex, lx⟩ = C := ⟨_, rfl⟩
      rw [hCV] at hva hvb
      clear hCV
      have n2 : (CV != CV) = false := by simp
      have hKK : ∀ W : World, Below w10.heap.size w10 W → EdgesAt W (.slice ax ex.length cx) ex ∧ IntsAt W (.slice a2x lx.length c2x) lx ∧ TzAt W := fun W h => by
        have hg := grown_trans hg10 (grown_none (grown_of_below h))
        exact ⟨(hK W hg).1, (hK W hg).2, hT.below (hb5.grown hg hb5.size (fun k e => by cases e; omega))⟩
      have hSS : ∀ W : World, Below w10.heap.size w10 W → W.cell? ⟨X, 0, none⟩ = some (.int .i64 nx) ∧ W.cell? ⟨X, 1, none⟩ = some (.slice ax ex.length cx) ∧ W.cell? ⟨X, 2, none⟩ = some (.slice a2x lx.length c2x) ∧ W.cell? ⟨Y, 0, none⟩ = some (.int .i64 on) ∧ W.cell? ⟨Y, 1, none⟩ = some (.slice b1 oe.length d1) ∧ W.cell? ⟨Y, 2, none⟩ = some (.slice b2 ol.length d2) ∧ W.cell? ⟨Z, 0, none⟩ = some (.int .i64 on) ∧ W.cell? ⟨Z, 1, none⟩ = some (.slice b3 oe.length d3) ∧ W.cell? ⟨Z, 2, none⟩ = some (.slice b4 ol.length d4) := fun W h => by
        obtain ⟨x0, x1, x2⟩ := cells3 (lit_next' h hX10)
        obtain ⟨y0, y1, y2⟩ := cells3 (lit_next' h hY10)
        obtain ⟨z0, z1, z2⟩ := cells3 (lit_next' h hZZ)
        exact ⟨x0, x1, x2, y0, y1, y2, z0, z1, z2⟩
      go_upto_region 10 with fail
      rw [← HW10.out, HZ.out]
      go_region_held3 (fun w' => w'.cell? ⟨X, 0, none⟩ = some (.int .i64 nx) ∧ w'.cell? ⟨X, 1, none⟩ = some (.slice ax ex.length cx) ∧ w'.cell? ⟨X, 2, none⟩ = some (.slice a2x lx.length c2x) ∧ w'.cell? ⟨Y, 0, none⟩ = some (.int .i64 on) ∧ w'.cell? ⟨Y, 1, none⟩ = some (.slice b1 oe.length d1) ∧ w'.cell? ⟨Y, 2, none⟩ = some (.slice b2 ol.length d2) ∧ w'.cell? ⟨Z, 0, none⟩ = some (.int .i64 on) ∧ w'.cell? ⟨Z, 1, none⟩ = some (.slice b3 oe.length d3) ∧ w'.cell? ⟨Z, 2, none⟩ = some (.slice b4 ol.length d4))
        (first
          | with_reducible exact hSS _ hbd
          | with_reducible exact hSS _ hb11
          | with_reducible exact hSS _ hb12
          | with_reducible exact hSS _ hb13)
        (first
          | (go_at_call 42; (with_reducible refine hsm.mono ?_); rintro e w11 ⟨rfl, hb11'⟩; have hb11 := hbd.trans (hb11'.mono hbd.size))
          | (go_at_call 46; (with_reducible refine (hva w11 (hKK w11 hb11).1 (hKK w11 hb11).2.1 (hKK w11 hb11).2.2).mono ?_); rintro e w12 ⟨rfl, hb12'⟩; have hb12 := hb11.trans (hb12'.mono hb11.size))
          | (go_at_call 47; (with_reducible refine (hvb w12 (hKK w12 hb12).1 (hKK w12 hb12).2.1).mono ?_); rintro e w13 ⟨rfl, hb13'⟩; have hb13 := hb12.trans (hb13'.mono hb12.size)))
      have hX13 := lit_next' hb13 hX10
      have hg13 := grown_trans hg10 (grown_none (grown_of_below hb13))
      have hd13 := deck_below hd10 hb13
      clear hsm hva hvb hKK hSS hb11' hb12' hb13' hb11 hb12 hb13 hbd hX10 hg10 hd10 hY10 hZZ hq10 hr10 hber hgr
      go_wp2_with fail
      refine (next_any b 8 _ hd13 (by omega) (by omega)).mono ?_
      rintro _ w14 ⟨y1, -, -, rfl, hd14, hg14⟩
      have hX14 := grown_blk hg14 hX13 (fun e => by have := Option.some.inj e; omega)
      have hgs14 := grown_trans hg13 hg14
      clear hg14 hX13 hd13 hg13
      go_wp2_with fail
      refine (next_any b 8 _ hd14 (by omega) (by omega)).mono ?_
      rintro _ w15 ⟨y2, -, -, rfl, hd15, hg15⟩
      have hX15 := grown_blk hg15 hX14 (fun e => by have := Option.some.inj e; omega)
      have hgs15 := grown_trans hgs14 hg15
      clear hg15 hX14 hd14 hgs14
      go_wp2_with fail
      refine (next_any b 8 _ hd15 (by omega) (by omega)).mono ?_
      rintro _ w16 ⟨y3, -, -, rfl, hd16, hg16⟩
      have hX16 := grown_blk hg16 hX15 (fun e => by have := Option.some.inj e; omega)
      have hgs16 := grown_trans hgs15 hg16
      clear hg16 hX15 hd15 hgs15
      go_wp2_with fail
      refine (next_any b 8 _ hd16 (by omega) (by omega)).mono ?_
      rintro _ w17 ⟨y4, -, -, rfl, hd17, hg17⟩
      have hX17 := grown_blk hg17 hX16 (fun e => by have := Option.some.inj e; omega)
      have hgs17 := grown_trans hgs16 hg17
      clear hg17 hX16 hd16 hgs16
      obtain ⟨hLL, hLb⟩ := box_new w17 #[.int .i64 u, .int .i64 v, .int .i64 y1, .int .i64 y2, .int .i64 y3, .int .i64 y4] 72
      have hX18 := lit_next' hLb hX17
      have hg18 := grown_trans hgs17 (grown_none (grown_of_below hLb))
      have hd18 := deck_below hd17 hLb
      obtain ⟨w18, hw18⟩ : ∃ W : World, W = w17.alloc (.cells #[.int .i64 u, .int .i64 v, .int .i64 y1, .int .i64 y2, .int .i64 y3, .int .i64 y4] 72) := ⟨_, rfl⟩
      obtain ⟨L, hL⟩ : ∃ Q, w17.heap.size = Q := ⟨_, rfl⟩
      rw [← hw18] at hLL hX18 hg18 hd18
      rw [hL] at hLL
      have HW18 := Lib.hid hw18
      have HL := Lib.hid hL
      clear hw18 hL hLb hd17 hgs17 hX17
      go_upto_region 13 with fail
      rw [← HW18.out, HL.out]
      have hb18 := hb5.grown hg18 hb5.size (fun k e => by cases e; omega)
      have hT18 := hT.below hb18
      obtain ⟨hE18, hI18⟩ := hK w18 hg18
      have ci : ∀ i : Nat, i < 3 → (i : Int) < 3 := fun i h => by omega
      go_wp2_with fail
      go_loopw [114] (fun vi wr2 => ∃ k : Nat, k ≤ 3 ∧ vi = .int .i64 k ∧ Below w18.heap.size w18 wr2) (fun vi _ => 3 - (intOf vi).toNat)
      case atStart => exact ⟨0, by omega, rfl, Below.refl _ _⟩
      case round =>
        obtain ⟨k, hk, rfl, hbk⟩ := hrel
        by_cases hltk : k < 3
        · have hltk3 : (k : Int) < 3 := by omega
          have hLr := lit_next' hbk hLL
          obtain ⟨U, V, hU, hV⟩ : ∃ U V : Int, wr.cell? ⟨L, k * 2, none⟩ = some (.int .i64 U) ∧ wr.cell? ⟨L, k * 2 + 1, none⟩ = some (.int .i64 V) := by
            rcases (show k = 0 ∨ k = 1 ∨ k = 2 by omega) with rfl | rfl | rfl
            · exact ⟨u, v, cell_blk hLr, cell_blk hLr⟩
            · exact ⟨y1, y2, cell_blk hLr, cell_blk hLr⟩
            · exact ⟨y3, y4, cell_blk hLr, cell_blk hLr⟩
          obtain ⟨hMM, hMb⟩ := box_new wr #[.int .i64 U, .int .i64 V] 72
          have hbM := hbk.trans (hMb.mono hbk.size)
          have hXM := lit_next' hbM hX18
          obtain ⟨wM, hwM⟩ : ∃ W : World, W = wr.alloc (.cells #[.int .i64 U, .int .i64 V] 72) := ⟨_, rfl⟩
          obtain ⟨M, hM⟩ : ∃ Q, wr.heap.size = Q := ⟨_, rfl⟩
          rw [← hwM] at hMM hbM hXM
          rw [hM] at hMM
          have HWM := Lib.hid hwM
          have HM := Lib.hid hM
          clear hwM hM hMb hLr hbk
          go_upto_region 15 with fail
          have hT0 := hT18.below hbM
          have hE0 := hE18.below hbM
          have hI0 := hI18.below hbM
          have hc0 := Below.refl wM.heap.size wM
          have hXX0 := hXM
          have hMM0 := hMM
          have hr1 := fun W h1 h2 h3 => rpregion_any nx U V ax a2x cx c2x ex lx W h1 h2 h3
          have hr2 := fun W h1 h2 => rregion11_any nx U V ax a2x cx c2x ex lx W h1 h2
          have hj1 := fun W h1 h2 h3 => rpinsert_any nx U V ax a2x cx c2x ex lx W h1 h2 h3
          have hj2 := fun W h1 h2 => rinsert11_any nx U V ax a2x cx c2x ex lx W h1 h2
          have hk1 := fun W h1 h2 h3 => rpdelete_any nx U V ax a2x cx c2x ex lx W h1 h2 h3
          have hk2 := fun W h1 h2 => rdelete11_any nx U V ax a2x cx c2x ex lx W h1 h2
          obtain ⟨⟨RL, RE⟩, hR⟩ : ∃ F, cregX ⟨nx, ex, lx⟩ U V = F := ⟨_, rfl⟩
          obtain ⟨⟨⟨jn, je, jl⟩, jc, jx⟩, hJ⟩ : ∃ F, cinsX ⟨nx, ex, lx⟩ U V = F := ⟨_, rfl⟩
          obtain ⟨⟨⟨kn, ke, kl⟩, kc, kx⟩, hKD⟩ : ∃ F, cdelX ⟨nx, ex, lx⟩ U V = F := ⟨_, rfl⟩
          rw [hR] at hr1 hr2
          rw [hJ] at hj1 hj2
          rw [hKD] at hk1 hk2
          unfold TPost at hr1 hr2
          unfold IPost at hj1 hj2 hk1 hk2
          dsimp only at hr1 hr2 hj1 hj2 hk1 hk2
          have hbM0 := hbM
          clear hR hJ hKD hbM hXM hMM
          rw [← HWM.out, HM.out]
          obtain ⟨x0, x1, x2⟩ := cells3 hXX0
          obtain ⟨m0, m1⟩ := cells2 hMM0
          go_wp2_with fail
          refine (hr1 wM (hE0.below hc0) (hI0.below hc0) (hT0.below hc0)).mono ?_
          rintro _ v1 ⟨pr, qr, rfl, hLr1, -, hs1⟩
          have hc1 := hc0.trans (hs1.mono hc0.size)
          have hXX1 := lit_next' hs1 hXX0
          have hMM1 := lit_next' hs1 hMM0
          clear x0 x1 x2 m0 m1 hXX0 hMM0 hc0 hs1  hr1
          go_upto_region 16 with fail
          obtain ⟨x0, x1, x2⟩ := cells3 hXX1
          obtain ⟨m0, m1⟩ := cells2 hMM1
          go_wp2_with fail
          refine (hr2 v1 (hE0.below hc1) (hI0.below hc1)).mono ?_
          rintro _ v2 ⟨ps, qs, rfl, hLs2, -, hs2⟩
          have hc2 := hc1.trans (hs2.mono hc1.size)
          have hXX2 := lit_next' hs2 hXX1
          have hMM2 := lit_next' hs2 hMM1
          have hLr2 := hLr1.below hs2
          clear x0 x1 x2 m0 m1 hXX1 hMM1 hc1 hs2 hLr1 hr2
          go_upto_region 17 with fail
          obtain ⟨x0, x1, x2⟩ := cells3 hXX2
          obtain ⟨m0, m1⟩ := cells2 hMM2
          go_wp2_with fail
          refine (hj1 v2 (hE0.below hc2) (hI0.below hc2) (hT0.below hc2)).mono ?_
          rintro _ ua ⟨ea, fa, ga, ia, pa, qa, rfl, hQa, hLLa, -, hsa⟩
          obtain ⟨hBa3, hBba⟩ := box_new ua #[.int .i64 jn, .slice ea je.length fa, .slice ga jl.length ia] 62
          have hs3 := hsa.trans (hBba.mono hsa.size)
          have hQa3 := hQa.below hBba
          have hLa3 := hLLa.below hBba
          obtain ⟨v3, hwa⟩ : ∃ W : World, W = ua.alloc (.cells #[.int .i64 jn, .slice ea je.length fa, .slice ga jl.length ia] 62) := ⟨_, rfl⟩
          obtain ⟨Ba, hNa⟩ : ∃ Q, ua.heap.size = Q := ⟨_, rfl⟩
          rw [← hwa] at hBa3 hs3 hQa3 hLa3
          rw [hNa] at hBa3
          have HWa := Lib.hid hwa
          have HNa := Lib.hid hNa
          have hc3 := hc2.trans (hs3.mono hc2.size)
          have hXX3 := lit_next' hs3 hXX2
          have hMM3 := lit_next' hs3 hMM2
          have hLr3 := hLr2.below hs3
          have hLs3 := hLs2.below hs3
          clear x0 x1 x2 m0 m1 hXX2 hMM2 hc2 hs3 hLr2 hLs2 hwa hNa hBba hQa hLLa hsa hj1
          go_upto_region 18 with fail
          rw [← HWa.out, HNa.out]
          obtain ⟨x0, x1, x2⟩ := cells3 hXX3
          obtain ⟨m0, m1⟩ := cells2 hMM3
          go_wp2_with fail
          refine (hj2 v3 (hE0.below hc3) (hI0.below hc3)).mono ?_
          rintro _ ub ⟨eb, fb, gb, ib, pb, qb, rfl, hQb, hLLb, -, hsb⟩
          obtain ⟨hBb4, hBbb⟩ := box_new ub #[.int .i64 jn, .slice eb je.length fb, .slice gb jl.length ib] 62
          have hs4 := hsb.trans (hBbb.mono hsb.size)
          have hQb4 := hQb.below hBbb
          have hLb4 := hLLb.below hBbb
          obtain ⟨v4, hwb⟩ : ∃ W : World, W = ub.alloc (.cells #[.int .i64 jn, .slice eb je.length fb, .slice gb jl.length ib] 62) := ⟨_, rfl⟩
          obtain ⟨Bb, hNb⟩ : ∃ Q, ub.heap.size = Q := ⟨_, rfl⟩
          rw [← hwb] at hBb4 hs4 hQb4 hLb4
          rw [hNb] at hBb4
          have HWb := Lib.hid hwb
          have HNb := Lib.hid hNb
          have hc4 := hc3.trans (hs4.mono hc3.size)
          have hXX4 := lit_next' hs4 hXX3
          have hMM4 := lit_next' hs4 hMM3
          have hLr4 := hLr3.below hs4
          have hLs4 := hLs3.below hs4
          have hLa4 := hLa3.below hs4
          have hBa4 := lit_next' hs4 hBa3
          have hQa4 := hQa3.below hs4
          clear x0 x1 x2 m0 m1 hXX3 hMM3 hc3 hs4 hLr3 hLs3 hLa3 hBa3 hQa3 hwb hNb hBbb hQb hLLb hsb hj2
          go_upto_region 19 with fail
          rw [← HWb.out, HNb.out]
          obtain ⟨x0, x1, x2⟩ := cells3 hXX4
          obtain ⟨m0, m1⟩ := cells2 hMM4
          go_wp2_with fail
          refine (hk1 v4 (hE0.below hc4) (hI0.below hc4) (hT0.below hc4)).mono ?_
          rintro _ uy ⟨ey, fy, gy, iy, py, qy, rfl, hQy, hLLy, -, hsy⟩
          obtain ⟨hBy5, hBby⟩ := box_new uy #[.int .i64 kn, .slice ey ke.length fy, .slice gy kl.length iy] 62
          have hs5 := hsy.trans (hBby.mono hsy.size)
          have hQy5 := hQy.below hBby
          have hLy5 := hLLy.below hBby
          obtain ⟨v5, hwy⟩ : ∃ W : World, W = uy.alloc (.cells #[.int .i64 kn, .slice ey ke.length fy, .slice gy kl.length iy] 62) := ⟨_, rfl⟩
          obtain ⟨By, hNy⟩ : ∃ Q, uy.heap.size = Q := ⟨_, rfl⟩
          rw [← hwy] at hBy5 hs5 hQy5 hLy5
          rw [hNy] at hBy5
          have HWy := Lib.hid hwy
          have HNy := Lib.hid hNy
          have hc5 := hc4.trans (hs5.mono hc4.size)
          have hXX5 := lit_next' hs5 hXX4
          have hMM5 := lit_next' hs5 hMM4
          have hLr5 := hLr4.below hs5
          have hLs5 := hLs4.below hs5
          have hLa5 := hLa4.below hs5
          have hBa5 := lit_next' hs5 hBa4
          have hQa5 := hQa4.below hs5
          have hLb5 := hLb4.below hs5
          have hBb5 := lit_next' hs5 hBb4
          have hQb5 := hQb4.below hs5
          clear x0 x1 x2 m0 m1 hXX4 hMM4 hc4 hs5 hLr4 hLs4 hLa4 hBa4 hQa4 hLb4 hBb4 hQb4 hwy hNy hBby hQy hLLy hsy hk1
          go_upto_region 20 with fail
          rw [← HWy.out, HNy.out]
          obtain ⟨x0, x1, x2⟩ := cells3 hXX5
          obtain ⟨m0, m1⟩ := cells2 hMM5
          go_wp2_with fail
          refine (hk2 v5 (hE0.below hc5) (hI0.below hc5)).mono ?_
          rintro _ uz ⟨ez, fz, gz, iz, pz, qz, rfl, hQz, hLLz, -, hsz⟩
          obtain ⟨hBz6, hBbz⟩ := box_new uz #[.int .i64 kn, .slice ez ke.length fz, .slice gz kl.length iz] 62
          have hs6 := hsz.trans (hBbz.mono hsz.size)
          have hQz6 := hQz.below hBbz
          have hLz6 := hLLz.below hBbz
          obtain ⟨v6, hwz⟩ : ∃ W : World, W = uz.alloc (.cells #[.int .i64 kn, .slice ez ke.length fz, .slice gz kl.length iz] 62) := ⟨_, rfl⟩
          obtain ⟨Bz, hNz⟩ : ∃ Q, uz.heap.size = Q := ⟨_, rfl⟩
          rw [← hwz] at hBz6 hs6 hQz6 hLz6
          rw [hNz] at hBz6
          have HWz := Lib.hid hwz
          have HNz := Lib.hid hNz
          have hc6 := hc5.trans (hs6.mono hc5.size)
          have hXX6 := lit_next' hs6 hXX5
          have hMM6 := lit_next' hs6 hMM5
          have hLr6 := hLr5.below hs6
          have hLs6 := hLs5.below hs6
          have hLa6 := hLa5.below hs6
          have hBa6 := lit_next' hs6 hBa5
          have hQa6 := hQa5.below hs6
          have hLb6 := hLb5.below hs6
          have hBb6 := lit_next' hs6 hBb5
          have hQb6 := hQb5.below hs6
          have hLy6 := hLy5.below hs6
          have hBy6 := lit_next' hs6 hBy5
          have hQy6 := hQy5.below hs6
          clear x0 x1 x2 m0 m1 hXX5 hMM5 hc5 hs6 hLr5 hLs5 hLa5 hBa5 hQa5 hLb5 hBb5 hQb5 hLy5 hBy5 hQy5 hwz hNz hBbz hQz hLLz hsz hk2
          go_upto_region 21 with fail
          rw [← HWz.out, HNz.out]
          have i1 := isame_any pr ps qr qs RL RL v6 hLr6 hLs6
          have i2 := fun W h1 h2 => isame_any pa pb qa qb jc jc W h1 h2
          have i3 := fun W h1 h2 => isame_any py pz qy qz kc kc W h1 h2
          rw [decide_eq_true rfl] at i1
          have i2' := fun W h1 h2 => (decide_eq_true (show jc = jc from rfl)) ▸ i2 W h1 h2
          have i3' := fun W h1 h2 => (decide_eq_true (show kc = kc from rfl)) ▸ i3 W h1 h2
          have n3 : (RE != RE) = false := by simp
          have n4 : (jx != jx) = false := by simp
          have n5 : (kx != kx) = false := by simp
          obtain ⟨a0, a1, a2⟩ := cells3 hBa6
          obtain ⟨b0, b1, b2⟩ := cells3 hBb6
          obtain ⟨y0, y1, y2⟩ := cells3 hBy6
          obtain ⟨z0, z1, z2⟩ := cells3 hBz6
          clear i2 i3 hXX6 hMM6
          go_wp2_with fail
          clear hLr6 hLs6
          refine (i1).mono ?_
          rintro _ v7 ⟨rfl, hs7⟩
          have hc7 := hc6.trans (hs7.mono hc6.size)
          have hLa7 := hLa6.below hs7
          have hLb7 := hLb6.below hs7
          have hLy7 := hLy6.below hs7
          have hLz7 := hLz6.below hs7
          have hBa7 := lit_next' hs7 hBa6
          have hBb7 := lit_next' hs7 hBb6
          have hBy7 := lit_next' hs7 hBy6
          have hBz7 := lit_next' hs7 hBz6
          have hQa7 := hQa6.below hs7
          have hQb7 := hQb6.below hs7
          have hQy7 := hQy6.below hs7
          have hQz7 := hQz6.below hs7
          clear hs7 hc6 hLa6 hLb6 hLy6 hLz6 hBa6 hBb6 hBy6 hBz6 hQa6 hQb6 hQy6 hQz6
          clear a0 a1 a2
          obtain ⟨a0, a1, a2⟩ := cells3 hBa7
          clear b0 b1 b2
          obtain ⟨b0, b1, b2⟩ := cells3 hBb7
          clear y0 y1 y2
          obtain ⟨y0, y1, y2⟩ := cells3 hBy7
          clear z0 z1 z2
          obtain ⟨z0, z1, z2⟩ := cells3 hBz7
          go_wp2_with fail
          clear i1
          refine (i2' v7 hLa7 hLb7).mono ?_
          rintro _ v8 ⟨rfl, hs8⟩
          have hc8 := hc7.trans (hs8.mono hc7.size)
          have hLy8 := hLy7.below hs8
          have hLz8 := hLz7.below hs8
          have hBa8 := lit_next' hs8 hBa7
          have hBb8 := lit_next' hs8 hBb7
          have hBy8 := lit_next' hs8 hBy7
          have hBz8 := lit_next' hs8 hBz7
          have hQa8 := hQa7.below hs8
          have hQb8 := hQb7.below hs8
          have hQy8 := hQy7.below hs8
          have hQz8 := hQz7.below hs8
          clear hs8 hc7 hLy7 hLz7 hBa7 hBb7 hBy7 hBz7 hQa7 hQb7 hQy7 hQz7
          clear a0 a1 a2
          obtain ⟨a0, a1, a2⟩ := cells3 hBa8
          clear b0 b1 b2
          obtain ⟨b0, b1, b2⟩ := cells3 hBb8
          clear y0 y1 y2
          obtain ⟨y0, y1, y2⟩ := cells3 hBy8
          clear z0 z1 z2
          obtain ⟨z0, z1, z2⟩ := cells3 hBz8
          go_wp2_with fail
          refine (i3' v8 hLy8 hLz8).mono ?_
          rintro _ v9 ⟨rfl, hs9⟩
          have hc9 := hc8.trans (hs9.mono hc8.size)
          have hBa9 := lit_next' hs9 hBa8
          have hBb9 := lit_next' hs9 hBb8
          have hBy9 := lit_next' hs9 hBy8
          have hBz9 := lit_next' hs9 hBz8
          have hQa9 := hQa8.below hs9
          have hQb9 := hQb8.below hs9
          have hQy9 := hQy8.below hs9
          have hQz9 := hQz8.below hs9
          clear hs9 hc8 hBa8 hBb8 hBy8 hBz8 hQa8 hQb8 hQy8 hQz8
          clear a0 a1 a2
          obtain ⟨a0, a1, a2⟩ := cells3 hBa9
          clear b0 b1 b2
          obtain ⟨b0, b1, b2⟩ := cells3 hBb9
          clear y0 y1 y2
          obtain ⟨y0, y1, y2⟩ := cells3 hBy9
          clear z0 z1 z2
          obtain ⟨z0, z1, z2⟩ := cells3 hBz9
          go_wp2_with fail
          refine (rsame11_same jn ea ga eb gb fa ia fb ib je jl v9 hQa9.e hQa9.i hQb9.e hQb9.i).mono ?_
          rintro _ v10 ⟨rfl, hs10⟩
          have hc10 := hc9.trans (hs10.mono hc9.size)
          have hBy10 := lit_next' hs10 hBy9
          have hBz10 := lit_next' hs10 hBz9
          have hQy10 := hQy9.below hs10
          have hQz10 := hQz9.below hs10
          clear hs10 hc9 hBy9 hBz9 hQy9 hQz9
          clear y0 y1 y2
          obtain ⟨y0, y1, y2⟩ := cells3 hBy10
          clear z0 z1 z2
          obtain ⟨z0, z1, z2⟩ := cells3 hBz10
          go_wp2_with fail
          refine (rsame11_same kn ey gy ez gz fy iy fz iz ke kl v10 hQy10.e hQy10.i hQz10.e hQz10.i).mono ?_
          rintro _ v11 ⟨rfl, hs11⟩
          have hc11 := hc10.trans (hs11.mono hc10.size)
          clear hs11 hc10 
          go_wp2_with fail
          have hfin := hbM0.trans (hc11.mono hbM0.size)
          go_roundw
          case rel => exact ⟨k + 1, by omega, by go_num, hfin⟩
          case measure => simp [intOf]; omega
        · obtain rfl : k = 3 := by omega
          have hdk := deck_below hd18 hbk
          have hgk := grown_trans hg18 (grown_none (grown_of_below hbk))
          go_wp2_with fail
          go_roundw
          case rel => exact ⟨j + 1, by omega, by go_num, hdk, hgk⟩
          case measure => simp [intOf]; omega
    · obtain rfl : j = 2 := by omega
      go_wp2_with fail
      refine (awake11_any wr (hT.below hber)).mono ?_
      rintro _ wz ⟨rfl, hbz⟩
      go_wp2_with fail
      go_ret
      exact ⟨rfl, hber.trans (hbz.mono hber.size)⟩
end Go.Proofs.YtkknknehchnccaaDoor
