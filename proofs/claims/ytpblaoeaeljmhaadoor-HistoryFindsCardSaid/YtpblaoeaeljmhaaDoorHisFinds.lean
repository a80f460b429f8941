/- The walk of the law HistoryFinds. -/
import Derived.Test.YtpblaoeaeljmhaaDoorRefJoined
import Derived.Test.YtpblaoeaeljmhaaDoorHisAwake
import Derived.Test.YtpblaoeaeljmhaaDoorMkMixed
import Derived.Test.YtpblaoeaeljmhaaDoorLkChg
namespace Go.Proofs.YtpblaoeaeljmhaaDoor
open Go.RowKit Go.BigFrame

theorem ints_below {w w' : World} {v : Value} {xs : List Int} (h : IntsAt w v xs) (hb : Below w.heap.size w w') : IntsAt w' v xs := h.below hb
theorem ints_deck {W W' : World} {b : Nat} {a : Option Addr} {c : Nat} {xs : List Int} (h : IntsAt W (.slice a xs.length c) xs) (hnew : ∀ p, a = some p → b ≠ p.block) (hg : W.grownBy W' (some b)) : IntsAt W' (.slice a xs.length c) xs :=
  h.grown hg (fun g e n c p hp => by cases e; exact fun e => hnew p (Value.slice.inj hp).1 e.symm)
/-- three pairs in one block -/
theorem pairs6 {w : World} {g T : Nat} {c0 c1 c2 c3 c4 c5 : Int} (h : w.heap[g]? = some (.cells #[.int .i64 c0, .int .i64 c1, .int .i64 c2, .int .i64 c3, .int .i64 c4, .int .i64 c5] T (0, 0))) (q : Nat) (hq : q < 3) : ∃ u v, w.cell? ⟨g, q * 2, none⟩ = some (.int .i64 u) ∧ w.cell? ⟨g, q * 2 + 1, none⟩ = some (.int .i64 v) := by
  rcases (by omega : q = 0 ∨ q = 1 ∨ q = 2) with rfl | rfl | rfl
  · exact ⟨c0, c1, by rw [cell_blk h]; rfl, by rw [cell_blk h]; rfl⟩
  · exact ⟨c2, c3, by rw [cell_blk h]; rfl, by rw [cell_blk h]; rfl⟩
  · exact ⟨c4, c5, by rw [cell_blk h]; rfl, by rw [cell_blk h]; rfl⟩
theorem i2_at {w : World} {a : Option Addr} {cap : Nat} {xs : List (Int × Int)} (h : RowAt encI2 w (.slice a xs.length cap) xs) (i : Nat) (hi : i < xs.length) : ∃ b off x, a = some ⟨b, off, none⟩ ∧ xs[i]? = some x ∧ xs.length ≤ cap ∧ w.cell? ⟨b, off + i * 2, none⟩ = some (.int .i64 x.1) ∧ w.cell? ⟨b, off + i * 2 + 1, none⟩ = some (.int .i64 x.2) := by
  obtain ⟨b, off, x, e, hx, hc, hat⟩ := h.elem i hi
  refine ⟨b, off, x, e, hx, hc, ?_, ?_⟩
  · have := hat 0 _ rfl
    rw [Nat.add_zero] at this
    exact this
  · exact hat 1 _ rfl
set_option maxRecDepth 100000 in
set_option maxHeartbeats 12800000 in
theorem finds_law (a : Option Addr) (len cap : Nat) (ra : Option Addr) (rlen rcap : Nat) (rs : List Int) (u v : Int) (w : World) (hl : ListAt w a len) (hr : rlen ≤ 100000 → rs.length = rlen ∧ IntsAt w (.slice ra rs.length rcap) rs) (hTz : TzAt w) :
    Calls Tryd.prog 3 #[.slice a len cap, .slice ra rlen rcap, .int .i64 u, .int .i64 v] w fun e w' => e = .returned (.bool true) ∧ Below w.heap.size w w' := by
  by_cases hlen : rlen ≤ 20
  case neg =>
    have d1 : decide ((rlen : Int) > 20) = true := decide_eq_true (by omega)
    have d2 : decide (rlen > 20) = true := decide_eq_true (by omega)
    have d3 : (20 : Int) < rlen := by omega
    go_enter Tryd.func3, Tryd.ntmps3
    go_wp2_with fail
    refine (hawake_any _).mono ?_
    rintro e w4 ⟨rfl, hb4⟩
    go_wp2_with fail
    go_ret
    exact ⟨rfl, hb4⟩
  obtain ⟨rfl, hr0⟩ := hr (by omega)
  have d1 : decide ((rs.length : Int) > 20) = false := decide_eq_false (by omega)
  have d3 : ¬ (20 : Int) < rs.length := by omega
  have hdk := deck_new (cap := cap) hl
  have bD := (Below.refl _ w).alloc (Nat.le_refl _) (.cells #[.slice a len cap, .int .i64 0] 45)
  clear hr hl
  go_enter Tryd.func3, Tryd.ntmps3
  go_wp2_with (go_at_call 5; refine (new_any _ _ _ _).mono ?_; rintro e w' ⟨rfl, rfl⟩)
  refine (next_any w.heap.size 5 _ hdk (by omega) (by omega)).mono ?_
  rintro _ w2 ⟨y, hy0, hy1, rfl, hd2, hg2⟩
  have hb2 := bD.grown hg2 bD.size (fun g e => by cases e; exact Nat.le_refl _)
  have v1 : IntKind.i64.wrap (2 + y) = 2 + y := IntWalk.i64_in _ (by omega)
  clear hdk bD hg2
  go_wp2_with fail
  obtain ⟨n, hn⟩ : ∃ n, 2 + y = n := ⟨_, rfl⟩
  have hn2 : 2 ≤ n := by omega
  have hn5 : n ≤ 6 := by omega
  rw [hn]
  clear hn v1 hy0 hy1
  refine (events_any w.heap.size n 14 _ hd2 hn2 (by omega) (by omega) (by omega)).mono ?_
  rintro _ w3 ⟨ae0, ce0, es0, rfl, hes3, -, hlen3, hd3, hg3, -⟩
  have hb3 := hb2.grown hg3 hb2.size (fun g e => by cases e; exact Nat.le_refl _)
  clear hd2 hg3 hb2
  go_wp2_with fail
  refine (next_any w.heap.size 8 _ hd3 (by omega) (by omega)).mono ?_
  rintro _ w4 ⟨zz, hz0, hz1, rfl, hd4, hg4⟩
  have hb4 := hb3.grown hg4 hb3.size (fun g e => by cases e; exact Nat.le_refl _)
  have hes4 := hes3.grown' hg4 (fun g e hn => by cases e; exact off_deck (by decide) hes3 hd3 hn)
  clear hd3 hg4 hb3 hes3
  by_cases hzz : zz = 0
  case' pos =>
    subst hzz
    go_wp2_with fail
    refine (mixed_any w.heap.size n 8 _ hd4 hn2 (by omega) (by omega) (by omega)).mono ?_
    rintro _ w5 ⟨ae, ce, es, rfl, hes5, -, hlen5, hd5, hg5, -⟩
    have hb5 := hb4.grown hg5 hb4.size (fun g e => by cases e; exact Nat.le_refl _)
    clear hd4 hg5 hb4 hes4 hlen3 hlen5
    go_wp2_with fail
  case' neg =>
    have z1 : (zz == 0) = false := by simpa using hzz
    have z2 : decide (zz = 0) = false := by simpa using hzz
    go_wp2_with fail
    obtain ⟨w5, hw5⟩ : ∃ W : World, W = w4 := ⟨_, rfl⟩
    obtain ⟨ae, hae⟩ : ∃ x, x = ae0 := ⟨_, rfl⟩
    obtain ⟨ce, hce⟩ : ∃ x, x = ce0 := ⟨_, rfl⟩
    obtain ⟨es, hes⟩ : ∃ x, x = es0 := ⟨_, rfl⟩
    subst hw5 hae hce hes
    have hes5 := hes4
    have hd5 := hd4
    have hb5 := hb4
    clear hd4 hb4 hes4 hlen3 z1 z2 hzz
  all_goals
    obtain ⟨b, hbb⟩ : ∃ b, w.heap.size = b := ⟨_, rfl⟩
    rw [hbb] at hd5
    try rw [hbb]
    have HBB := Lib.hid hbb
    have hbw : w.heap.size ≤ b := by omega
    clear hbb
    clear hz0 hz1
    refine (next_any b n _ hd5 (by omega) (by omega)).mono ?_
    rintro _ w6 ⟨p0, -, -, rfl, hd6, hg6⟩
    have hb6 := hb5.grown hg6 hb5.size (fun g e => by cases e; exact hbw)
    have hes6 := hes5.grown' hg6 (fun g e hn => by cases e; exact off_deck (by decide) hes5 hd5 hn)
    clear hd5 hg6 hb5 hes5
    go_wp2_with fail
    refine (next_any b n _ hd6 (by omega) (by omega)).mono ?_
    rintro _ w7 ⟨p1, -, -, rfl, hd7, hg7⟩
    have hb7 := hb6.grown hg7 hb6.size (fun g e => by cases e; exact hbw)
    have hes7 := hes6.grown' hg7 (fun g e hn => by cases e; exact off_deck (by decide) hes6 hd6 hn)
    clear hd6 hg7 hb6 hes6
    go_wp2_with fail
    refine (next_any b n _ hd7 (by omega) (by omega)).mono ?_
    rintro _ w8 ⟨p2, -, -, rfl, hd8, hg8⟩
    have hb8 := hb7.grown hg8 hb7.size (fun g e => by cases e; exact hbw)
    have hes8 := hes7.grown' hg8 (fun g e hn => by cases e; exact off_deck (by decide) hes7 hd7 hn)
    clear hd7 hg8 hb7 hes7
    go_wp2_with fail
    refine (next_any b n _ hd8 (by omega) (by omega)).mono ?_
    rintro _ w9 ⟨p3, -, -, rfl, hd9, hg9⟩
    have hb9 := hb8.grown hg9 hb8.size (fun g e => by cases e; exact hbw)
    have hes9 := hes8.grown' hg9 (fun g e hn => by cases e; exact off_deck (by decide) hes8 hd8 hn)
    clear hd8 hg9 hb8 hes8
    have bX := (Below.refl _ w9).alloc (Nat.le_refl _) (.cells #[.int .i64 u, .int .i64 v, .int .i64 p0, .int .i64 p1, .int .i64 p2, .int .i64 p3] 29)
    have hX := heap_alloc_new w9 (.cells #[.int .i64 u, .int .i64 v, .int .i64 p0, .int .i64 p1, .int .i64 p2, .int .i64 p3] 29)
    have hesX := hes9.below bX
    have hdX := hd9.below bX
    have hbX := hb9.trans (bX.mono hb9.size)
    clear bX hes9 hd9 hb9
    go_wp2_with fail
    obtain ⟨wX, hwX⟩ : ∃ W : World, w9.alloc (.cells #[.int .i64 u, .int .i64 v, .int .i64 p0, .int .i64 p1, .int .i64 p2, .int .i64 p3] 29) = W := ⟨_, rfl⟩
    obtain ⟨X, hXX⟩ : ∃ X, w9.heap.size = X := ⟨_, rfl⟩
    rw [hwX] at hX hesX hdX hbX ⊢
    rw [hXX] at hX
    try rw [hXX]
    clear hwX hXX
    go_loopw [70] (fun vi wr => ∃ q : Nat, q ≤ 3 ∧ vi = .int .i64 q ∧ Below wX.heap.size wX wr) (fun vi _ => 3 - (intOf vi).toNat)
    case atStart => exact ⟨0, Nat.zero_le _, rfl, Below.refl _ _⟩
    case round =>
      obtain ⟨q, hq, rfl, hbr⟩ := hrel
      by_cases hq3 : q < 3
      · have hql3 : (q : Int) < 3 := by omega
        have hql4 : decide ((q : Int) < 3) = true := decide_eq_true hql3
        obtain ⟨p, p', k0, k1⟩ := pairs6 (lk_next hbr hX) q hq3
        have bP := (Below.refl _ wr).alloc (Nat.le_refl _) (.cells #[.int .i64 p, .int .i64 p'] 29)
        have hP := heap_alloc_new wr (.cells #[.int .i64 p, .int .i64 p'] 29)
        have hesP := (hesX.below hbr).below bP
        have hbP := hbr.trans (bP.mono hbr.size)
        have x0 := cell_blk (j := 0) hP
        have x1 := cell_blk (j := 1) hP
        have h1 := life_any n es p p' ae ce _ hesP
        have h2 := fun W h => rlife_any n es p p' ae ce W h
        obtain ⟨⟨os, oz⟩, hO⟩ : ∃ R, lifeX n es p p' = R := ⟨_, rfl⟩
        rw [hO] at h1 h2
        unfold LifePost at h1 h2
        dsimp only at h1 h2
        have h3 := fun W h => first_any n es p p' ae ce W h
        have h4 := fun W h => rfirst_any n es p p' ae ce W h
        obtain ⟨⟨ft, fo, fz⟩, hF⟩ : ∃ R, firstX n es p p' = R := ⟨_, rfl⟩
        rw [hF] at h3 h4
        dsimp only at h3 h4
        clear hO hF bP
        go_wp2_with fail
        refine h1.mono ?_
        rintro _ wa ⟨a1, c1, rfl, hr1, hba⟩
        have hPa := lk_next hba hP
        have hesa := hesP.below hba
        have hba' := hbP.trans (hba.mono hbP.size)
        have h2' := h2 _ hesa
        clear h1 h2 x0 x1 k0 k1 hP hesP hbP hba
        have x0 := cell_blk (j := 0) hPa
        have x1 := cell_blk (j := 1) hPa
        go_wp2_with fail
        refine h2'.mono ?_
        rintro _ wc ⟨a2, c2, rfl, hr2, hbc⟩
        have hPc := lk_next hbc hPa
        have hesc := hesa.below hbc
        have hr1c := hr1.below hbc
        have hbc' := hba'.trans (hbc.mono hba'.size)
        have h3' := h3 _ hesc
        clear h2' h3 x0 x1 hPa hesa hba' hbc hr1
        have x0 := cell_blk (j := 0) hPc
        have x1 := cell_blk (j := 1) hPc
        go_wp2_with fail
        refine h3'.mono ?_
        rintro _ wd ⟨rfl, hbd⟩
        have hPd := lk_next hbd hPc
        have hesd := hesc.below hbd
        have hr1d := hr1c.below hbd
        have hr2d := hr2.below hbd
        have hbd' := hbc'.trans (hbd.mono hbc'.size)
        have h4' := h4 _ hesd
        clear h3' h4 x0 x1 hPc hesc hbc' hbd hr1c hr2
        have x0 := cell_blk (j := 0) hPd
        have x1 := cell_blk (j := 1) hPd
        go_wp2_with fail
        refine h4'.mono ?_
        rintro _ we ⟨rfl, hbe⟩
        have hr1e := hr1d.below hbe
        have hr2e := hr2d.below hbe
        have hbe' := hbd'.trans (hbe.mono hbd'.size)
        have hosl := hr1e.small
        clear h4' x0 x1 hPd hesd hbd' hbe hr1d hr2d
        go_wp2_with fail
        go_loopw [143] (fun vi wr => ∃ i : Nat, i ≤ os.length ∧ vi = .int .i64 i ∧ Below we.heap.size we wr) (fun vi _ => os.length - (intOf vi).toNat)
        case atStart => exact ⟨0, Nat.zero_le _, rfl, Below.refl _ _⟩
        case round =>
          obtain ⟨i, hi, rfl, hbi⟩ := hrel
          by_cases hil : i < os.length
          · have hil3 : (i : Int) < os.length := by omega
            have hil4 : (0 : Int) ≤ (i : Int) := by omega
            obtain ⟨b1, o1, x, rfl, hx, hc1, d0, d1'⟩ := i2_at (hr1e.below hbi) i hil
            obtain ⟨b2, o2, x2, rfl, hx2, hc2, e0, e1⟩ := i2_at (hr2e.below hbi) i hil
            obtain rfl : x = x2 := by rw [hx] at hx2; exact Option.some.inj hx2
            clear hx hx2
            have heq := fun W => eq_i2 x.1 x.2 x.1 x.2 W
            simp only [BEq.rfl, Bool.and_self] at heq
            go_wp2_with fail
            go_quiet (fail)
            go_wp2_with fail
            go_roundw
            case rel =>
              first | exact ⟨i + 1, by omega, by go_num, hbi.drewN _⟩ | ((repeat apply Exists.intro); exact ⟨⟨i + 1, by omega, by go_num, hbi.drewN _⟩, rfl⟩)
            case measure => simp [intOf]; omega
          · obtain rfl : i = os.length := by omega
            have hil3 : ¬ (os.length : Int) < os.length := by omega
            have hbf := hbe'.trans (hbi.mono hbe'.size)
            clear hr1e hr2e
            go_wp2_with fail
            go_roundw
            case rel =>
              first | exact ⟨q + 1, by omega, by go_num, hbf⟩ | ((repeat apply Exists.intro); exact ⟨⟨q + 1, by omega, by go_num, hbf⟩, rfl⟩)
            case measure => simp [intOf]; omega
      · obtain rfl : q = 3 := by omega
        have hdr := hdX.below hbr
        have hesr := hesX.below hbr
        have hbr0 := hbX.trans (hbr.mono hbX.size)
        clear hX hesX hdX hbX hbr hq
        obtain ⟨N, rfl⟩ := Int.eq_ofNat_of_zero_le (show 0 ≤ n by omega)
        go_wp2_with fail
        refine (mksetZ_any b N _ hdr (by omega)).mono ?_
        rintro _ wa ⟨ys, ay, cy, rfl, hyl, hya, hda, hga, hya0⟩
        have hba := hbr0.grown hga hbr0.size (fun g e => by cases e; exact hbw)
        have hesa := hesr.grown' hga (fun g e hn => by cases e; exact off_deck (by decide) hesr hdr hn)
        have hbl := hdr.lt
        clear hdr hesr hbr0 hga
        go_wp2_with fail
        refine (next_any b N _ hda (by omega) (by omega)).mono ?_
        rintro _ wc ⟨z, -, -, rfl, hdc, hgc⟩
        have hbc := hba.grown hgc hba.size (fun g e => by cases e; exact hbw)
        have hesc := hesa.grown' hgc (fun g e hn => by cases e; exact off_deck (by decide) hesa hda hn)
        have hyc := ints_deck hya (fun p hp => by have := hya0 p hp; omega) hgc
        have bZ := (Below.refl _ wc).alloc (Nat.le_refl _) (.cells #[.int .i64 z] 3)
        have hzc := ints_lit1 wc z 3
        have bY := (Below.refl _ (wc.alloc (.cells #[.int .i64 z] 3))).alloc (Nat.le_refl _) (.cells #[.slice ra rs.length rcap, .slice ay ys.length cy, .slice (some ⟨wc.heap.size, 0, none⟩) 1 1] 22)
        have hY := heap_alloc_new (wc.alloc (.cells #[.int .i64 z] 3)) (.cells #[.slice ra rs.length rcap, .slice ay ys.length cy, .slice (some ⟨wc.heap.size, 0, none⟩) 1 1] 22)
        rw [World.size_alloc] at hY
        have bZY := bZ.trans (bY.mono bZ.size)
        have hesY := hesc.below bZY
        have hyY := hyc.below bZY
        have hzY := hzc.below bY
        have hbY := hbc.trans (bZY.mono hbc.size)
        clear hda hdc hba hesa hya hya0 hgc bZ bY bZY hesc hyc hzc hbc
        go_wp2_with fail
        obtain ⟨wY, hwY⟩ : ∃ W : World, (wc.alloc (.cells #[.int .i64 z] 3)).alloc (.cells #[.slice ra rs.length rcap, .slice ay ys.length cy, .slice (some ⟨wc.heap.size, 0, none⟩) 1 1] 22) = W := ⟨_, rfl⟩
        obtain ⟨Y, hYY⟩ : ∃ X, wc.heap.size + 1 = X := ⟨_, rfl⟩
        rw [hwY] at hY hesY hyY hzY hbY ⊢
        rw [hYY] at hY
        try rw [hYY]
        clear hwY hYY
        go_loopw [167] (fun vi wr => ∃ s : Nat, s ≤ 3 ∧ vi = .int .i64 s ∧ Below wY.heap.size wY wr) (fun vi _ => 3 - (intOf vi).toNat)
        case atStart => exact ⟨0, Nat.zero_le _, rfl, Below.refl _ _⟩
        case round =>
          obtain ⟨s, hs, rfl, hbs⟩ := hrel
          have hb0 := hbY.trans (hbs.mono hbY.size)
          by_cases hs3 : s < 3
          · have hsl3 : (s : Int) < 3 := by omega
            have hsl4 : decide ((s : Int) < 3) = true := decide_eq_true hsl3
            obtain ⟨xs, ax, cx, c0, hxs⟩ : ∃ (xs : List Int) (ax : Option Addr) (cx : Nat), wr.cell? ⟨Y, s, none⟩ = some (.slice ax xs.length cx) ∧ IntsAt wr (.slice ax xs.length cx) xs := by
              have hYr := lk_next hbs hY
              rcases (by omega : s = 0 ∨ s = 1 ∨ s = 2) with rfl | rfl | rfl
              · exact ⟨_, _, _, cell_blk (j := 0) hYr, hr0.below hb0⟩
              · exact ⟨_, _, _, cell_blk (j := 1) hYr, hyY.below hbs⟩
              · exact ⟨[z], _, _, cell_blk (j := 2) hYr, hzY.below hbs⟩
            have hesr := hesY.below hbs
            have h1 := hjoined_any N es xs ae ax ce cx _ hesr hxs (hTz.below hb0)
            have h2 := fun W h h' => rhjoined_any N es xs ae ax ce cx W h h'
            unfold JdPost at h1 h2
            go_wp2_with fail
            refine h1.mono ?_
            rintro _ wa ⟨t1, k1, z1, rfl, hj1, hba⟩
            have h2' := h2 _ (hesr.below hba) (hxs.below hba)
            have hba' := hbs.trans (hba.mono hbs.size)
            have HJ1 := Lib.hid hj1
            clear h1 h2 c0 hba hj1
            go_wp2_with fail
            refine h2'.mono ?_
            rintro _ wd ⟨t2, k2, z2, rfl, hj2, hbd⟩
            obtain ⟨rfl, rfl, rfl⟩ := JdX.det HJ1.out hj2
            have hbd' := hba'.trans (hbd.mono hba'.size)
            clear h2' hj2 HJ1 hbd
            go_wp2_with fail
            go_roundw
            case rel =>
              first | exact ⟨s + 1, by omega, by go_num, hbd'⟩ | ((repeat apply Exists.intro); exact ⟨⟨s + 1, by omega, by go_num, hbd'⟩, rfl⟩)
            case measure => simp [intOf]; omega
          · obtain rfl : s = 3 := by omega
            clear hY hesY hyY hzY
            go_wp2_with fail
            refine (hawake_any _).mono ?_
            rintro _ w13 ⟨rfl, hb13⟩
            go_wp2_with fail
            go_ret
            exact ⟨rfl, hb0.trans (hb13.mono hb0.size)⟩
end Go.Proofs.YtpblaoeaeljmhaaDoor
