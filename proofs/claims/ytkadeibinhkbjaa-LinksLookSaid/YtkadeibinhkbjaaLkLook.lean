/- The walk of the law LinksLook. -/
import Derived.Test.YtkadeibinhkbjaaLkChg
import Derived.Test.YtkadeibinhkbjaaLkEdges
import Derived.Test.YtkadeibinhkbjaaLkRef
import Derived.Test.YtkadeibinhkbjaaLkSpoilt
import Derived.Test.YtkadeibinhkbjaaGrSame
namespace Go.Proofs.Ytkadeibinhkbjaa
open Go.RowKit Go.BigFrame

/-- any state is put into the box -/
theorem ChW.putm {w0 W : World} {b S : Nat} {n : Int} {ls : List Lk} {al : Option Addr} {cl : Nat} {L : List Lk} {a1 : Option Addr} {c1 : Nat} (m : Int) (h : ChW w0 b S n ls al cl W) (hr : RowAt encLk W (.slice a1 L.length c1) L) :
    ChW w0 b S m L a1 c1 ((W.setCell ⟨S, 0, none⟩ (.int .i64 m)).setCell ⟨S, 1, none⟩ (.slice a1 L.length c1)) := by
  have hg : W.grownBy ((W.setCell ⟨S, 0, none⟩ (.int .i64 m)).setCell ⟨S, 1, none⟩ (.slice a1 L.length c1)) (some S) := grown_trans grown_lk grown_lk
  have := h.bS
  exact ⟨h.d.kept hg (fun g e => by cases e; exact h.bS), set_two h.x, hr.grown' hg (fun g e hn => by cases e; exact off_two (by decide) hr h.x hn), h.be.grown hg h.be.size (fun k e => by cases e; have := h.wb; omega), h.bS, h.wb⟩
theorem cells8 {w : World} {g T : Nat} {c0 c1 c2 c3 c4 c5 c6 c7 : Value} (h : w.heap[g]? = some (.cells #[c0, c1, c2, c3, c4, c5, c6, c7] T (0, 0))) : w.cell? ⟨g, 0, none⟩ = some c0 ∧ w.cell? ⟨g, 1, none⟩ = some c1 ∧ w.cell? ⟨g, 2, none⟩ = some c2 ∧ w.cell? ⟨g, 3, none⟩ = some c3 ∧ w.cell? ⟨g, 4, none⟩ = some c4 ∧ w.cell? ⟨g, 5, none⟩ = some c5 ∧ w.cell? ⟨g, 6, none⟩ = some c6 ∧ w.cell? ⟨g, 7, none⟩ = some c7 :=
  ⟨by rw [cell_blk h]; rfl, by rw [cell_blk h]; rfl, by rw [cell_blk h]; rfl, by rw [cell_blk h]; rfl, by rw [cell_blk h]; rfl, by rw [cell_blk h]; rfl, by rw [cell_blk h]; rfl, by rw [cell_blk h]; rfl⟩
set_option maxRecDepth 100000 in
set_option maxHeartbeats 6400000 in
theorem look_law (a : Option Addr) (len cap : Nat) (a2 : Option Addr) (len2 cap2 : Nat) (u v sg lt : Int) (ys : List Int) (w : World) (hl : ListAt w a len) (hys : len2 ≤ 40 → ys.length = len2 ∧ IntsAt w (.slice a2 ys.length cap2) ys) :
    Calls Try.prog 7 #[.slice a len cap, .slice a2 len2 cap2, .int .i64 u, .int .i64 v, .int .i64 sg, .int .i64 lt] w fun e w' => e = .returned (.bool true) ∧ Below w.heap.size w w' := by
  by_cases hl2 : len2 ≤ 40
  case neg =>
    have d1 : decide ((len2 : Int) > 40) = true := decide_eq_true (by omega)
    have d2 : decide (len2 > 40) = true := decide_eq_true (by omega)
    have d3 : (40 : Int) < len2 := by omega
    go_enter Try.func7, Try.ntmps7
    go_wp2_with fail
    refine (awake05_any _).mono ?_
    rintro e w4 ⟨rfl, hb4⟩
    go_wp2_with fail
    go_ret
    exact ⟨rfl, hb4⟩
  obtain ⟨rfl, hi⟩ := hys hl2
  clear hys
  have d1 : decide ((ys.length : Int) > 40) = false := decide_eq_false (by omega)
  have d3 : ¬ (40 : Int) < ys.length := by omega
  have hdk := deck_new (cap := cap) hl
  have hb1 : Below w.heap.size w (w.alloc (.cells #[.slice a len cap, .int .i64 0] 66)) := (Below.refl _ _).alloc (Nat.le_refl _) _
  go_enter Try.func7, Try.ntmps7
  go_wp2_with (go_at_call 9; refine (new_any _ _ _ _).mono ?_; rintro e w' ⟨rfl, rfl⟩)
  refine (mkstate_any w.heap.size 7 _ hdk (by omega) (by omega)).mono ?_
  rintro _ w2 ⟨n, ls, al, cl, rfl, hr2, hv, hn7, ht, hd2, hg2, ho2⟩
  have hz1 : (w.alloc (.cells #[.slice a len cap, .int .i64 0] 66)).heap.size = w.heap.size + 1 := by simp
  have hz2 := hg2.size
  rw [hz1] at hz2
  have hb2 := hb1.grown hg2 hb1.size (fun g e => by cases e; exact Nat.le_refl _)
  have bn := (Below.refl _ w2).alloc (Nat.le_refl _) (.cells #[.int .i64 n, .slice al ls.length cl] 24)
  have hK : ChW w w.heap.size w2.heap.size n ls al cl (w2.alloc (.cells #[.int .i64 n, .slice al ls.length cl] 24)) :=
    ⟨hd2.alloc _, heap_alloc_new _ _, hr2.below bn, hb2.trans (bn.mono hb2.size), by omega, Nat.le_refl _⟩
  have hlen : ls.length ≤ 100000 := by have := hv.length_le; omega
  clear hdk hb1 hr2 hd2 hg2 ho2 hz1 hz2 hb2 bn ht hv hn7 d1 d3
  obtain ⟨S, hSS⟩ : ∃ S, w2.heap.size = S := ⟨_, rfl⟩
  rw [hSS] at hK
  go_wp2_with fail
  refine (next_any w.heap.size 6 _ hK.d (by omega) (by omega)).mono ?_
  rintro _ w3 ⟨x, hx0, hx1, rfl, hd3, hg3⟩
  have hK3 := hK.next hd3 hg3
  have hi3 := (hi.below hK3.be)
  clear hK hd3 hg3 hl
  try rw [hSS]
  clear hSS
  go_upto_if 35 with fail
  go_cut [] from 34 to 38 (fun wx => ∃ (m : Int) (l1 : List Lk) (a1 : Option Addr) (c1 : Nat), ChW w w.heap.size S m l1 a1 c1 wx ∧ l1.length ≤ 100000)
  case first =>
    by_cases hx : x = 0
    · have dx : (x == 0) = true := by simpa using hx
      have x0 := hK3.c0
      have x1 := hK3.c1
      go_wp2_with fail
      refine (lspoilt_any _ _ _ _ _ _ hK3.d hK3.r hlen).mono ?_
      rintro _ w4 ⟨m, l1, a1, c1, rfl, hr4, hd4, hg4, ho4, hl4⟩
      have hK4 := hK3.next hd4 hg4
      clear x0 x1
      have x0 := hK4.c0
      have x1 := hK4.c1
      have f0 := free_blk (j := 0) hK4.x
      have f1 := free_blk (j := 1) hK4.x
      go_wp2_with fail
      go_meet
      exact ⟨m, l1, a1, c1, hK4.putm m hr4, hl4⟩
    · have dx : (x == 0) = false := by simpa using hx
      go_wp2_with fail
      go_meet
      exact ⟨n, ls, al, cl, hK3, hlen⟩
  case rest =>
    obtain ⟨m, l1, aS, cS, hK4, hl4⟩ := hcut
    clear hi3 hK3 hx0 hx1 hlen
    go_wp2_with fail
    refine (next_any w.heap.size 7 _ hK4.d (by omega) (by omega)).mono ?_
    rintro _ w5 ⟨y0, hp0, hq0, rfl, hd, hg⟩
    have hK5 := hK4.next hd hg
    clear hd hg hK4
    go_wp2_with fail
    refine (next_any w.heap.size 7 _ hK5.d (by omega) (by omega)).mono ?_
    rintro _ w6 ⟨y1, hp1, hq1, rfl, hd, hg⟩
    have hK6 := hK5.next hd hg
    clear hd hg hK5
    go_wp2_with fail
    refine (next_any w.heap.size 3 _ hK6.d (by omega) (by omega)).mono ?_
    rintro _ w7 ⟨y2, hp2, hq2, rfl, hd, hg⟩
    have hK7 := hK6.next hd hg
    clear hd hg hK6
    have v1 : IntKind.i64.wrap (y2 - 1) = y2 - 1 := IntWalk.i64_in _ (by omega)
    go_wp2_with fail
    refine (next_any w.heap.size 9 _ hK7.d (by omega) (by omega)).mono ?_
    rintro _ w8 ⟨y3, hp3, hq3, rfl, hd, hg⟩
    have hK8 := hK7.next hd hg
    clear hd hg hK7
    go_wp2_with fail
    have hA := heap_alloc_new w8 (.cells #[.int .i64 u, .int .i64 v, .int .i64 sg, .int .i64 lt, .int .i64 y0, .int .i64 y1, .int .i64 (y2 - 1), .int .i64 y3] 56)
    have hKL := hK8.alloc (.cells #[.int .i64 u, .int .i64 v, .int .i64 sg, .int .i64 lt, .int .i64 y0, .int .i64 y1, .int .i64 (y2 - 1), .int .i64 y3] 56)
    obtain ⟨wL, hwL⟩ : ∃ W : World, W = w8.alloc (.cells #[.int .i64 u, .int .i64 v, .int .i64 sg, .int .i64 lt, .int .i64 y0, .int .i64 y1, .int .i64 (y2 - 1), .int .i64 y3] 56) := ⟨_, rfl⟩
    obtain ⟨L, hLL⟩ : ∃ L, w8.heap.size = L := ⟨_, rfl⟩
    rw [hLL] at hA
    rw [← hwL] at hA hKL ⊢
    try rw [hLL]
    clear hwL hLL hK8 v1
    generalize y2 - 1 = y2 at *
    clear hp0 hq0 hp1 hq1 hp2 hq2 hp3 hq3
    go_loopw [56] (fun vi wr => ∃ i : Nat, i ≤ 2 ∧ vi = .int .i64 i ∧ Below wL.heap.size wL wr) (fun vi _ => 2 - (intOf vi).toNat)
    case atStart => exact ⟨0, Nat.zero_le _, rfl, Below.refl _ _⟩
    case round =>
      obtain ⟨i, hi2, rfl, hbr⟩ := hrel
      have hK := hKL.below hbr
      by_cases hlt : i < 2
      · have hlt3 : (i : Int) < 2 := by omega
        have hlt4 : decide ((i : Int) < 2) = true := decide_eq_true hlt3
        obtain ⟨p0, p1, p2, p3, c0, c1, c2, c3⟩ : ∃ p0 p1 p2 p3 : Int, wr.cell? ⟨L, i * 4, none⟩ = some (.int .i64 p0) ∧ wr.cell? ⟨L, i * 4 + 1, none⟩ = some (.int .i64 p1) ∧ wr.cell? ⟨L, i * 4 + 2, none⟩ = some (.int .i64 p2) ∧ wr.cell? ⟨L, i * 4 + 3, none⟩ = some (.int .i64 p3) := by
          obtain ⟨k0, k1, k2, k3, k4, k5, k6, k7⟩ := cells8 (lk_next hbr hA)
          rcases (by omega : i = 0 ∨ i = 1) with rfl | rfl
          · exact ⟨_, _, _, _, k0, k1, k2, k3⟩
          · exact ⟨_, _, _, _, k4, k5, k6, k7⟩
        have hP := heap_alloc_new wr (.cells #[.int .i64 p0, .int .i64 p1, .int .i64 p2, .int .i64 p3] 56)
        have hbA := hbr.trans (((Below.refl _ wr).alloc (Nat.le_refl _) (.cells #[.int .i64 p0, .int .i64 p1, .int .i64 p2, .int .i64 p3] 56)).mono hbr.size)
        have hKA := hK.alloc (.cells #[.int .i64 p0, .int .i64 p1, .int .i64 p2, .int .i64 p3] 56)
        have hiA := hi.below hKA.be
        have h1 := lwhere_any m l1 aS a2 cS cap2 ys p2 p3 _ hKA.r hiA
        have hrw := fun W h h' => rwhere_any m l1 aS a2 cS cap2 ys p2 p3 W h h'
        obtain ⟨⟨⟨rn, rl⟩, re⟩, hR⟩ : ∃ R, whX m l1 ys p2 p3 = R := ⟨_, rfl⟩
        rw [hR] at h1 hrw
        unfold WherePost at h1 hrw
        dsimp only at h1 hrw
        have x0 := hKA.c0
        have x1 := hKA.c1
        obtain ⟨q0, q1, q2, q3⟩ := cells4 hP
        go_wp2_with fail
        obtain ⟨Q, hQ⟩ : ∃ Q, wr.heap.size = Q := ⟨_, rfl⟩
        rw [hQ] at hP
        try rw [hQ]
        clear hQ c0 c1 c2 c3 x0 x1 q0 q1 q2 q3 hR
        refine h1.mono ?_
        rintro _ w10 ⟨aw, cw, rfl, hw10, hb10⟩
        have hK10 := (hKA.below hb10).alloc (.cells #[.int .i64 rn, .slice aw rl.length cw] 24)
        have bn := (Below.refl _ w10).alloc (Nat.le_refl _) (.cells #[.int .i64 rn, .slice aw rl.length cw] 24)
        have hP10 := lk_next bn (lk_next hb10 hP)
        have hW10 := heap_alloc_new w10 (.cells #[.int .i64 rn, .slice aw rl.length cw] 24)
        have hwr10 := hw10.below bn
        have hi10 := hi.below hK10.be
        have hbB := hbA.trans ((hb10.trans (bn.mono hb10.size)).mono hbA.size)
        have h2 := hrw _ hK10.r hi10
        have x0 := hK10.c0
        have x1 := hK10.c1
        obtain ⟨q0, q1, q2, q3⟩ := cells4 hP10
        clear h1 hrw hw10 hb10 hP hKA hiA hK bn hbr
        go_wp2_with fail
        refine h2.mono ?_
        rintro _ w11 ⟨av, cv, rfl, hv11, hb11⟩
        have bn := (Below.refl _ w11).alloc (Nat.le_refl _) (.cells #[.int .i64 rn, .slice av rl.length cv] 24)
        have hb11n := hb11.trans (bn.mono hb11.size)
        have hK11 := (hK10.below hb11).alloc (.cells #[.int .i64 rn, .slice av rl.length cv] 24)
        have hP11 := lk_next bn (lk_next hb11 hP10)
        have hW11 := lk_next bn (lk_next hb11 hW10)
        have hwr11 := (hwr10.below hb11).below bn
        have hV11 := heap_alloc_new w11 (.cells #[.int .i64 rn, .slice av rl.length cv] 24)
        have hvr11 := hv11.below bn
        have hbE0 := hbB.trans (hb11n.mono hbB.size)
        clear h2 x0 x1 q0 q1 q2 q3 hP10 hW10 hwr10 hv11 hb11 bn hK10 hb11n hi10 hbB hbA
        go_wp2_with fail
        obtain ⟨wE, hwE⟩ : ∃ W : World, W = w11.alloc (.cells #[.int .i64 rn, .slice av rl.length cv] 24) := ⟨_, rfl⟩
        obtain ⟨Q1, hQ1⟩ : ∃ Q, w10.heap.size = Q := ⟨_, rfl⟩
        obtain ⟨Q2, hQ2⟩ : ∃ Q, w11.heap.size = Q := ⟨_, rfl⟩
        rw [hQ1] at hW11
        rw [hQ2] at hV11
        rw [← hwE] at hK11 hP11 hW11 hwr11 hV11 hvr11 hbE0 ⊢
        try rw [hQ1]
        try rw [hQ2]
        clear hwE hQ1 hQ2
        have hbE : Below wL.heap.size wL wE := hbE0
        clear hbE0
        have xt : ∀ (g j : Nat) (v : Value), wE.cell? ⟨g, j, none⟩ = some v → ∀ z : Ext wE.heap.size wE, z.world.cell? ⟨g, j, none⟩ = some v := fun g j v h z => (z.below.cell (p := ⟨g, j, none⟩) (cell_lt h)).trans h
        obtain ⟨q0, q1, -, -⟩ := cells4 hP11
        have e0 := xt _ _ _ q0
        have e1 := xt _ _ _ q1
        have f0 := xt _ _ _ hK11.c0
        have f1 := xt _ _ _ hK11.c1
        have k0 := xt _ _ _ (cell_blk (j := 0) hW11)
        have k1 := xt _ _ _ (cell_blk (j := 1) hW11)
        have j0 := xt _ _ _ (cell_blk (j := 0) hV11)
        have j1 := xt _ _ _ (cell_blk (j := 1) hV11)
        have hF1 := fun z : Ext wE.heap.size wE => lfind_any m p0 p1 l1 aS cS z.world (hK11.r.below z.below) hl4
        have hF2 := fun z : Ext wE.heap.size wE => rfind05_any m p0 p1 l1 aS cS z.world (hK11.r.below z.below)
        have hSm := fun z : Ext wE.heap.size wE => rsame05_any rn rn aw av cw cv rl rl z.world (hwr11.below z.below) (hvr11.below z.below)
        rw [show decide (rn = rn ∧ rl = rl) = true by simp] at hSm
        obtain ⟨F, hF⟩ : ∃ F, lfS m l1 p0 p1 = F := ⟨_, rfl⟩
        rw [hF] at hF1 hF2
        clear q0 q1 xt hP11 hW11 hV11 hwr11 hvr11 hK11 hF
        refine wp_region_ext wE.heap.size wE (by kernel_rfl) (by kernel_rfl) (Below.refl _ _) ?_
        try simp only [List.append_eq, List.cons_append, List.nil_append]
        repeat (any_goals (go_big_quiet_step (first | (go_at_call 23; exact Calls.ext_of (Nat.le_refl _) (hF1 _)) | (go_at_call 27; exact Calls.ext_of (Nat.le_refl _) (hF2 _)) | (go_at_call 17; exact Calls.ext_of (Nat.le_refl _) (hSm _)))))
        refine wpQuiet_nil ?_
        rintro _ ⟨⟨wq, hq⟩, rfl⟩
        clear e0 e1 f0 f1 k0 k1 j0 j1 hF1 hF2 hSm
        go_wp2_with fail
        go_roundw
        case rel => exact ⟨i + 1, by omega, by go_num, hbE.trans (hq.mono hbE.size)⟩
        case measure => simp [intOf]; omega
      · obtain rfl : i = 2 := by omega
        have x0 := hK.c0
        have x1 := hK.c1
        have h1 := lgraph_any m l1 aS cS _ hK.r
        have hrg := fun W h => rgraph_any m l1 aS cS W h
        obtain ⟨⟨⟨gn, gl⟩, ge⟩, hR⟩ : ∃ R, grX m l1 = R := ⟨_, rfl⟩
        rw [hR] at h1 hrg
        unfold GrPost at h1 hrg
        dsimp only at h1 hrg
        clear hR hbr
        go_wp2_with fail
        refine h1.mono ?_
        rintro _ w10 ⟨ag, cg, rfl, hg10, hb10⟩
        have bn := (Below.refl _ w10).alloc (Nat.le_refl _) (.cells #[.int .i64 gn, .slice ag gl.length cg] 60)
        have hK10 := (hK.below hb10).alloc (.cells #[.int .i64 gn, .slice ag gl.length cg] 60)
        have hG10 := heap_alloc_new w10 (.cells #[.int .i64 gn, .slice ag gl.length cg] 60)
        have hgr10 := hg10.below bn
        clear h1 x0 x1 hb10 hg10 bn hK
        have x0 := hK10.c0
        have x1 := hK10.c1
        have h2 := hrg _ hK10.r
        go_wp2_with fail
        refine h2.mono ?_
        rintro _ w11 ⟨ah, ch, rfl, hh11, hb11⟩
        have bn := (Below.refl _ w11).alloc (Nat.le_refl _) (.cells #[.int .i64 gn, .slice ah gl.length ch] 60)
        have hb11n := hb11.trans (bn.mono hb11.size)
        have hK11 := (hK10.below hb11).alloc (.cells #[.int .i64 gn, .slice ah gl.length ch] 60)
        have hG11 := lk_next bn (lk_next hb11 hG10)
        have hgr11 := (hgr10.below hb11).below bn
        have hH11 := heap_alloc_new w11 (.cells #[.int .i64 gn, .slice ah gl.length ch] 60)
        have hhr11 := hh11.below bn
        have hgs : gl.length ≤ 70368744177664 := by obtain ⟨_, _, _, _, _, h, _⟩ := hhr11; exact h
        clear h2 x0 x1 hrg hG10 hgr10 hb11 bn hK10 hh11 hb11n
        have g0 := cell_blk (j := 0) hG11
        have g1 := cell_blk (j := 1) hG11
        have k0 := cell_blk (j := 0) hH11
        have k1 := cell_blk (j := 1) hH11
        have h3 := gsame_same gn ag ah cg ch gl _ hgr11 hhr11 hgs
        go_wp2_with fail
        refine h3.mono ?_
        rintro _ w12 ⟨rfl, hb12⟩
        have hK12 := hK11.below hb12
        clear h3 g0 g1 k0 k1 hb12 hK11 hG11 hgr11 hH11 hhr11
        go_wp2_with fail
        refine (awake05_any _).mono ?_
        rintro _ w13 ⟨rfl, hb13⟩
        go_wp2_with fail
        go_ret
        exact ⟨rfl, hK12.be.trans (hb13.mono hK12.be.size)⟩
end Go.Proofs.Ytkadeibinhkbjaa
