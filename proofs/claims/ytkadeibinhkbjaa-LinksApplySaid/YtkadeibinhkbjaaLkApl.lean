/- The walk of the law LinksApply. -/
import Derived.Test.YtkadeibinhkbjaaLkChg
import Derived.Test.YtkadeibinhkbjaaLkSpoilt
import Derived.Test.YtkadeibinhkbjaaLkRAll
import Derived.Test.YtkadeibinhkbjaaMkMixed
import Derived.Test.YtkadeibinhkbjaaEvSame
namespace Go.Proofs.Ytkadeibinhkbjaa
open Go.RowKit Go.BigFrame

theorem ListAt.below {w w' : World} {a : Option Addr} {len : Nat} (h : ListAt w a len) {B : Nat} (hb : Below B w w') (hB : w.heap.size ≤ B) : ListAt w' a len := by
  refine ⟨h.1, fun j hj => ?_⟩
  obtain ⟨c, off, x, ha, hc, hx⟩ := h.2 j hj
  exact ⟨c, off, x, ha, (hb.cell (p := ⟨c, off + j, none⟩) (Nat.lt_of_lt_of_le (cell_lt hc) hB)).trans hc, hx⟩
/-- three states in one block -/
theorem cells6b {w : World} {g T : Nat} {c0 c1 c2 c3 c4 c5 : Value} (h : w.heap[g]? = some (.cells #[c0, c1, c2, c3, c4, c5] T (0, 0))) : w.cell? ⟨g, 0 * 2, none⟩ = some c0 ∧ w.cell? ⟨g, 0 * 2 + 1, none⟩ = some c1 ∧ w.cell? ⟨g, 1 * 2, none⟩ = some c2 ∧ w.cell? ⟨g, 1 * 2 + 1, none⟩ = some c3 ∧ w.cell? ⟨g, 2 * 2, none⟩ = some c4 ∧ w.cell? ⟨g, 2 * 2 + 1, none⟩ = some c5 :=
  ⟨by rw [cell_blk h]; rfl, by rw [cell_blk h]; rfl, by rw [cell_blk h]; rfl, by rw [cell_blk h]; rfl, by rw [cell_blk h]; rfl, by rw [cell_blk h]; rfl⟩
/-- the raw state's box and the raw event's box -/
structure ApW (w : World) (m0 : Int) (ra : Option Addr) (rcap : Nat) (rls : List Lk) (ce : Array Value) (W : World) : Prop where
  r : W.heap[w.heap.size]? = some (.cells #[.int .i64 m0, .slice ra rls.length rcap] 24 (0, 0))
  e : W.heap[w.heap.size + 1]? = some (.cells ce 26 (0, 0))
  row : RowAt encLk W (.slice ra rls.length rcap) rls
theorem ApW.below {w W W' : World} {m0 : Int} {ra : Option Addr} {rcap : Nat} {rls : List Lk} {ce : Array Value} (h : ApW w m0 ra rcap rls ce W) (hb : Below W.heap.size W W') : ApW w m0 ra rcap rls ce W' :=
  ⟨lk_next hb h.r, lk_next hb h.e, h.row.below hb⟩
theorem ApW.alloc {w W : World} {m0 : Int} {ra : Option Addr} {rcap : Nat} {rls : List Lk} {ce : Array Value} (h : ApW w m0 ra rcap rls ce W) (o : Obj) : ApW w m0 ra rcap rls ce (W.alloc o) := h.below ((Below.refl _ _).alloc (Nat.le_refl _) _)
theorem ApW.drew {w W : World} {m0 : Int} {ra : Option Addr} {rcap : Nat} {rls : List Lk} {ce : Array Value} (h : ApW w m0 ra rcap rls ce W) : ApW w m0 ra rcap rls ce W.drew := h.below (Below.refl _ _).drew
theorem ApW.next {w W W' : World} {m0 : Int} {ra : Option Addr} {rcap b : Nat} {rls : List Lk} {ce : Array Value} (h : ApW w m0 ra rcap rls ce W) (hd : DeckAt W b) (hb : w.heap.size + 2 ≤ b) (hg : W.grownBy W' (some b)) : ApW w m0 ra rcap rls ce W' :=
  ⟨grown_blk hg h.r (by intro e; have := Option.some.inj e; omega), grown_blk hg h.e (by intro e; have := Option.some.inj e; omega), h.row.grown' hg (fun g e hn => by cases e; exact off_deck (by decide) h.row hd hn)⟩
set_option maxRecDepth 100000 in
set_option maxHeartbeats 6400000 in
theorem apply_law (m0 : Int) (ra : Option Addr) (rlen rcap : Nat) (rls : List Lk) (e : Ev) (a : Option Addr) (len cap : Nat) (w : World) (hl : ListAt w a len) (hr : rlen ≤ 100 → rls.length = rlen ∧ RowAt encLk w (.slice ra rls.length rcap) rls) :
    Calls Try.prog 3 #[.agg #[.int .i64 m0, .slice ra rlen rcap], .agg e.cells, .slice a len cap] w fun e w' => e = .returned (.bool true) ∧ Below w.heap.size w w' := by
  have hb1 := (Below.refl w.heap.size w).alloc (Nat.le_refl _) (.cells #[.int .i64 m0, .slice ra rlen rcap] 24)
  have hb2 := (Below.refl _ (w.alloc (.cells #[.int .i64 m0, .slice ra rlen rcap] 24))).alloc (Nat.le_refl _) (.cells e.cells 26)
  have hR1 := lk_next hb2 (heap_alloc_new w (.cells #[.int .i64 m0, .slice ra rlen rcap] 24))
  have hE1 := heap_alloc_new (w.alloc (.cells #[.int .i64 m0, .slice ra rlen rcap] 24)) (.cells e.cells 26)
  have hz1 : (w.alloc (.cells #[.int .i64 m0, .slice ra rlen rcap] 24)).heap.size = w.heap.size + 1 := by simp
  have hz2 : ((w.alloc (.cells #[.int .i64 m0, .slice ra rlen rcap] 24)).alloc (.cells e.cells 26)).heap.size = w.heap.size + 2 := by simp
  rw [hz1] at hE1
  have hbw := hb1.trans (hb2.mono hb1.size)
  have hr9 : rlen ≤ 100 → rls.length = rlen ∧ RowAt encLk ((w.alloc (.cells #[.int .i64 m0, .slice ra rlen rcap] 24)).alloc (.cells e.cells 26)) (.slice ra rls.length rcap) rls := fun h => ⟨(hr h).1, (hr h).2.below hbw⟩
  have hl9 := hl.below hbw (Nat.le_refl _)
  clear hb1 hb2 hr hl hz1
  obtain ⟨k, t, u, v, wt, lb, sg⟩ := e
  unfold Ev.cells at hR1 hE1 hz2 hbw hr9 hl9 ⊢
  dsimp only at hR1 hE1 hz2 hbw hr9 hl9 ⊢
  obtain ⟨w1, hw1⟩ : ∃ W : World, (w.alloc (.cells #[.int .i64 m0, .slice ra rlen rcap] 24)).alloc (.cells #[.int .i64 k, .int .i64 t, .int .i64 u, .int .i64 v, .int .i64 wt, .int .i64 lb, .int .i64 sg] 26) = W := ⟨_, rfl⟩
  rw [hw1] at hR1 hE1 hz2 hbw hr9 hl9
  have hq1 := cell_blk (j := 1) hR1
  by_cases hlen : rlen ≤ 100
  case neg =>
    have d1 : decide ((rlen : Int) > 100) = true := decide_eq_true (by omega)
    have d2 : decide (rlen > 100) = true := decide_eq_true (by omega)
    have d3 : (100 : Int) < rlen := by omega
    go_enter Try.func3, Try.ntmps3
    go_upto_region 1 with fail
    try rw [hw1]
    go_wp2_with fail
    refine (awake05_any _).mono ?_
    rintro e w4 ⟨rfl, hb4⟩
    go_wp2_with fail
    go_ret
    exact ⟨rfl, hbw.trans (hb4.mono hbw.size)⟩
  obtain ⟨rfl, hr⟩ := hr9 hlen
  clear hr9
  have d1 : decide ((rls.length : Int) > 100) = false := decide_eq_false (by omega)
  have d3 : ¬ (100 : Int) < rls.length := by omega
  have hdk := deck_new (cap := cap) hl9
  have hA1 : ApW w m0 ra rcap rls #[.int .i64 k, .int .i64 t, .int .i64 u, .int .i64 v, .int .i64 wt, .int .i64 lb, .int .i64 sg] w1 := ⟨hR1, hE1, hr⟩
  have bD := (Below.refl _ w1).alloc (Nat.le_refl _) (.cells #[.slice a len cap, .int .i64 0] 66)
  have hA2 := hA1.below bD
  have hbw2 := hbw.trans (bD.mono hbw.size)
  have hzD : (w1.alloc (.cells #[.slice a len cap, .int .i64 0] 66)).heap.size = w1.heap.size + 1 := by simp
  have HZ2 := Lib.hid hz2
  have HZD := Lib.hid hzD
  clear hR1 hE1 hr hA1 hz2 hzD
  go_enter Try.func3, Try.ntmps3
  go_upto_region 1 with fail
  try rw [hw1]
  go_wp2_with (go_at_call 9; refine (new_any _ _ _ _).mono ?_; rintro e w' ⟨rfl, rfl⟩)
  refine (mkstate_any w1.heap.size 6 _ hdk (by omega) (by omega)).mono ?_
  rintro _ w3 ⟨n, ls, al, cl, rfl, hs3, hv, hn6, ht, hd3, hg3, ho3⟩
  have hz2 := HZ2.out
  have hzD := HZD.out
  have hA3 := hA2.next hdk (by omega) hg3
  have hz3 := hg3.size
  rw [hzD] at hz3
  have hb3 := hbw2.grown hg3 hbw2.size (fun g e => by cases e; omega)
  have bn := (Below.refl _ w3).alloc (Nat.le_refl _) (.cells #[.int .i64 n, .slice al ls.length cl] 24)
  have hK : ChW w w1.heap.size w3.heap.size n ls al cl (w3.alloc (.cells #[.int .i64 n, .slice al ls.length cl] 24)) :=
    ⟨hd3.alloc _, heap_alloc_new _ _, hs3.below bn, hb3.trans (bn.mono hb3.size), by omega, by omega⟩
  have hA4 := hA3.below bn
  have hlen2 : ls.length ≤ 100000 := by have := hv.length_le; omega
  have hb2 : w.heap.size + 2 ≤ w1.heap.size := by omega
  clear hdk bD hA2 hA3 hz3 hzD hz2 HZ2 HZD hbw2 hb3 bn hs3 hd3 hg3 ho3 hl9 hq1 hbw d1 d3 ht hv
  obtain ⟨b, hbb⟩ : ∃ b, w1.heap.size = b := ⟨_, rfl⟩
  obtain ⟨S, hSS⟩ : ∃ S, w3.heap.size = S := ⟨_, rfl⟩
  rw [hbb] at hK hb2
  rw [hSS] at hK
  try rw [hbb]
  go_upto_region 5 with fail
  try rw [hbb]
  try rw [hSS]
  clear hbb hSS hw1
  go_cut [9] from 37 to 41 (fun mv wx => ∃ (a1 : Option Addr) (c1 : Nat) (L1 : List Ev), mv = .slice a1 L1.length c1 ∧ RowAt encEv wx (.slice a1 L1.length c1) L1 ∧ L1.length ≤ 8 ∧ ChW w b S n ls al cl wx ∧ ApW w m0 ra rcap rls #[.int .i64 k, .int .i64 t, .int .i64 u, .int .i64 v, .int .i64 wt, .int .i64 lb, .int .i64 sg] wx)
  case first =>
    have x0 := hK.c0
    have hmx : 2 ≤ max 2 n ∧ max 2 n ≤ 64 := by omega
    go_wp2_with fail
    all_goals
      refine (mixed_any b _ 8 _ hK.d (by omega) (by omega) (by omega) (by omega)).mono ?_
      rintro _ w5 ⟨a1, c1, L1, rfl, hr5, -, hL8, hd5, hg5, -⟩
      have hK5 := hK.next hd5 hg5
      have hA5 := hA4.next hK.d hb2 hg5
      clear x0 hmx
      go_wp2_with fail
      go_meet
      exact ⟨a1, c1, L1, rfl, hr5, by omega, hK5, hA5⟩
  case rest =>
  obtain ⟨aE, cE, L1, rfl, hrE, hL8, hK5, hA5⟩ := hcut
  clear hK hA4
  have hcx : ∀ W : World, ChW w b S n ls al cl W → ApW w m0 ra rcap rls #[.int .i64 k, .int .i64 t, .int .i64 u, .int .i64 v, .int .i64 wt, .int .i64 lb, .int .i64 sg] W → (W.cell? ⟨S, 0, none⟩ = some (.int .i64 n) ∧ W.cell? ⟨S, 1, none⟩ = some (.slice al ls.length cl) ∧ W.cell? ⟨w.heap.size, 0, none⟩ = some (.int .i64 m0) ∧ W.cell? ⟨w.heap.size, 1, none⟩ = some (.slice ra rls.length rcap)) := fun W h1 h2 => ⟨h1.c0, h1.c1, cell_blk (j := 0) h2.r, cell_blk (j := 1) h2.r⟩
  have hKd := hK5.drew
  have hAd := hA5.drew
  have hrd := hrE.below (Below.refl _ _).drew
  have hsp := lspoilt_any b n al cl ls _ hKd.d hKd.r hlen2
  unfold LsPost at hsp
  go_upto_region 6 with fail
  go_region_held3 (fun w' => w'.cell? ⟨S, 0, none⟩ = some (.int .i64 n) ∧ w'.cell? ⟨S, 1, none⟩ = some (.slice al ls.length cl) ∧ w'.cell? ⟨w.heap.size, 0, none⟩ = some (.int .i64 m0) ∧ w'.cell? ⟨w.heap.size, 1, none⟩ = some (.slice ra rls.length rcap))
    (first
      | exact hcx _ (hK6.alloc _) (hA6.alloc _)
      | exact hcx _ hK6 hA6
      | exact hcx _ hKd hAd)
    (first
      | (go_at_call 12; (with_reducible refine hsp.mono ?_); rintro _ w6 ⟨n2, l2, a2, c2, rfl, hr6, hd6, hg6, -, hl6⟩; have hK6 := hKd.next hd6 hg6; have hA6 := hAd.next hKd.d hb2 hg6; have hrE6 := hrd.grown' hg6 (fun g e hn => by cases e; exact off_deck (by decide) hrd hKd.d hn)))
  go_wp2_with fail
  have bL := (Below.refl _ w6).alloc (Nat.le_refl _) (.cells #[.int .i64 n, .slice al ls.length cl, .int .i64 m0, .slice ra rls.length rcap, .int .i64 n2, .slice a2 l2.length c2] 24)
  have hLB := heap_alloc_new w6 (.cells #[.int .i64 n, .slice al ls.length cl, .int .i64 m0, .slice ra rls.length rcap, .int .i64 n2, .slice a2 l2.length c2] 24)
  have hKL := hK6.alloc (.cells #[.int .i64 n, .slice al ls.length cl, .int .i64 m0, .slice ra rls.length rcap, .int .i64 n2, .slice a2 l2.length c2] 24)
  have hAL := hA6.alloc (.cells #[.int .i64 n, .slice al ls.length cl, .int .i64 m0, .slice ra rls.length rcap, .int .i64 n2, .slice a2 l2.length c2] 24)
  have hrEL := hrE6.below bL
  have hrL := hr6.below bL
  obtain ⟨wL, hwL⟩ : ∃ W : World, W = w6.alloc (.cells #[.int .i64 n, .slice al ls.length cl, .int .i64 m0, .slice ra rls.length rcap, .int .i64 n2, .slice a2 l2.length c2] 24) := ⟨_, rfl⟩
  obtain ⟨L, hLL⟩ : ∃ L, w6.heap.size = L := ⟨_, rfl⟩
  rw [hLL] at hLB
  rw [← hwL] at hLB hKL hAL hrEL hrL ⊢
  try rw [hLL]
  clear hwL hLL hK5 hA5 hKd hAd hrd hsp hcx bL hK6 hA6 hrE6 hr6 hd6 hg6 hrE
  go_loopw [49] (fun vi wr => ∃ i : Nat, i ≤ 3 ∧ vi = .int .i64 i ∧ Below wL.heap.size wL wr) (fun vi _ => 3 - (intOf vi).toNat)
  case atStart => exact ⟨0, Nat.zero_le _, rfl, Below.refl _ _⟩
  case round =>
    obtain ⟨i, hi3, rfl, hbr⟩ := hrel
    by_cases hlt : i < 3
    · have hlt3 : (i : Int) < 3 := by omega
      have hlt4 : decide ((i : Int) < 3) = true := decide_eq_true hlt3
      obtain ⟨m, lst, aS, cS, c0, c1, hS⟩ : ∃ (m : Int) (lst : List Lk) (aS : Option Addr) (cS : Nat), wr.cell? ⟨L, i * 2, none⟩ = some (.int .i64 m) ∧ wr.cell? ⟨L, i * 2 + 1, none⟩ = some (.slice aS lst.length cS) ∧ RowAt encLk wr (.slice aS lst.length cS) lst := by
        obtain ⟨k0, k1, k2, k3, k4, k5⟩ := cells6b (lk_next hbr hLB)
        rcases (by omega : i = 0 ∨ i = 1 ∨ i = 2) with rfl | rfl | rfl
        · exact ⟨_, _, _, _, k0, k1, hKL.r.below hbr⟩
        · exact ⟨_, _, _, _, k2, k3, hAL.row.below hbr⟩
        · exact ⟨_, _, _, _, k4, k5, hrL.below hbr⟩
      have hP := heap_alloc_new wr (.cells #[.int .i64 m, .slice aS lst.length cS] 24)
      have bP := (Below.refl _ wr).alloc (Nat.le_refl _) (.cells #[.int .i64 m, .slice aS lst.length cS] 24)
      have hA := (hAL.below hbr).below bP
      have hEr := (hrEL.below hbr).below bP
      have hS9 := hS.below bP
      have hbA := hbr.trans (bP.mono hbr.size)
      go_upto_region 9 with fail
      obtain ⟨wE, hwE⟩ : ∃ W : World, W = wr.alloc (.cells #[.int .i64 m, .slice aS lst.length cS] 24) := ⟨_, rfl⟩
      obtain ⟨Q, hQ⟩ : ∃ Q, wr.heap.size = Q := ⟨_, rfl⟩
      rw [hQ] at hP
      rw [← hwE] at hP hA hEr hS9 hbA ⊢
      try rw [hQ]
      clear hwE hQ hS bP c0 c1 hbr
      have xt : ∀ (g j : Nat) (v : Value), wE.cell? ⟨g, j, none⟩ = some v → ∀ z : Ext wE.heap.size wE, z.world.cell? ⟨g, j, none⟩ = some v := fun g j v h z => (z.below.cell (p := ⟨g, j, none⟩) (cell_lt h)).trans h
      have k0 := xt _ _ _ (cell_blk (j := 0) hP)
      have k1 := xt _ _ _ (cell_blk (j := 1) hP)
      have hC1 := fun z : Ext wE.heap.size wE => lcheck_any m aS cS lst z.world (hS9.below z.below)
      have hC2 := fun z : Ext wE.heap.size wE => rcheck05_any m aS cS lst z.world (hS9.below z.below)
      obtain ⟨Z, hZ⟩ : ∃ Z, stS m lst = Z := ⟨_, rfl⟩
      rw [hZ] at hC1 hC2
      clear xt hZ
      refine wp_region_ext wE.heap.size wE (by kernel_rfl) (by kernel_rfl) (Below.refl _ _) ?_
      try simp only [List.append_eq, List.cons_append, List.nil_append]
      repeat (any_goals (go_big_quiet_step (first | (go_at_call 13; exact Calls.ext_of (Nat.le_refl _) (hC1 _)) | (go_at_call 14; exact Calls.ext_of (Nat.le_refl _) (hC2 _)))))
      refine wpQuiet_nil ?_
      rintro wq ⟨⟨_, hq⟩, rfl⟩
      have hAq := hA.below hq
      have hEq := hEr.below hq
      have hSq := hS9.below hq
      have hPq := lk_next hq hP
      have hbq := hbA.trans (hq.mono hbA.size)
      clear k0 k1 hC1 hC2 hA hEr hS9 hP hbA hq
      obtain ⟨p0, p1, p2, p3, p4, p5, p6⟩ := lk_cells7 hAq.e
      have blit := (Below.refl _ wq).alloc (Nat.le_refl _) (.cells #[.int .i64 k, .int .i64 t, .int .i64 u, .int .i64 v, .int .i64 wt, .int .i64 lb, .int .i64 sg] 26)
      have hlit := World.ownsRow_lit (base := wq.heap.size) (e := 26) (size := 7) wq #[.int .i64 k, .int .i64 t, .int .i64 u, .int .i64 v, .int .i64 wt, .int .i64 lb, .int .i64 sg] 1 (Nat.le_refl _) (by decide) rfl
      have hEl := hEq.below blit
      have hfl : flatR encEv [(⟨k, t, u, v, wt, lb, sg⟩ : Ev)] = (#[.int .i64 k, .int .i64 t, .int .i64 u, .int .i64 v, .int .i64 wt, .int .i64 lb, .int .i64 sg] : Array Value).toList := by rw [flatR_one]; rfl
      have hlx : (1 + L1.length) * 56 ≤ 140737488355328 := by omega
      go_wp2_with (at_builtin; refine wpList_app_rows_at' evRT rfl _ _ rfl wq.heap.size (.slice (some ⟨wq.heap.size, 0, none⟩) 1 1) _ [(⟨k, t, u, v, wt, lb, sg⟩ : Ev)] L1 rfl (by rw [hfl]; exact hlit) rfl (by exact hEl) (by simp; omega) (by simp; omega) (by exact blit.size) ?_; intro v6 w7 hown hg7 hat7; obtain ⟨EL, hEL⟩ : ∃ l, [(⟨k, t, u, v, wt, lb, sg⟩ : Ev)] ++ L1 = l := ⟨_, rfl⟩; rw [hEL] at hown; obtain ⟨aL, cL, rfl⟩ := owns_shape hown)
      have hEn : EL.length ≤ 9 := by rw [← hEL]; simp; omega
      obtain ⟨_, _, hvv, hEL7, -⟩ := RowAt.of_owns hown (by omega)
      obtain ⟨rfl, -, rfl⟩ := Value.slice.inj hvv
      clear hvv
      have b7 : Below wq.heap.size wq w7 := blit.grown hg7 blit.size (fun g e => by cases e; exact Nat.le_refl _)
      have hA7 := hAq.below b7
      have hE7 := hEq.below b7
      have hS7 := hSq.below b7
      have hP7 := lk_next b7 hPq
      have hb7 := hbq.trans (b7.mono hbq.size)
      clear hlx hEL hown hg7 hat7 blit hlit hEl hfl p0 p1 p2 p3 p4 p5 p6 hAq hEq hSq hPq hbq b7
      go_wp2_with fail
      go_loopw [63] (fun vi wx => ∃ j : Nat, j ≤ EL.length ∧ vi = .int .i64 j ∧ Below w7.heap.size w7 wx) (fun vi _ => EL.length - (intOf vi).toNat)
      case atStart => exact ⟨0, Nat.zero_le _, rfl, Below.refl _ _⟩
      case round =>
        obtain ⟨j, hj, rfl, hbj⟩ := hrel
        have hAj := hA7.below hbj
        have hSj := hS7.below hbj
        have hPj := lk_next hbj hP7
        have hEj := hE7.below hbj
        have hELj := hEL7.below hbj
        have hb0j := hb7.trans (hbj.mono hb7.size)
        by_cases hjl : j < EL.length
        · --DEV<A
          have hjl3 : (j : Int) < EL.length := by omega
          obtain ⟨bb, off, x, rfl, hx, hcap, c0, c1, c2, c3, c4, c5, c6⟩ := ev_at hELj j hjl
          have bx := (Below.refl _ wr).alloc (Nat.le_refl _) (.cells x.cells 26)
          have hX := heap_alloc_new wr (.cells x.cells 26)
          have hS1 := hSj.below bx
          have hP1 := lk_next bx hPj
          have h1 := lapply_any m x lst aS cS _ hS1
          have hrt := fun W h => rapply05_any m x lst aS cS W h
          obtain ⟨⟨⟨rn, rl⟩, rc, re⟩, hR⟩ : ∃ R, appX m lst x = R := ⟨_, rfl⟩
          rw [hR] at h1 hrt
          unfold AppPost at h1 hrt
          dsimp only at h1 hrt
          obtain ⟨xk, xt, xu, xv, xw, xl, xs⟩ := x
          unfold Ev.cells at h1 hrt bx hX hS1 hP1
          dsimp only at h1 hrt bx hX hS1 hP1 c0 c1 c2 c3 c4 c5 c6
          obtain ⟨e0, e1, e2, e3, e4, e5, e6⟩ := lk_cells7 hX
          have x0 := cell_blk (j := 0) hP1
          have x1 := cell_blk (j := 1) hP1
          clear hx hR
          go_wp2_with fail
          refine h1.mono ?_
          rintro _ w8 ⟨a1, k1, a3, k3, rfl, hr1, hr3, -, -, hb8⟩
          have bn := (Below.refl _ w8).alloc (Nat.le_refl _) (.cells #[.int .i64 rn, .slice a1 rl.length k1] 24)
          have b8n := hb8.trans (bn.mono hb8.size)
          have hX8 := lk_next b8n hX
          have hP8 := lk_next b8n hP1
          have hS8 := hS1.below b8n
          have hr18 := hr1.below bn
          have hr38 := hr3.below bn
          have hT8 := heap_alloc_new w8 (.cells #[.int .i64 rn, .slice a1 rl.length k1] 24)
          have hbx8 := (bx.trans (b8n.mono bx.size))
          clear h1 e0 e1 e2 e3 e4 e5 e6 x0 x1 c0 c1 c2 c3 c4 c5 c6 hX hP1 hS1 hr1 hr3 hb8 bn b8n bx
          obtain ⟨e0, e1, e2, e3, e4, e5, e6⟩ := lk_cells7 hX8
          have x0 := cell_blk (j := 0) hP8
          have x1 := cell_blk (j := 1) hP8
          have h2 := hrt _ hS8
          go_wp2_with fail
          refine h2.mono ?_
          rintro _ w9 ⟨a4, k4, a5, k5, rfl, hr4, hr5, -, -, hb9⟩
          have bn := (Below.refl _ w9).alloc (Nat.le_refl _) (.cells #[.int .i64 rn, .slice a4 rl.length k4] 24)
          have b9n := hb9.trans (bn.mono hb9.size)
          have hr49 := hr4.below bn
          have hr59 := hr5.below bn
          have hr19 := hr18.below b9n
          have hr39 := hr38.below b9n
          have hT9 := lk_next b9n hT8
          have hU9 := heap_alloc_new w9 (.cells #[.int .i64 rn, .slice a4 rl.length k4] 24)
          have hbx9 := hbx8.trans (b9n.mono hbx8.size)
          have hsm := rsame05_any rn rn a1 a4 k1 k4 rl rl _ hr19 hr49
          rw [show decide (rn = rn ∧ rl = rl) = true by simp] at hsm
          clear h2 hrt e0 e1 e2 e3 e4 e5 e6 x0 x1 hX8 hP8 hS8 hr18 hr38 hT8 hr4 hr5 hb9 bn b9n hbx8
          have y0 := cell_blk (j := 0) hT9
          have y1 := cell_blk (j := 1) hT9
          have z0 := cell_blk (j := 0) hU9
          have z1 := cell_blk (j := 1) hU9
          go_wp2_with fail
          refine hsm.mono ?_
          rintro _ w10 ⟨rfl, hb10⟩
          have hr310 := hr39.below hb10
          have hr510 := hr59.below hb10
          have hbx10 := hbx9.trans (hb10.mono hbx9.size)
          clear hsm y0 y1 z0 z1 hT9 hU9 hr49 hr19 hr39 hr59 hb10 hbx9
          go_wp2_with fail
          refine (evsame_eq rc a3 a5 k3 k5 _ hr310 hr510).mono ?_
          rintro _ w11 ⟨rfl, hb11⟩
          have hbx11 := hbx10.trans (hb11.mono hbx10.size)
          go_wp2_with fail
          go_roundw
          case rel => exact ⟨j + 1, by omega, by go_num, hbj.trans (hbx11.mono hbj.size)⟩
          case measure => simp [intOf]; omega
          --DEV>
        · obtain rfl : j = EL.length := by omega
          have hjl3 : ¬ ((EL.length : Int) < EL.length) := by omega
          clear hEL7 hELj hE7 hA7 hS7 hP7 hb7 hbj hEn
          obtain ⟨p0, p1, p2, p3, p4, p5, p6⟩ := lk_cells7 hAj.e
          have blit := (Below.refl _ wr).alloc (Nat.le_refl _) (.cells #[.int .i64 k, .int .i64 t, .int .i64 u, .int .i64 v, .int .i64 wt, .int .i64 lb, .int .i64 sg] 26)
          have hlit := World.ownsRow_lit (base := wr.heap.size) (e := 26) (size := 7) wr #[.int .i64 k, .int .i64 t, .int .i64 u, .int .i64 v, .int .i64 wt, .int .i64 lb, .int .i64 sg] 1 (Nat.le_refl _) (by decide) rfl
          have hEl := hEj.below blit
          have hfl : flatR encEv [(⟨k, t, u, v, wt, lb, sg⟩ : Ev)] = (#[.int .i64 k, .int .i64 t, .int .i64 u, .int .i64 v, .int .i64 wt, .int .i64 lb, .int .i64 sg] : Array Value).toList := by rw [flatR_one]; rfl
          have hlx : (1 + L1.length) * 56 ≤ 140737488355328 := by omega
          go_wp2_with (at_builtin; refine wpList_app_rows_at' evRT rfl _ _ rfl wr.heap.size (.slice (some ⟨wr.heap.size, 0, none⟩) 1 1) _ [(⟨k, t, u, v, wt, lb, sg⟩ : Ev)] L1 rfl (by rw [hfl]; exact hlit) rfl (by exact hEl) (by simp; omega) (by simp; omega) (by exact blit.size) ?_; intro v6 w7 hown hg7 hat7; obtain ⟨EL, hEL⟩ : ∃ l, [(⟨k, t, u, v, wt, lb, sg⟩ : Ev)] ++ L1 = l := ⟨_, rfl⟩; rw [hEL] at hown; obtain ⟨aL, cL, rfl⟩ := owns_shape hown)
          have hEn : EL.length ≤ 9 := by rw [← hEL]; simp; omega
          obtain ⟨_, _, hvv, hEL7, -⟩ := RowAt.of_owns hown (by omega)
          obtain ⟨rfl, -, rfl⟩ := Value.slice.inj hvv
          clear hvv
          have b7 : Below wr.heap.size wr w7 := blit.grown hg7 blit.size (fun g e => by cases e; exact Nat.le_refl _)
          have bB := (Below.refl _ w7).alloc (Nat.le_refl _) (.cells #[.slice none 0 0, .slice aE L1.length cE, .slice aL EL.length cL] 32)
          have b7B := b7.trans (bB.mono b7.size)
          have hEB := hEj.below b7B
          have hSB := hSj.below b7B
          have hPB := lk_next b7B hPj
          have hELB := hEL7.below bB
          have hB := heap_alloc_new w7 (.cells #[.slice none 0 0, .slice aE L1.length cE, .slice aL EL.length cL] 32)
          have hbB := hb0j.trans (b7B.mono hb0j.size)
          clear hlx hEL hown hg7 hat7 blit hlit hEl hfl p0 p1 p2 p3 p4 p5 p6 hEL7 b7 bB b7B hEj hAj hSj hPj hb0j
          go_wp2_with fail
          obtain ⟨wB, hwB⟩ : ∃ W : World, W = w7.alloc (.cells #[.slice none 0 0, .slice aE L1.length cE, .slice aL EL.length cL] 32) := ⟨_, rfl⟩
          obtain ⟨B, hBB⟩ : ∃ B, w7.heap.size = B := ⟨_, rfl⟩
          rw [hBB] at hB
          rw [← hwB] at hB hEB hSB hPB hELB hbB ⊢
          try rw [hBB]
          clear hwB hBB
          go_loopw [104] (fun vi wx => ∃ q : Nat, q ≤ 3 ∧ vi = .int .i64 q ∧ Below wB.heap.size wB wx) (fun vi _ => 3 - (intOf vi).toNat)
          case atStart => exact ⟨0, Nat.zero_le _, rfl, Below.refl _ _⟩
          case round =>
            obtain ⟨q, hq3, rfl, hbq⟩ := hrel
            have hSq := hSB.below hbq
            have hPq := lk_next hbq hPB
            by_cases hql : q < 3
            · have hql3 : (q : Int) < 3 := by omega
              have hql4 : decide ((q : Int) < 3) = true := decide_eq_true hql3
              obtain ⟨es, ae, ce, c0, hes⟩ : ∃ (es : List Ev) (ae : Option Addr) (ce : Nat), wr.cell? ⟨B, q, none⟩ = some (.slice ae es.length ce) ∧ RowAt encEv wr (.slice ae es.length ce) es := by
                have hBq := lk_next hbq hB
                rcases (by omega : q = 0 ∨ q = 1 ∨ q = 2) with rfl | rfl | rfl
                · exact ⟨[], none, 0, cell_blk (j := 0) hBq, RowAt.nil _⟩
                · exact ⟨_, _, _, cell_blk (j := 1) hBq, hEB.below hbq⟩
                · exact ⟨_, _, _, cell_blk (j := 2) hBq, hELB.below hbq⟩
              have h1 := lall_any m es lst aS ae cS ce _ hSq hes
              have hrt := fun W h h' => rall05_any m es lst aS ae cS ce W h h'
              obtain ⟨⟨⟨rn, rl⟩, rc, re⟩, hR⟩ : ∃ R, allX m lst es = R := ⟨_, rfl⟩
              rw [hR] at h1 hrt
              unfold AllPost at h1
              unfold RAllPost at hrt
              dsimp only at h1 hrt
              have x0 := cell_blk (j := 0) hPq
              have x1 := cell_blk (j := 1) hPq
              clear hR
              go_wp2_with fail
              refine h1.mono ?_
              rintro _ w8 ⟨a1, k1, rfl, hr1, -, hb8⟩
              have bn := (Below.refl _ w8).alloc (Nat.le_refl _) (.cells #[.int .i64 rn, .slice a1 rl.length k1] 24)
              have b8n := hb8.trans (bn.mono hb8.size)
              have hP8 := lk_next b8n hPq
              have hS8 := hSq.below b8n
              have hes8 := hes.below b8n
              have hr18 := hr1.below bn
              have hT8 := heap_alloc_new w8 (.cells #[.int .i64 rn, .slice a1 rl.length k1] 24)
              have hbx8 := hbq.trans (b8n.mono hbq.size)
              clear h1 x0 x1 c0 hr1 hb8 bn b8n hes
              have x0 := cell_blk (j := 0) hP8
              have x1 := cell_blk (j := 1) hP8
              have h2 := hrt _ hS8 hes8
              go_wp2_with fail
              refine h2.mono ?_
              rintro _ w9 ⟨a4, k4, rfl, hr4, hb9⟩
              have bn := (Below.refl _ w9).alloc (Nat.le_refl _) (.cells #[.int .i64 rn, .slice a4 rl.length k4] 24)
              have b9n := hb9.trans (bn.mono hb9.size)
              have hr49 := hr4.below bn
              have hr19 := hr18.below b9n
              have hT9 := lk_next b9n hT8
              have hU9 := heap_alloc_new w9 (.cells #[.int .i64 rn, .slice a4 rl.length k4] 24)
              have hbx9 := hbx8.trans (b9n.mono hbx8.size)
              have hsm := rsame05_any rn rn a1 a4 k1 k4 rl rl _ hr19 hr49
              rw [show decide (rn = rn ∧ rl = rl) = true by simp] at hsm
              clear h2 hrt x0 x1 hP8 hS8 hes8 hr18 hT8 hr4 hb9 bn b9n hbx8
              have y0 := cell_blk (j := 0) hT9
              have y1 := cell_blk (j := 1) hT9
              have z0 := cell_blk (j := 0) hU9
              have z1 := cell_blk (j := 1) hU9
              go_wp2_with fail
              refine hsm.mono ?_
              rintro _ w10 ⟨rfl, hb10⟩
              have hbx10 := hbx9.trans (hb10.mono hbx9.size)
              clear hsm y0 y1 z0 z1 hT9 hU9 hr49 hr19 hb10 hbx9
              go_wp2_with fail
              go_roundw
              case rel => exact ⟨q + 1, by omega, by go_num, hbx10⟩
              case measure => simp [intOf]; omega
            · obtain rfl : q = 3 := by omega
              have hend := hbB.trans (hbq.mono hbB.size)
              clear hSq hPq hB hEB hSB hPB hELB hbB hbq
              go_wp2_with fail
              go_roundw
              case rel =>
                first | exact ⟨i + 1, by omega, by go_num, hend⟩ | ((repeat apply Exists.intro); exact ⟨⟨i + 1, by omega, by go_num, hend⟩, rfl⟩)
              case measure => simp [intOf]; omega
    · obtain rfl : i = 3 := by omega
      have hbe := hKL.be.trans (hbr.mono hKL.be.size)
      clear hKL hAL hrEL hrL hLB hbr
      go_wp2_with fail
      refine (awake05_any _).mono ?_
      rintro _ w13 ⟨rfl, hb13⟩
      go_wp2_with fail
      go_ret
      exact ⟨rfl, hbe.trans (hb13.mono hbe.size)⟩
end Go.Proofs.Ytkadeibinhkbjaa
