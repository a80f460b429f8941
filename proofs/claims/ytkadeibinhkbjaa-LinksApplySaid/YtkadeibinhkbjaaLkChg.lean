/- The walk of the law LinksChanges. -/
import Derived.Test.YtkadeibinhkbjaaLkChgP
import Derived.Test.YtkadeibinhkbjaaLkAwake
import Derived.Test.YtkadeibinhkbjaaLkSame
import Derived.Test.YtkadeibinhkbjaaMkState
import Derived.Test.YtkadeibinhkbjaaMkEvent
namespace Go.Proofs.Ytkadeibinhkbjaa
open Go.RowKit Go.BigFrame

theorem Below.toGrown {w w' : World} (h : Below w.heap.size w w') : w.grownBy w' none := ⟨h.os, h.tape, h.output, h.size, fun k hk _ => h.block k hk⟩
theorem DeckAt.below {w w' : World} {b : Nat} (h : DeckAt w b) (hb : Below w.heap.size w w') : DeckAt w' b := h.kept (Below.toGrown hb) (fun _ e => by cases e)
theorem off_two {α : Type} {E : Enc α} {w : World} {a : Option Addr} {cap g T n : Nat} {xs : List α} {x y : Value} (hk : 2 < E.k) (h : RowAt E w (.slice a xs.length cap) xs) (hb : w.heap[g]? = some (.cells #[x, y] T (0, 0))) (hn : 0 < xs.length) : Off g (.slice a n cap) := fun _ _ p hp => row_off hk h hn hb p (Value.slice.inj hp).1
theorem off_deck {α : Type} {E : Enc α} {w : World} {a : Option Addr} {cap b n : Nat} {xs : List α} (hk : 2 < E.k) (h : RowAt E w (.slice a xs.length cap) xs) (hd : DeckAt w b) (hn : 0 < xs.length) : Off b (.slice a n cap) := by
  obtain ⟨_, _, _, _, hb, _⟩ := hd
  exact off_two hk h hb hn
/-- a state in a box, and a deck -/
structure ChW (w0 : World) (b S : Nat) (n : Int) (ls : List Lk) (al : Option Addr) (cl : Nat) (W : World) : Prop where
  d : DeckAt W b
  x : W.heap[S]? = some (.cells #[.int .i64 n, .slice al ls.length cl] 24 (0, 0))
  r : RowAt encLk W (.slice al ls.length cl) ls
  be : Below w0.heap.size w0 W
  bS : b < S
  wb : w0.heap.size ≤ b
section
variable {w0 W W' : World} {b S : Nat} {n : Int} {ls : List Lk} {al : Option Addr} {cl : Nat}
theorem ChW.below (h : ChW w0 b S n ls al cl W) (hb : Below W.heap.size W W') : ChW w0 b S n ls al cl W' :=
  ⟨h.d.below hb, lk_next hb h.x, h.r.below hb, h.be.trans (hb.mono h.be.size), h.bS, h.wb⟩
theorem ChW.alloc (h : ChW w0 b S n ls al cl W) (o : Obj) : ChW w0 b S n ls al cl (W.alloc o) := h.below ((Below.refl _ _).alloc (Nat.le_refl _) _)
theorem ChW.drew (h : ChW w0 b S n ls al cl W) : ChW w0 b S n ls al cl W.drew := h.below (Below.refl _ _).drew
theorem ChW.next (h : ChW w0 b S n ls al cl W) (hd : DeckAt W' b) (hg : W.grownBy W' (some b)) : ChW w0 b S n ls al cl W' :=
  ⟨hd, grown_blk hg h.x (fun e => by have := Option.some.inj e; have := h.bS; omega), h.r.grown' hg (fun g e hn => by cases e; exact off_deck (by decide) h.r h.d hn), h.be.grown hg h.be.size (fun k e => by cases e; exact h.wb), h.bS, h.wb⟩
theorem ChW.c0 (h : ChW w0 b S n ls al cl W) : W.cell? ⟨S, 0, none⟩ = some (.int .i64 n) := cell_blk (j := 0) h.x
theorem ChW.c1 (h : ChW w0 b S n ls al cl W) : W.cell? ⟨S, 1, none⟩ = some (.slice al ls.length cl) := cell_blk (j := 1) h.x
/-- a box that is no part of this is stored to -/
theorem ChW.other {g T : Nat} {x y u v : Value} (h : ChW w0 b S n ls al cl W) (hg : W.heap[g]? = some (.cells #[x, y] T (0, 0))) (hS : S < g) : ChW w0 b S n ls al cl ((W.setCell ⟨g, 0, none⟩ u).setCell ⟨g, 1, none⟩ v) := by
  have hgr : W.grownBy ((W.setCell ⟨g, 0, none⟩ u).setCell ⟨g, 1, none⟩ v) (some g) := grown_trans grown_lk grown_lk
  have := h.bS
  have := h.wb
  exact ⟨h.d.kept hgr (fun g e => by cases e; omega), grown_blk hgr h.x (by intro e; have := Option.some.inj e; omega), h.r.grown' hgr (fun g e hn => by cases e; exact off_two (by decide) h.r hg hn), h.be.grown hgr h.be.size (fun k e => by cases e; omega), h.bS, h.wb⟩
/-- another state is put into the box -/
theorem ChW.put {L : List Lk} {a1 : Option Addr} {c1 : Nat} (h : ChW w0 b S n ls al cl W) (hr : RowAt encLk W (.slice a1 L.length c1) L) :
    ChW w0 b S n L a1 c1 ((W.setCell ⟨S, 0, none⟩ (.int .i64 n)).setCell ⟨S, 1, none⟩ (.slice a1 L.length c1)) := by
  have hg : W.grownBy ((W.setCell ⟨S, 0, none⟩ (.int .i64 n)).setCell ⟨S, 1, none⟩ (.slice a1 L.length c1)) (some S) := grown_trans grown_lk grown_lk
  have := h.bS
  exact ⟨h.d.kept hg (fun g e => by cases e; exact h.bS), set_two h.x, hr.grown' hg (fun g e hn => by cases e; exact off_two (by decide) hr h.x hn), h.be.grown hg h.be.size (fun k e => by cases e; have := h.wb; omega), h.bS, h.wb⟩
theorem ChW.outA {L : List Lk} {C : List Ev} {a1 a2 : Option Addr} {c1 c2 : Nat} (h : ChW w0 b S n ls al cl W) (h1 : RowAt encLk W (.slice a1 L.length c1) L) (h2 : RowAt encEv W (.slice a2 C.length c2) C) :
    ChW w0 b S n ls al cl (W.alloc (.cells #[.int .i64 n, .slice a1 L.length c1] 24)) ∧ RowAt encEv (W.alloc (.cells #[.int .i64 n, .slice a1 L.length c1] 24)) (.slice a2 C.length c2) C ∧ ChW w0 b W.heap.size n L a1 c1 (W.alloc (.cells #[.int .i64 n, .slice a1 L.length c1] 24)) ∧ S < W.heap.size := by
  have bn := (Below.refl _ W).alloc (Nat.le_refl _) (.cells #[.int .i64 n, .slice a1 L.length c1] 24)
  exact ⟨h.alloc _, h2.below bn, ⟨h.d.alloc _, heap_alloc_new _ _, h1.below bn, (h.alloc _).be, h.d.lt, h.wb⟩, blk_lt h.x⟩
theorem ChW.outB {L : List Lk} {C : List Ev} {a1 a2 : Option Addr} {c1 c2 g : Nat} {x y : Value} (h : ChW w0 b S n ls al cl W) (hZ : W.heap[g]? = some (.cells #[x, y] 24 (0, 0))) (hS : S < g) (h1 : RowAt encLk W (.slice a1 L.length c1) L) (h2 : RowAt encEv W (.slice a2 C.length c2) C) :
    ChW w0 b S n ls al cl ((W.setCell ⟨g, 0, none⟩ (.int .i64 n)).setCell ⟨g, 1, none⟩ (.slice a1 L.length c1)) ∧ RowAt encEv ((W.setCell ⟨g, 0, none⟩ (.int .i64 n)).setCell ⟨g, 1, none⟩ (.slice a1 L.length c1)) (.slice a2 C.length c2) C ∧ ChW w0 b g n L a1 c1 ((W.setCell ⟨g, 0, none⟩ (.int .i64 n)).setCell ⟨g, 1, none⟩ (.slice a1 L.length c1)) ∧ S < g := by
  have hgr : W.grownBy ((W.setCell ⟨g, 0, none⟩ (.int .i64 n)).setCell ⟨g, 1, none⟩ (.slice a1 L.length c1)) (some g) := grown_trans grown_lk grown_lk
  have ho := h.other (u := .int .i64 n) (v := .slice a1 L.length c1) hZ hS
  have := h.bS
  exact ⟨ho, h2.grown' hgr (fun g e hn => by cases e; exact off_two (by decide) h2 hZ hn), ⟨ho.d, set_two hZ, h1.grown' hgr (fun g e hn => by cases e; exact off_two (by decide) h1 hZ hn), ho.be, by omega, h.wb⟩, hS⟩
end
theorem fit_of {n : Int} {e : Ev} (h : evS e = 0) (hu : e.u < n) (hv : e.v < n) : fitS n e = 0 := by
  unfold fitS
  rw [if_neg (by simp [h]), if_neg (by omega)]
/-- Apply of an event that fits -/
theorem chg_app {w0 W : World} {b S : Nat} {n : Int} {ls : List Lk} {al : Option Addr} {cl : Nat} {e : Ev} (hv : VSt n ls) (hf : fitS n e = 0) (h : ChW w0 b S n ls al cl W) :
    Calls Try.prog 15 #[.agg #[.int .i64 n, .slice al ls.length cl], .agg e.cells] W fun x w' =>
      ∃ a1 c1 a2 c2, x = .returned (.tuple #[.agg #[.int .i64 n, .slice a1 (stepL e ls).length c1], .slice a2 (stepC e ls).length c2, .int .i64 0]) ∧ RowAt encLk w' (.slice a1 (stepL e ls).length c1) (stepL e ls) ∧ RowAt encEv w' (.slice a2 (stepC e ls).length c2) (stepC e ls) ∧ (∀ p, a1 = some p → W.heap.size ≤ p.block) ∧ (∀ p, a2 = some p → W.heap.size ≤ p.block) ∧ Below W.heap.size W w' := by
  have h1 := lapply_any n e ls al cl W h.r
  rw [show appX n ls e = ((n, stepL e ls), stepC e ls, 0) by unfold appX; rw [if_neg (by simp [(stS_iff n ls).2 hv]), if_neg (by simp [hf])]] at h1
  exact h1
set_option maxRecDepth 100000 in
set_option maxHeartbeats 6400000 in
theorem chg_law (a : Option Addr) (len cap : Nat) (w : World) (hl : ListAt w a len) :
    Calls Try.prog 4 #[.slice a len cap] w fun e w' => e = .returned (.bool true) ∧ Below w.heap.size w w' := by
  have hdk := deck_new (cap := cap) hl
  have hb1 : Below w.heap.size w (w.alloc (.cells #[.slice a len cap, .int .i64 0] 66)) := (Below.refl _ _).alloc (Nat.le_refl _) _
  go_enter Try.func4, Try.ntmps4
  go_wp2_with (go_at_call 9; refine (new_any _ _ _ _).mono ?_; rintro e w' ⟨rfl, rfl⟩)
  refine (mkstate_any w.heap.size 7 _ hdk (by omega) (by omega)).mono ?_
  rintro _ w2 ⟨n, ls, al, cl, rfl, hr2, hv, hn7, ht, hd2, hg2, ho2⟩
  have hz1 : (w.alloc (.cells #[.slice a len cap, .int .i64 0] 66)).heap.size = w.heap.size + 1 := by simp
  have hz2 := hg2.size
  rw [hz1] at hz2
  have hb2 := hb1.grown hg2 hb1.size (fun g e => by cases e; exact Nat.le_refl _)
  have bn := (Below.refl _ w2).alloc (Nat.le_refl _) (.cells #[.int .i64 n, .slice al ls.length cl] 24)
  have hK : ChW w w.heap.size w2.heap.size n ls al cl (w2.alloc (.cells #[.int .i64 n, .slice al ls.length cl] 24)) :=
    ⟨hd2.alloc _, heap_alloc_new _ _, hr2.below bn, hb2.trans (bn.mono hb2.size), by omega, Nat.le_refl _⟩
  clear hdk hb1 hr2 hd2 hg2 ho2 hz1 hz2 hb2 bn ht
  have x0 := hK.c0
  by_cases hn2 : n < 2
  · go_wp2_with fail
    refine (awake05_any _).mono ?_
    rintro e w3 ⟨rfl, hb4⟩
    go_wp2_with fail
    go_ret
    exact ⟨rfl, hK.be.trans (hb4.mono hK.be.size)⟩
  go_wp2_with fail
  obtain ⟨S, hSS⟩ : ∃ S, w2.heap.size = S := ⟨_, rfl⟩
  rw [hSS] at hK
  try rw [hSS]
  obtain ⟨w3, hw3⟩ : ∃ W : World, W = w2.alloc (.cells #[.int .i64 n, .slice al ls.length cl] 24) := ⟨_, rfl⟩
  rw [← hw3] at hK ⊢
  clear hw3 hSS x0
  obtain ⟨b, hSb⟩ : ∃ b, w.heap.size = b := ⟨_, rfl⟩
  rw [hSb] at hK ⊢
  go_loopw [19] (fun vi wr => ∃ k : Nat, k ≤ 5 ∧ vi = .int .i64 k ∧ ∃ (l1 : List Lk) (a1 : Option Addr) (c1 : Nat), VSt n l1 ∧ ChW w b S n l1 a1 c1 wr) (fun vi _ => 5 - (intOf vi).toNat)
  case atStart => exact ⟨0, by omega, rfl, ls, al, cl, hv, hK⟩
  case round =>
    clear hK hv
    obtain ⟨k, hk, rfl, ls, al, cl, hv, hK⟩ := hrel
    by_cases hlt : k < 5
    · have hlt3 : decide ((k : Int) < 5) = true := decide_eq_true (by omega)
      have hlt4 : decide (k < 5) = true := decide_eq_true hlt
      go_upto_region 7 with fail
      go_cut [5, 6, 7] from 21 to 33 (fun p c e wx => ∃ (g : Nat) (ev : Ev) (a1 a2 : Option Addr) (c1 c2 : Nat), p = .pointer (some ⟨g, 0, none⟩) ∧ c = .slice a2 (stepC ev ls).length c2 ∧ e = .int .i64 0 ∧ fitS n ev = 0 ∧ ChW w b S n ls al cl wx ∧ RowAt encEv wx (.slice a2 (stepC ev ls).length c2) (stepC ev ls) ∧ ChW w b g n (stepL ev ls) a1 c1 wx ∧ S < g)
      case first =>
        have hNA := next_any b 5 wr.drew hK.drew.d (by omega) (by omega)
        have hNB := next_any b 5 (wr.alloc (.cells #[.int .i64 0, .slice none 0 0] 24)).drew (hK.alloc (.cells #[.int .i64 0, .slice none 0 0] 24)).drew.d (by omega) (by omega)
        have hK0 := hK.drew
        have hK0' := (hK.alloc (.cells #[.int .i64 0, .slice none 0 0] 24)).drew
        have hZ0 : ((wr.alloc (.cells #[.int .i64 0, .slice none 0 0] 24)).drew).heap[wr.heap.size]? = some (.cells #[.int .i64 0, .slice none 0 0] 24 (0, 0)) := heap_alloc_new wr (.cells #[.int .i64 0, .slice none 0 0] 24)
        clear hK
        go_region_held3 (fun w' => w'.cell? ⟨S, 0, none⟩ = some (.int .i64 n) ∧ w'.cell? ⟨S, 1, none⟩ = some (.slice al ls.length cl))
          (first
            | exact ⟨(hKS _ _).c0, (hKS _ _).c1⟩
            | exact ⟨hK3.c0, hK3.c1⟩
            | exact ⟨(hK3.alloc _).c0, (hK3.alloc _).c1⟩
            | exact ⟨hK2.c0, hK2.c1⟩
            | exact ⟨(hK2.alloc _).c0, (hK2.alloc _).c1⟩
            | exact ⟨hK1.c0, hK1.c1⟩
            | exact ⟨(hK1.alloc _).c0, (hK1.alloc _).c1⟩
            | exact ⟨hK0.c0, hK0.c1⟩
            | exact ⟨hK0'.c0, hK0'.c1⟩)
          (first
            | (go_at_call 22; (with_reducible refine hNA.mono ?_); rintro _ w1 ⟨y, hy0, hy1, rfl, hd1, hg1⟩; have hK1 := hK0.next hd1 hg1; have hs1 := hg1.size; have v1 : IntKind.i64.wrap (20 + y) = 20 + y := IntWalk.i64_in _ (by omega); have hEA := event_any b n (20 + y) w1 hK1.d (by omega) (by omega) (by omega) (by omega); have hEB := event_any b n (20 + y) (w1.alloc (.cells #[.int .i64 0, .slice none 0 0] 24)) (hK1.alloc _).d (by omega) (by omega) (by omega) (by omega))
            | (go_at_call 22; (with_reducible refine hNB.mono ?_); rintro _ w1 ⟨y, hy0, hy1, rfl, hd1, hg1⟩; have hK1 := hK0'.next hd1 hg1; have hs1 := hg1.size; have v1 : IntKind.i64.wrap (20 + y) = 20 + y := IntWalk.i64_in _ (by omega); have hEC := event_any b n (20 + y) w1 hK1.d (by omega) (by omega) (by omega) (by omega); have hZ1 := grown_blk hg1 hZ0 (by intro e; have := Option.some.inj e; have := hK0.d.lt; have : wr.drew.heap.size = wr.heap.size := rfl; omega))
            | (go_at_call 21; (with_reducible refine hEA.mono ?_); rintro _ w2 ⟨ev, rfl, hv0, htm, hu0, hu1, hw0, hw1, hd2, hg2⟩; have hK2 := hK1.next hd2 hg2; have hs2 := hg2.size; have hft : fitS n ev = 0 := (fit_of hv0 hu1 hw1); have hAA := chg_app hv hft hK2; have hAB := chg_app hv hft (hK2.alloc (.cells #[.int .i64 0, .slice none 0 0] 24)))
            | (go_at_call 21; (with_reducible refine hEB.mono ?_); rintro _ w2 ⟨ev, rfl, hv0, htm, hu0, hu1, hw0, hw1, hd2, hg2⟩; have hK2 := (hK1.alloc (.cells #[.int .i64 0, .slice none 0 0] 24)).next hd2 hg2; have hs2 := hg2.size; have hft : fitS n ev = 0 := (fit_of hv0 hu1 hw1); have hZ2 := grown_blk hg2 (heap_alloc_new w1 (.cells #[.int .i64 0, .slice none 0 0] 24)) (by intro e; have := Option.some.inj e; have := hK1.d.lt; omega); have hAC := chg_app hv hft hK2)
            | (go_at_call 21; (with_reducible refine hEC.mono ?_); rintro _ w2 ⟨ev, rfl, hv0, htm, hu0, hu1, hw0, hw1, hd2, hg2⟩; have hK2 := hK1.next hd2 hg2; have hs2 := hg2.size; have hft : fitS n ev = 0 := (fit_of hv0 hu1 hw1); have hZ2 := grown_blk hg2 hZ1 (by intro e; have := Option.some.inj e; have := hK0.d.lt; have : wr.drew.heap.size = wr.heap.size := rfl; omega); have hAC := chg_app hv hft hK2)
            | (go_at_call 15; (with_reducible refine hAA.mono ?_); rintro _ w4 ⟨a1, c1, a2, c2, rfl, hr1, hr2, hn1, hn2', hb4⟩; have hK3 := hK2.below hb4; have tokA := trivial)
            | (go_at_call 15; (with_reducible refine hAB.mono ?_); rintro _ w4 ⟨a1, c1, a2, c2, rfl, hr1, hr2, hn1, hn2', hb4⟩; have hK3 := (hK2.alloc (.cells #[.int .i64 0, .slice none 0 0] 24)).below hb4; have hZ3 := lk_next hb4 (heap_alloc_new w2 (.cells #[.int .i64 0, .slice none 0 0] 24)); have hZl := blk_lt (heap_alloc_new w2 (.cells #[.int .i64 0, .slice none 0 0] 24)); have p0 := cell_blk (j := 0) hZ3; have p1 := cell_blk (j := 1) hZ3; have f0 := free_blk (j := 0) hZ3; have f1 := free_blk (j := 1) hZ3; have hKS := fun u v => hK3.other (u := u) (v := v) hZ3 (by have := blk_lt hK0.x; have : wr.drew.heap.size = wr.heap.size := rfl; omega))
            | (go_at_call 15; (with_reducible refine hAC.mono ?_); rintro _ w4 ⟨a1, c1, a2, c2, rfl, hr1, hr2, hn1, hn2', hb4⟩; have hK3 := hK2.below hb4; have hZ3 := lk_next hb4 hZ2; have hZl := blk_lt hZ2; have p0 := cell_blk (j := 0) hZ3; have p1 := cell_blk (j := 1) hZ3; have f0 := free_blk (j := 0) hZ3; have f1 := free_blk (j := 1) hZ3; have hKS := fun u v => hK3.other (u := u) (v := v) hZ3 (by have := blk_lt hK0.x; have : wr.drew.heap.size = wr.heap.size := rfl; omega)))
        all_goals
          go_wp2_with fail
          go_meet
          have hSl := blk_lt hK0.x
          have : wr.drew.heap.size = wr.heap.size := rfl
          first
            | exact ⟨_, ev, a1, a2, c1, c2, rfl, rfl, rfl, hft, hK3.outB hZ3 (by omega) hr1 hr2⟩
            | exact ⟨_, ev, a1, a2, c1, c2, rfl, rfl, rfl, hft, hK3.outA hr1 hr2⟩
      case rest =>
        obtain ⟨g, ev, a1, a2, c1, c2, rfl, rfl, rfl, hfit, hK1, hr1, hKg, hSg⟩ := hcut
        clear hK
        have hA := chg_same hv hfit
        have hN := chg_none (e := ev) hv
        have hvL := stepL_valid hv hfit
        obtain ⟨L, hL⟩ : ∃ L, stepL ev ls = L := ⟨_, rfl⟩
        obtain ⟨C, hC⟩ : ∃ C, stepC ev ls = C := ⟨_, rfl⟩
        rw [hL, hC] at hA hN
        rw [hL] at hvL hKg
        rw [hC] at hr1
        try rw [hC]
        have hSL := (stS_iff n L).2 hvL
        have h1 := lall_any n C ls al a2 cl c2 wc hK1.r hr1
        rw [hA] at h1
        unfold AllPost at h1
        dsimp only at h1
        have x0 := hK1.c0
        have x1 := hK1.c1
        clear hA hL hC hfit hv
        go_wp2_with fail
        refine h1.mono ?_
        rintro _ w5 ⟨a3, c3, rfl, hr3, -, hb5⟩
        have bn := (Below.refl _ w5).alloc (Nat.le_refl _) (.cells #[.int .i64 n, .slice a3 L.length c3] 24)
        have hK5 := (hK1.below hb5).alloc (.cells #[.int .i64 n, .slice a3 L.length c3] 24)
        have hKg5 := (hKg.below hb5).alloc (.cells #[.int .i64 n, .slice a3 L.length c3] 24)
        have hU := heap_alloc_new w5 (.cells #[.int .i64 n, .slice a3 L.length c3] 24)
        have hr5 := hr3.below bn
        clear h1 hb5 bn x0 x1 hK1 hKg hr3 hr1
        have y0 := hKg5.c0
        have y1 := hKg5.c1
        have z0 := cell_blk (j := 0) hU
        have z1 := cell_blk (j := 1) hU
        have h2 := rsame05_any n n a1 a3 c1 c3 L L _ hKg5.r hr5
        rw [show decide (n = n ∧ L = L) = true by simp] at h2
        clear hU hr5
        have dC : ((C.length : Int) != (C.length : Int)) = false := by simp
        go_wp2_with fail
        refine h2.mono ?_
        rintro _ w6 ⟨rfl, hb6⟩
        have hK6 := hK5.below hb6
        have hKg6 := hKg5.below hb6
        clear h2 hb6 hK5 hKg5 y0 y1 z0 z1
        have x0 := hK6.c0
        have x1 := hK6.c1
        have y0 := hKg6.c0
        have y1 := hKg6.c1
        have h3 := rsame05_any n n al a1 cl c1 ls L _ hK6.r hKg6.r
        have hD : decide (n = n ∧ ls = L) = decide (C.length = 0) := Bool.eq_iff_iff.2 (by rw [decide_eq_true_eq, decide_eq_true_eq, hN]; simp)
        rw [hD] at h3
        clear hD hN
        by_cases hC0 : C.length = 0
        all_goals
          try rw [decide_eq_true hC0] at h3
          try rw [decide_eq_false hC0] at h3
          have dI : ¬ ((C.length : Int) = 0) ∨ ((C.length : Int) = 0) := by omega
          go_wp2_with fail
          refine h3.mono ?_
          rintro _ w7 ⟨rfl, hb7⟩
          have hK7 := hK6.below hb7
          have hKg7 := hKg6.below hb7
          clear h3 hb7 hK6 hKg6 x0 x1 y0 y1
          have x0 := hK7.c0
          have x1 := hK7.c1
          have y0 := hKg7.c0
          have y1 := hKg7.c1
          have h4 := lcheck_any n a1 c1 L _ hKg7.r
          rw [hSL] at h4
          go_wp2_with fail
          refine h4.mono ?_
          rintro _ w8 ⟨rfl, hb8⟩
          have hK8 := hK7.below hb8
          have hKg8 := hKg7.below hb8
          clear h4 hb8 hK7 hKg7 x0 x1 y0 y1
          have y0 := hKg8.c0
          have y1 := hKg8.c1
          have f0 := free_blk (j := 0) hK8.x
          have f1 := free_blk (j := 1) hK8.x
          have x0 := hK8.c0
          have x1 := hK8.c1
          go_wp2_with fail
          go_roundw
          case rel => exact ⟨k + 1, by omega, by go_num, L, a1, c1, hvL, hK8.put hKg8.r⟩
          case measure => simp [intOf]; omega
    · obtain rfl : k = 5 := by omega
      go_wp2_with fail
      refine (awake05_any _).mono ?_
      rintro e w4 ⟨rfl, hb4⟩
      go_wp2_with fail
      go_ret
      exact ⟨rfl, hK.be.trans (hb4.mono hK.be.size)⟩
end Go.Proofs.Ytkadeibinhkbjaa
