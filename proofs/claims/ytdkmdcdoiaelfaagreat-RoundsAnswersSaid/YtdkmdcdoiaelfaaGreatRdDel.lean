/- Schedules: copies of valid worlds, and what is kept while messages are delivered. The contract of rounds.Play (printed by wip/mkply.py). The contract of rounds.Finish (printed by wip/mkfin.py). What the laws on rounds want: a world of workers in a block of memory (printed by wip/mkkey.py). rounds.Deliver of a valid world, of a channel that holds a message (printed by wip/mkdel.py). -/
import Derived.Test.YtdkmdcdoiaelfaaGreatRdDlv
import Derived.Test.YtdkmdcdoiaelfaaGreatRdVal38
import Derived.Test.YtdkmdcdoiaelfaaGreatMkGraph
import Derived.Test.YtdkmdcdoiaelfaaGreatRef10
import Derived.Test.YtdkmdcdoiaelfaaGreatRef03
import Derived.Test.YtdkmdcdoiaelfaaGreatGrSame
import Derived.Deep.RegionWith
namespace Go.Proofs.YtdkmdcdoiaelfaaGreat
open Go.RowKit Go.BigFrame

section
variable {w w' : World} {lo P KB BB cK cB : Nat} {R cR : Nat → Nat} {vs : Ix → Value} {K K' : Nat → List Int} {B B' : Nat → Nat → List Msg}
theorem OwnW.congr (h : OwnW w lo P KB BB cK cB R cR vs K B) (hk : ∀ t, t < P → K t = K' t) (hb : ∀ r t, r < P → t < P → B r t = B' r t) : OwnW w lo P KB BB cK cB R cR vs K' B' :=
  ⟨GW.congrKB h.grid (fun t ht => hk t (by
    rcases ht with ⟨_, h2⟩ | ⟨h2, _⟩
    · exact h2
    · dsimp only at h2; omega)) (fun r t ht => hb r t (by
    rcases ht with ⟨h2, _⟩ | ⟨_, _, h2⟩
    · dsimp only at h2; omega
    · dsimp only at h2; omega) (by
    rcases ht with ⟨h2, _⟩ | ⟨_, h2, _⟩
    · dsimp only at h2; omega
    · exact h2)), h.out, h.cK, h.cB, h.low, h.offA, h.offV⟩
theorem OwnW.below (h : OwnW w lo P KB BB cK cB R cR vs K B) (hb : Below w.heap.size w w') : OwnW w' lo P KB BB cK cB R cR vs K B :=
  ⟨GridA.below h.grid hb, fun r hr => ⟨(hb.cell (p := ⟨BB, r, none⟩) (cell_lt (h.out r hr).1)).trans (h.out r hr).1, (h.out r hr).2⟩, h.cK, h.cB, h.low, h.offA, h.offV⟩
theorem OwnW.blk (h : OwnW w lo P KB BB cK cB R cR vs K B) (b : Nat) (hb : OwnD P KB R vs b) : lo ≤ b ∧ b < w.heap.size := by
  obtain ⟨x, hx, e | e⟩ := hb
  · rw [← e]; exact ⟨h.grid.low x hx, h.grid.lt x hx⟩
  · exact (h.grid.own x hx).lt b e
end
set_option maxRecDepth 100000 in
theorem rdcopyG_any (n P : Nat) (es : List E2) (ow : Nat → Nat) (hv : List Int) (W : WdP) (v : Value) (w : World) (hG : GoodW n P es ow hv W) (h : WldAt w v (wdL n P es ow hv W)) :
    Calls Tryz.prog 34 #[v] w fun e w' => ∃ ae ao ah ce co ch lo KB BB cK cB R cR vs, e = .returned (.agg #[.int .i64 (n : Int), .slice ae es.length ce, .int .i64 (P : Int), .slice ao n co, .slice ah hv.length ch, .slice (some ⟨KB, 0, none⟩) P cK, .slice (some ⟨BB, 0, none⟩) P cB]) ∧
      EdgesAt w' (.slice ae es.length ce) es ∧ IntsAt w' (.slice ao n co) (owI n ow) ∧ IntsAt w' (.slice ah hv.length ch) hv ∧ MidV w.heap.size lo (.slice ae es.length ce) ∧ MidV w.heap.size lo (.slice ao n co) ∧ MidV w.heap.size lo (.slice ah hv.length ch) ∧ w.heap.size ≤ lo ∧ lo ≤ w'.heap.size ∧ OwnW w' lo P KB BB cK cB R cR vs W.kn W.bx ∧ Below w.heap.size w w' := by
  have hn64 : n ≤ 64 := by have := hG.hg.2.1; omega
  have hel := hG.hg.length_le
  obtain ⟨ae, ao, ah, ak, ab, ce, co, ch, ck, cb, rfl, he, ho, hh, hk, hb⟩ := h
  have hkl : (wdL n P es ow hv W).kn.length = P := by simp [wdL]
  have hbl : (wdL n P es ow hv W).bx.length = P := by simp [wdL]
  have hol : (wdL n P es ow hv W).ow.length = n := owI_length n ow
  have hnn : (wdL n P es ow hv W).n = (n : Int) := rfl
  have hPP : (wdL n P es ow hv W).P = (P : Int) := rfl
  have hes : (wdL n P es ow hv W).es = es := rfl
  have hhv : (wdL n P es ow hv W).hv = hv := rfl
  rw [hkl] at hk
  rw [hbl] at hb
  have hcp := rdcopy_any (n : Int) P es (wdL n P es ow hv W).ow hv (wdL n P es ow hv W).kn (wdL n P es ow hv W).bx ae ao ah ak ab ce co ch ck cb w hG.hP.1 (by have := hG.hP.2; omega) he (by omega) ho (by omega) hh hG.hhl hk hkl (fun l hl => by
    obtain ⟨t, ht, rfl⟩ := List.mem_map.1 hl
    rw [hG.vld.len t (List.mem_range.1 ht)]; omega) hb hbl (fun r hr => by
    obtain ⟨t, ht, rfl⟩ := List.mem_map.1 hr
    simp) hG.box
  rw [hnn, hPP, hes, hhv, hkl, hbl]
  refine hcp.mono ?_
  rintro e w1 ⟨ae1, ao1, ah1, ce1, co1, ch1, lo, KB, BB, cK, cB, R, cR, vs, rfl, h1, h2, h3, h4, h5, h6, h7, h8, h9, h10⟩
  rw [hol] at h2 h5 ⊢
  refine ⟨ae1, ao1, ah1, ce1, co1, ch1, lo, KB, BB, cK, cB, R, cR, vs, rfl, h1, h2, h3, h4, h5, h6, h7, h8, h9.congr (fun t ht => ?_) (fun r t hr ht => ?_), h10⟩
  · unfold knF
    show ((List.range P).map W.kn).getD t [] = _
    rw [List.getD_eq_getElem?_getD, List.getElem?_map, List.getElem?_range ht]; rfl
  · exact bxL_box P W r t hr ht
/-- the blocks of a world of one's own lie in what the copy made, or behind all that was there when the schedule began -/
def GdB (lo s0 s1 b : Nat) : Prop := lo ≤ b ∧ (b < s0 ∨ s1 ≤ b)
structure PlyS (wS wr : World) (lo s0 s1 P KB BB cK cB : Nat) (R cR : Nat → Nat) (V : WdP) : Prop where
  fr : Fr (GdB lo s0 s1) wS wr
  own : ∃ vs, OwnW wr lo P KB BB cK cB R cR vs V.kn V.bx ∧ ∀ b, OwnD P KB R vs b → GdB lo s0 s1 b
section
variable {wS wr w' : World} {lo s0 s1 P KB BB cK cB : Nat} {R cR : Nat → Nat} {V : WdP}
theorem PlyS.start {w4 : World} {vs : Ix → Value} (h : OwnW w4 lo P KB BB cK cB R cR vs V.kn V.bx) (hb : Below w4.heap.size w4 wS) (h0 : s0 = w4.heap.size) : PlyS wS wS lo s0 s1 P KB BB cK cB R cR V :=
  ⟨Fr.refl _ _, vs, h.below hb, fun b hb2 => by
    have := h.blk b hb2
    exact ⟨this.1, .inl (by omega)⟩⟩
theorem PlyS.below (h : PlyS wS wr lo s0 s1 P KB BB cK cB R cR V) (hb : Below wr.heap.size wr w') : PlyS wS w' lo s0 s1 P KB BB cK cB R cR V :=
  ⟨h.fr.trans (Fr.of_below (D := fun _ => False) hb) (fun b h => h.elim), by
    obtain ⟨vs, h1, h2⟩ := h.own
    exact ⟨vs, h1.below hb, h2⟩⟩
end
set_option maxRecDepth 100000 in
theorem plydlv_any (n P i j lo s0 s1 KB BB cK cB : Nat) (R cR : Nat → Nat) (k0 k2 : Int) (e1 e3 e4 e5 : Option Addr) (l1 l3 l4 l5 c1 c3 c4 c5 : Nat) (es : List E2) (ow : Nat → Nat) (ao aN : Option Addr) (co cN : Nat) (V : WdP) (m : Msg) (r : List Msg) (wS wr : World)
    (hn : n ≤ 64) (hP : P ≤ 64) (how : ∀ v, v < n → ow v < P) (hi : i < P) (hj : j < P) (hb : V.bx i j = m :: r) (hV : VldP n P V) (hbl : ∀ a b, a < P → b < P → (V.bx a b).length ≤ 900000)
    (hS : PlyS wS wr lo s0 s1 P KB BB cK cB R cR V) (h0 : lo ≤ s0) (h1 : s0 ≤ s1) (h2 : s1 = wS.heap.size) (hO : IntsAt wS (.slice ao n co) (owI n ow)) (hol : LowV lo (.slice ao n co)) (hN : RowsX (fun b => s0 ≤ b ∧ b < s1) wS (.slice aN n cN) (nearL es n)) :
    Calls Tryz.prog 59 #[.agg #[.int .i64 k0, .slice e1 l1 c1, .int .i64 k2, .slice e3 l3 c3, .slice e4 l4 c4, .slice (some ⟨KB, 0, none⟩) P cK, .slice (some ⟨BB, 0, none⟩) P cB], .agg #[.int .i64 (P : Int), .slice ao n co, .slice e5 l5 c5, .slice aN n cN], .int .i64 (i : Int), .int .i64 (j : Int)] wr fun e w' => e = .returned (.tuple #[]) ∧ PlyS wS w' lo s0 s1 P KB BB cK cB R cR (dlvP es n P ow V i j) := by
  obtain ⟨vs, hOW, hgd⟩ := hS.own
  have hz := hS.fr.size
  refine (rddeliver_any n P i j lo KB BB cK cB R cR vs k0 k2 e1 e3 e4 e5 l1 l3 l4 l5 c1 c3 c4 c5 es ow ao aN co cN (fun b => s0 ≤ b ∧ b < s1) V m r wr hn hP how hi hj hb hV hbl hOW (by omega)
    (hS.fr.ints hO (fun n' c p e h => by have := hol n' c p e; have := h.1; omega)) hol (hS.fr.rows hN (fun b hq h => by rcases h.2 with h | h <;> omega)) (fun b hq => ⟨fun h => by rcases (hgd b h).2 with h | h <;> omega, by omega⟩)).mono ?_
  rintro e w1 ⟨rfl, vs', hOW', hF, hvo⟩
  refine ⟨rfl, hS.fr.trans hF (fun b h => .inl (hgd b h)), vs', hOW', fun b h => ?_⟩
  obtain ⟨x, hx, e | e⟩ := h
  · exact hgd b ⟨x, hx, .inl e⟩
  · rcases hvo x hx b e with h | h
    · exact hgd b h
    · exact ⟨by omega, .inr (by omega)⟩
set_option maxRecDepth 100000 in
theorem plyrdy_any (P lo s0 s1 KB BB cK cB : Nat) (R cR : Nat → Nat) (k0 k2 : Int) (e1 e3 e4 e5 : Option Addr) (l1 l3 l4 l5 c1 c3 c4 c5 : Nat) (V : WdP) (wS wr : World) (hP : P ≤ 64) (hbl : ∀ a b, a < P → b < P → (V.bx a b).length ≤ 900000) (hS : PlyS wS wr lo s0 s1 P KB BB cK cB R cR V) :
    Calls Tryz.prog 57 #[.agg #[.int .i64 k0, .slice e1 l1 c1, .int .i64 k2, .slice e3 l3 c3, .slice e4 l4 c4, .slice e5 l5 c5, .slice (some ⟨BB, 0, none⟩) P cB]] wr (RdyPost wr (rdyW P V)) := by
  obtain ⟨vs, hOW, -⟩ := hS.own
  have hB : BoxA wr (.slice (some ⟨BB, 0, none⟩) P cB) (bxL P V) := hOW.bx hP (fun r t hr ht => by have := hbl r t hr ht; omega)
  have h := rdready_any k0 k2 (bxL P V) (.slice e1 l1 c1) (.slice e3 l3 c3) (.slice e4 l4 c4) (.slice e5 l5 c5) (some ⟨BB, 0, none⟩) cB wr (by rw [bxL_len]; exact hB) (by rw [bxL_len]; exact hP) (fun r hr => by
    obtain ⟨t, ht, rfl⟩ := List.mem_map.1 hr
    simp; exact hP)
  rw [bxL_len] at h
  exact h
theorem GridA.fr {D : Nat → Prop} {w w' : World} {lo : Nat} {I : Ix → Prop} {ad : Ix → Nat × Nat} {vs : Ix → Value} {TE kk len : Ix → Nat} {cs : Ix → List Value} (h : GridA w lo I ad vs TE kk len cs) (hf : Fr D w w') (h0 : ∀ i, I i → ¬ D (ad i).1) (h1 : ∀ i, I i → ∀ b, (vs i).ownBlock = some b → ¬ D b) : GridA w' lo I ad vs TE kk len cs :=
  ⟨h.low, fun i hi => (heap_cell (hf.block _ (h.lt i hi) (h0 i hi))).1.trans (h.cell i hi), fun i hi => (heap_cell (hf.block _ (h.lt i hi) (h0 i hi))).2.trans (h.free i hi), fun i hi => owns_fr (h.own i hi) hf (h1 i hi), h.off, h.apart, h.dist⟩
/-- what is handed back at the end of a schedule -/
theorem PlyS.wld {wS wr : World} {lo s0 s1 n P KB BB cK cB : Nat} {R cR : Nat → Nat} {V : WdP} {es : List E2} {ow : Nat → Nat} {hv : List Int} {ae ao ah : Option Addr} {ce co ch a : Nat} (hS : PlyS wS wr lo s0 s1 P KB BB cK cB R cR V) (hP : P ≤ 64) (hV : VldP n P V) (hn : n ≤ 64) (hbl : ∀ a b, a < P → b < P → (V.bx a b).length ≤ 900000)
    (hE : EdgesAt wS (.slice ae es.length ce) es) (hO : IntsAt wS (.slice ao n co) (owI n ow)) (hH : IntsAt wS (.slice ah hv.length ch) hv) (h1 : MidV a lo (.slice ae es.length ce)) (h2 : MidV a lo (.slice ao n co)) (h3 : MidV a lo (.slice ah hv.length ch)) {w' : World} {Z : Nat} (hg : wr.grownBy w' (some Z)) (hZ : Z < a) (hal : a ≤ lo) :
    WldS a w' (.agg #[.int .i64 (n : Int), .slice ae es.length ce, .int .i64 (P : Int), .slice ao n co, .slice ah hv.length ch, .slice (some ⟨KB, 0, none⟩) P cK, .slice (some ⟨BB, 0, none⟩) P cB]) (wdL n P es ow hv V) := fun wU gU => by
  obtain ⟨vs, hOW, hgd⟩ := hS.own
  have hFr : Fr (fun b => b < a) wr wU := ((Fr.refl (fun b => b < a) wr).grown hg (fun b e => .inl (by have e1 := (Option.some.inj e).symm; omega))).trans gU (fun b h => .inl h)
  have hF : Fr (fun b => GdB lo s0 s1 b ∨ b < a) wS wU := (hS.fr.mono (fun b h => .inl h)).trans hFr (fun b h => .inl (.inr h))
  have hOW' : OwnW wU lo P KB BB cK cB R cR vs V.kn V.bx := ⟨GridA.fr hOW.grid hFr (fun x hx e => by
    have := hOW.grid.low x hx
    omega) (fun x hx b e e2 => by
    have := (hOW.grid.own x hx).lt b e
    omega), fun r hr => ⟨hFr.cell (hOW.out r hr).1 (fun e => by have := hOW.low; have e1 : BB < a := e; omega), (hOW.out r hr).2⟩, hOW.cK, hOW.cB, hOW.low, hOW.offA, hOW.offV⟩
  have hd : ∀ {v : Value}, MidV a lo v → ∀ n' c p, v = .slice (some p) n' c → ¬ (GdB lo s0 s1 p.block ∨ p.block < a) := fun hm n' c p e h => by
    have := hm n' c p e
    rcases h with h | h
    · have := h.1; omega
    · omega
  have hres := WldAt.of (hv := hv) (W := V) (hF.edges hE (hd h1)) (by rw [owI_length]; exact hF.ints hO (hd h2)) (hF.ints hH (hd h3)) (hOW'.kn hP (fun r hr => by rw [hV.len r hr]; omega)) (hOW'.bx hP (fun r t hr ht => by have := hbl r t hr ht; omega))
  rw [owI_length] at hres
  exact hres
end Go.Proofs.YtdkmdcdoiaelfaaGreat

namespace Go.Proofs.YtdkmdcdoiaelfaaGreat
open Go.RowKit Go.BigFrame

set_option linter.unusedSimpArgs false in
set_option maxRecDepth 100000 in
set_option maxHeartbeats 6400000 in
theorem rdplayS_any (n P : Nat) (es : List E2) (ow : Nat → Nat) (hv : List Int) (W : WdP) (v : Value) (aS : Option Addr) (cS : Nat) (sc : List Int) (w : World) (hG : GoodW n P es ow hv W) (h : WldAt w v (wdL n P es ow hv W)) (hsc : IntsAt w (.slice aS sc.length cS) sc) (hpot : potN n P ow W ≤ 800000) :
    Calls Tryz.prog 26 #[v, .slice aS sc.length cS] w fun e w' => ∃ (v' : Value) (k : Nat), e = .returned (.tuple #[v', .int .i64 (k : Int), .int .i64 0]) ∧ WldS w.heap.size w' v' (wdL n P es ow hv (plyK es n P ow W (fun i => sc.getD i 0) k)) ∧ k ≤ sc.length ∧ (∀ i, i < k → rdyW P (plyK es n P ow W (fun i => sc.getD i 0) i) ≠ []) ∧ (k < sc.length → rdyW P (plyK es n P ow W (fun i => sc.getD i 0) k) = []) ∧ Below w.heap.size w w' := by
  obtain ⟨SC, hSC⟩ : ∃ f : Nat → Int, (fun i => sc.getD i 0) = f := ⟨_, rfl⟩
  have hSCi : ∀ i, SC i = sc.getD i 0 := fun i => by rw [← hSC]
  rw [hSC]
  clear hSC
  have hscl : sc.length ≤ 70368744177664 := by obtain ⟨_, _, _, _, _, h, _⟩ := hsc; exact h
  have hn64 : n ≤ 64 := by have := hG.hg.2.1; omega
  have hP8 := hG.hP.2
  obtain ⟨k0, k2, e1, e3, e4, e5, e6, l1, l3, l4, l5, l6, d1, d3, d4, d5, d6, rfl⟩ := h.shape
  obtain ⟨hX0, hb0⟩ := boxG_new w #[.int .i64 k0, .slice e1 l1 d1, .int .i64 k2, .slice e3 l3 d3, .slice e4 l4 d4, .slice e5 l5 d5, .slice e6 l6 d6] 36
  obtain ⟨w1, hw1⟩ : ∃ U : World, U = w.alloc (.cells #[.int .i64 k0, .slice e1 l1 d1, .int .i64 k2, .slice e3 l3 d3, .slice e4 l4 d4, .slice e5 l5 d5, .slice e6 l6 d6] 36) := ⟨_, rfl⟩
  have hz1 : w1.heap.size = w.heap.size + 1 := by rw [hw1]; simp
  rw [← hw1] at hX0 hb0
  obtain ⟨hY0, hb1⟩ := boxG_new w1 #[.int .i64 0, .slice none 0 0, .int .i64 0, .slice none 0 0, .slice none 0 0, .slice none 0 0, .slice none 0 0] 36
  obtain ⟨wA, hwA⟩ : ∃ U : World, U = w1.alloc (.cells #[.int .i64 0, .slice none 0 0, .int .i64 0, .slice none 0 0, .slice none 0 0, .slice none 0 0, .slice none 0 0] 36) := ⟨_, rfl⟩
  rw [← hwA] at hY0 hb1
  have hX1 := lit_next' hb1 hX0
  have hbA := hb0.trans (hb1.mono hb0.size)
  obtain ⟨X, hX⟩ : ∃ X, w.heap.size = X := ⟨_, rfl⟩
  rw [hz1] at hY0
  rw [hX] at hX1 hY0
  have hwA2 : wA = (w.alloc (.cells #[.int .i64 k0, .slice e1 l1 d1, .int .i64 k2, .slice e3 l3 d3, .slice e4 l4 d4, .slice e5 l5 d5, .slice e6 l6 d6] 36)).alloc (.cells #[.int .i64 0, .slice none 0 0, .int .i64 0, .slice none 0 0, .slice none 0 0, .slice none 0 0, .slice none 0 0] 36) := by rw [hwA, hw1]
  have HWA := Lib.hid hwA2
  have hva := rdvalid_any _ _ wA (h.below hbA) hG.box
  rw [hG.val] at hva
  clear hwA hw1 hwA2 hX0 hb0 hb1 hz1 w1
  obtain ⟨x0, x1, x2, x3, x4, x5, x6⟩ := cells7 hX1
  go_enter Tryz.func26, Tryz.ntmps26
  go_wp2_with (rw [← HWA.out])
  refine hva.mono ?_
  rintro e w1 ⟨rfl, hb1⟩
  have hbw1 := hbA.trans (hb1.mono hbA.size)
  have hX2 := lit_next' hb1 hX1
  have hY2 := lit_next' hb1 hY0
  clear hva x0 x1 x2 x3 x4 x5 x6 hX1 hY0
  obtain ⟨x0, x1, x2, x3, x4, x5, x6⟩ := cells7 hX2
  have hcp := rdcopyG_any n P es ow hv W _ w1 hG (h.below hbw1)
  go_wp2_with fail
  refine hcp.mono ?_
  rintro e w4 ⟨ae, ao, ah, ce, co, ch, lo, KB, BB, cK, cB, R, cR, vs, rfl, hE4, hO4, hH4, hmE, hmO, hmH, hlo, hlo4, hOW, hb4⟩
  have hY4 := lit_next' hb4 hY2
  have hbw4 := hbw1.trans (hb4.mono hbw1.size)
  obtain ⟨hO0, hb5⟩ := boxG_new w4 #[.int .i64 (n : Int), .slice ae es.length ce, .int .i64 (P : Int), .slice ao n co, .slice ah hv.length ch, .slice (some ⟨KB, 0, none⟩) P cK, .slice (some ⟨BB, 0, none⟩) P cB] 36
  obtain ⟨w5, hw5⟩ : ∃ U : World, U = w4.alloc (.cells #[.int .i64 (n : Int), .slice ae es.length ce, .int .i64 (P : Int), .slice ao n co, .slice ah hv.length ch, .slice (some ⟨KB, 0, none⟩) P cK, .slice (some ⟨BB, 0, none⟩) P cB] 36) := ⟨_, rfl⟩
  have hz5 : w5.heap.size = w4.heap.size + 1 := by rw [hw5]; simp
  rw [← hw5] at hO0 hb5
  have hE5 := hE4.below hb5
  have hO5 := hO4.below hb5
  have hH5 := hH4.below hb5
  have hY5 := lit_next' hb5 hY4
  obtain ⟨s0, hs0⟩ : ∃ s, w4.heap.size = s := ⟨_, rfl⟩
  rw [hs0] at hO0 hz5 hlo4
  have hYl : X + 1 < w1.heap.size := blk_lt hY2
  have HW5 := Lib.hid hw5
  clear hw5 x0 x1 x2 x3 x4 x5 x6 hX2 hcp hb1 hY2 hbA hE4 hH4 hY4
  have c0 : w5.cell? ⟨s0, 0, none⟩ = some (.int .i64 (n : Int)) := cell_blk hO0
  have c1 : w5.cell? ⟨s0, 1, none⟩ = some (.slice ae es.length ce) := cell_blk hO0
  have c2 : w5.cell? ⟨s0, 2, none⟩ = some (.int .i64 (P : Int)) := cell_blk hO0
  have c3 : w5.cell? ⟨s0, 3, none⟩ = some (.slice ao n co) := cell_blk hO0
  have c4 : w5.cell? ⟨s0, 4, none⟩ = some (.slice ah hv.length ch) := cell_blk hO0
  go_upto_region 4 with fail
  rw [← HW5.out]
  have hs5 : s0 < w5.heap.size := by omega
  clear hz5
  go_cut [8] from 19 to 24 (fun cv wx => ∃ C N, cv = .pointer (some ⟨C, 0, none⟩) ∧ wx.heap[C]? = some (.cells #[.int .i64 (P : Int), .slice ao n co, .slice ah hv.length ch, .slice (some ⟨N, 0, none⟩) n n] 70 (0, 0)) ∧ RowsX (fun b => s0 ≤ b ∧ b < wx.heap.size) wx (.slice (some ⟨N, 0, none⟩) n n) (nearL es n) ∧ Below w5.heap.size w5 wx ∧ w5.heap.size ≤ C ∧ C < wx.heap.size)
  case first =>
    refine wp_region_heldK (k := 7) (S := fun b W => match b with | false => (W.cell? ⟨s0, 0, none⟩ = some (.int .i64 (n : Int)) ∧ W.cell? ⟨s0, 1, none⟩ = some (.slice ae es.length ce) ∧ W.cell? ⟨s0, 2, none⟩ = some (.int .i64 (P : Int)) ∧ W.cell? ⟨s0, 3, none⟩ = some (.slice ao n co) ∧ W.cell? ⟨s0, 4, none⟩ = some (.slice ah hv.length ch)) | true => True) (by kernel_rfl) ?_
    have hS0 : (w5.drew.cell? ⟨s0, 0, none⟩ = some (.int .i64 (n : Int)) ∧ w5.drew.cell? ⟨s0, 1, none⟩ = some (.slice ae es.length ce) ∧ w5.drew.cell? ⟨s0, 2, none⟩ = some (.int .i64 (P : Int)) ∧ w5.drew.cell? ⟨s0, 3, none⟩ = some (.slice ao n co) ∧ w5.drew.cell? ⟨s0, 4, none⟩ = some (.slice ah hv.length ch)) := ⟨c0, c1, c2, c3, c4⟩
    refine tkA 0 (.pointer (some ⟨s0, 2, none⟩)) true rfl (fun _ _ => trivial) false hS0 ?_
    refine tkA 1 (.agg #[.int .i64 (P : Int), .slice ao n co, .slice ah hv.length ch]) false rfl (fun _ _ => trivial) false hS0 ?_
    refine tkA 2 (.pointer (some ⟨s0, 0, none⟩)) true rfl (fun _ _ => trivial) false hS0 ?_
    refine tkA 3 (.agg #[.int .i64 (n : Int), .slice ae es.length ce]) false rfl (fun _ _ => trivial) false hS0 ?_
    try simp only [Act.put, List.setIfInBounds_toArray, List.set_cons_zero, List.set_cons_succ]
    refine wpAnyK_two (i := 4) (j := 6) (by kernel_rfl) rfl rfl (by rfl) (by rfl) (b := false) (b2 := false) (by kernel_rfl) (by kernel_rfl) (fun K hK => ?_) (fun K hK => ?_)
    · go_simp
      go_at_call 33
      refine (rdneigh_any n ae ce es w5.drew (hE5.below (Below.refl _ _).drew) hG.hg).mono ?_
      rintro e w6 ⟨N, rfl, hN, vs2, hGn, hb6'⟩
      have hb6 : Below w5.heap.size w5 w6 := (Below.refl w5.heap.size w5).drew.trans hb6'
      have hS2 : (w6.cell? ⟨s0, 0, none⟩ = some (.int .i64 (n : Int)) ∧ w6.cell? ⟨s0, 1, none⟩ = some (.slice ae es.length ce) ∧ w6.cell? ⟨s0, 2, none⟩ = some (.int .i64 (P : Int)) ∧ w6.cell? ⟨s0, 3, none⟩ = some (.slice ao n co) ∧ w6.cell? ⟨s0, 4, none⟩ = some (.slice ah hv.length ch)) := ⟨(hb6.cell (p := ⟨s0, 0, none⟩) hs5).trans c0, (hb6.cell (p := ⟨s0, 1, none⟩) hs5).trans c1, (hb6.cell (p := ⟨s0, 2, none⟩) hs5).trans c2, (hb6.cell (p := ⟨s0, 3, none⟩) hs5).trans c3, (hb6.cell (p := ⟨s0, 4, none⟩) hs5).trans c4⟩
      dsimp only
      refine hK.out _ _ hS2 ?_
      try simp only [Act.put, List.setIfInBounds_toArray, List.set_cons_zero, List.set_cons_succ]
      refine tkA 5 (.agg #[.int .i64 (P : Int), .slice ao n co, .slice ah hv.length ch, .slice (some ⟨N, 0, none⟩) n n]) true rfl (fun _ _ => trivial) false hS2 ?_
      try simp only [Act.put, List.setIfInBounds_toArray, List.set_cons_zero, List.set_cons_succ]
      refine wpAnyK_one (i := 6) (by kernel_rfl) rfl (by rfl) (b := false) (by kernel_rfl) (fun K hK => ?_)
      go_simp
      refine hK.out _ _ (show ((w6.alloc (.cells #[.int .i64 0, .slice none 0 0, .slice none 0 0, .slice none 0 0] 70)).cell? ⟨s0, 0, none⟩ = some (.int .i64 (n : Int)) ∧ (w6.alloc (.cells #[.int .i64 0, .slice none 0 0, .slice none 0 0, .slice none 0 0] 70)).cell? ⟨s0, 1, none⟩ = some (.slice ae es.length ce) ∧ (w6.alloc (.cells #[.int .i64 0, .slice none 0 0, .slice none 0 0, .slice none 0 0] 70)).cell? ⟨s0, 2, none⟩ = some (.int .i64 (P : Int)) ∧ (w6.alloc (.cells #[.int .i64 0, .slice none 0 0, .slice none 0 0, .slice none 0 0] 70)).cell? ⟨s0, 3, none⟩ = some (.slice ao n co) ∧ (w6.alloc (.cells #[.int .i64 0, .slice none 0 0, .slice none 0 0, .slice none 0 0] 70)).cell? ⟨s0, 4, none⟩ = some (.slice ah hv.length ch)) from ⟨cell_alloc hS2.1, cell_alloc hS2.2.1, cell_alloc hS2.2.2.1, cell_alloc hS2.2.2.2.1, cell_alloc hS2.2.2.2.2⟩) ?_
      try simp only [Act.put, List.setIfInBounds_toArray, List.set_cons_zero, List.set_cons_succ]
      refine wpAnyK_one (i := 7) (by kernel_rfl) rfl (by rfl) (b := true) (by kernel_rfl) (fun K hK => ?_)
      go_simp
      refine hK.out _ _ trivial (wpAnyK_done (by kernel_rfl) ?_ _)
      have hzd : w5.drew.heap.size = w5.heap.size := rfl
      have hC := heap_alloc_new w6 (.cells #[.int .i64 (P : Int), .slice ao n co, .slice ah hv.length ch, .slice (some ⟨N, 0, none⟩) n n] 70)
      have hbC : Below w6.heap.size w6 (w6.alloc (.cells #[.int .i64 (P : Int), .slice ao n co, .slice ah hv.length ch, .slice (some ⟨N, 0, none⟩) n n] 70)) := (Below.refl _ _).alloc (Nat.le_refl _) _
      have hzC : (w6.alloc (.cells #[.int .i64 (P : Int), .slice ao n co, .slice ah hv.length ch, .slice (some ⟨N, 0, none⟩) n n] 70)).heap.size = w6.heap.size + 1 := by simp
      have hz6 := hb6.size
      have hR : RowsX (fun b => s0 ≤ b ∧ b < (w6.alloc (.cells #[.int .i64 (P : Int), .slice ao n co, .slice ah hv.length ch, .slice (some ⟨N, 0, none⟩) n n] 70)).heap.size) w6 (.slice (some ⟨N, 0, none⟩) n n) (nearL es n) := GridO.rowsX (Ls := fun i => castL (nbL es n i)) hGn (by omega) (Nat.le_refl _) (fun i hi => by have := nb_lt hG.hg i hi; rw [castL, List.length_map]; omega) _ (by have := hGn.lt; have := hbC.size; exact ⟨by omega, by omega⟩) (fun i hi b e => by have := (hGn.own i hi).lt b e; have := hbC.size; exact ⟨by omega, by omega⟩)
      go_wp2_with fail
      go_meet
      exact ⟨w6.heap.size, N, rfl, hC, hR.below hbC, hb6.trans (hbC.mono hb6.size), hz6, by omega⟩
    · go_simp
      have hC0 := heap_alloc_new w5.drew (.cells #[.int .i64 0, .slice none 0 0, .slice none 0 0, .slice none 0 0] 70)
      have hbC : Below w5.heap.size w5 (w5.drew.alloc (.cells #[.int .i64 0, .slice none 0 0, .slice none 0 0, .slice none 0 0] 70)) := ((Below.refl w5.heap.size w5).drew).alloc (Nat.le_refl _) _
      have hzC : (w5.drew.alloc (.cells #[.int .i64 0, .slice none 0 0, .slice none 0 0, .slice none 0 0] 70)).heap.size = w5.drew.heap.size + 1 := by simp
      refine hK.out _ _ (show ((w5.drew.alloc (.cells #[.int .i64 0, .slice none 0 0, .slice none 0 0, .slice none 0 0] 70)).cell? ⟨s0, 0, none⟩ = some (.int .i64 (n : Int)) ∧ (w5.drew.alloc (.cells #[.int .i64 0, .slice none 0 0, .slice none 0 0, .slice none 0 0] 70)).cell? ⟨s0, 1, none⟩ = some (.slice ae es.length ce) ∧ (w5.drew.alloc (.cells #[.int .i64 0, .slice none 0 0, .slice none 0 0, .slice none 0 0] 70)).cell? ⟨s0, 2, none⟩ = some (.int .i64 (P : Int)) ∧ (w5.drew.alloc (.cells #[.int .i64 0, .slice none 0 0, .slice none 0 0, .slice none 0 0] 70)).cell? ⟨s0, 3, none⟩ = some (.slice ao n co) ∧ (w5.drew.alloc (.cells #[.int .i64 0, .slice none 0 0, .slice none 0 0, .slice none 0 0] 70)).cell? ⟨s0, 4, none⟩ = some (.slice ah hv.length ch)) from ⟨cell_alloc c0, cell_alloc c1, cell_alloc c2, cell_alloc c3, cell_alloc c4⟩) ?_
      try simp only [Act.put, List.setIfInBounds_toArray, List.set_cons_zero, List.set_cons_succ]
      refine wpAnyK_one (i := 4) (by kernel_rfl) rfl (by rfl) (b := false) (by kernel_rfl) (fun K hK => ?_)
      go_simp
      go_at_call 33
      refine (rdneigh_any n ae ce es _ (hE5.below hbC) hG.hg).mono ?_
      rintro e w6 ⟨N, rfl, hN, vs2, hGn, hb6'⟩
      have hb6 : Below w5.heap.size w5 w6 := hbC.trans (hb6'.mono hbC.size)
      have hS2 : (w6.cell? ⟨s0, 0, none⟩ = some (.int .i64 (n : Int)) ∧ w6.cell? ⟨s0, 1, none⟩ = some (.slice ae es.length ce) ∧ w6.cell? ⟨s0, 2, none⟩ = some (.int .i64 (P : Int)) ∧ w6.cell? ⟨s0, 3, none⟩ = some (.slice ao n co) ∧ w6.cell? ⟨s0, 4, none⟩ = some (.slice ah hv.length ch)) := ⟨(hb6.cell (p := ⟨s0, 0, none⟩) hs5).trans c0, (hb6.cell (p := ⟨s0, 1, none⟩) hs5).trans c1, (hb6.cell (p := ⟨s0, 2, none⟩) hs5).trans c2, (hb6.cell (p := ⟨s0, 3, none⟩) hs5).trans c3, (hb6.cell (p := ⟨s0, 4, none⟩) hs5).trans c4⟩
      have hC2 : w6.heap[w5.heap.size]? = _ := lit_next' hb6' hC0
      obtain ⟨r0, r1, r2, r3⟩ := cells4 hC2
      obtain ⟨f0, f1, f2, f3⟩ := frees4 hC2
      dsimp only
      refine hK.out _ _ hS2 ?_
      try simp only [Act.put, List.setIfInBounds_toArray, List.set_cons_zero, List.set_cons_succ]
      refine tkA 5 (.agg #[.int .i64 (P : Int), .slice ao n co, .slice ah hv.length ch, .slice (some ⟨N, 0, none⟩) n n]) true rfl (fun _ _ => trivial) false hS2 ?_
      try simp only [Act.put, List.setIfInBounds_toArray, List.set_cons_zero, List.set_cons_succ]
      refine wpAnyK_one (i := 7) (by kernel_rfl) rfl (by rfl) (b := true) (by kernel_rfl) (fun K hK => ?_)
      go_simp
      refine hK.out _ _ trivial (wpAnyK_done (by kernel_rfl) ?_ _)
      have hzd : w5.drew.heap.size = w5.heap.size := rfl
      have hC3 := set4all (d0 := .int .i64 (P : Int)) (d1 := .slice ao n co) (d2 := .slice ah hv.length ch) (d3 := .slice (some ⟨N, 0, none⟩) n n) hC2
      have hg4 := set4_grown w6 w5.heap.size (.int .i64 (P : Int)) (.slice ao n co) (.slice ah hv.length ch) (.slice (some ⟨N, 0, none⟩) n n)
      have hb44 := set4_below hb6 (g := w5.heap.size) (Nat.le_refl _) (.int .i64 (P : Int)) (.slice ao n co) (.slice ah hv.length ch) (.slice (some ⟨N, 0, none⟩) n n)
      have hlt6 : w5.heap.size < w6.heap.size := blk_lt hC2
      have hR : RowsX (fun b => (s0 ≤ b ∧ b < ((((w6.setCell ⟨w5.heap.size, 0, none⟩ (.int .i64 (P : Int))).setCell ⟨w5.heap.size, 1, none⟩ (.slice ao n co)).setCell ⟨w5.heap.size, 2, none⟩ (.slice ah hv.length ch)).setCell ⟨w5.heap.size, 3, none⟩ (.slice (some ⟨N, 0, none⟩) n n)).heap.size) ∧ b ≠ w5.heap.size) w6 (.slice (some ⟨N, 0, none⟩) n n) (nearL es n) := GridO.rowsX (Ls := fun i => castL (nbL es n i)) hGn (by omega) (Nat.le_refl _) (fun i hi => by have := nb_lt hG.hg i hi; rw [castL, List.length_map]; omega) _ (by have := hGn.lt; have := hg4.size; exact ⟨⟨by omega, by omega⟩, by omega⟩) (fun i hi b e => by have := (hGn.own i hi).lt b e; have := hg4.size; exact ⟨⟨by omega, by omega⟩, by omega⟩)
      go_wp2_with fail
      go_meet
      exact ⟨w5.heap.size, N, rfl, hC3, (hR.grown hg4 (fun b hq e => hq.2 (Option.some.inj e).symm)).imp (fun b hq => hq.1), hb44, Nat.le_refl _, by have := hg4.size; omega⟩
  case rest =>
    obtain ⟨C, N, rfl, hC5, hN5, hb6, hC1, hC2⟩ := hcut
    -- the schedule
    have hbS := hbw4.trans ((hb5.trans (hb6.mono hb5.size)).mono hbw4.size)
    have hb4S := hb5.trans (hb6.mono hb5.size)
    have hES := hE5.below hb6
    have hOS := hO5.below hb6
    have hHS := hH5.below hb6
    have hYS := lit_next' hb6 hY5
    have hOBS := lit_next' hb6 hO0
    have hPS := PlyS.start (wS := wc) (s0 := s0) (s1 := wc.heap.size) (V := W) hOW hb4S hs0.symm
    have hzc := hb6.size
    have hwl : w.heap.size ≤ w1.heap.size := hbw1.size
    have hvldK := fun k => ply_vld (es := es) hG.how hG.vld SC k
    have hpotK := fun k => ply_potle (es := es) hG.how hG.vld SC k
    have hblK : ∀ k a b, a < P → b < P → ((plyK es n P ow W SC k).bx a b).length ≤ 900000 := fun k a b ha hb => by
      have h1 := bx_pot (n := n) (ow := ow) (W := plyK es n P ow W SC k) ha hb
      have h2 := hpotK k
      omega
    clear hE5 hO5 hH5 hY5 hO0 c0 c1 c2 c3 c4 hb5 hb6
    go_wp2_with fail
    go_loopw [27] (fun vk wr => ∃ k : Nat, k ≤ sc.length ∧ vk = .int .i64 (k : Int) ∧ PlyS wc wr lo s0 wc.heap.size P KB BB cK cB R cR (plyK es n P ow W SC k) ∧ Hid (∀ i, i < k → rdyW P (plyK es n P ow W SC i) ≠ [])) (fun vk _ => sc.length - (intOf vk).toNat)
    case atStart => exact ⟨0, Nat.zero_le _, rfl, hPS, (show ∀ i, i < 0 → _ from fun i hi => absurd hi (by omega))⟩
    case round =>
      clear hPS
      obtain ⟨k, hk, rfl, hPK, hne⟩ := hrel
      have hfr := hPK.fr
      have hno : ∀ b, s0 ≤ b → b < wc.heap.size → ¬ GdB lo s0 wc.heap.size b := fun b h1 h2 h => by rcases h.2 with h | h <;> omega
      have hOBr := hfr.blk hOBS (hno _ (Nat.le_refl _) (by omega))
      have hCr := hfr.blk hC5 (hno _ (by omega) hC2)
      have hYr := hfr.blk hYS (fun h => by have := h.1; omega)
      obtain ⟨o0, o1, o2, o3, o4, o5, o6⟩ := cells7 hOBr
      obtain ⟨z0, z1, z2, z3, z4, z5, z6⟩ := cells7 hYr
      have fY := fun t => free_blk (j := t) hYr
      have fY0 := fY 0
      have fY1 := fY 1
      have fY2 := fY 2
      have fY3 := fY 3
      have fY4 := fY 4
      have fY5 := fY 5
      have fY6 := fY 6
      clear fY
      by_cases hlt : k < sc.length
      · have hlt3 : (k : Int) < sc.length := by omega
        obtain ⟨bs, os, sv, rfl, hsv, -, -, cs0⟩ := hsc.at k hlt
        have csr := hfr.cell ((hbS.cell (p := ⟨bs, os + k, none⟩) (cell_lt cs0)).trans cs0) (fun h => by have := cell_lt cs0; have := h.1; omega)
        have hsve : SC k = sv := by rw [hSCi, List.getD_eq_getElem?_getD, hsv]; rfl
        have hrd := plyrdy_any P lo s0 wc.heap.size KB BB cK cB R cR (n : Int) (P : Int) ae ao ah (some ⟨KB, 0, none⟩) es.length n hv.length P ce co ch cK _ wc wr (by omega) (hblK k) hPK
        obtain ⟨L, hL⟩ : ∃ L, rdyW P (plyK es n P ow W SC k) = L := ⟨_, rfl⟩
        rw [hL] at hrd
        go_wp2_with fail
        refine hrd.mono ?_
        rintro e w8 ⟨a8, c8, rfl, hR8, hb8⟩
        have hPK8 := hPK.below hb8
        have hOB8 := lit_next' hb8 hOBr
        have hC8 := lit_next' hb8 hCr
        have hY8 := lit_next' hb8 hYr
        clear hrd o0 o1 o2 o3 o4 o5 o6 z0 z1 z2 z3 z4 z5 z6 fY0 fY1 fY2 fY3 fY4 fY5 fY6 hOBr hCr hYr hPK hfr
        obtain ⟨o0, o1, o2, o3, o4, o5, o6⟩ := cells7 hOB8
        by_cases hLn : L = []
        · subst hLn
          have hfin := set7all (d0 := .int .i64 (n : Int)) (d1 := .slice ae es.length ce) (d2 := .int .i64 (P : Int)) (d3 := .slice ao n co) (d4 := .slice ah hv.length ch) (d5 := .slice (some ⟨KB, 0, none⟩) P cK) (d6 := .slice (some ⟨BB, 0, none⟩) P cB) hY8
          have hgF := set7_grown w8 (X + 1) (.int .i64 (n : Int)) (.slice ae es.length ce) (.int .i64 (P : Int)) (.slice ao n co) (.slice ah hv.length ch) (.slice (some ⟨KB, 0, none⟩) P cK) (.slice (some ⟨BB, 0, none⟩) P cB)
          obtain ⟨wF, hwF⟩ : ∃ U : World, U = (((((((w8.setCell ⟨X + 1, 0, none⟩ (.int .i64 (n : Int))).setCell ⟨X + 1, 1, none⟩ (.slice ae es.length ce)).setCell ⟨X + 1, 2, none⟩ (.int .i64 (P : Int))).setCell ⟨X + 1, 3, none⟩ (.slice ao n co)).setCell ⟨X + 1, 4, none⟩ (.slice ah hv.length ch)).setCell ⟨X + 1, 5, none⟩ (.slice (some ⟨KB, 0, none⟩) P cK)).setCell ⟨X + 1, 6, none⟩ (.slice (some ⟨BB, 0, none⟩) P cB)) := ⟨_, rfl⟩
          rw [← hwF] at hfin hgF
          have hW := hPK8.wld (by omega) (hvldK _) hn64 (hblK _) hES hOS hHS hmE hmO hmH hgF hYl hlo
          have hbE : Below w.heap.size w wF := ((hbS.trans (hPK8.fr.below (fun b h => by have := h.1; omega) hbS.size)).grown hgF (by have := hbS.size; have := hPK8.fr.size; omega) (fun t e => by have e1 : X + 1 = t := Option.some.inj e; omega))
          obtain ⟨t0, t1, t2, t3, t4, t5, t6⟩ := cells7 hfin
          obtain ⟨z0, z1, z2, z3, z4, z5, z6⟩ := cells7 hY8
          have fY := fun t => free_blk (j := t) hY8
          have fY0 := fY 0
          have fY1 := fY 1
          have fY2 := fY 2
          have fY3 := fY 3
          have fY4 := fY 4
          have fY5 := fY 5
          have fY6 := fY 6
          clear fY
          have HWF := Lib.hid hwF
          clear hfin hgF hwF
          go_wp2_with fail
          rw [← HWF.out]
          exact bodyPost_ret (v := .tuple #[.agg #[.int .i64 (n : Int), .slice ae es.length ce, .int .i64 (P : Int), .slice ao n co, .slice ah hv.length ch, .slice (some ⟨KB, 0, none⟩) P cK, .slice (some ⟨BB, 0, none⟩) P cB], .int .i64 (k : Int), .int .i64 0]) (by simp [results, Tryz.results26, go_sem, t0, t1, t2, t3, t4, t5, t6]) rfl ⟨_, k, rfl, hW.less (by omega), by omega, hne.out, (fun _ => hL), hbE⟩
        · obtain ⟨i, j, m, r, hi, hj, hb, hget, hstep⟩ := stp_ex (es := es) (n := n) (ow := ow) (plyK es n P ow W SC k) (SC k) (by rw [hL]; exact hLn)
          rw [hL, hsve] at hget
          have hLp : 0 < L.length := List.length_pos_iff.2 hLn
          have hLl : L.length ≤ 8 * 64 := by
            rw [← hL]
            have h1 := rdyR_len (bxL P (plyK es n P ow W SC k)) (fun r hr => by
              obtain ⟨t, ht, rfl⟩ := List.mem_map.1 hr
              simp; omega) (bxL P (plyK es n P ow W SC k)).length (Nat.le_refl _)
            rw [bxL_len] at h1
            show (rdyR _ (bxL P (plyK es n P ow W SC k)).length).length ≤ _
            rw [bxL_len]
            have h2 : P * 64 ≤ 8 * 64 := Nat.mul_le_mul_right _ hP8
            omega
          obtain ⟨p, hp⟩ : ∃ p, pickN sv L.length = p := ⟨_, rfl⟩
          have hpl : p < L.length := by rw [← hp]; exact pickN_lt sv hLp
          rw [hp] at hget
          have hb1 : -(L.length : Int) < sv.tmod L.length := by have := Int.lt_tmod_of_pos sv (show (0 : Int) < (L.length : Int) by omega); omega
          have hb2 : sv.tmod L.length < (L.length : Int) := Int.tmod_lt_of_pos sv (by omega)
          have hpe : (sv.tmod L.length + L.length).tmod L.length = (p : Int) := by
            rw [← hp]; unfold pickN
            have := Int.tmod_nonneg (L.length : Int) (show 0 ≤ sv.tmod L.length + L.length by omega)
            omega
          have hpe2 : (sv.tmod L.length + L.length) % (L.length : Int) = (p : Int) := by rw [← Int.tmod_eq_emod_of_nonneg (show 0 ≤ sv.tmod L.length + L.length by omega)]; exact hpe
          obtain ⟨b8, o8, x, rfl, hx, hcap8, hc⟩ := hR8.elem p hpl
          rw [hget] at hx
          obtain rfl := (Option.some.inj hx).symm
          have d0 := hc 0 _ rfl
          have d1 := hc 1 _ rfl
          have hk2 : encC.k = 2 := rfl
          rw [hk2, Nat.add_zero] at d0
          rw [hk2] at d1
          have hpl3 : (p : Int) < L.length := by omega
          obtain ⟨hP0, hb9⟩ := boxG_new w8 #[.int .i64 (i : Int), .int .i64 (j : Int)] 54
          obtain ⟨w9, hw9⟩ : ∃ U : World, U = w8.alloc (.cells #[.int .i64 (i : Int), .int .i64 (j : Int)] 54) := ⟨_, rfl⟩
          rw [← hw9] at hP0 hb9
          have hOB9 := lit_next' hb9 hOB8
          have hC9 := lit_next' hb9 hC8
          have hPK9 := hPK8.below hb9
          have hdl := plydlv_any n P i j lo s0 wc.heap.size KB BB cK cB R cR (n : Int) (P : Int) ae ao ah ah es.length n hv.length hv.length ce co ch ch es ow ao (some ⟨N, 0, none⟩) co n (plyK es n P ow W SC k) m r wc w9 hn64 (by omega) hG.how hi hj hb (hvldK k) (hblK k) hPK9 hlo4 (by omega) rfl hOS hmO.low hN5
          obtain ⟨b0', hb0'⟩ : ∃ b, w8.heap.size = b := ⟨_, rfl⟩
          rw [hb0'] at hP0
          clear o0 o1 o2 o3 o4 o5 o6
          obtain ⟨o0, o1, o2, o3, o4, o5, o6⟩ := cells7 hOB9
          obtain ⟨g0, g1, g2, g3⟩ := cells4 hC9
          have q0 : w9.cell? ⟨b0', 0, none⟩ = some (.int .i64 (i : Int)) := cell_blk hP0
          have q1 : w9.cell? ⟨b0', 1, none⟩ = some (.int .i64 (j : Int)) := cell_blk hP0
          have HW9 := Lib.hid hw9
          have hne2 : Hid (∀ i, i < k + 1 → rdyW P (plyK es n P ow W SC i) ≠ []) := (show ∀ i, i < k + 1 → _ from fun i hi => by
            by_cases e : i = k
            · rw [e, hL]; exact hLn
            · exact hne.out i (by omega))
          have hpk : plyK es n P ow W SC (k + 1) = dlvP es n P ow (plyK es n P ow W SC k) i j := hstep
          have HPK := Lib.hid hpk
          clear hw9 hp hget hx hc hstep hpk hPK8 hPK9 hOB8 hC8 hY8 hR8 hb8 hb9 hb hL hsv hne
          go_wp2_with (rw [← HW9.out])
          refine hdl.mono ?_
          rintro e w10 ⟨rfl, hPK10⟩
          go_wp2_with fail
          go_roundw
          case rel => exact ⟨k + 1, by omega, by go_num, by rw [HPK.out]; exact hPK10, hne2⟩
          case measure => simp [intOf]; omega
      · have hke : k = sc.length := by omega
        subst hke
        have hfin := set7all (d0 := .int .i64 (n : Int)) (d1 := .slice ae es.length ce) (d2 := .int .i64 (P : Int)) (d3 := .slice ao n co) (d4 := .slice ah hv.length ch) (d5 := .slice (some ⟨KB, 0, none⟩) P cK) (d6 := .slice (some ⟨BB, 0, none⟩) P cB) hYr
        have hgF := set7_grown wr (X + 1) (.int .i64 (n : Int)) (.slice ae es.length ce) (.int .i64 (P : Int)) (.slice ao n co) (.slice ah hv.length ch) (.slice (some ⟨KB, 0, none⟩) P cK) (.slice (some ⟨BB, 0, none⟩) P cB)
        obtain ⟨wF, hwF⟩ : ∃ U : World, U = (((((((wr.setCell ⟨X + 1, 0, none⟩ (.int .i64 (n : Int))).setCell ⟨X + 1, 1, none⟩ (.slice ae es.length ce)).setCell ⟨X + 1, 2, none⟩ (.int .i64 (P : Int))).setCell ⟨X + 1, 3, none⟩ (.slice ao n co)).setCell ⟨X + 1, 4, none⟩ (.slice ah hv.length ch)).setCell ⟨X + 1, 5, none⟩ (.slice (some ⟨KB, 0, none⟩) P cK)).setCell ⟨X + 1, 6, none⟩ (.slice (some ⟨BB, 0, none⟩) P cB)) := ⟨_, rfl⟩
        rw [← hwF] at hfin hgF
        have hW := hPK.wld (by omega) (hvldK _) hn64 (hblK _) hES hOS hHS hmE hmO hmH hgF hYl hlo
        have hbE : Below w.heap.size w wF := ((hbS.trans (hPK.fr.below (fun b h => by have := h.1; omega) hbS.size)).grown hgF (by have := hbS.size; have := hPK.fr.size; omega) (fun t e => by have e1 : X + 1 = t := Option.some.inj e; omega))
        obtain ⟨t0, t1, t2, t3, t4, t5, t6⟩ := cells7 hfin
        have HWF := Lib.hid hwF
        clear hfin hgF hwF
        go_wp2_with fail
        rw [← HWF.out]
        exact bodyPost_ret (v := .tuple #[.agg #[.int .i64 (n : Int), .slice ae es.length ce, .int .i64 (P : Int), .slice ao n co, .slice ah hv.length ch, .slice (some ⟨KB, 0, none⟩) P cK, .slice (some ⟨BB, 0, none⟩) P cB], .int .i64 (sc.length : Int), .int .i64 0]) (by simp [results, Tryz.results26, go_sem, t0, t1, t2, t3, t4, t5, t6]) rfl ⟨_, sc.length, rfl, hW.less (by omega), Nat.le_refl _, hne.out, (fun h => absurd h (Nat.lt_irrefl _)), hbE⟩
end Go.Proofs.YtdkmdcdoiaelfaaGreat

namespace Go.Proofs.YtdkmdcdoiaelfaaGreat
open Go.RowKit Go.BigFrame

theorem least_ex (p : Nat → Prop) : ∀ n, p n → ∃ m, p m ∧ ∀ k, p k → m ≤ k := by
  intro n
  induction n using Nat.strongRecOn with
  | ind n ih =>
    intro h
    by_cases e : ∃ k, k < n ∧ p k
    · obtain ⟨k, hk, hp⟩ := e
      exact ih k hk hp
    · exact ⟨n, h, fun k hk => Nat.le_of_not_lt fun hl => e ⟨k, hl, hk⟩⟩
/-- the least number of which something holds -/
noncomputable def leastN (p : Nat → Prop) : Nat := Classical.epsilon fun m => p m ∧ ∀ k, p k → m ≤ k
theorem leastN_spec {p : Nat → Prop} {n : Nat} (h : p n) : p (leastN p) ∧ leastN p ≤ n := by
  have h1 := Classical.epsilon_spec (p := fun m => p m ∧ ∀ k, p k → m ≤ k) (least_ex p n h)
  exact ⟨h1.1, h1.2 n h⟩
def FinR (wS : World) (lo s0 s1 n P KB BB cK cB : Nat) (R cR : Nat → Nat) (es : List E2) (ow : Nat → Nat) (W : WdP) (k : Nat) (vl : Value) (wr : World) : Prop :=
  ∃ a c, vl = .slice a (rdyW P (plyK es n P ow W (fun _ => 0) k)).length c ∧ RowAt encC wr vl (rdyW P (plyK es n P ow W (fun _ => 0) k)) ∧ PlyS wS wr lo s0 s1 P KB BB cK cB R cR (plyK es n P ow W (fun _ => 0) k) ∧ ∀ i, i < k → rdyW P (plyK es n P ow W (fun _ => 0) i) ≠ []
set_option linter.unusedSimpArgs false in
set_option maxRecDepth 100000 in
set_option maxHeartbeats 6400000 in
theorem rdfinishS_any (n P : Nat) (es : List E2) (ow : Nat → Nat) (hv : List Int) (W : WdP) (v : Value) (w : World) (hG : GoodW n P es ow hv W) (h : WldAt w v (wdL n P es ow hv W)) (hpot : potN n P ow W ≤ 800000) :
    Calls Tryz.prog 28 #[v] w fun e w' => ∃ (v' : Value) (k : Nat), e = .returned (.tuple #[v', .int .i64 0]) ∧ WldS w.heap.size w' v' (wdL n P es ow hv (plyK es n P ow W (fun _ => 0) k)) ∧ (∀ i, i < k → rdyW P (plyK es n P ow W (fun _ => 0) i) ≠ []) ∧ rdyW P (plyK es n P ow W (fun _ => 0) k) = [] ∧ Below w.heap.size w w' := by
  have hn64 : n ≤ 64 := by have := hG.hg.2.1; omega
  have hP8 := hG.hP.2
  obtain ⟨k0, k2, e1, e3, e4, e5, e6, l1, l3, l4, l5, l6, d1, d3, d4, d5, d6, rfl⟩ := h.shape
  obtain ⟨hX0, hb0⟩ := boxG_new w #[.int .i64 k0, .slice e1 l1 d1, .int .i64 k2, .slice e3 l3 d3, .slice e4 l4 d4, .slice e5 l5 d5, .slice e6 l6 d6] 36
  obtain ⟨w1, hw1⟩ : ∃ U : World, U = w.alloc (.cells #[.int .i64 k0, .slice e1 l1 d1, .int .i64 k2, .slice e3 l3 d3, .slice e4 l4 d4, .slice e5 l5 d5, .slice e6 l6 d6] 36) := ⟨_, rfl⟩
  have hz1 : w1.heap.size = w.heap.size + 1 := by rw [hw1]; simp
  rw [← hw1] at hX0 hb0
  obtain ⟨hY0, hb1⟩ := boxG_new w1 #[.int .i64 0, .slice none 0 0, .int .i64 0, .slice none 0 0, .slice none 0 0, .slice none 0 0, .slice none 0 0] 36
  obtain ⟨wA, hwA⟩ : ∃ U : World, U = w1.alloc (.cells #[.int .i64 0, .slice none 0 0, .int .i64 0, .slice none 0 0, .slice none 0 0, .slice none 0 0, .slice none 0 0] 36) := ⟨_, rfl⟩
  rw [← hwA] at hY0 hb1
  have hX1 := lit_next' hb1 hX0
  have hbA := hb0.trans (hb1.mono hb0.size)
  obtain ⟨X, hX⟩ : ∃ X, w.heap.size = X := ⟨_, rfl⟩
  rw [hz1] at hY0
  rw [hX] at hX1 hY0
  have hwA2 : wA = (w.alloc (.cells #[.int .i64 k0, .slice e1 l1 d1, .int .i64 k2, .slice e3 l3 d3, .slice e4 l4 d4, .slice e5 l5 d5, .slice e6 l6 d6] 36)).alloc (.cells #[.int .i64 0, .slice none 0 0, .int .i64 0, .slice none 0 0, .slice none 0 0, .slice none 0 0, .slice none 0 0] 36) := by rw [hwA, hw1]
  have HWA := Lib.hid hwA2
  have hva := rdvalid_any _ _ wA (h.below hbA) hG.box
  rw [hG.val] at hva
  clear hwA hw1 hwA2 hX0 hb0 hb1 hz1 w1
  obtain ⟨x0, x1, x2, x3, x4, x5, x6⟩ := cells7 hX1
  go_enter Tryz.func28, Tryz.ntmps28
  go_wp2_with (rw [← HWA.out])
  refine hva.mono ?_
  rintro e w1 ⟨rfl, hb1⟩
  have hbw1 := hbA.trans (hb1.mono hbA.size)
  have hX2 := lit_next' hb1 hX1
  have hY2 := lit_next' hb1 hY0
  clear hva x0 x1 x2 x3 x4 x5 x6 hX1 hY0
  obtain ⟨x0, x1, x2, x3, x4, x5, x6⟩ := cells7 hX2
  have hcp := rdcopyG_any n P es ow hv W _ w1 hG (h.below hbw1)
  go_wp2_with fail
  refine hcp.mono ?_
  rintro e w4 ⟨ae, ao, ah, ce, co, ch, lo, KB, BB, cK, cB, R, cR, vs, rfl, hE4, hO4, hH4, hmE, hmO, hmH, hlo, hlo4, hOW, hb4⟩
  have hY4 := lit_next' hb4 hY2
  have hbw4 := hbw1.trans (hb4.mono hbw1.size)
  obtain ⟨hO0, hb5⟩ := boxG_new w4 #[.int .i64 (n : Int), .slice ae es.length ce, .int .i64 (P : Int), .slice ao n co, .slice ah hv.length ch, .slice (some ⟨KB, 0, none⟩) P cK, .slice (some ⟨BB, 0, none⟩) P cB] 36
  obtain ⟨w5, hw5⟩ : ∃ U : World, U = w4.alloc (.cells #[.int .i64 (n : Int), .slice ae es.length ce, .int .i64 (P : Int), .slice ao n co, .slice ah hv.length ch, .slice (some ⟨KB, 0, none⟩) P cK, .slice (some ⟨BB, 0, none⟩) P cB] 36) := ⟨_, rfl⟩
  have hz5 : w5.heap.size = w4.heap.size + 1 := by rw [hw5]; simp
  rw [← hw5] at hO0 hb5
  have hE5 := hE4.below hb5
  have hO5 := hO4.below hb5
  have hH5 := hH4.below hb5
  have hY5 := lit_next' hb5 hY4
  obtain ⟨s0, hs0⟩ : ∃ s, w4.heap.size = s := ⟨_, rfl⟩
  rw [hs0] at hO0 hz5 hlo4
  have hYl : X + 1 < w1.heap.size := blk_lt hY2
  have HW5 := Lib.hid hw5
  clear hw5 x0 x1 x2 x3 x4 x5 x6 hX2 hcp hb1 hY2 hbA hE4 hH4 hY4
  have c0 : w5.cell? ⟨s0, 0, none⟩ = some (.int .i64 (n : Int)) := cell_blk hO0
  have c1 : w5.cell? ⟨s0, 1, none⟩ = some (.slice ae es.length ce) := cell_blk hO0
  have c2 : w5.cell? ⟨s0, 2, none⟩ = some (.int .i64 (P : Int)) := cell_blk hO0
  have c3 : w5.cell? ⟨s0, 3, none⟩ = some (.slice ao n co) := cell_blk hO0
  have c4 : w5.cell? ⟨s0, 4, none⟩ = some (.slice ah hv.length ch) := cell_blk hO0
  go_upto_region 4 with fail
  rw [← HW5.out]
  have hs5 : s0 < w5.heap.size := by omega
  clear hz5
  go_cut [5] from 13 to 18 (fun cv wx => ∃ C N, cv = .pointer (some ⟨C, 0, none⟩) ∧ wx.heap[C]? = some (.cells #[.int .i64 (P : Int), .slice ao n co, .slice ah hv.length ch, .slice (some ⟨N, 0, none⟩) n n] 70 (0, 0)) ∧ RowsX (fun b => s0 ≤ b ∧ b < wx.heap.size) wx (.slice (some ⟨N, 0, none⟩) n n) (nearL es n) ∧ Below w5.heap.size w5 wx ∧ w5.heap.size ≤ C ∧ C < wx.heap.size)
  case first =>
    refine wp_region_heldK (k := 7) (S := fun b W => match b with | false => (W.cell? ⟨s0, 0, none⟩ = some (.int .i64 (n : Int)) ∧ W.cell? ⟨s0, 1, none⟩ = some (.slice ae es.length ce) ∧ W.cell? ⟨s0, 2, none⟩ = some (.int .i64 (P : Int)) ∧ W.cell? ⟨s0, 3, none⟩ = some (.slice ao n co) ∧ W.cell? ⟨s0, 4, none⟩ = some (.slice ah hv.length ch)) | true => True) (by kernel_rfl) ?_
    have hS0 : (w5.drew.cell? ⟨s0, 0, none⟩ = some (.int .i64 (n : Int)) ∧ w5.drew.cell? ⟨s0, 1, none⟩ = some (.slice ae es.length ce) ∧ w5.drew.cell? ⟨s0, 2, none⟩ = some (.int .i64 (P : Int)) ∧ w5.drew.cell? ⟨s0, 3, none⟩ = some (.slice ao n co) ∧ w5.drew.cell? ⟨s0, 4, none⟩ = some (.slice ah hv.length ch)) := ⟨c0, c1, c2, c3, c4⟩
    refine tkA 0 (.pointer (some ⟨s0, 2, none⟩)) true rfl (fun _ _ => trivial) false hS0 ?_
    refine tkA 1 (.agg #[.int .i64 (P : Int), .slice ao n co, .slice ah hv.length ch]) false rfl (fun _ _ => trivial) false hS0 ?_
    refine tkA 2 (.pointer (some ⟨s0, 0, none⟩)) true rfl (fun _ _ => trivial) false hS0 ?_
    refine tkA 3 (.agg #[.int .i64 (n : Int), .slice ae es.length ce]) false rfl (fun _ _ => trivial) false hS0 ?_
    try simp only [Act.put, List.setIfInBounds_toArray, List.set_cons_zero, List.set_cons_succ]
    refine wpAnyK_two (i := 4) (j := 6) (by kernel_rfl) rfl rfl (by rfl) (by rfl) (b := false) (b2 := false) (by kernel_rfl) (by kernel_rfl) (fun K hK => ?_) (fun K hK => ?_)
    · go_simp
      go_at_call 33
      refine (rdneigh_any n ae ce es w5.drew (hE5.below (Below.refl _ _).drew) hG.hg).mono ?_
      rintro e w6 ⟨N, rfl, hN, vs2, hGn, hb6'⟩
      have hb6 : Below w5.heap.size w5 w6 := (Below.refl w5.heap.size w5).drew.trans hb6'
      have hS2 : (w6.cell? ⟨s0, 0, none⟩ = some (.int .i64 (n : Int)) ∧ w6.cell? ⟨s0, 1, none⟩ = some (.slice ae es.length ce) ∧ w6.cell? ⟨s0, 2, none⟩ = some (.int .i64 (P : Int)) ∧ w6.cell? ⟨s0, 3, none⟩ = some (.slice ao n co) ∧ w6.cell? ⟨s0, 4, none⟩ = some (.slice ah hv.length ch)) := ⟨(hb6.cell (p := ⟨s0, 0, none⟩) hs5).trans c0, (hb6.cell (p := ⟨s0, 1, none⟩) hs5).trans c1, (hb6.cell (p := ⟨s0, 2, none⟩) hs5).trans c2, (hb6.cell (p := ⟨s0, 3, none⟩) hs5).trans c3, (hb6.cell (p := ⟨s0, 4, none⟩) hs5).trans c4⟩
      dsimp only
      refine hK.out _ _ hS2 ?_
      try simp only [Act.put, List.setIfInBounds_toArray, List.set_cons_zero, List.set_cons_succ]
      refine tkA 5 (.agg #[.int .i64 (P : Int), .slice ao n co, .slice ah hv.length ch, .slice (some ⟨N, 0, none⟩) n n]) true rfl (fun _ _ => trivial) false hS2 ?_
      try simp only [Act.put, List.setIfInBounds_toArray, List.set_cons_zero, List.set_cons_succ]
      refine wpAnyK_one (i := 6) (by kernel_rfl) rfl (by rfl) (b := false) (by kernel_rfl) (fun K hK => ?_)
      go_simp
      refine hK.out _ _ (show ((w6.alloc (.cells #[.int .i64 0, .slice none 0 0, .slice none 0 0, .slice none 0 0] 70)).cell? ⟨s0, 0, none⟩ = some (.int .i64 (n : Int)) ∧ (w6.alloc (.cells #[.int .i64 0, .slice none 0 0, .slice none 0 0, .slice none 0 0] 70)).cell? ⟨s0, 1, none⟩ = some (.slice ae es.length ce) ∧ (w6.alloc (.cells #[.int .i64 0, .slice none 0 0, .slice none 0 0, .slice none 0 0] 70)).cell? ⟨s0, 2, none⟩ = some (.int .i64 (P : Int)) ∧ (w6.alloc (.cells #[.int .i64 0, .slice none 0 0, .slice none 0 0, .slice none 0 0] 70)).cell? ⟨s0, 3, none⟩ = some (.slice ao n co) ∧ (w6.alloc (.cells #[.int .i64 0, .slice none 0 0, .slice none 0 0, .slice none 0 0] 70)).cell? ⟨s0, 4, none⟩ = some (.slice ah hv.length ch)) from ⟨cell_alloc hS2.1, cell_alloc hS2.2.1, cell_alloc hS2.2.2.1, cell_alloc hS2.2.2.2.1, cell_alloc hS2.2.2.2.2⟩) ?_
      try simp only [Act.put, List.setIfInBounds_toArray, List.set_cons_zero, List.set_cons_succ]
      refine wpAnyK_one (i := 7) (by kernel_rfl) rfl (by rfl) (b := true) (by kernel_rfl) (fun K hK => ?_)
      go_simp
      refine hK.out _ _ trivial (wpAnyK_done (by kernel_rfl) ?_ _)
      have hzd : w5.drew.heap.size = w5.heap.size := rfl
      have hC := heap_alloc_new w6 (.cells #[.int .i64 (P : Int), .slice ao n co, .slice ah hv.length ch, .slice (some ⟨N, 0, none⟩) n n] 70)
      have hbC : Below w6.heap.size w6 (w6.alloc (.cells #[.int .i64 (P : Int), .slice ao n co, .slice ah hv.length ch, .slice (some ⟨N, 0, none⟩) n n] 70)) := (Below.refl _ _).alloc (Nat.le_refl _) _
      have hzC : (w6.alloc (.cells #[.int .i64 (P : Int), .slice ao n co, .slice ah hv.length ch, .slice (some ⟨N, 0, none⟩) n n] 70)).heap.size = w6.heap.size + 1 := by simp
      have hz6 := hb6.size
      have hR : RowsX (fun b => s0 ≤ b ∧ b < (w6.alloc (.cells #[.int .i64 (P : Int), .slice ao n co, .slice ah hv.length ch, .slice (some ⟨N, 0, none⟩) n n] 70)).heap.size) w6 (.slice (some ⟨N, 0, none⟩) n n) (nearL es n) := GridO.rowsX (Ls := fun i => castL (nbL es n i)) hGn (by omega) (Nat.le_refl _) (fun i hi => by have := nb_lt hG.hg i hi; rw [castL, List.length_map]; omega) _ (by have := hGn.lt; have := hbC.size; exact ⟨by omega, by omega⟩) (fun i hi b e => by have := (hGn.own i hi).lt b e; have := hbC.size; exact ⟨by omega, by omega⟩)
      go_wp2_with fail
      go_meet
      exact ⟨w6.heap.size, N, rfl, hC, hR.below hbC, hb6.trans (hbC.mono hb6.size), hz6, by omega⟩
    · go_simp
      have hC0 := heap_alloc_new w5.drew (.cells #[.int .i64 0, .slice none 0 0, .slice none 0 0, .slice none 0 0] 70)
      have hbC : Below w5.heap.size w5 (w5.drew.alloc (.cells #[.int .i64 0, .slice none 0 0, .slice none 0 0, .slice none 0 0] 70)) := ((Below.refl w5.heap.size w5).drew).alloc (Nat.le_refl _) _
      have hzC : (w5.drew.alloc (.cells #[.int .i64 0, .slice none 0 0, .slice none 0 0, .slice none 0 0] 70)).heap.size = w5.drew.heap.size + 1 := by simp
      refine hK.out _ _ (show ((w5.drew.alloc (.cells #[.int .i64 0, .slice none 0 0, .slice none 0 0, .slice none 0 0] 70)).cell? ⟨s0, 0, none⟩ = some (.int .i64 (n : Int)) ∧ (w5.drew.alloc (.cells #[.int .i64 0, .slice none 0 0, .slice none 0 0, .slice none 0 0] 70)).cell? ⟨s0, 1, none⟩ = some (.slice ae es.length ce) ∧ (w5.drew.alloc (.cells #[.int .i64 0, .slice none 0 0, .slice none 0 0, .slice none 0 0] 70)).cell? ⟨s0, 2, none⟩ = some (.int .i64 (P : Int)) ∧ (w5.drew.alloc (.cells #[.int .i64 0, .slice none 0 0, .slice none 0 0, .slice none 0 0] 70)).cell? ⟨s0, 3, none⟩ = some (.slice ao n co) ∧ (w5.drew.alloc (.cells #[.int .i64 0, .slice none 0 0, .slice none 0 0, .slice none 0 0] 70)).cell? ⟨s0, 4, none⟩ = some (.slice ah hv.length ch)) from ⟨cell_alloc c0, cell_alloc c1, cell_alloc c2, cell_alloc c3, cell_alloc c4⟩) ?_
      try simp only [Act.put, List.setIfInBounds_toArray, List.set_cons_zero, List.set_cons_succ]
      refine wpAnyK_one (i := 4) (by kernel_rfl) rfl (by rfl) (b := false) (by kernel_rfl) (fun K hK => ?_)
      go_simp
      go_at_call 33
      refine (rdneigh_any n ae ce es _ (hE5.below hbC) hG.hg).mono ?_
      rintro e w6 ⟨N, rfl, hN, vs2, hGn, hb6'⟩
      have hb6 : Below w5.heap.size w5 w6 := hbC.trans (hb6'.mono hbC.size)
      have hS2 : (w6.cell? ⟨s0, 0, none⟩ = some (.int .i64 (n : Int)) ∧ w6.cell? ⟨s0, 1, none⟩ = some (.slice ae es.length ce) ∧ w6.cell? ⟨s0, 2, none⟩ = some (.int .i64 (P : Int)) ∧ w6.cell? ⟨s0, 3, none⟩ = some (.slice ao n co) ∧ w6.cell? ⟨s0, 4, none⟩ = some (.slice ah hv.length ch)) := ⟨(hb6.cell (p := ⟨s0, 0, none⟩) hs5).trans c0, (hb6.cell (p := ⟨s0, 1, none⟩) hs5).trans c1, (hb6.cell (p := ⟨s0, 2, none⟩) hs5).trans c2, (hb6.cell (p := ⟨s0, 3, none⟩) hs5).trans c3, (hb6.cell (p := ⟨s0, 4, none⟩) hs5).trans c4⟩
      have hC2 : w6.heap[w5.heap.size]? = _ := lit_next' hb6' hC0
      obtain ⟨r0, r1, r2, r3⟩ := cells4 hC2
      obtain ⟨f0, f1, f2, f3⟩ := frees4 hC2
      dsimp only
      refine hK.out _ _ hS2 ?_
      try simp only [Act.put, List.setIfInBounds_toArray, List.set_cons_zero, List.set_cons_succ]
      refine tkA 5 (.agg #[.int .i64 (P : Int), .slice ao n co, .slice ah hv.length ch, .slice (some ⟨N, 0, none⟩) n n]) true rfl (fun _ _ => trivial) false hS2 ?_
      try simp only [Act.put, List.setIfInBounds_toArray, List.set_cons_zero, List.set_cons_succ]
      refine wpAnyK_one (i := 7) (by kernel_rfl) rfl (by rfl) (b := true) (by kernel_rfl) (fun K hK => ?_)
      go_simp
      refine hK.out _ _ trivial (wpAnyK_done (by kernel_rfl) ?_ _)
      have hzd : w5.drew.heap.size = w5.heap.size := rfl
      have hC3 := set4all (d0 := .int .i64 (P : Int)) (d1 := .slice ao n co) (d2 := .slice ah hv.length ch) (d3 := .slice (some ⟨N, 0, none⟩) n n) hC2
      have hg4 := set4_grown w6 w5.heap.size (.int .i64 (P : Int)) (.slice ao n co) (.slice ah hv.length ch) (.slice (some ⟨N, 0, none⟩) n n)
      have hb44 := set4_below hb6 (g := w5.heap.size) (Nat.le_refl _) (.int .i64 (P : Int)) (.slice ao n co) (.slice ah hv.length ch) (.slice (some ⟨N, 0, none⟩) n n)
      have hlt6 : w5.heap.size < w6.heap.size := blk_lt hC2
      have hR : RowsX (fun b => (s0 ≤ b ∧ b < ((((w6.setCell ⟨w5.heap.size, 0, none⟩ (.int .i64 (P : Int))).setCell ⟨w5.heap.size, 1, none⟩ (.slice ao n co)).setCell ⟨w5.heap.size, 2, none⟩ (.slice ah hv.length ch)).setCell ⟨w5.heap.size, 3, none⟩ (.slice (some ⟨N, 0, none⟩) n n)).heap.size) ∧ b ≠ w5.heap.size) w6 (.slice (some ⟨N, 0, none⟩) n n) (nearL es n) := GridO.rowsX (Ls := fun i => castL (nbL es n i)) hGn (by omega) (Nat.le_refl _) (fun i hi => by have := nb_lt hG.hg i hi; rw [castL, List.length_map]; omega) _ (by have := hGn.lt; have := hg4.size; exact ⟨⟨by omega, by omega⟩, by omega⟩) (fun i hi b e => by have := (hGn.own i hi).lt b e; have := hg4.size; exact ⟨⟨by omega, by omega⟩, by omega⟩)
      go_wp2_with fail
      go_meet
      exact ⟨w5.heap.size, N, rfl, hC3, (hR.grown hg4 (fun b hq e => hq.2 (Option.some.inj e).symm)).imp (fun b hq => hq.1), hb44, Nat.le_refl _, by have := hg4.size; omega⟩
  case rest =>
    obtain ⟨C, N, rfl, hC5, hN5, hb6, hC1, hC2⟩ := hcut
    have hbS := hbw4.trans ((hb5.trans (hb6.mono hb5.size)).mono hbw4.size)
    have hb4S := hb5.trans (hb6.mono hb5.size)
    have hES := hE5.below hb6
    have hOS := hO5.below hb6
    have hHS := hH5.below hb6
    have hYS := lit_next' hb6 hY5
    have hOBS := lit_next' hb6 hO0
    have hPS := PlyS.start (wS := wc) (s0 := s0) (s1 := wc.heap.size) (V := W) hOW hb4S hs0.symm
    have hzc := hb6.size
    have hwl : w.heap.size ≤ w1.heap.size := hbw1.size
    have hvldK := fun k => ply_vld (es := es) hG.how hG.vld (fun _ => 0) k
    have hpotK := fun k => ply_potle (es := es) hG.how hG.vld (fun _ => 0) k
    have hpotD := ply_pot (es := es) hG.how hG.vld (fun _ => 0)
    have hblK : ∀ k a b, a < P → b < P → ((plyK es n P ow W (fun _ => 0) k).bx a b).length ≤ 900000 := fun k a b ha hb => by
      have h1 := bx_pot (n := n) (ow := ow) (W := plyK es n P ow W (fun _ => 0) k) ha hb
      have h2 := hpotK k
      omega
    clear hE5 hO5 hH5 hY5 hO0 c0 c1 c2 c3 c4 hb5 hb6
    obtain ⟨PT, hPT⟩ : ∃ p, potN n P ow W = p := ⟨_, rfl⟩
    obtain ⟨o0, o1, o2, o3, o4, o5, o6⟩ := cells7 hOBS
    have hrd := plyrdy_any P lo s0 wc.heap.size KB BB cK cB R cR (n : Int) (P : Int) ae ao ah (some ⟨KB, 0, none⟩) es.length n hv.length P ce co ch cK _ wc wc (by omega) (hblK 0) hPS
    go_wp2_with fail
    refine hrd.mono ?_
    rintro e w7 ⟨a7, c7, rfl, hR7, hb7⟩
    have hF0 : FinR wc lo s0 wc.heap.size n P KB BB cK cB R cR es ow W 0 (.slice a7 (rdyW P W).length c7) w7 := ⟨a7, c7, rfl, hR7, hPS.below hb7, fun i hi => absurd hi (by omega)⟩
    clear hrd o0 o1 o2 o3 o4 o5 o6 hPS
    go_wp2_with fail
    go_loopw [6] (fun vl wr => ∃ k : Nat, FinR wc lo s0 wc.heap.size n P KB BB cK cB R cR es ow W k vl wr) (fun vl wr => leastN fun m => ∃ k, FinR wc lo s0 wc.heap.size n P KB BB cK cB R cR es ow W k vl wr ∧ m = PT - k)
    case atStart => exact ⟨0, hF0⟩
    case round =>
      clear hF0 hR7
      obtain ⟨k1, hk1⟩ := hrel
      obtain ⟨⟨k, hk, hmk⟩, -⟩ := leastN_spec (p := fun m => ∃ k, FinR wc lo s0 wc.heap.size n P KB BB cK cB R cR es ow W k _ wr ∧ m = PT - k) ⟨k1, hk1, rfl⟩
      clear hk1
      obtain ⟨a8, c8, rfl, hR8, hPK, hne⟩ := hk
      have hMK := Lib.hid hmk
      have HNE := Lib.hid hne
      clear hmk
      have hfr := hPK.fr
      have hno : ∀ b, s0 ≤ b → b < wc.heap.size → ¬ GdB lo s0 wc.heap.size b := fun b h1 h2 h => by rcases h.2 with h | h <;> omega
      have hOBr := hfr.blk hOBS (hno _ (Nat.le_refl _) (by omega))
      have hCr := hfr.blk hC5 (hno _ (by omega) hC2)
      have hYr := hfr.blk hYS (fun h => by have := h.1; omega)
      obtain ⟨o0, o1, o2, o3, o4, o5, o6⟩ := cells7 hOBr
      obtain ⟨L, hL⟩ : ∃ L, rdyW P (plyK es n P ow W (fun _ => 0) k) = L := ⟨_, rfl⟩
      rw [hL] at hR8 hMK ⊢
      by_cases hLn : L = []
      · subst hLn
        obtain ⟨z0, z1, z2, z3, z4, z5, z6⟩ := cells7 hYr
        have fY := fun t => free_blk (j := t) hYr
        have fY0 := fY 0
        have fY1 := fY 1
        have fY2 := fY 2
        have fY3 := fY 3
        have fY4 := fY 4
        have fY5 := fY 5
        have fY6 := fY 6
        clear fY
        have hfin := set7all (d0 := .int .i64 (n : Int)) (d1 := .slice ae es.length ce) (d2 := .int .i64 (P : Int)) (d3 := .slice ao n co) (d4 := .slice ah hv.length ch) (d5 := .slice (some ⟨KB, 0, none⟩) P cK) (d6 := .slice (some ⟨BB, 0, none⟩) P cB) hYr
        have hgF := set7_grown wr (X + 1) (.int .i64 (n : Int)) (.slice ae es.length ce) (.int .i64 (P : Int)) (.slice ao n co) (.slice ah hv.length ch) (.slice (some ⟨KB, 0, none⟩) P cK) (.slice (some ⟨BB, 0, none⟩) P cB)
        obtain ⟨wF, hwF⟩ : ∃ U : World, U = (((((((wr.setCell ⟨X + 1, 0, none⟩ (.int .i64 (n : Int))).setCell ⟨X + 1, 1, none⟩ (.slice ae es.length ce)).setCell ⟨X + 1, 2, none⟩ (.int .i64 (P : Int))).setCell ⟨X + 1, 3, none⟩ (.slice ao n co)).setCell ⟨X + 1, 4, none⟩ (.slice ah hv.length ch)).setCell ⟨X + 1, 5, none⟩ (.slice (some ⟨KB, 0, none⟩) P cK)).setCell ⟨X + 1, 6, none⟩ (.slice (some ⟨BB, 0, none⟩) P cB)) := ⟨_, rfl⟩
        rw [← hwF] at hfin hgF
        have hW := hPK.wld (by omega) (hvldK _) hn64 (hblK _) hES hOS hHS hmE hmO hmH hgF hYl hlo
        have hbE : Below w.heap.size w wF := ((hbS.trans (hPK.fr.below (fun b h => by have := h.1; omega) hbS.size)).grown hgF (by have := hbS.size; have := hPK.fr.size; omega) (fun t e => by have e1 : X + 1 = t := Option.some.inj e; omega))
        obtain ⟨t0, t1, t2, t3, t4, t5, t6⟩ := cells7 hfin
        have HWF := Lib.hid hwF
        clear hfin hgF hwF
        go_wp2_with fail
        rw [← HWF.out]
        exact bodyPost_ret (v := .tuple #[.agg #[.int .i64 (n : Int), .slice ae es.length ce, .int .i64 (P : Int), .slice ao n co, .slice ah hv.length ch, .slice (some ⟨KB, 0, none⟩) P cK, .slice (some ⟨BB, 0, none⟩) P cB], .int .i64 0]) (by simp [results, Tryz.results28, go_sem, t0, t1, t2, t3, t4, t5, t6]) rfl ⟨_, k, rfl, hW.less (by omega), hne, hL, hbE⟩
      · obtain ⟨i, j, m, r, hi, hj, hb, hget, hstep⟩ := stp_ex (es := es) (n := n) (ow := ow) (plyK es n P ow W (fun _ => 0) k) 0 (by rw [hL]; exact hLn)
        have hLp : 0 < L.length := List.length_pos_iff.2 hLn
        have hLp3 : (0 : Int) < L.length := by omega
        have hp0 : pickN 0 L.length = 0 := by
          unfold pickN
          rw [Int.zero_tmod, Int.zero_add, Int.tmod_self]; rfl
        rw [hL, hp0] at hget
        obtain ⟨b8, o8, x, rfl, hx, hcap8, hc⟩ := hR8.elem 0 hLp
        rw [hget] at hx
        obtain rfl := (Option.some.inj hx).symm
        have d0 := hc 0 _ rfl
        have d1 := hc 1 _ rfl
        rw [Nat.zero_mul, Nat.add_zero] at d0
        rw [Nat.zero_mul, Nat.add_zero] at d1
        have hdl := plydlv_any n P i j lo s0 wc.heap.size KB BB cK cB R cR (n : Int) (P : Int) ae ao ah ah es.length n hv.length hv.length ce co ch ch es ow ao (some ⟨N, 0, none⟩) co n (plyK es n P ow W (fun _ => 0) k) m r wc wr.drew hn64 (by omega) hG.how hi hj hb (hvldK k) (hblK k) (hPK.below (Below.refl _ _).drew) hlo4 (by omega) rfl hOS hmO.low hN5
        obtain ⟨g0, g1, g2, g3⟩ := cells4 hCr
        have hpk : plyK es n P ow W (fun _ => 0) (k + 1) = dlvP es n P ow (plyK es n P ow W (fun _ => 0) k) i j := hstep
        have HPK := Lib.hid hpk
        have hne2 : ∀ i, i < k + 1 → rdyW P (plyK es n P ow W (fun _ => 0) i) ≠ [] := fun i hi => by
          by_cases e : i = k
          · rw [e, hL]; exact hLn
          · exact hne i (by omega)
        have hkp : k + 1 ≤ PT := by have := hpotD (k + 1) hne2; omega
        have HNE2 := Lib.hid hne2
        clear hne hne2 hpk hstep hb hget hx hc hp0 hL
        go_upto_region 8 with fail
        refine wp_region_heldK (k := 10) (S := fun b W => match b with | false => (W.cell? ⟨s0, 0, none⟩ = some (.int .i64 (n : Int)) ∧ W.cell? ⟨s0, 1, none⟩ = some (.slice ae es.length ce) ∧ W.cell? ⟨s0, 2, none⟩ = some (.int .i64 (P : Int)) ∧ W.cell? ⟨s0, 3, none⟩ = some (.slice ao n co) ∧ W.cell? ⟨s0, 4, none⟩ = some (.slice ah hv.length ch) ∧ W.cell? ⟨s0, 5, none⟩ = some (.slice (some ⟨KB, 0, none⟩) P cK) ∧ W.cell? ⟨s0, 6, none⟩ = some (.slice (some ⟨BB, 0, none⟩) P cB) ∧ W.cell? ⟨C, 0, none⟩ = some (.int .i64 (P : Int)) ∧ W.cell? ⟨C, 1, none⟩ = some (.slice ao n co) ∧ W.cell? ⟨C, 2, none⟩ = some (.slice ah hv.length ch) ∧ W.cell? ⟨C, 3, none⟩ = some (.slice (some ⟨N, 0, none⟩) n n) ∧ W.cell? ⟨b8, o8, none⟩ = some (.int .i64 (i : Int)) ∧ W.cell? ⟨b8, o8 + 1, none⟩ = some (.int .i64 (j : Int))) | true => True) (by kernel_rfl) ?_
        have hS0 : (wr.drew.cell? ⟨s0, 0, none⟩ = some (.int .i64 (n : Int)) ∧ wr.drew.cell? ⟨s0, 1, none⟩ = some (.slice ae es.length ce) ∧ wr.drew.cell? ⟨s0, 2, none⟩ = some (.int .i64 (P : Int)) ∧ wr.drew.cell? ⟨s0, 3, none⟩ = some (.slice ao n co) ∧ wr.drew.cell? ⟨s0, 4, none⟩ = some (.slice ah hv.length ch) ∧ wr.drew.cell? ⟨s0, 5, none⟩ = some (.slice (some ⟨KB, 0, none⟩) P cK) ∧ wr.drew.cell? ⟨s0, 6, none⟩ = some (.slice (some ⟨BB, 0, none⟩) P cB) ∧ wr.drew.cell? ⟨C, 0, none⟩ = some (.int .i64 (P : Int)) ∧ wr.drew.cell? ⟨C, 1, none⟩ = some (.slice ao n co) ∧ wr.drew.cell? ⟨C, 2, none⟩ = some (.slice ah hv.length ch) ∧ wr.drew.cell? ⟨C, 3, none⟩ = some (.slice (some ⟨N, 0, none⟩) n n) ∧ wr.drew.cell? ⟨b8, o8, none⟩ = some (.int .i64 (i : Int)) ∧ wr.drew.cell? ⟨b8, o8 + 1, none⟩ = some (.int .i64 (j : Int))) := ⟨o0, o1, o2, o3, o4, o5, o6, g0, g1, g2, g3, d0, d1⟩
        refine tkA 0 (.agg #[.int .i64 (n : Int), .slice ae es.length ce, .int .i64 (P : Int), .slice ao n co, .slice ah hv.length ch, .slice (some ⟨KB, 0, none⟩) P cK, .slice (some ⟨BB, 0, none⟩) P cB]) false rfl (fun _ _ => trivial) false hS0 ?_
        refine tkA 1 (.agg #[.int .i64 (P : Int), .slice ao n co, .slice ah hv.length ch, .slice (some ⟨N, 0, none⟩) n n]) false rfl (fun _ _ => trivial) false hS0 ?_
        refine tkA 2 (.slice (some ⟨b8, o8, none⟩) L.length c8) true rfl (fun _ _ => trivial) false hS0 ?_
        refine tkA 3 (.pointer (some ⟨b8, o8, none⟩)) true rfl (fun _ _ => trivial) false hS0 ?_
        refine tkA 4 (.pointer (some ⟨b8, o8, none⟩)) true rfl (fun _ _ => trivial) false hS0 ?_
        refine tkA 5 (.int .i64 (i : Int)) false rfl (fun _ _ => trivial) false hS0 ?_
        refine tkA 6 (.slice (some ⟨b8, o8, none⟩) L.length c8) true rfl (fun _ _ => trivial) false hS0 ?_
        refine tkA 7 (.pointer (some ⟨b8, o8, none⟩)) true rfl (fun _ _ => trivial) false hS0 ?_
        refine tkA 8 (.pointer (some ⟨b8, o8 + 1, none⟩)) true rfl (fun _ _ => trivial) false hS0 ?_
        refine tkA 9 (.int .i64 (j : Int)) false rfl (fun _ _ => trivial) false hS0 ?_
        try simp only [Act.put, List.setIfInBounds_toArray, List.set_cons_zero, List.set_cons_succ]
        refine wpAnyK_one (i := 10) (by kernel_rfl) rfl (by rfl) (b := true) (by kernel_rfl) (fun K hK => ?_)
        go_simp
        go_at_call 59
        refine hdl.mono ?_
        rintro e w9 ⟨rfl, hPK9⟩
        dsimp only
        refine hK.out _ _ trivial (wpAnyK_done (by kernel_rfl) ?_ _)
        rw [← HPK.out] at hPK9
        have hfr9 := hPK9.fr
        have hOB9 := hfr9.blk hOBS (hno _ (Nat.le_refl _) (by omega))
        clear o0 o1 o2 o3 o4 o5 o6
        obtain ⟨o0, o1, o2, o3, o4, o5, o6⟩ := cells7 hOB9
        have hrd := plyrdy_any P lo s0 wc.heap.size KB BB cK cB R cR (n : Int) (P : Int) ae ao ah (some ⟨KB, 0, none⟩) es.length n hv.length P ce co ch cK _ wc w9 (by omega) (hblK (k + 1)) hPK9
        go_wp2_with fail
        refine hrd.mono ?_
        rintro e w10 ⟨a10, c10, rfl, hR10, hb10⟩
        have hFN : FinR wc lo s0 wc.heap.size n P KB BB cK cB R cR es ow W (k + 1) (.slice a10 (rdyW P (plyK es n P ow W (fun _ => 0) (k + 1))).length c10) w10 := ⟨a10, c10, rfl, hR10, hPK9.below hb10, HNE2.out⟩
        have hms := (leastN_spec (p := fun m => ∃ q, FinR wc lo s0 wc.heap.size n P KB BB cK cB R cR es ow W q (.slice a10 (rdyW P (plyK es n P ow W (fun _ => 0) (k + 1))).length c10) w10 ∧ m = PT - q) ⟨k + 1, hFN, rfl⟩).2
        have HMS := Lib.hid hms
        clear hms hrd
        go_wp2_with fail
        go_roundw
        case rel => exact ⟨k + 1, hFN⟩
        case measure => have h1 := HMS.out; have h2 := hMK.out; omega
end Go.Proofs.YtdkmdcdoiaelfaaGreat

namespace Go.Proofs.YtdkmdcdoiaelfaaGreat
open Go.RowKit Go.BigFrame

theorem GoodW.ply {n P : Nat} {es : List E2} {ow : Nat → Nat} {hv : List Int} {W : WdP} (h : GoodW n P es ow hv W) (hp : potN n P ow W ≤ 800000) (sc : Nat → Int) (k : Nat) : GoodW n P es ow hv (plyK es n P ow W sc k) :=
  ⟨h.hg, h.hP, h.how, h.hh, h.hhl, ply_vld h.how h.vld sc k, fun i j hi hj => by
    have h1 := bx_pot (n := n) (ow := ow) (W := plyK es n P ow W sc k) hi hj
    have h2 := ply_potle (es := es) h.how h.vld sc k
    omega⟩
theorem WldAt.shapeD {w : World} {v : Value} {n P : Nat} {es : List E2} {ow : Nat → Nat} {hv : List Int} {W : WdP} (h : WldAt w v (wdL n P es ow hv W)) : ∃ (ae ao ah ak ab : Option Addr) (ce co ch ck cb : Nat), v = .agg #[.int .i64 (n : Int), .slice ae es.length ce, .int .i64 (P : Int), .slice ao n co, .slice ah hv.length ch, .slice ak P ck, .slice ab P cb] ∧ EdgesAt w (.slice ae es.length ce) es ∧ IntsAt w (.slice ao n co) (owI n ow) ∧ KnA w (.slice ak P ck) ((List.range P).map W.kn) ∧ BoxA w (.slice ab P cb) ((List.range P).map fun r => (List.range P).map (W.bx r)) := by
  obtain ⟨ae, ao, ah, ak, ab, ce, co, ch, ck, cb, rfl, h1, h2, h3, h4, h5⟩ := h
  have hkl : (wdL n P es ow hv W).kn.length = P := by simp [wdL]
  have hbl : (wdL n P es ow hv W).bx.length = P := by simp [wdL]
  have hol : (wdL n P es ow hv W).ow.length = n := owI_length n ow
  rw [hkl] at h4 ⊢
  rw [hbl] at h5 ⊢
  rw [hol] at h2 ⊢
  exact ⟨ae, ao, ah, ak, ab, ce, co, ch, ck, cb, rfl, h1, h2, h4, h5⟩
section
variable {Bw n P s : Nat} {es : List E2} {ow : Nat → Nat} {hv : List Int} {W : WdP} {w w' : World}
theorem set7_fr (w : World) (g : Nat) (d0 d1 d2 d3 d4 d5 d6 : Value) : Fr (fun b => b = g) w (((((((w.setCell ⟨g, 0, none⟩ d0).setCell ⟨g, 1, none⟩ d1).setCell ⟨g, 2, none⟩ d2).setCell ⟨g, 3, none⟩ d3).setCell ⟨g, 4, none⟩ d4).setCell ⟨g, 5, none⟩ d5).setCell ⟨g, 6, none⟩ d6) := (Fr.refl _ w).grown (set7_grown w g _ _ _ _ _ _ _) (fun _ e => .inl (Option.some.inj e).symm)
end
theorem frees7 {w : World} {g T : Nat} {x y z u p q r : Value} (h : w.heap[g]? = some (.cells #[x, y, z, u, p, q, r] T (0, 0))) : w.frozen? ⟨g, 0, none⟩ = false ∧ w.frozen? ⟨g, 1, none⟩ = false ∧ w.frozen? ⟨g, 2, none⟩ = false ∧ w.frozen? ⟨g, 3, none⟩ = false ∧ w.frozen? ⟨g, 4, none⟩ = false ∧ w.frozen? ⟨g, 5, none⟩ = false ∧ w.frozen? ⟨g, 6, none⟩ = false := ⟨free_blk h, free_blk h, free_blk h, free_blk h, free_blk h, free_blk h, free_blk h⟩
theorem IntsAt.atn {w : World} {a : Option Addr} {n cap : Nat} {xs : List Int} (h : IntsAt w (.slice a n cap) xs) (hl : xs.length = n) (k : Nat) (hk : k < n) : ∃ b off, a = some ⟨b, off, none⟩ ∧ w.cell? ⟨b, off + k, none⟩ = some (.int .i64 (xs.getD k 0)) := by
  subst hl
  obtain ⟨b, off, y, rfl, hy, -, -, hc⟩ := h.at k hk
  exact ⟨b, off, rfl, by rw [getD_of hy]; exact hc⟩
/-- few messages at the start -/
theorem sumR_leC (f : Nat → Nat) (c : Nat) : ∀ n, (∀ v, v < n → f v ≤ c) → sumR n f ≤ n * c
  | 0, _ => by rw [sumR]; omega
  | n + 1, h => by
    have := sumR_leC f c n (fun v hv => h v (by omega))
    have := h n (by omega)
    rw [sumR, Nat.succ_mul]; omega
/-- a row of what the workers know -/
theorem KnA.row {w : World} {P : Nat} {a : Option Addr} {cap : Nat} {K : Nat → List Int} (h : KnA w (.slice a P cap) ((List.range P).map K)) (i : Nat) (hi : i < P) : ∃ b off sa sc, a = some ⟨b, off, none⟩ ∧ w.cell? ⟨b, off + i, none⟩ = some (.slice sa (K i).length sc) ∧ IntsAt w (.slice sa (K i).length sc) (K i) := by
  have hl : ((List.range P).map K).length = P := by simp
  have hx : ((List.range P).map K)[i]? = some (K i) := by rw [List.getElem?_map, List.getElem?_range hi]; rfl
  have h' : KnA w (.slice a ((List.range P).map K).length cap) ((List.range P).map K) := by rw [hl]; exact h
  obtain ⟨-, -, b, off, sl, rfl, hc, hI⟩ := h'.at i _ hx
  obtain ⟨sa, sn, sc⟩ := sl
  have hsn : sn = (K i).length := IntsAt.lenE hI
  subst hsn
  exact ⟨b, off, sa, sc, rfl, hc, hI⟩
end Go.Proofs.YtdkmdcdoiaelfaaGreat

namespace Go.Proofs.YtdkmdcdoiaelfaaGreat
open Go.RowKit Go.BigFrame

set_option linter.unusedSimpArgs false in
set_option maxRecDepth 100000 in
set_option maxHeartbeats 6400000 in
theorem rddelS_any (n P : Nat) (es : List E2) (ow : Nat → Nat) (hv : List Int) (W : WdP) (i j : Nat) (m : Msg) (r : List Msg) (v : Value) (w : World) (hG : GoodW n P es ow hv W) (h : WldAt w v (wdL n P es ow hv W)) (hi : i < P) (hj : j < P) (hb : W.bx i j = m :: r) (hpot : potN n P ow W ≤ 800000) :
    Calls Tryz.prog 24 #[v, .int .i64 (i : Int), .int .i64 (j : Int)] w fun e w' => ∃ v' : Value, e = .returned (.tuple #[v', .int .i64 0]) ∧ WldS w.heap.size w' v' (wdL n P es ow hv (dlvP es n P ow W i j)) ∧ Below w.heap.size w w' := by
  have hn64 : n ≤ 64 := by have := hG.hg.2.1; omega
  have hP8 := hG.hP.2
  obtain ⟨e1, e3, e4, e5, e6, d1, d3, d4, d5, d6, rfl, -, -, -, hBxA⟩ := h.shapeD
  obtain ⟨hX0, hb0⟩ := boxG_new w #[.int .i64 (n : Int), .slice e1 es.length d1, .int .i64 (P : Int), .slice e3 n d3, .slice e4 hv.length d4, .slice e5 P d5, .slice e6 P d6] 36
  obtain ⟨w1, hw1⟩ : ∃ U : World, U = w.alloc (.cells #[.int .i64 (n : Int), .slice e1 es.length d1, .int .i64 (P : Int), .slice e3 n d3, .slice e4 hv.length d4, .slice e5 P d5, .slice e6 P d6] 36) := ⟨_, rfl⟩
  have hz1 : w1.heap.size = w.heap.size + 1 := by rw [hw1]; simp
  rw [← hw1] at hX0 hb0
  obtain ⟨hY0, hb1⟩ := boxG_new w1 #[.int .i64 0, .slice none 0 0, .int .i64 0, .slice none 0 0, .slice none 0 0, .slice none 0 0, .slice none 0 0] 36
  obtain ⟨wA, hwA⟩ : ∃ U : World, U = w1.alloc (.cells #[.int .i64 0, .slice none 0 0, .int .i64 0, .slice none 0 0, .slice none 0 0, .slice none 0 0, .slice none 0 0] 36) := ⟨_, rfl⟩
  rw [← hwA] at hY0 hb1
  have hX1 := lit_next' hb1 hX0
  have hbA := hb0.trans (hb1.mono hb0.size)
  obtain ⟨X, hX⟩ : ∃ X, w.heap.size = X := ⟨_, rfl⟩
  rw [hz1] at hY0
  rw [hX] at hX1 hY0
  have hwA2 : wA = (w.alloc (.cells #[.int .i64 (n : Int), .slice e1 es.length d1, .int .i64 (P : Int), .slice e3 n d3, .slice e4 hv.length d4, .slice e5 P d5, .slice e6 P d6] 36)).alloc (.cells #[.int .i64 0, .slice none 0 0, .int .i64 0, .slice none 0 0, .slice none 0 0, .slice none 0 0, .slice none 0 0] 36) := by rw [hwA, hw1]
  have HWA := Lib.hid hwA2
  have hva := rdvalid_any _ _ wA (h.below hbA) hG.box
  rw [hG.val] at hva
  clear hwA hw1 hwA2 hX0 hb0 hb1 hz1 w1
  obtain ⟨x0, x1, x2, x3, x4, x5, x6⟩ := cells7 hX1
  go_enter Tryz.func24, Tryz.ntmps24
  go_wp2_with (rw [← HWA.out])
  refine hva.mono ?_
  rintro e w1 ⟨rfl, hb1⟩
  have hbw1 := hbA.trans (hb1.mono hbA.size)
  have hX2 := lit_next' hb1 hX1
  have hY2 := lit_next' hb1 hY0
  clear hva x0 x1 x2 x3 x4 x5 x6 hX1 hY0
  obtain ⟨x0, x1, x2, x3, x4, x5, x6⟩ := cells7 hX2
  have hB1 : BoxA w1 (.slice e6 P d6) ((List.range P).map fun r => (List.range P).map (W.bx r)) := hBxA.below hbw1
  obtain ⟨-, -, b6, o6, sl, rfl, hc0, hR0⟩ := hB1.at i _ (bxL_row P W i hi)
  obtain ⟨sa, sn, sc⟩ := sl
  have hR3 : BoxR w1 (.slice sa sn sc) ((List.range P).map (W.bx i)) := hR0
  have hsn : P = sn := by have h1 := (NestA.len hR3).1; simp at h1; exact h1.symm
  subst hsn
  have hbk : ((List.range P).map (W.bx i))[j]? = some (W.bx i j) := by rw [List.getElem?_map, List.getElem?_range hj]; rfl
  obtain ⟨-, -, b7, o7, sl, rfl, hc2, hi2⟩ := hR3.at j _ hbk
  obtain ⟨sa2, sn2, sc2⟩ := sl
  have hsn2 : sn2 = (W.bx i j).length := RowAt.lenE hi2
  have hsp : 0 < sn2 := by rw [hsn2, hb]; simp
  change w1.cell? _ = some (Value.slice _ _ _) at hc0
  change w1.cell? _ = some (Value.slice _ _ _) at hc2
  have hi3 : (i : Int) < P := by omega
  have hj3 : (j : Int) < P := by omega
  have hmn : ¬ min (i : Int) (j : Int) < 0 := by omega
  have hmx : ¬ (P : Int) ≤ max (i : Int) (j : Int) := by omega
  clear hB1 hR0 hR3 hbk hi2
  have hcp := rdcopyG_any n P es ow hv W _ w1 hG (h.below hbw1)
  go_wp2_with fail
  refine hcp.mono ?_
  rintro e w4 ⟨ae, ao, ah, ce, co, ch, lo, KB, BB, cK, cB, R, cR, vs, rfl, hE4, hO4, hH4, hmE, hmO, hmH, hlo, hlo4, hOW, hb4⟩
  have hY4 := lit_next' hb4 hY2
  have hbw4 := hbw1.trans (hb4.mono hbw1.size)
  obtain ⟨hO0, hb5⟩ := boxG_new w4 #[.int .i64 (n : Int), .slice ae es.length ce, .int .i64 (P : Int), .slice ao n co, .slice ah hv.length ch, .slice (some ⟨KB, 0, none⟩) P cK, .slice (some ⟨BB, 0, none⟩) P cB] 36
  obtain ⟨w5, hw5⟩ : ∃ U : World, U = w4.alloc (.cells #[.int .i64 (n : Int), .slice ae es.length ce, .int .i64 (P : Int), .slice ao n co, .slice ah hv.length ch, .slice (some ⟨KB, 0, none⟩) P cK, .slice (some ⟨BB, 0, none⟩) P cB] 36) := ⟨_, rfl⟩
  have hz5 : w5.heap.size = w4.heap.size + 1 := by rw [hw5]; simp
  rw [← hw5] at hO0 hb5
  have hE5 := hE4.below hb5
  have hO5 := hO4.below hb5
  have hH5 := hH4.below hb5
  have hY5 := lit_next' hb5 hY4
  obtain ⟨s0, hs0⟩ : ∃ s, w4.heap.size = s := ⟨_, rfl⟩
  rw [hs0] at hO0 hz5 hlo4
  have hYl : X + 1 < w1.heap.size := blk_lt hY2
  have HW5 := Lib.hid hw5
  clear hw5 x0 x1 x2 x3 x4 x5 x6 hX2 hcp hc0 hc2 hb1 hY2 hbA hE4 hH4 hY4
  have hs5 : s0 < w5.heap.size := by omega
  have c0 : w5.cell? ⟨s0, 0, none⟩ = some (.int .i64 (n : Int)) := cell_blk hO0
  have c1 : w5.cell? ⟨s0, 1, none⟩ = some (.slice ae es.length ce) := cell_blk hO0
  have c2 : w5.cell? ⟨s0, 2, none⟩ = some (.int .i64 (P : Int)) := cell_blk hO0
  have c3 : w5.cell? ⟨s0, 3, none⟩ = some (.slice ao n co) := cell_blk hO0
  have c4 : w5.cell? ⟨s0, 4, none⟩ = some (.slice ah hv.length ch) := cell_blk hO0
  go_upto_region 8 with fail
  rw [← HW5.out]
  refine wp_region_heldK (k := 9) (S := fun _ W => (W.cell? ⟨s0, 0, none⟩ = some (.int .i64 (n : Int)) ∧ W.cell? ⟨s0, 1, none⟩ = some (.slice ae es.length ce) ∧ W.cell? ⟨s0, 2, none⟩ = some (.int .i64 (P : Int)) ∧ W.cell? ⟨s0, 3, none⟩ = some (.slice ao n co) ∧ W.cell? ⟨s0, 4, none⟩ = some (.slice ah hv.length ch) ∧ W.cell? ⟨s0, 5, none⟩ = some (.slice (some ⟨KB, 0, none⟩) P cK) ∧ W.cell? ⟨s0, 6, none⟩ = some (.slice (some ⟨BB, 0, none⟩) P cB))) (by kernel_rfl) ?_
  have c5 : w5.cell? ⟨s0, 5, none⟩ = some (.slice (some ⟨KB, 0, none⟩) P cK) := cell_blk hO0
  have c6 : w5.cell? ⟨s0, 6, none⟩ = some (.slice (some ⟨BB, 0, none⟩) P cB) := cell_blk hO0
  have hS0 : (w5.drew.cell? ⟨s0, 0, none⟩ = some (.int .i64 (n : Int)) ∧ w5.drew.cell? ⟨s0, 1, none⟩ = some (.slice ae es.length ce) ∧ w5.drew.cell? ⟨s0, 2, none⟩ = some (.int .i64 (P : Int)) ∧ w5.drew.cell? ⟨s0, 3, none⟩ = some (.slice ao n co) ∧ w5.drew.cell? ⟨s0, 4, none⟩ = some (.slice ah hv.length ch) ∧ w5.drew.cell? ⟨s0, 5, none⟩ = some (.slice (some ⟨KB, 0, none⟩) P cK) ∧ w5.drew.cell? ⟨s0, 6, none⟩ = some (.slice (some ⟨BB, 0, none⟩) P cB)) := ⟨c0, c1, c2, c3, c4, c5, c6⟩
  refine tkA 0 (.agg #[.int .i64 (n : Int), .slice ae es.length ce, .int .i64 (P : Int), .slice ao n co, .slice ah hv.length ch, .slice (some ⟨KB, 0, none⟩) P cK, .slice (some ⟨BB, 0, none⟩) P cB]) false rfl (fun _ h => h) false hS0 ?_
  refine tkA 1 (.pointer (some ⟨s0, 2, none⟩)) true rfl (fun _ h => h) false hS0 ?_
  refine tkA 2 (.agg #[.int .i64 (P : Int), .slice ao n co, .slice ah hv.length ch]) true rfl (fun _ h => h) false hS0 ?_
  refine tkA 3 (.pointer (some ⟨s0, 0, none⟩)) true rfl (fun _ h => h) false hS0 ?_
  refine tkA 4 (.agg #[.int .i64 (n : Int), .slice ae es.length ce]) true rfl (fun _ h => h) false hS0 ?_
  refine tkA 7 (.int .i64 (i : Int)) false rfl (fun _ h => h) false hS0 ?_
  refine tkA 8 (.int .i64 (j : Int)) false rfl (fun _ h => h) false hS0 ?_
  try simp only [Act.put, List.setIfInBounds_toArray, List.set_cons_zero, List.set_cons_succ]
  refine wpAnyK_one (i := 5) (by kernel_rfl) rfl (by rfl) (b := false) (by kernel_rfl) (fun K hK => ?_)
  go_simp
  go_at_call 33
  refine (rdneigh_any n ae ce es w5.drew (hE5.below (Below.refl _ _).drew) hG.hg).mono ?_
  rintro e w6 ⟨N, rfl, hN, vs2, hGn, hb6'⟩
  have hb6 : Below w5.heap.size w5 w6 := (Below.refl w5.heap.size w5).drew.trans hb6'
  have hzd : w5.drew.heap.size = w5.heap.size := rfl
  have hz6 := hb6.size
  have hS2 : (w6.cell? ⟨s0, 0, none⟩ = some (.int .i64 (n : Int)) ∧ w6.cell? ⟨s0, 1, none⟩ = some (.slice ae es.length ce) ∧ w6.cell? ⟨s0, 2, none⟩ = some (.int .i64 (P : Int)) ∧ w6.cell? ⟨s0, 3, none⟩ = some (.slice ao n co) ∧ w6.cell? ⟨s0, 4, none⟩ = some (.slice ah hv.length ch) ∧ w6.cell? ⟨s0, 5, none⟩ = some (.slice (some ⟨KB, 0, none⟩) P cK) ∧ w6.cell? ⟨s0, 6, none⟩ = some (.slice (some ⟨BB, 0, none⟩) P cB)) := ⟨(hb6.cell (p := ⟨s0, 0, none⟩) hs5).trans c0, (hb6.cell (p := ⟨s0, 1, none⟩) hs5).trans c1, (hb6.cell (p := ⟨s0, 2, none⟩) hs5).trans c2, (hb6.cell (p := ⟨s0, 3, none⟩) hs5).trans c3, (hb6.cell (p := ⟨s0, 4, none⟩) hs5).trans c4, (hb6.cell (p := ⟨s0, 5, none⟩) hs5).trans c5, (hb6.cell (p := ⟨s0, 6, none⟩) hs5).trans c6⟩
  have hR : RowsX (fun b => s0 ≤ b ∧ b < w6.heap.size) w6 (.slice (some ⟨N, 0, none⟩) n n) (nearL es n) := GridO.rowsX (Ls := fun i => castL (nbL es n i)) hGn (by omega) (Nat.le_refl _) (fun i hi => by have := nb_lt hG.hg i hi; rw [castL, List.length_map]; omega) _ (by have := hGn.lt; exact ⟨by omega, by omega⟩) (fun i hi b e => by have := (hGn.own i hi).lt b e; exact ⟨by omega, by omega⟩)
  have hblW : ∀ a b, a < P → b < P → (W.bx a b).length ≤ 900000 := fun a b ha hb => by have := bx_pot (n := n) (ow := ow) (W := W) ha hb; omega
  have hb46 := hb5.trans (hb6.mono hb5.size)
  have hPS := PlyS.start (wS := w6) (s0 := s0) (s1 := w6.heap.size) (V := W) hOW hb46 hs0.symm
  have hdl := plydlv_any n P i j lo s0 w6.heap.size KB BB cK cB R cR (n : Int) (P : Int) ae ao ah ah es.length n hv.length hv.length ce co ch ch es ow ao (some ⟨N, 0, none⟩) co n W m r w6 w6 hn64 (by omega) hG.how hi hj hb hG.vld hblW hPS hlo4 (by omega) rfl (hO5.below hb6) hmO.low hR
  dsimp only
  refine hK.out _ _ hS2 ?_
  try simp only [Act.put, List.setIfInBounds_toArray, List.set_cons_zero, List.set_cons_succ]
  refine tkA 6 (.agg #[.int .i64 (P : Int), .slice ao n co, .slice ah hv.length ch, .slice (some ⟨N, 0, none⟩) n n]) false rfl (fun _ h => h) false hS2 ?_
  try simp only [Act.put, List.setIfInBounds_toArray, List.set_cons_zero, List.set_cons_succ]
  refine wpAnyK_one (i := 9) (by kernel_rfl) rfl (by rfl) (b := true) (by kernel_rfl) (fun K hK => ?_)
  go_simp
  go_at_call 59
  refine hdl.mono ?_
  rintro e w7 ⟨rfl, hPK⟩
  have hfr := hPK.fr
  have hno : ¬ GdB lo s0 w6.heap.size s0 := fun h => by rcases h.2 with h | h <;> omega
  obtain ⟨s0', s1', s2', s3', s4', s5', s6'⟩ := hS2
  have hS3 : (w7.cell? ⟨s0, 0, none⟩ = some (.int .i64 (n : Int)) ∧ w7.cell? ⟨s0, 1, none⟩ = some (.slice ae es.length ce) ∧ w7.cell? ⟨s0, 2, none⟩ = some (.int .i64 (P : Int)) ∧ w7.cell? ⟨s0, 3, none⟩ = some (.slice ao n co) ∧ w7.cell? ⟨s0, 4, none⟩ = some (.slice ah hv.length ch) ∧ w7.cell? ⟨s0, 5, none⟩ = some (.slice (some ⟨KB, 0, none⟩) P cK) ∧ w7.cell? ⟨s0, 6, none⟩ = some (.slice (some ⟨BB, 0, none⟩) P cB)) := ⟨hfr.cell s0' hno, hfr.cell s1' hno, hfr.cell s2' hno, hfr.cell s3' hno, hfr.cell s4' hno, hfr.cell s5' hno, hfr.cell s6' hno⟩
  dsimp only
  refine hK.out _ _ hS3 (wpAnyK_done (by kernel_rfl) ?_ _)
  have hbS := hbw4.trans (hb46.mono hbw4.size)
  have hES := hE5.below hb6
  have hOS := hO5.below hb6
  have hHS := hH5.below hb6
  have hY7 := hfr.blk (lit_next' hb6 hY5) (fun h => by have := h.1; omega)
  have hwl : w.heap.size ≤ w1.heap.size := hbw1.size
  have hvldK := dlv_vld (es := es) hG.how hG.vld hi hj hb
  have hblK : ∀ a b, a < P → b < P → ((dlvP es n P ow W i j).bx a b).length ≤ 900000 := fun a b ha hb2 => by
    have h1 := bx_pot (n := n) (ow := ow) (W := dlvP es n P ow W i j) ha hb2
    have h2 := dlv_potV (es := es) hG.how hG.vld hi hj hb
    omega
  obtain ⟨o0, o1, o2, o3, o4, o5, o6'⟩ := hS3
  obtain ⟨z0, z1, z2, z3, z4, z5, z6⟩ := cells7 hY7
  obtain ⟨f0, f1, f2, f3, f4, f5, f6⟩ := frees7 hY7
  have hfin := set7all (d0 := .int .i64 (n : Int)) (d1 := .slice ae es.length ce) (d2 := .int .i64 (P : Int)) (d3 := .slice ao n co) (d4 := .slice ah hv.length ch) (d5 := .slice (some ⟨KB, 0, none⟩) P cK) (d6 := .slice (some ⟨BB, 0, none⟩) P cB) hY7
  have hgF := set7_grown w7 (X + 1) (.int .i64 (n : Int)) (.slice ae es.length ce) (.int .i64 (P : Int)) (.slice ao n co) (.slice ah hv.length ch) (.slice (some ⟨KB, 0, none⟩) P cK) (.slice (some ⟨BB, 0, none⟩) P cB)
  obtain ⟨wF, hwF⟩ : ∃ U : World, U = (((((((w7.setCell ⟨X + 1, 0, none⟩ (.int .i64 (n : Int))).setCell ⟨X + 1, 1, none⟩ (.slice ae es.length ce)).setCell ⟨X + 1, 2, none⟩ (.int .i64 (P : Int))).setCell ⟨X + 1, 3, none⟩ (.slice ao n co)).setCell ⟨X + 1, 4, none⟩ (.slice ah hv.length ch)).setCell ⟨X + 1, 5, none⟩ (.slice (some ⟨KB, 0, none⟩) P cK)).setCell ⟨X + 1, 6, none⟩ (.slice (some ⟨BB, 0, none⟩) P cB)) := ⟨_, rfl⟩
  rw [← hwF] at hfin hgF
  have hW := hPK.wld (by omega) hvldK hn64 hblK hES hOS hHS hmE hmO hmH hgF hYl hlo
  have hbE : Below w.heap.size w wF := ((hbS.trans (hPK.fr.below (fun b h => by have := h.1; omega) hbS.size)).grown hgF (by have := hbS.size; have := hPK.fr.size; omega) (fun t e => by have e1 : X + 1 = t := Option.some.inj e; omega))
  obtain ⟨t0, t1, t2, t3, t4, t5, t6⟩ := cells7 hfin
  have HWF := Lib.hid hwF
  clear hfin hgF hwF
  go_wp2_with fail
  rw [← HWF.out]
  exact bodyPost_ret (v := .tuple #[.agg #[.int .i64 (n : Int), .slice ae es.length ce, .int .i64 (P : Int), .slice ao n co, .slice ah hv.length ch, .slice (some ⟨KB, 0, none⟩) P cK, .slice (some ⟨BB, 0, none⟩) P cB], .int .i64 0]) (by simp [results, Tryz.results24, go_sem, t0, t1, t2, t3, t4, t5, t6]) rfl ⟨_, rfl, hW.less (by omega), hbE⟩
end Go.Proofs.YtdkmdcdoiaelfaaGreat
