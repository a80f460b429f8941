/- The contract of the maker of graphs: a valid graph of at most so many nodes. -/
import Derived.Test.YtdkmdcdoiaelfaaGreatMk
import Derived.Deep.DeepCutAuto
import Derived.Deep.RegionWith
namespace Go.Proofs.YtdkmdcdoiaelfaaGreat
open Go.RowKit

theorem infoEdge : (Tryz.prog.info? 62).map (fun i => (i.zero, i.size, i.bytes)) = some (some (.agg #[.int .i64 0, .int .i64 0]), 2, 16) := by kernel_rfl

def GraphPost (b : Nat) (most : Int) (w : World) (e : Ending) (w' : World) : Prop :=
  ∃ (n : Int) (es : List E2) (a : Option Addr) (cap : Nat), e = .returned (.agg #[.int .i64 n, .slice a es.length cap]) ∧ EdgesAt w' (.slice a es.length cap) es ∧ Valid n es ∧ n ≤ most ∧ DeckAt w' b ∧ w.grownBy w' (some b) ∧ (∀ p, a = some p → w.heap.size ≤ p.block)

/-- the blocks of the maker: the result's Br, the graph's Bg, the deck's b -/
def GS (b Br Bg : Nat) (w : World) (n : Int) (sl : Value) (wr : World) : Prop :=
  wr.heap[Br]? = some (.cells #[.int .i64 0, .slice none 0 0] 25 (0, 0)) ∧ wr.heap[Bg]? = some (.cells #[.int .i64 n, sl] 25 (0, 0)) ∧ DeckAt wr b ∧ w.grownBy wr (some b)

theorem GS.next {b Br Bg : Nat} {w w' wr : World} {n : Int} {sl : Value} (h : GS b Br Bg w n sl wr) (h1 : Br ≠ b) (h2 : Bg ≠ b) (hd : DeckAt w' b) (hg : wr.grownBy w' (some b)) : GS b Br Bg w n sl w' :=
  ⟨grown_blk hg h.1 (by simpa using h1), grown_blk hg h.2.1 (by simpa using h2), hd, grown_trans h.2.2.2 hg⟩
theorem GS.kept {b Br Bg : Nat} {w w' wr : World} {n : Int} {sl : Value} {r : Option Nat} (h : GS b Br Bg w n sl wr) (hBb : b < Bg) (hBr : Br < Bg) (hw : w.heap.size ≤ Bg) (hr : ∀ g, r = some g → Bg < g) (hg : wr.grownBy w' r) : GS b Br Bg w n sl w' := by
  have hne : ∀ k, k ≤ Bg → some k ≠ r := fun k hk e => by have := hr k e.symm; omega
  exact ⟨grown_blk hg h.1 (hne _ (by omega)), grown_blk hg h.2.1 (hne _ (Nat.le_refl _)), h.2.2.1.kept hg (fun g e => by have := hr g e; omega), grown_new h.2.2.2 hg (fun g e => .inr (by have := hr g e; omega))⟩

theorem GS.set {b Br Bg : Nat} {w wr : World} {n m : Int} {sl sl' : Value} {j : Nat} {v : Value} (h : GS b Br Bg w n sl wr) (hBb : b < Bg) (hBr : Br < Bg) (hw : w.heap.size ≤ Bg)
    (hj : (#[.int .i64 n, sl] : Array Value).setIfInBounds j v = #[.int .i64 m, sl']) : GS b Br Bg w m sl' (wr.setCell ⟨Bg, j, none⟩ v) := by
  have hg : wr.grownBy (wr.setCell ⟨Bg, j, none⟩ v) (some Bg) := grown_store
  refine ⟨grown_blk hg h.1 (by simp; omega), ?_, h.2.2.1.kept hg (fun g e => by cases e; exact hBb), grown_new h.2.2.2 hg (fun g e => .inr (by cases e; exact hw))⟩
  rw [heap_setCell_same _ _ _ _ _ _ h.2.1, hj]

theorem GS.drew {b Br Bg : Nat} {w wr : World} {n : Int} {sl : Value} (h : GS b Br Bg w n sl wr) : GS b Br Bg w n sl wr.drew := ⟨h.1, h.2.1, h.2.2.1.drew, ⟨h.2.2.2.os, h.2.2.2.tape, h.2.2.2.output, h.2.2.2.size, h.2.2.2.block⟩⟩

set_option maxRecDepth 100000 in
set_option maxHeartbeats 800000 in
theorem mkgraph_any (b : Nat) (most : Int) (w : World) (hd : DeckAt w b) (h0 : 0 ≤ most) (h1 : most ≤ 64) :
    Calls Tryz.prog 30 #[.pointer (some ⟨b, 0, none⟩), .int .i64 most] w (GraphPost b most w) := by
  have hbw := hd.lt
  obtain ⟨i0, hi, hz0, hz1, hz2⟩ := info_parts infoEdge
  go_enter Tryz.func30, Tryz.ntmps30
  go_wp2_with fail
  refine (next_any b _ _ (hd.alloc _) (by omega) (by omega)).mono ?_
  rintro e w1 ⟨n0, hn0, hn1, rfl, hd1, hg1⟩
  have hgo := grown_trans (World.grownBy_alloc w _ (some b)) hg1
  have hzw : w.heap.size < w1.heap.size := by have := hg1.size; simp at this; omega
  have hGS : GS b w.heap.size w1.heap.size w n0 (.slice none 0 0) (w1.alloc (.cells #[.int .i64 n0, .slice none 0 0] 25)) :=
    ⟨grown_blk (World.grownBy_alloc w1 _ none) (grown_blk hg1 (heap_alloc_new _ _) (by simp; omega)) (by simp), heap_alloc_new _ _, hd1.alloc _, grown_trans hgo (World.grownBy_alloc _ _ _)⟩
  go_upto_if 16 with (fail)
  go_cut [] (fun wx => ∃ n : Int, 0 ≤ n ∧ n ≤ most ∧ GS b w.heap.size w1.heap.size w n (.slice none 0 0) wx ∧ w1.heap.size < wx.heap.size)
  case first =>
    go_wp2_with fail
    · have hw1 : IntKind.i64.wrap (most + 1) = most + 1 := IntWalk.i64_in _ (by omega)
      have hk1 : 1 ≤ most + 1 := by omega
      have hk2 : most + 1 ≤ 4611686018427387904 := by omega
      have hq : some w1.heap.size ≠ some b := by simp; omega
      go_region_with (go_at_call 23; refine (next_any b _ _ (hd1.alloc _).drew hk1 hk2).mono ?_; rintro e w2 ⟨x, hx0, hx1, rfl, hd2, hg2⟩; have hGS2 := GS.next hGS.drew (by omega) (by omega) hd2 hg2; have hsz := hg2.size; clear hg2; have q1 := cell_blk (j := 0) hGS2.2.1; have q2 := free_blk (j := 0) hGS2.2.1; have hw2 : IntKind.i64.wrap (n0 + x) = n0 + x := IntWalk.i64_in _ (by omega))
      all_goals
        go_wp2_with fail
        go_meet
        exact ⟨min most (n0 + x), by omega, by omega, hGS2.set (by omega) (by omega) (by omega) rfl, by have := hsz; simp at this ⊢; omega⟩
    · go_meet
      exact ⟨n0, hn0, by omega, hGS, by simp⟩
  case rest =>
    obtain ⟨n, hn0, hn1, hGc, hsz⟩ := hcut
    clear hGS
    go_wp2_with fail
    refine (next_any b _ _ hGc.2.2.1 (by omega) (by omega)).mono ?_
    rintro e w3 ⟨d, hd0, hd1, rfl, hd3, hg3⟩
    have hG3 := GS.next hGc (by omega) (by omega) hd3 hg3
    have hz3 : w1.heap.size < w3.heap.size := by have := hg3.size; omega
    clear hGc hg3
    go_wp2_with fail
    go_loopw [7] (fun u wr => ∃ (k : Nat) (es : List E2) (sl : Value), u = .int .i64 k ∧ (k : Int) ≤ n ∧ GS b w.heap.size w1.heap.size w n sl wr ∧ w1.heap.size < wr.heap.size ∧
        wr.ownsRow (w1.heap.size + 1) 62 2 sl es.length (flatE es) ∧ Valid n es ∧ Ups es k 0) (fun u _ => (n - intOf u).toNat)
    case atStart => exact ⟨0, [], .slice none 0 0, rfl, by omega, hG3, hz3, World.ownsRow_nil _ _ _ _, valid_nil hn0 (by omega), Ups.nil⟩
    case round =>
      clear hG3 hz3 hd3
      obtain ⟨k, es, sl, rfl, hkn, hG, hz, hown, hval, hup⟩ := hrel
      have q0 : wr.cell? ⟨w1.heap.size, 0, none⟩ = some (.int .i64 n) := cell_blk hG.2.1
      by_cases hlt : (k : Int) < n
      · go_wp2_with fail
        obtain ⟨wo, rfl⟩ : ∃ wo : World, wo = wr := ⟨_, rfl⟩
        go_loopw [8] (fun v wi => ∃ (m : Nat) (es : List E2) (sl : Value), v = .int .i64 m ∧ k + 1 ≤ m ∧ (m : Int) ≤ n ∧ GS b w.heap.size w1.heap.size w n sl wi ∧ w1.heap.size < wi.heap.size ∧
          wi.ownsRow (w1.heap.size + 1) 62 2 sl es.length (flatE es) ∧ Valid n es ∧ Ups es k m) (fun v _ => (n - intOf v).toNat)
        case atStart => exact ⟨k + 1, es, sl, by go_num, by omega, by omega, hG, hz, hown, hval, fun e he => by have := hup e he; rw [before_iff] at *; dsimp at *; omega⟩
        case round =>
          clear hG hz hown hval hup q0
          obtain ⟨m, es, sl, rfl, hm1, hmn, hG, hz, hown, hval, hup⟩ := hrel
          have q0 : wr.cell? ⟨w1.heap.size, 0, none⟩ = some (.int .i64 n) := cell_blk hG.2.1
          by_cases hlt2 : (m : Int) < n
          · go_wp2_with fail
            refine (next_any b _ _ hG.2.2.1 (by omega) (by omega)).mono ?_
            rintro e w4 ⟨y, hy0, hy1, rfl, hd4, hg4⟩
            have hG4 := GS.next hG (by omega) (by omega) hd4 hg4
            have hz4 : w1.heap.size < w4.heap.size := by have := hg4.size; omega
            have hown4 := hown.kept hg4 (.inr (by intro e; have := hown.lt b e; omega))
            have p0 : w4.cell? ⟨w1.heap.size, 0, none⟩ = some (.int .i64 n) := cell_blk hG4.2.1
            have p1 : w4.cell? ⟨w1.heap.size, 1, none⟩ = some sl := cell_blk hG4.2.1
            clear q0 hG hown hg4 hz
            by_cases hyd : 5 - (1 + d) ≤ y
            · have hlen := hval.length_le
              go_wp2_with (at_builtin; go_loud (refine wpList_append_own _ rfl _ _ 23 rfl (w1.heap.size + 1) 62 i0 _ 2 16 Tryz.underlying23 hi hz0 hz1 hz2 rfl (by decide) _ _ _ rfl (hown4.alloc _) ⟨w4.heap.size, 0, none⟩ 1 1 [.int .i64 k, .int .i64 m] rfl rfl ?c1 ?c2 ?c3 ?c4 ?c5 ?_))
              case c1 => intro j u hu; rw [Addr.add_lit]; rw [cell_blk (heap_alloc_new _ _)]; simpa using hu
              case c2 => simp [Value.oneCell']
              case c3 => unfold maxLen; omega
              case c4 => omega
              case c5 => simp; omega
              intro v' w5 hown5 hg5 _
              obtain ⟨a5, cap5, hv5⟩ := owns_shape hown5
              subst hv5
              have hG5 := GS.kept (GS.kept hG4 (by omega) (by omega) (by omega) (fun g e => by cases e) (World.grownBy_alloc w4 (.cells #[.int .i64 k, .int .i64 m] 62) none)) (by omega) (by omega) (by omega) (fun g e => by have := (hown4.lt g e).1; omega) hg5
              have s0 : w5.cell? ⟨w1.heap.size, 1, none⟩ = some sl := cell_blk hG5.2.1
              have s1 : w5.frozen? ⟨w1.heap.size, 1, none⟩ = false := free_blk hG5.2.1
              have hlt5 := hown5.lt
              have hsz5 := hg5.size
              clear p0 p1 hown4 hg5
              go_wp2_with fail
              go_roundw
              case rel =>
                refine ⟨m + 1, es ++ [((k : Int), (m : Int))], _, by go_num, by omega, by omega, hG5.set (by omega) (by omega) (by omega) rfl, ?_, ?_, hval.snoc (by omega) (by omega) hlt2 hup, hup.snoc⟩
                · simp at hsz5 ⊢; omega
                · rw [flatE_append]
                  have := hown5.kept (grown_store (b := w1.heap.size) (j := 1) (v := .slice a5 (es.length + 1) cap5)) (.inr (by intro e; have := hlt5 _ e; omega))
                  simpa [flatE] using this
              case measure => simp [intOf]; omega
            · go_wp2_with fail
              go_roundw
              case rel => exact ⟨m + 1, es, sl, by go_num, by omega, by omega, hG4, hz4, hown4, hval, hup.step⟩
              case measure => simp [intOf]; omega
          · go_wp2_with fail
            go_roundw
            case rel => exact ⟨k + 1, es, sl, by go_num, by omega, hG, hz, hown, hval, hup.next 0⟩
            case measure => simp [intOf]; omega
      · have q1 : wr.cell? ⟨w1.heap.size, 1, none⟩ = some sl := cell_blk hG.2.1
        have r0 : wr.cell? ⟨w.heap.size, 0, none⟩ = some (.int .i64 0) := cell_blk hG.1
        have r1 : wr.cell? ⟨w.heap.size, 1, none⟩ = some (.slice none 0 0) := cell_blk hG.1
        have r2 : wr.frozen? ⟨w.heap.size, 0, none⟩ = false := free_blk hG.1
        have r3 : wr.frozen? ⟨w.heap.size, 1, none⟩ = false := free_blk hG.1
        have hlen := hval.length_le
        obtain ⟨a, cap, rfl, he, ha⟩ := EdgesAt.of_owns hown (by omega)
        go_wp2_with fail
        have hfin := set_two (u := .int .i64 n) (v := .slice a es.length cap) hG.1
        have t0 := (cell_blk (j := 0) hfin)
        have t1 := (cell_blk (j := 1) hfin)
        have hg9 : wr.grownBy ((wr.setCell ⟨w.heap.size, 0, none⟩ (.int .i64 n)).setCell ⟨w.heap.size, 1, none⟩ (.slice a es.length cap)) (some w.heap.size) := grown_trans grown_store grown_store
        refine bodyPost_ret (v := .agg #[.int .i64 n, .slice a es.length cap]) (by simp [results, Tryz.results30, go_sem, t0, t1]) rfl ⟨n, es, a, cap, rfl, ?_, hval, hn1, ?_, ?_, ?_⟩
        · exact he.grown hg9 (fun g e n c p ep => by cases e; cases ep; have := ha _ rfl; omega)
        · exact hG.2.2.1.kept hg9 (fun g e => by cases e; exact hbw)
        · exact grown_new hG.2.2.2 hg9 (fun g e => .inr (by cases e; omega))
        · intro p hp; have := ha p hp; omega
end Go.Proofs.YtdkmdcdoiaelfaaGreat
