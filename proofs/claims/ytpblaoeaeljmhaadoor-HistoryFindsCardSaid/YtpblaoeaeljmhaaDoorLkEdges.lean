/- links.Edges and links.Graph: the graph of the links; ref05.Graph. -/
import Derived.Test.YtpblaoeaeljmhaaDoorOutBox
import Derived.Test.YtpblaoeaeljmhaaDoorLkApply
namespace Go.Proofs.YtpblaoeaeljmhaaDoor
open Go.RowKit Go.BigFrame

def edgesL (ls : List Lk) : List E2 := ls.map fun l => (l.u, l.v)
theorem edges_snoc (ls : List Lk) (i : Nat) (x : Lk) (h : ls[i]? = some x) : edgesL (ls.take (i + 1)) = edgesL (ls.take i) ++ [(x.u, x.v)] := by
  rw [take_at ls i x h]; simp [edgesL]
/-- what a function returns that makes a graph -/
def EdPost (w : World) (n : Int) (es : List E2) (e : Ending) (w' : World) : Prop :=
  ∃ a1 c1, e = .returned (.agg #[.int .i64 n, .slice a1 es.length c1]) ∧ EdgesAt w' (.slice a1 es.length c1) es ∧ (∀ p, a1 = some p → w.heap.size ≤ p.block) ∧ Below w.heap.size w w'
set_option maxRecDepth 100000 in
set_option maxHeartbeats 6400000 in
theorem ledges_any (n : Int) (ls : List Lk) (a : Option Addr) (cap : Nat) (w : World) (hl : RowAt encLk w (.slice a ls.length cap) ls) :
    Calls Tryd.prog 43 #[.agg #[.int .i64 n, .slice a ls.length cap]] w (EdPost w n (edgesL ls)) := by
  have hsm := hl.small
  have hb1 := (Below.refl w.heap.size w).alloc (Nat.le_refl _) (.cells #[.int .i64 n, .slice a ls.length cap] 53)
  have hS := heap_alloc_new w (.cells #[.int .i64 n, .slice a ls.length cap] 53)
  have hz1 : (w.alloc (.cells #[.int .i64 n, .slice a ls.length cap] 53)).heap.size = w.heap.size + 1 := by simp
  have hR := heap_alloc_new (w.alloc (.cells #[.int .i64 n, .slice a ls.length cap] 53)) (.cells #[.int .i64 0, .slice none 0 0] 79)
  rw [hz1] at hR
  have hb2 := (Below.refl _ (w.alloc (.cells #[.int .i64 n, .slice a ls.length cap] 53))).alloc (Nat.le_refl _) (.cells #[.int .i64 0, .slice none 0 0] 79)
  have hb12 := hb1.trans (hb2.mono hb1.size)
  have hS2 := lk_next hb2 hS
  have x0 := cell_blk (j := 0) hS2
  have x1 := cell_blk (j := 1) hS2
  have hz2 : ((w.alloc (.cells #[.int .i64 n, .slice a ls.length cap] 53)).alloc (.cells #[.int .i64 0, .slice none 0 0] 79)).heap.size = w.heap.size + 2 := by simp
  obtain ⟨w2, hw2⟩ : ∃ W : World, W = (w.alloc (.cells #[.int .i64 n, .slice a ls.length cap] 53)).alloc (.cells #[.int .i64 0, .slice none 0 0] 79) := ⟨_, rfl⟩
  have hbO := (Below.refl w2.heap.size w2).alloc (Nat.le_refl _) (.cells #[.int .i64 n, .slice none 0 0] 79)
  have hO := heap_alloc_new w2 (.cells #[.int .i64 n, .slice none 0 0] 79)
  rw [← hw2] at hR hb12 hS2 hz2
  have hOut : OutB w (w2.alloc (.cells #[.int .i64 n, .slice none 0 0] 79)) w.heap.size (w.heap.size + 1) (w.heap.size + 2) (.cells #[.int .i64 n, .slice a ls.length cap] 53 (0, 0)) (.cells #[.int .i64 0, .slice none 0 0] 79 (0, 0)) 79 93 2 n (.slice none 0 0) 0 (flatE []) :=
    ⟨lk_next hbO hS2, lk_next hbO hR, by rw [hz2] at hO; exact hO, World.ownsRow_nil _ _ _ _, by omega, by omega, hb12.trans (hbO.mono hb12.size), by omega⟩
  obtain ⟨F, hF⟩ : ∃ F, edgesL ls = F := ⟨_, rfl⟩
  rw [hF]
  have HF := Lib.hid hF
  clear hF hb1 hS hz1 hR hb2 hb12 hS2 hz2 hbO hO
  go_enter Tryd.func43, Tryd.ntmps43
  go_wp2_with fail
  rw [hw2] at hOut
  clear hw2 x0 x1
  obtain ⟨w3, hw3⟩ : ∃ W : World, W = ((w.alloc (.cells #[.int .i64 n, .slice a ls.length cap] 53)).alloc (.cells #[.int .i64 0, .slice none 0 0] 79)).alloc (.cells #[.int .i64 n, .slice none 0 0] 79) := ⟨_, rfl⟩
  rw [← hw3] at hOut ⊢
  clear hw3
  go_loopw [12] (fun vi wr => ∃ (i nl : Nat) (K : List E2) (sl : Value), i ≤ ls.length ∧ vi = .int .i64 i ∧ Hid (K = edgesL (ls.take i)) ∧ Hid (nl = K.length) ∧ nl ≤ i ∧ OutB w wr w.heap.size (w.heap.size + 1) (w.heap.size + 2) (.cells #[.int .i64 n, .slice a ls.length cap] 53 (0, 0)) (.cells #[.int .i64 0, .slice none 0 0] 79 (0, 0)) 79 93 2 n sl nl (flatE K)) (fun vi _ => ls.length - (intOf vi).toNat)
  case atStart => exact ⟨0, 0, [], _, Nat.zero_le _, rfl, (show _ = _ from rfl), (show _ = _ from rfl), Nat.le_refl _, hOut⟩
  case round =>
    clear hOut
    obtain ⟨i, nl, K, sl, hi, rfl, HK, HNL, hnl, hO⟩ := hrel
    obtain ⟨al, cl, rfl⟩ := owns_shape hO.own
    by_cases hlt : i < ls.length
    · have hlt3 : (i : Int) < ls.length := by omega
      obtain ⟨b, off, x, rfl, hx, hcap, c0, c1, c2, c3, c4, c5⟩ := lk_at (hl.below hO.be) i hlt
      have HN : Hid (K ++ [(x.u, x.v)] = edgesL (ls.take (i + 1))) := (show _ = _ by rw [edges_snoc ls i x hx, HK.out])
      obtain ⟨xu, xv, x1, x2, x3, x4⟩ := x
      dsimp only at c0 c1 c2 c3 c4 c5 HN
      have hO1 := hO.alloc (.cells #[.int .i64 xu, .int .i64 xv, .int .i64 x1, .int .i64 x2, .int .i64 x3, .int .i64 x4] 69)
      obtain ⟨q0, q1, q2, q3, q4, q5⟩ := cells6 (heap_alloc_new wr (.cells #[.int .i64 xu, .int .i64 xv, .int .i64 x1, .int .i64 x2, .int .i64 x3, .int .i64 x4] 69))
      have o1 := hO1.c1
      have hO2 := hO1.alloc (.cells #[.int .i64 xu, .int .i64 xv] 93)
      have hlx := edges_lit1 (wr.alloc (.cells #[.int .i64 xu, .int .i64 xv, .int .i64 x1, .int .i64 x2, .int .i64 x3, .int .i64 x4] 69)) xu xv 93
      rw [show (wr.alloc (.cells #[.int .i64 xu, .int .i64 xv, .int .i64 x1, .int .i64 x2, .int .i64 x3, .int .i64 x4] 69)).heap.size = wr.heap.size + 1 by simp] at hlx
      clear hx hO hO1
      go_wp2_with (at_builtin; refine wpList_app_edges edgesT rfl _ _ rfl (w.heap.size + 3) (.slice al nl cl) _ K [(xu, xv)] rfl (by rw [← HNL.out]; exact hO2.own) rfl hlx (by rw [← HNL.out]; simp; omega) hO2.base ?_; intro v6 w6 hown6 hg6; have hl6 : (K ++ [(xu, xv)]).length = nl + 1 := (by rw [List.length_append, ← HNL.out]; rfl); rw [hl6] at hown6; have hO7 := hO2.app hown6 hg6; obtain ⟨a6, c6, rfl⟩ := owns_shape hown6; have ho6 := (hO2.grown hg6).2.2.1; have o61 := cell_blk (j := 1) ho6; have f61 := free_blk (j := 1) ho6)
      go_wp2_with fail
      go_roundw
      case rel => exact ⟨i + 1, nl + 1, K ++ [(xu, xv)], _, by omega, by go_num, HN, (show _ = _ by rw [List.length_append, ← HNL.out]; rfl), by omega, hO7⟩
      case measure => simp [intOf]; omega
    · obtain rfl : i = ls.length := by omega
      have hK : K = F := by rw [HK.out, List.take_length, HF.out]
      have HKF := Lib.hid hK
      have o0 := hO.c0
      have o1 := hO.c1
      have r0 := cell_blk (j := 0) hO.r
      have r1 := cell_blk (j := 1) hO.r
      have g0 := free_blk (j := 0) hO.r
      have g1 := free_blk (j := 1) hO.r
      have hbe := hO.be
      have HFIN := Lib.hid (set_two (u := .int .i64 n) (v := .slice al nl cl) hO.r)
      obtain ⟨_, _, hv', hre, hpe⟩ := EdgesAt.of_owns (es := K) (by rw [← HNL.out]; exact hO.own) (by rw [← HNL.out]; omega)
      rw [← HNL.out] at hv'
      obtain ⟨rfl, -, rfl⟩ := Value.slice.inj hv'
      clear hK hv'
      go_wp2_with fail
      have t0 := cell_blk (j := 0) HFIN.out
      have t1 := cell_blk (j := 1) HFIN.out
      have hg2 : wr.grownBy ((wr.setCell ⟨w.heap.size + 1, 0, none⟩ (.int .i64 n)).setCell ⟨w.heap.size + 1, 1, none⟩ (.slice al nl cl)) (some (w.heap.size + 1)) := grown_trans grown_lk grown_lk
      have hr9 := hre.grown hg2 (fun g e n c p hp => by cases e; have := hpe p (Value.slice.inj hp).1; omega)
      exact bodyPost_ret (v := .agg #[.int .i64 n, .slice al nl cl]) (by simp [results, Tryd.results43, go_sem, t0, t1]) rfl ⟨al, cl, by rw [← HKF.out, ← HNL.out], by rw [← HKF.out]; exact hr9, (fun p h => by have := hpe p h; omega), hbe.grown hg2 hbe.size (fun k e => by cases e; omega)⟩
def grX (n : Int) (ls : List Lk) : (Int × List E2) × Int := if stS n ls ≠ 0 then ((0, []), stS n ls) else ((n, edgesL ls), 0)
def GrPost (w : World) (r : (Int × List E2) × Int) (e : Ending) (w' : World) : Prop :=
  ∃ a1 c1, e = .returned (.tuple #[.agg #[.int .i64 r.1.1, .slice a1 r.1.2.length c1], .int .i64 r.2]) ∧ EdgesAt w' (.slice a1 r.1.2.length c1) r.1.2 ∧ Below w.heap.size w w'
/-- a state's box and an empty graph's -/
structure SgW (w wr : World) (n : Int) (v : Value) : Prop where
  s : wr.heap[w.heap.size]? = some (.cells #[.int .i64 n, v] 53 (0, 0))
  r : wr.heap[w.heap.size + 1]? = some (.cells #[.int .i64 0, .slice none 0 0] 79 (0, 0))
  be : Below w.heap.size w wr
theorem SgW.next {w wr w' : World} {n : Int} {v : Value} (h : SgW w wr n v) (hb : Below wr.heap.size wr w') : SgW w w' n v := ⟨lk_next hb h.s, lk_next hb h.r, h.be.trans (hb.mono h.be.size)⟩
theorem SgW.start (w : World) (n : Int) (v : Value) : SgW w ((w.alloc (.cells #[.int .i64 n, v] 53)).alloc (.cells #[.int .i64 0, .slice none 0 0] 79)) n v := by
  have hb1 := (Below.refl w.heap.size w).alloc (Nat.le_refl _) (.cells #[.int .i64 n, v] 53)
  have hS := heap_alloc_new w (.cells #[.int .i64 n, v] 53)
  have hz1 : (w.alloc (.cells #[.int .i64 n, v] 53)).heap.size = w.heap.size + 1 := by simp
  have hR := heap_alloc_new (w.alloc (.cells #[.int .i64 n, v] 53)) (.cells #[.int .i64 0, .slice none 0 0] 79)
  rw [hz1] at hR
  have hb2 := (Below.refl _ (w.alloc (.cells #[.int .i64 n, v] 53))).alloc (Nat.le_refl _) (.cells #[.int .i64 0, .slice none 0 0] 79)
  exact ⟨lk_next hb2 hS, hR, hb1.trans (hb2.mono hb1.size)⟩
theorem edges_nil (w : World) : EdgesAt w (.slice none 0 0) [] := ⟨none, 0, rfl, Nat.le_refl _, fun _ => rfl, by simp, fun i e h => by simp at h⟩
end Go.Proofs.YtpblaoeaeljmhaaDoor
