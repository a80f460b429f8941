/- The walk of the law on the graphs with all edges between two sides. -/
import Derived.Test.YtdiackininlmeaaDoorSqPlain
import Derived.Test.YtdiackininlmeaaDoorPatTurns
namespace Go.Proofs.YtdiackininlmeaaDoor
open Go.RowKit Go.BigFrame

theorem choose2 (n : Nat) (w : World) (hn : n ≤ 60) :
    Calls Tryd.prog 20 #[.int .i64 n, .int .i64 2] w fun e w' => e = .returned (.int .i64 (chS n 2)) ∧ Below w.heap.size w w' := choose_any n 2 w hn (by omega)
theorem sides_bd : ∀ u : Nat, u < 7 → ∀ b : Nat, b < 7 → (0 ≤ (u : Int) * b * ((b : Int) - 1) ∧ (u : Int) * b * ((b : Int) - 1) ≤ 216) ∧ (0 ≤ (u : Int) * b ∧ (u : Int) * b ≤ 36) ∧ (0 ≤ (chS u 2 : Int) * (chS b 2 : Int) ∧ (chS u 2 : Int) * (chS b 2 : Int) ≤ 225) := by decide
set_option maxRecDepth 100000 in
set_option maxHeartbeats 3200000 in
theorem sides_law (x y : Nat) (w : World) (hx : x < 256) (hy : y < 256) (hT : TzAt w) :
    Calls Tryd.prog 6 #[.int .u8 x, .int .u8 y] w fun e w' => e = .returned (.bool true) ∧ Below w.heap.size w w' := by
  obtain ⟨a, ha⟩ : ∃ a, x % 7 = a := ⟨_, rfl⟩
  obtain ⟨b, hb⟩ : ∃ b, y % 7 = b := ⟨_, rfl⟩
  have ha7 : a < 7 := by omega
  have hb7 : b < 7 := by omega
  have e1 : ((x : Int)) % 7 = (a : Int) := by omega
  have e2 : ((y : Int)) % 7 = (b : Int) := by omega
  obtain ⟨N, hN⟩ : ∃ N, a + b = N := ⟨_, rfl⟩
  have e3 : (a : Int) + (b : Int) = (N : Int) := by omega
  clear ha hb
  have HN := Lib.hid hN
  have hNle : N ≤ 12 := by omega
  have haN : a ≤ N := by omega
  clear hN
  go_enter Tryd.func6, Tryd.ntmps6
  go_wp2_with fail
  clear e1 e2
  have hR0 : RS N (eT a b 0 0) w.heap.size (w.heap.size + 1) (.slice none 0 0) (w.alloc (.cells #[.int .i64 N, .slice none 0 0] 27)) := ⟨heap_alloc_new _ _, World.ownsRow_nil _ _ _ _⟩
  have hb0 : Below w.heap.size w (w.alloc (.cells #[.int .i64 N, .slice none 0 0] 27)) := (Below.refl _ _).alloc (Nat.le_refl _) _
  go_loopw [8] (fun i wr => ∃ (u : Nat) (sl : Value), i = .int .i64 u ∧ u ≤ a ∧ Below w.heap.size w wr ∧ RS N (eT a b u 0) w.heap.size (w.heap.size + 1) sl wr) (fun i _ => a - (intOf i).toNat)
  case atStart => exact ⟨0, .slice none 0 0, rfl, Nat.zero_le _, hb0, hR0⟩
  case round =>
    clear hR0 hb0
    obtain ⟨u, sl, rfl, hua, hb, hR⟩ := hrel
    by_cases hlt : u < a
    · go_wp2_with fail
      obtain ⟨wo, rfl⟩ : ∃ wo : World, wo = wr := ⟨_, rfl⟩
      go_loopw [9] (fun i wr => ∃ (v : Nat) (sl : Value) (es : List E2), i = .int .i64 v ∧ a ≤ v ∧ v ≤ N ∧ Below w.heap.size w wr ∧ RS N es w.heap.size (w.heap.size + 1) sl wr ∧ Hid (es = eT a b u (v - a))) (fun i _ => N - (intOf i).toNat)
      case atStart => exact ⟨a, sl, _, rfl, Nat.le_refl _, haN, hb, hR, by show _ = _; rw [Nat.sub_self]⟩
      case round =>
        clear hb hR
        obtain ⟨v, sl, es', rfl, hva, hvN, hb, hR, HES⟩ := hrel
        by_cases hlt2 : v < N
        · have hub : u * b ≤ 6 * 6 := Nat.mul_le_mul (by omega) (by omega)
          have hlen : es'.length ≤ 48 := by rw [HES.out, eT_length]; omega
          have p1 : wr.cell? ⟨w.heap.size, 1, none⟩ = some sl := cell_blk hR.1
          have hz4 := blk_lt hR.1
          clear hub
          go_wp2_with (at_builtin; refine wpList_app_edges edgesT rfl _ _ rfl (w.heap.size + 1) _ _ es' [((u : Int), (v : Int))] rfl (hR.2.alloc _) rfl (edges_lit1 _ _ _ _) (by simp <;> omega) (by simp <;> omega) ?_; intro v' w5 hown5 hg5; obtain ⟨a5, cap5, hv5⟩ := owns_shape hown5; subst hv5; have hlt5 := hown5.lt; have hb25 : Below w.heap.size w w5 := (hb.alloc hb.size _).grown hg5 (by simp <;> omega) (fun k hk => by have := hR.2.lt k hk; omega); have hne : ∀ k, k ≤ w.heap.size → some k ≠ sl.ownBlock := (fun k hk e => by have := hR.2.lt k e.symm; omega); have s5 := grown_blk hg5 ((Below.heap_alloc wr (.cells #[.int .i64 u, .int .i64 v] 41) _ hz4).trans hR.1) (hne _ (Nat.le_refl _)); have s0 : w5.cell? ⟨w.heap.size, 1, none⟩ = some sl := cell_blk s5; have s1 : w5.frozen? ⟨w.heap.size, 1, none⟩ = false := free_blk s5; have S5 := Lib.hid s5; clear p1 hg5 hb s5)
          go_roundw
          case rel =>
            refine ⟨v + 1, .slice a5 (es'.length + 1) cap5, es' ++ [((u : Int), (v : Int))], by go_num, by omega, by omega, hb25.setCell (p := ⟨w.heap.size, 1, none⟩) (Nat.le_refl _) _, ⟨?_, ?_⟩, ?_⟩
            · exact heap_setCell_same _ _ _ _ _ _ S5.out
            · have hk5 := hown5.kept (grown_store (b := w.heap.size) (j := 1) (v := .slice a5 (es'.length + 1) cap5)) (.inr (by intro e; have := hlt5 _ e; omega))
              simpa using hk5
            · show _ = _
              rw [HES.out, show v + 1 - a = (v - a) + 1 by omega, eT_step, show a + (v - a) = v by omega]
          case measure => simp [intOf]; omega
        · obtain rfl : v = N := by omega
          go_wp2_with fail
          go_roundw
          case rel => exact ⟨u + 1, sl, by go_num, by omega, hb, by have e : eT a b (u + 1) 0 = es' := (by rw [← eT_next, HES.out]; congr 1; have := HN.out; omega); rw [e]; exact hR⟩
          case measure => simp [intOf]; omega
    · obtain rfl : u = a := by omega
      have hs := side_at u b ha7 hb7
      rw [HN.out] at hs
      obtain ⟨hv, hwed, hsq⟩ := hs
      have q0 : wr.cell? ⟨w.heap.size, 0, none⟩ = some (.int .i64 N) := cell_blk hR.1
      have q1 : wr.cell? ⟨w.heap.size, 1, none⟩ = some sl := cell_blk hR.1
      have hlen := hv.length_le
      have HW := Lib.hid hwed
      have HS := Lib.hid hsq
      clear hwed hsq
      generalize eT u b u 0 = es at *
      obtain ⟨ar, capr, hvr, hir, _⟩ := EdgesAt.of_owns hR.2 (by omega)
      subst hvr
      have hG := hR.1
      clear hR
      go_wp2_with fail
      refine (scount_any N ar capr es _ hir hv (hT.below hb)).mono ?_
      rintro e w3 ⟨rfl, hb3⟩
      have hb03 := hb.trans (hb3.mono hb.size)
      have he3 := hir.below hb3
      have hG3 := (hb3.block _ (blk_lt hG)).trans hG
      have g0 : w3.cell? ⟨w.heap.size, 0, none⟩ = some (.int .i64 N) := cell_blk hG3
      have g1 : w3.cell? ⟨w.heap.size, 1, none⟩ = some (.slice ar es.length capr) := cell_blk hG3
      rw [HS.out]
      clear q0 q1 hb3 hG hG3 hir hb
      go_wp2_with fail
      refine (swedges_any N ar capr es _ he3 hv).mono ?_
      rintro e w4 ⟨rfl, hb4⟩
      have hb04 := hb03.trans (hb4.mono hb03.size)
      rw [HW.out]
      clear hb4 hb03 he3 g0 g1
      obtain ⟨⟨b1, b2⟩, ⟨b3, b4⟩, b5, b6⟩ := sides_bd u ha7 b hb7
      obtain ⟨⟨c1, c2⟩, ⟨c3, c4⟩, _⟩ := sides_bd b hb7 u ha7
      obtain ⟨p1, hp1⟩ : ∃ p, (u : Int) * (b : Int) = p := ⟨_, rfl⟩
      obtain ⟨p3, hp3⟩ : ∃ p, (b : Int) * (u : Int) = p := ⟨_, rfl⟩
      rw [hp1] at b1 b2 b3 b4
      rw [hp3] at c1 c2 c3 c4
      obtain ⟨p2, hp2⟩ : ∃ p, p1 * ((b : Int) - 1) = p := ⟨_, rfl⟩
      obtain ⟨p4, hp4⟩ : ∃ p, p3 * ((u : Int) - 1) = p := ⟨_, rfl⟩
      rw [hp2] at b1 b2
      rw [hp4] at c1 c2
      obtain ⟨p5, hp5⟩ : ∃ p, (chS u 2 : Int) * (chS b 2 : Int) = p := ⟨_, rfl⟩
      rw [hp5] at b5 b6
      rw [hp1, hp3, hp2, hp4, hp5]
      clear HS HW
      go_wp2_with fail
      refine (choose2 u _ (by omega)).mono ?_
      rintro e w5 ⟨rfl, hb5⟩
      have hb05 := hb04.trans (hb5.mono hb04.size)
      clear hb5 hb04
      go_wp2_with fail
      refine (choose2 b _ (by omega)).mono ?_
      rintro e w6 ⟨rfl, hb6⟩
      have hb06 := hb05.trans (hb6.mono hb05.size)
      clear hb6 hb05
      generalize (chS u 2 : Int) = k1 at *
      generalize (chS b 2 : Int) = k2 at *
      go_wp2_with fail
      refine (awake30_any _ (hT.below hb06)).mono ?_
      rintro e w7 ⟨rfl, hb7⟩
      have hb07 := hb06.trans (hb7.mono hb06.size)
      clear hb7 hb06
      go_wp2_with fail
      go_ret
      exact ⟨rfl, hb07⟩
end Go.Proofs.YtdiackininlmeaaDoor
