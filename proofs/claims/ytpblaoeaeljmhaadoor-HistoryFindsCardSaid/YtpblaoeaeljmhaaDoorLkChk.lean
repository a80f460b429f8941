/- The contracts of the order of links, and of both checks of a state. -/
import Derived.Test.YtpblaoeaeljmhaaDoorLkPlain
import Derived.Test.YtpblaoeaeljmhaaDoorEvCheck
import Derived.Deep.RegionHeld3
import Derived.BigQuiet
namespace Go.Proofs.YtpblaoeaeljmhaaDoor
open Go.RowKit Go.BigFrame

theorem lk_next {w w' : World} {g : Nat} {o : Obj} (hb : Below w.heap.size w w') (h : w.heap[g]? = some o) : w'.heap[g]? = some o := (hb.block g (blk_lt h)).trans h
theorem lkO_or (p q : Lk) : orS [cmpS p.u q.u, cmpS p.v q.v] = lkO p q := by
  unfold orS orS orS cmpS lkO
  split <;> split <;> (try split) <;> (try split) <;> (try omega) <;> (try rfl) <;> simp_all
theorem cells6 {w : World} {g T : Nat} {x y z u v p : Value} (h : w.heap[g]? = some (.cells #[x, y, z, u, v, p] T (0, 0))) : w.cell? ⟨g, 0, none⟩ = some x ∧ w.cell? ⟨g, 1, none⟩ = some y ∧ w.cell? ⟨g, 2, none⟩ = some z ∧ w.cell? ⟨g, 3, none⟩ = some u ∧ w.cell? ⟨g, 4, none⟩ = some v ∧ w.cell? ⟨g, 5, none⟩ = some p :=
  ⟨by rw [cell_blk h]; rfl, by rw [cell_blk h]; rfl, by rw [cell_blk h]; rfl, by rw [cell_blk h]; rfl, by rw [cell_blk h]; rfl, by rw [cell_blk h]; rfl⟩
set_option maxRecDepth 100000 in
set_option maxHeartbeats 800000 in
theorem lorder_any (p q : Lk) (w : World) :
    Calls Tryd.prog 36 #[.agg p.cells, .agg q.cells] w fun e w' => e = .returned (.int .i64 (lkO p q)) ∧ Below w.heap.size w w' := by
  rw [← lkO_or]
  obtain ⟨u, v, a1, a2, a3, a4⟩ := p
  obtain ⟨x, y, b1, b2, b3, b4⟩ := q
  unfold Lk.cells
  dsimp only
  have hG := heap_alloc_new w (.cells #[.int .i64 u, .int .i64 v, .int .i64 a1, .int .i64 a2, .int .i64 a3, .int .i64 a4] 69)
  have hb1 := (Below.refl w.heap.size w).alloc (Nat.le_refl _) (.cells #[.int .i64 u, .int .i64 v, .int .i64 a1, .int .i64 a2, .int .i64 a3, .int .i64 a4] 69)
  have hb2 := hb1.alloc hb1.size (.cells #[.int .i64 x, .int .i64 y, .int .i64 b1, .int .i64 b2, .int .i64 b3, .int .i64 b4] 69)
  have hG2 := lk_next ((Below.refl _ _).alloc (Nat.le_refl _) (.cells #[.int .i64 x, .int .i64 y, .int .i64 b1, .int .i64 b2, .int .i64 b3, .int .i64 b4] 69)) hG
  have hH := heap_alloc_new (w.alloc (.cells #[.int .i64 u, .int .i64 v, .int .i64 a1, .int .i64 a2, .int .i64 a3, .int .i64 a4] 69)) (.cells #[.int .i64 x, .int .i64 y, .int .i64 b1, .int .i64 b2, .int .i64 b3, .int .i64 b4] 69)
  have hz : (w.alloc (.cells #[.int .i64 u, .int .i64 v, .int .i64 a1, .int .i64 a2, .int .i64 a3, .int .i64 a4] 69)).heap.size = w.heap.size + 1 := by simp
  rw [hz] at hH
  have h0 := cell_blk (j := 0) hG2
  have h1 := cell_blk (j := 1) hG2
  have h2 := cell_blk (j := 0) hH
  have h3 := cell_blk (j := 1) hH
  have H0 := Lib.hid h0
  have H1 := Lib.hid h1
  have H2 := Lib.hid h2
  have H3 := Lib.hid h3
  clear h0 h1 h2 h3 hz hG hG2 hH hb1
  go_enter Tryd.func36, Tryd.ntmps36
  go_wp2_with fail
  go_region_held3 (fun w' => w'.cell? ⟨w.heap.size, 0, none⟩ = some (.int .i64 u) ∧ w'.cell? ⟨w.heap.size, 1, none⟩ = some (.int .i64 v) ∧ w'.cell? ⟨w.heap.size + 1, 0, none⟩ = some (.int .i64 x) ∧ w'.cell? ⟨w.heap.size + 1, 1, none⟩ = some (.int .i64 y))
    (first | exact ⟨H0.out, H1.out, H2.out, H3.out⟩ | exact ⟨cell_alloc H0.out, cell_alloc H1.out, cell_alloc H2.out, cell_alloc H3.out⟩)
    (first
      | (go_at_call 53; refine (cmp_any _ _ _).mono ?_; rintro e w' ⟨rfl, rfl⟩)
      | (go_at_call 52; refine (or_any _ _ [cmpS u x, cmpS v y] _ (by exact ints_lit2 _ _ (by simp) _ _ _)).mono ?_; rintro e w' ⟨rfl, rfl⟩))
  go_wp2
  go_ret
  exact ⟨rfl, (hb2.alloc (by simp; omega) _).drew⟩
def prevL (ls : List Lk) (k : Nat) : Option Lk := if k = 0 then none else ls[k - 1]?
theorem lksE_drop (n : Int) (ls : List Lk) (k : Nat) (p : Option Lk) (x : Lk) (h : ls[k]? = some x) : lksE n p (ls.drop k) = if lkE n p x ≠ 0 then lkE n p x else lksE n (some x) (ls.drop (k + 1)) := by
  rw [drop_at ls k x h]; rfl
set_option maxRecDepth 100000 in
set_option maxHeartbeats 3200000 in
theorem lcheck_any (n : Int) (a : Option Addr) (cap : Nat) (ls : List Lk) (w : World) (hl : RowAt encLk w (.slice a ls.length cap) ls) :
    Calls Tryd.prog 37 #[.agg #[.int .i64 n, .slice a ls.length cap]] w fun e w' => e = .returned (.int .i64 (stS n ls)) ∧ Below w.heap.size w w' := by
  have hb0 : Below w.heap.size w (w.alloc (.cells #[.int .i64 n, .slice a ls.length cap] 53)) := (Below.refl _ _).alloc (Nat.le_refl _) _
  have hG0 := heap_alloc_new w (.cells #[.int .i64 n, .slice a ls.length cap] 53)
  have hsm := hl.small
  by_cases h0 : n < 0
  · go_enter Tryd.func37, Tryd.ntmps37
    go_wp2
    go_ret
    exact ⟨by simp [stS, h0], hb0⟩
  by_cases h1 : 64 < n
  · go_enter Tryd.func37, Tryd.ntmps37
    go_wp2
    go_ret
    exact ⟨by simp [stS, h1], hb0⟩
  obtain ⟨R, hR⟩ : ∃ R, stS n ls = R := ⟨_, rfl⟩
  have HS : Hid (R = lksE n none ls) := by show _ = _; rw [← hR]; simp [stS, h0, h1]
  rw [hR]
  clear hR
  go_enter Tryd.func37, Tryd.ntmps37
  go_wp2
  go_loopw [16] (fun i wr => ∃ k : Nat, k ≤ ls.length ∧ i = .int .i64 k ∧ Below w.heap.size w wr ∧ Below (w.alloc (.cells #[.int .i64 n, .slice a ls.length cap] 53)).heap.size (w.alloc (.cells #[.int .i64 n, .slice a ls.length cap] 53)) wr ∧ Hid (R = lksE n (prevL ls k) (ls.drop k))) (fun i _ => ls.length - (intOf i).toNat)
  case atStart => exact ⟨0, Nat.zero_le _, rfl, hb0, Below.refl _ _, HS⟩
  case round =>
    obtain ⟨k, hk, rfl, hb, hbg, HR⟩ := hrel
    have hG := lk_next hbg hG0
    have b0 : wr.cell? ⟨w.heap.size, 0, none⟩ = some (.int .i64 n) := by rw [cell_blk hG]; rfl
    have b1 : wr.cell? ⟨w.heap.size, 1, none⟩ = some (.slice a ls.length cap) := by rw [cell_blk hG]; rfl
    have hz : w.heap.size < wr.heap.size := blk_lt hG
    have hz1 : (w.alloc (.cells #[.int .i64 n, .slice a ls.length cap] 53)).heap.size ≤ wr.heap.size := hbg.size
    by_cases hlt : k < ls.length
    · obtain ⟨b, off, x, rfl, hx, hcap, c0, c1, c2, c3, c4, c5⟩ := lk_at (hl.below hb) k hlt
      have hcd := lksE_drop n ls k (prevL ls k) x hx
      rw [← HR.out] at hcd
      have HC := Lib.hid hcd
      have HP : Hid (prevL ls (k + 1) = some x) := by show _ = _; simp only [prevL]; rw [if_neg (by omega)]; simpa using hx
      have hfin := hb.alloc hb.size (.cells x.cells 69)
      have hk3 : (k : Int) < ls.length := by omega
      have hst : prevL ls k = none ∧ k = 0 ∨ ∃ p, prevL ls k = some p ∧ 0 < k ∧ ls[k - 1]? = some p := by
        unfold prevL
        by_cases e : k = 0
        · left; simp [e]
        · right
          rw [if_neg e]
          exact ⟨_, List.getElem?_eq_getElem (by omega), by omega, List.getElem?_eq_getElem (by omega)⟩
      have HST := Lib.hid hst
      clear hcd hx HR hst
      obtain ⟨u, v, a1, a2, a3, a4⟩ := x
      unfold Lk.cells at hfin
      dsimp only at c0 c1 c2 c3 c4 c5 hfin
      by_cases hbad : u < 0 ∨ v ≤ u ∨ n ≤ v
      · have HF : Hid (R = 6) := by
          show _ = _
          have hE : lkE n (prevL ls k) ⟨u, v, a1, a2, a3, a4⟩ = 6 := by unfold lkE; rw [if_pos hbad]
          rw [HC.out, hE]; simp
        rcases (by omega : u < 0 ∨ (0 ≤ u ∧ v ≤ u) ∨ (0 ≤ u ∧ u < v ∧ n ≤ v)) with h | h | h
        · go_wp2
          go_ret
          exact ⟨ret_int HF.out.symm, hfin⟩
        · obtain ⟨g1, g2⟩ := h
          go_wp2
          go_ret
          exact ⟨ret_int HF.out.symm, hfin⟩
        · obtain ⟨g1, g2, g3⟩ := h
          go_wp2
          go_ret
          exact ⟨ret_int HF.out.symm, hfin⟩
      have h4 : 0 ≤ u := by omega
      have h5 : u < v := by omega
      have h6 : v < n := by omega
      cases hA : attS a1 a2 a3 with
      | false =>
        have HF : Hid (R = 1) := by
          show _ = _
          have hE : lkE n (prevL ls k) ⟨u, v, a1, a2, a3, a4⟩ = 1 := by unfold lkE; rw [if_neg hbad, if_pos hA]
          rw [HC.out, hE]; simp
        clear hbad HC
        go_wp2_with (go_at_call 54; refine (right_any _ _ _ _).mono ?_; rw [hA]; rintro e w' ⟨rfl, rfl⟩)
        go_ret
        exact ⟨ret_int HF.out.symm, hfin⟩
      | true =>
        by_cases hbt : a4 < 0 ∨ 1048576 < a4
        · have HF : Hid (R = 9) := by
            show _ = _
            have hE : lkE n (prevL ls k) ⟨u, v, a1, a2, a3, a4⟩ = 9 := by unfold lkE; rw [if_neg hbad, if_neg (by rw [hA]; simp), if_pos hbt]
            rw [HC.out, hE]; simp
          clear hbad HC
          rcases (by omega : a4 < 0 ∨ (0 ≤ a4 ∧ 1048576 < a4)) with h | h
          · go_wp2_with (go_at_call 54; refine (right_any _ _ _ _).mono ?_; rw [hA]; rintro e w' ⟨rfl, rfl⟩)
            go_ret
            exact ⟨ret_int HF.out.symm, hfin⟩
          · obtain ⟨g1, g2⟩ := h
            go_wp2_with (go_at_call 54; refine (right_any _ _ _ _).mono ?_; rw [hA]; rintro e w' ⟨rfl, rfl⟩)
            go_ret
            exact ⟨ret_int HF.out.symm, hfin⟩
        have h7 : 0 ≤ a4 := by omega
        have h8 : a4 ≤ 1048576 := by omega
        have HC2 : Hid (R = if (prevL ls k).any (fun p => !lkB p ⟨u, v, a1, a2, a3, a4⟩) then 5 else lksE n (some ⟨u, v, a1, a2, a3, a4⟩) (ls.drop (k + 1))) := by
          show _ = _
          have hE : lkE n (prevL ls k) ⟨u, v, a1, a2, a3, a4⟩ = if (prevL ls k).any (fun p => !lkB p ⟨u, v, a1, a2, a3, a4⟩) = true then 5 else 0 := by unfold lkE; rw [if_neg hbad, if_neg (by rw [hA]; simp), if_neg hbt]
          rw [HC.out, hE]
          by_cases h : (prevL ls k).any (fun p => !lkB p ⟨u, v, a1, a2, a3, a4⟩) = true
          · rw [if_pos h, if_pos (by decide), if_pos h]
          · rw [if_neg h, if_neg (by decide), if_neg h]
        clear hbad hbt HC
        have hE := heap_alloc_new wr (.cells #[.int .i64 u, .int .i64 v, .int .i64 a1, .int .i64 a2, .int .i64 a3, .int .i64 a4] 69)
        have hbE := (Below.refl wr.heap.size wr).alloc (Nat.le_refl _) (.cells #[.int .i64 u, .int .i64 v, .int .i64 a1, .int .i64 a2, .int .i64 a3, .int .i64 a4] 69)
        have hGE := lk_next hbE hG
        rcases HST.out with ⟨hpn, hk0⟩ | ⟨p, hpp, hk0, hpx⟩
        · have hp1 : decide (0 < (k : Int)) = false := decide_eq_false (by omega)
          have hp2 : decide (0 < k) = false := decide_eq_false (by omega)
          rw [hpn] at HC2
          have HN : Hid (R = lksE n (prevL ls (k + 1)) (ls.drop (k + 1))) := by show _ = _; rw [HC2.out, HP.out]; simp
          have hnext := hbg.alloc hz1 (.cells #[.int .i64 u, .int .i64 v, .int .i64 a1, .int .i64 a2, .int .i64 a3, .int .i64 a4] 69)
          clear HC2 HP HST hk0 hpn
          go_wp2_with (go_at_call 54; refine (right_any _ _ _ _).mono ?_; rw [hA]; rintro e w' ⟨rfl, rfl⟩)
          go_quiet (fail)
          go_wp2
          go_roundw
          case rel => exact ⟨k + 1, by omega, by go_num, hfin.drewN _, hnext.drewN _, HN⟩
          case measure => simp [intOf]; omega
        · have hp1 : (0 : Int) < (k : Int) := by omega
          have hp3 : decide (0 < (k : Int)) = true := decide_eq_true hp1
          have hp4 : decide (0 < k) = true := decide_eq_true hk0
          obtain ⟨b', off', p', ebo, hpx', -, d0, d1, d2, d3, d4, d5⟩ := lk_at (hl.below hb) (k - 1) (by omega)
          cases ebo
          obtain rfl : p' = p := by rw [hpx] at hpx'; exact (Option.some.inj hpx').symm
          rw [hpp] at HC2
          have HN : Hid (R = if lkB p' ⟨u, v, a1, a2, a3, a4⟩ = true then lksE n (prevL ls (k + 1)) (ls.drop (k + 1)) else 5) := by
            show _ = _
            rw [HC2.out, HP.out]
            cases hB : lkB p' ⟨u, v, a1, a2, a3, a4⟩ <;> simp [hB]
          have hcO := fun W => lorder_any p' ⟨u, v, a1, a2, a3, a4⟩ W
          clear HC2 HP HST hpx hpx' hpp
          obtain ⟨pu, pv, p1, p2, p3, p4⟩ := p'
          unfold Lk.cells at hcO
          dsimp only at d0 d1 d2 d3 d4 d5 hcO
          have hnext := hbg.alloc hz1 (.cells #[.int .i64 u, .int .i64 v, .int .i64 a1, .int .i64 a2, .int .i64 a3, .int .i64 a4] 69)
          go_wp2_with (go_at_call 54; refine (right_any _ _ _ _).mono ?_; rw [hA]; rintro e w' ⟨rfl, rfl⟩)
          obtain ⟨Q, hQ⟩ : ∃ Q, wr.heap.size = Q := ⟨_, rfl⟩
          obtain ⟨wE, hwE⟩ : ∃ W : World, W = wr.alloc (.cells #[.int .i64 u, .int .i64 v, .int .i64 a1, .int .i64 a2, .int .i64 a3, .int .i64 a4] 69) := ⟨_, rfl⟩
          rw [← hwE] at hE hbE hGE hnext hfin ⊢
          rw [hQ] at hE
          try rw [hQ]
          obtain ⟨q0, q1, q2, q3, q4, q5⟩ := cells6 hE
          have g0 : wE.cell? ⟨w.heap.size, 0, none⟩ = some (.int .i64 n) := by rw [cell_blk hGE]; rfl
          have g1 : wE.cell? ⟨w.heap.size, 1, none⟩ = some (.slice (some ⟨b, off, none⟩) ls.length cap) := by rw [cell_blk hGE]; rfl
          have xt : ∀ (g j : Nat) (v : Value), wE.cell? ⟨g, j, none⟩ = some v → ∀ z : Ext wE.heap.size wE, z.world.cell? ⟨g, j, none⟩ = some v := fun g j v h z => (z.below.cell (p := ⟨g, j, none⟩) (cell_lt h)).trans h
          have ot : ∀ (g j : Nat) (v : Value), wr.cell? ⟨g, j, none⟩ = some v → wE.cell? ⟨g, j, none⟩ = some v := fun g j v h => by rw [hwE]; exact cell_alloc h
          have e0 := xt _ _ _ q0
          have e1 := xt _ _ _ q1
          have e2 := xt _ _ _ q2
          have e3 := xt _ _ _ q3
          have e4 := xt _ _ _ q4
          have e5 := xt _ _ _ q5
          have e6 := xt _ _ _ g0
          have e7 := xt _ _ _ g1
          have f0 := xt _ _ _ (ot _ _ _ d0)
          have f1 := xt _ _ _ (ot _ _ _ d1)
          have f2 := xt _ _ _ (ot _ _ _ d2)
          have f3 := xt _ _ _ (ot _ _ _ d3)
          have f4 := xt _ _ _ (ot _ _ _ d4)
          have f5 := xt _ _ _ (ot _ _ _ d5)
          clear xt ot c0 c1 c2 c3 c4 c5 d0 d1 d2 d3 d4 d5 q0 q1 q2 q3 q4 q5 g0 g1 hE hbE hGE hG b0 b1
          by_cases hB : lkB ⟨pu, pv, p1, p2, p3, p4⟩ ⟨u, v, a1, a2, a3, a4⟩ = true
          · have hB2 := (lkO_neg _ _).2 hB
            rw [if_pos hB] at HN
            obtain ⟨Z, hZ⟩ : ∃ Z, lkO ⟨pu, pv, p1, p2, p3, p4⟩ ⟨u, v, a1, a2, a3, a4⟩ = Z := ⟨_, rfl⟩
            rw [hZ] at hcO hB2
            have dZ : decide (0 ≤ Z) = false := decide_eq_false (by omega)
            clear hB hZ hB2
            refine wp_region_ext wE.heap.size wE (by kernel_rfl) (by kernel_rfl) (Below.refl _ _) ?_
            try simp only [List.append_eq, List.cons_append, List.nil_append]
            repeat (any_goals (go_big_quiet_step ((go_at_call 36; exact Calls.ext_of (Nat.le_refl _) (hcO _)))))
            refine wpQuiet_nil ?_
            rintro _ ⟨⟨wq, hq⟩, rfl⟩
            clear e0 e1 e2 e3 e4 e5 e6 e7 f0 f1 f2 f3 f4 f5
            go_wp2
            go_roundw
            case rel => exact ⟨k + 1, by omega, by go_num, hfin.trans (hq.mono hfin.size), hnext.trans (hq.mono hnext.size), HN⟩
            case measure => simp [intOf]; omega
          · have hB2 : ¬ lkO ⟨pu, pv, p1, p2, p3, p4⟩ ⟨u, v, a1, a2, a3, a4⟩ < 0 := fun h => hB ((lkO_neg _ _).1 h)
            rw [if_neg hB] at HN
            obtain ⟨Z, hZ⟩ : ∃ Z, lkO ⟨pu, pv, p1, p2, p3, p4⟩ ⟨u, v, a1, a2, a3, a4⟩ = Z := ⟨_, rfl⟩
            rw [hZ] at hcO hB2
            have dZ : decide (0 ≤ Z) = true := decide_eq_true (by omega)
            clear hB hZ hB2
            refine wp_region_ext wE.heap.size wE (by kernel_rfl) (by kernel_rfl) (Below.refl _ _) ?_
            try simp only [List.append_eq, List.cons_append, List.nil_append]
            repeat (any_goals (go_big_quiet_step ((go_at_call 36; exact Calls.ext_of (Nat.le_refl _) (hcO _)))))
            refine wpQuiet_nil ?_
            rintro _ ⟨⟨wq, hq⟩, rfl⟩
            clear e0 e1 e2 e3 e4 e5 e6 e7 f0 f1 f2 f3 f4 f5
            go_wp2
            go_ret
            exact ⟨ret_int HN.out.symm, hfin.trans (hq.mono hfin.size)⟩
    · obtain rfl : k = ls.length := by omega
      have HF : Hid (R = 0) := by show _ = _; rw [HR.out, List.drop_length]; rfl
      clear HR
      go_wp2
      go_ret
      exact ⟨ret_int HF.out.symm, hb⟩
theorem redge_any (l : Lk) (w : World) : Calls Tryd.prog 59 #[.agg l.cells] w fun e w' => e = .returned (.agg #[.int .i64 l.u, .int .i64 l.v]) ∧ Below w.heap.size w w' := by
  obtain ⟨u, v, a1, a2, a3, a4⟩ := l
  unfold Lk.cells
  dsimp only
  have hb0 : Below w.heap.size w ((w.alloc (.cells #[.int .i64 u, .int .i64 v, .int .i64 a1, .int .i64 a2, .int .i64 a3, .int .i64 a4] 69)).alloc (.cells #[.int .i64 0, .int .i64 0] 93)) := ((Below.refl _ _).alloc (Nat.le_refl _) _).alloc (by simp) _
  have hZ : ((w.alloc (.cells #[.int .i64 u, .int .i64 v, .int .i64 a1, .int .i64 a2, .int .i64 a3, .int .i64 a4] 69)).alloc (.cells #[.int .i64 0, .int .i64 0] 93)).heap[w.heap.size + 1]? = some (.cells #[.int .i64 0, .int .i64 0] 93 (0, 0)) := by
    have h := heap_alloc_new (w.alloc (.cells #[.int .i64 u, .int .i64 v, .int .i64 a1, .int .i64 a2, .int .i64 a3, .int .i64 a4] 69)) (.cells #[.int .i64 0, .int .i64 0] 93)
    simpa using h
  go_enter Tryd.func59, Tryd.ntmps59
  go_wp2
  exact bodyPost_ret (v := .agg #[.int .i64 u, .int .i64 v]) (by simp [results, Tryd.results59, go_sem]) rfl ⟨rfl, ((Below.refl _ _).alloc (Nat.le_refl _) _).alloc (by simp) _⟩
set_option maxRecDepth 100000 in
set_option maxHeartbeats 3200000 in
theorem rcheck05_any (n : Int) (a : Option Addr) (cap : Nat) (ls : List Lk) (w : World) (hl : RowAt encLk w (.slice a ls.length cap) ls) :
    Calls Tryd.prog 41 #[.agg #[.int .i64 n, .slice a ls.length cap]] w fun e w' => e = .returned (.int .i64 (stS n ls)) ∧ Below w.heap.size w w' := by
  have hb0 : Below w.heap.size w (w.alloc (.cells #[.int .i64 n, .slice a ls.length cap] 53)) := (Below.refl _ _).alloc (Nat.le_refl _) _
  have hG0 := heap_alloc_new w (.cells #[.int .i64 n, .slice a ls.length cap] 53)
  have hsm := hl.small
  by_cases h0 : n < 0
  · go_enter Tryd.func41, Tryd.ntmps41
    go_wp2
    go_ret
    exact ⟨by simp [stS, h0], hb0⟩
  by_cases h1 : 64 < n
  · go_enter Tryd.func41, Tryd.ntmps41
    go_wp2
    go_ret
    exact ⟨by simp [stS, h1], hb0⟩
  obtain ⟨R, hR⟩ : ∃ R, stS n ls = R := ⟨_, rfl⟩
  have HS : Hid (R = lksE n none ls) := by show _ = _; rw [← hR]; simp [stS, h0, h1]
  rw [hR]
  clear hR
  go_enter Tryd.func41, Tryd.ntmps41
  go_wp2
  go_loopw [17] (fun i wr => ∃ k : Nat, k ≤ ls.length ∧ i = .int .i64 k ∧ Below w.heap.size w wr ∧ Below (w.alloc (.cells #[.int .i64 n, .slice a ls.length cap] 53)).heap.size (w.alloc (.cells #[.int .i64 n, .slice a ls.length cap] 53)) wr ∧ Hid (R = lksE n (prevL ls k) (ls.drop k))) (fun i _ => ls.length - (intOf i).toNat)
  case atStart => exact ⟨0, Nat.zero_le _, rfl, hb0, Below.refl _ _, HS⟩
  case round =>
    obtain ⟨k, hk, rfl, hb, hbg, HR⟩ := hrel
    have hG := lk_next hbg hG0
    have b0 : wr.cell? ⟨w.heap.size, 0, none⟩ = some (.int .i64 n) := by rw [cell_blk hG]; rfl
    have b1 : wr.cell? ⟨w.heap.size, 1, none⟩ = some (.slice a ls.length cap) := by rw [cell_blk hG]; rfl
    have hz : w.heap.size < wr.heap.size := blk_lt hG
    have hz1 : (w.alloc (.cells #[.int .i64 n, .slice a ls.length cap] 53)).heap.size ≤ wr.heap.size := hbg.size
    by_cases hlt : k < ls.length
    · obtain ⟨b, off, x, rfl, hx, hcap, c0, c1, c2, c3, c4, c5⟩ := lk_at (hl.below hb) k hlt
      have hcd := lksE_drop n ls k (prevL ls k) x hx
      rw [← HR.out] at hcd
      have HC := Lib.hid hcd
      have HP : Hid (prevL ls (k + 1) = some x) := by show _ = _; simp only [prevL]; rw [if_neg (by omega)]; simpa using hx
      have hfin := hb.alloc hb.size (.cells x.cells 69)
      have hk3 : (k : Int) < ls.length := by omega
      have hst : prevL ls k = none ∧ k = 0 ∨ ∃ p, prevL ls k = some p ∧ 0 < k ∧ ls[k - 1]? = some p := by
        unfold prevL
        by_cases e : k = 0
        · left; simp [e]
        · right
          rw [if_neg e]
          exact ⟨_, List.getElem?_eq_getElem (by omega), by omega, List.getElem?_eq_getElem (by omega)⟩
      have HST := Lib.hid hst
      clear hcd hx HR hst
      obtain ⟨u, v, a1, a2, a3, a4⟩ := x
      unfold Lk.cells at hfin
      dsimp only at c0 c1 c2 c3 c4 c5 hfin
      by_cases hbad : u < 0 ∨ v ≤ u ∨ n ≤ v
      · have HF : Hid (R = 6) := by
          show _ = _
          have hE : lkE n (prevL ls k) ⟨u, v, a1, a2, a3, a4⟩ = 6 := by unfold lkE; rw [if_pos hbad]
          rw [HC.out, hE]; simp
        rcases (by omega : u < 0 ∨ (0 ≤ u ∧ v ≤ u) ∨ (0 ≤ u ∧ u < v ∧ n ≤ v)) with h | h | h
        · go_wp2
          go_ret
          exact ⟨ret_int HF.out.symm, hfin⟩
        · obtain ⟨g1, g2⟩ := h
          go_wp2
          go_ret
          exact ⟨ret_int HF.out.symm, hfin⟩
        · obtain ⟨g1, g2, g3⟩ := h
          go_wp2
          go_ret
          exact ⟨ret_int HF.out.symm, hfin⟩
      have h4 : 0 ≤ u := by omega
      have h5 : u < v := by omega
      have h6 : v < n := by omega
      cases hA : attS a1 a2 a3 with
      | false =>
        have HF : Hid (R = 1) := by
          show _ = _
          have hE : lkE n (prevL ls k) ⟨u, v, a1, a2, a3, a4⟩ = 1 := by unfold lkE; rw [if_neg hbad, if_pos hA]
          rw [HC.out, hE]; simp
        clear hbad HC
        go_wp2_with (go_at_call 56; refine (attr_any _ _ _ _).mono ?_; rw [hA]; rintro e w' ⟨rfl, rfl⟩)
        go_ret
        exact ⟨ret_int HF.out.symm, hfin⟩
      | true =>
        by_cases hbt : a4 < 0 ∨ 1048576 < a4
        · have HF : Hid (R = 9) := by
            show _ = _
            have hE : lkE n (prevL ls k) ⟨u, v, a1, a2, a3, a4⟩ = 9 := by unfold lkE; rw [if_neg hbad, if_neg (by rw [hA]; simp), if_pos hbt]
            rw [HC.out, hE]; simp
          clear hbad HC
          rcases (by omega : a4 < 0 ∨ (0 ≤ a4 ∧ 1048576 < a4)) with h | h
          · go_wp2_with (go_at_call 56; refine (attr_any _ _ _ _).mono ?_; rw [hA]; rintro e w' ⟨rfl, rfl⟩)
            go_ret
            exact ⟨ret_int HF.out.symm, hfin⟩
          · obtain ⟨g1, g2⟩ := h
            go_wp2_with (go_at_call 56; refine (attr_any _ _ _ _).mono ?_; rw [hA]; rintro e w' ⟨rfl, rfl⟩)
            go_ret
            exact ⟨ret_int HF.out.symm, hfin⟩
        have h7 : 0 ≤ a4 := by omega
        have h8 : a4 ≤ 1048576 := by omega
        have HC2 : Hid (R = if (prevL ls k).any (fun p => !lkB p ⟨u, v, a1, a2, a3, a4⟩) then 5 else lksE n (some ⟨u, v, a1, a2, a3, a4⟩) (ls.drop (k + 1))) := by
          show _ = _
          have hE : lkE n (prevL ls k) ⟨u, v, a1, a2, a3, a4⟩ = if (prevL ls k).any (fun p => !lkB p ⟨u, v, a1, a2, a3, a4⟩) = true then 5 else 0 := by unfold lkE; rw [if_neg hbad, if_neg (by rw [hA]; simp), if_neg hbt]
          rw [HC.out, hE]
          by_cases h : (prevL ls k).any (fun p => !lkB p ⟨u, v, a1, a2, a3, a4⟩) = true
          · rw [if_pos h, if_pos (by decide), if_pos h]
          · rw [if_neg h, if_neg (by decide), if_neg h]
        clear hbad hbt HC
        have hE := heap_alloc_new wr (.cells #[.int .i64 u, .int .i64 v, .int .i64 a1, .int .i64 a2, .int .i64 a3, .int .i64 a4] 69)
        have hbE := (Below.refl wr.heap.size wr).alloc (Nat.le_refl _) (.cells #[.int .i64 u, .int .i64 v, .int .i64 a1, .int .i64 a2, .int .i64 a3, .int .i64 a4] 69)
        have hGE := lk_next hbE hG
        rcases HST.out with ⟨hpn, hk0⟩ | ⟨p, hpp, hk0, hpx⟩
        · have hp1 : decide (0 < (k : Int)) = false := decide_eq_false (by omega)
          have hp2 : decide (0 < k) = false := decide_eq_false (by omega)
          rw [hpn] at HC2
          have HN : Hid (R = lksE n (prevL ls (k + 1)) (ls.drop (k + 1))) := by show _ = _; rw [HC2.out, HP.out]; simp
          have hnext := hbg.alloc hz1 (.cells #[.int .i64 u, .int .i64 v, .int .i64 a1, .int .i64 a2, .int .i64 a3, .int .i64 a4] 69)
          clear HC2 HP HST hk0 hpn
          go_wp2_with (go_at_call 56; refine (attr_any _ _ _ _).mono ?_; rw [hA]; rintro e w' ⟨rfl, rfl⟩)
          go_quiet (fail)
          go_wp2
          go_roundw
          case rel => exact ⟨k + 1, by omega, by go_num, hfin.drewN _, hnext.drewN _, HN⟩
          case measure => simp [intOf]; omega
        · have hp1 : (0 : Int) < (k : Int) := by omega
          have hp3 : decide (0 < (k : Int)) = true := decide_eq_true hp1
          have hp4 : decide (0 < k) = true := decide_eq_true hk0
          obtain ⟨b', off', p', ebo, hpx', -, d0, d1, d2, d3, d4, d5⟩ := lk_at (hl.below hb) (k - 1) (by omega)
          cases ebo
          obtain rfl : p' = p := by rw [hpx] at hpx'; exact (Option.some.inj hpx').symm
          rw [hpp] at HC2
          have HN : Hid (R = if lkB p' ⟨u, v, a1, a2, a3, a4⟩ = true then lksE n (prevL ls (k + 1)) (ls.drop (k + 1)) else 5) := by
            show _ = _
            rw [HC2.out, HP.out]
            cases hB : lkB p' ⟨u, v, a1, a2, a3, a4⟩ <;> simp [hB]
          have hcO := fun W => redge_any p' W
          have hcO2 := fun W => redge_any ⟨u, v, a1, a2, a3, a4⟩ W
          have hcB := fun W => before_any p'.u p'.v u v W
          clear HC2 HP HST hpx hpx' hpp
          obtain ⟨pu, pv, p1, p2, p3, p4⟩ := p'
          unfold Lk.cells at hcO hcO2
          dsimp only at d0 d1 d2 d3 d4 d5 hcO hcO2 hcB
          have hnext := hbg.alloc hz1 (.cells #[.int .i64 u, .int .i64 v, .int .i64 a1, .int .i64 a2, .int .i64 a3, .int .i64 a4] 69)
          go_wp2_with (go_at_call 56; refine (attr_any _ _ _ _).mono ?_; rw [hA]; rintro e w' ⟨rfl, rfl⟩)
          obtain ⟨Q, hQ⟩ : ∃ Q, wr.heap.size = Q := ⟨_, rfl⟩
          obtain ⟨wE, hwE⟩ : ∃ W : World, W = wr.alloc (.cells #[.int .i64 u, .int .i64 v, .int .i64 a1, .int .i64 a2, .int .i64 a3, .int .i64 a4] 69) := ⟨_, rfl⟩
          rw [← hwE] at hE hbE hGE hnext hfin ⊢
          rw [hQ] at hE
          try rw [hQ]
          obtain ⟨q0, q1, q2, q3, q4, q5⟩ := cells6 hE
          have g0 : wE.cell? ⟨w.heap.size, 0, none⟩ = some (.int .i64 n) := by rw [cell_blk hGE]; rfl
          have g1 : wE.cell? ⟨w.heap.size, 1, none⟩ = some (.slice (some ⟨b, off, none⟩) ls.length cap) := by rw [cell_blk hGE]; rfl
          have xt : ∀ (g j : Nat) (v : Value), wE.cell? ⟨g, j, none⟩ = some v → ∀ z : Ext wE.heap.size wE, z.world.cell? ⟨g, j, none⟩ = some v := fun g j v h z => (z.below.cell (p := ⟨g, j, none⟩) (cell_lt h)).trans h
          have ot : ∀ (g j : Nat) (v : Value), wr.cell? ⟨g, j, none⟩ = some v → wE.cell? ⟨g, j, none⟩ = some v := fun g j v h => by rw [hwE]; exact cell_alloc h
          have e0 := xt _ _ _ q0
          have e1 := xt _ _ _ q1
          have e2 := xt _ _ _ q2
          have e3 := xt _ _ _ q3
          have e4 := xt _ _ _ q4
          have e5 := xt _ _ _ q5
          have e6 := xt _ _ _ g0
          have e7 := xt _ _ _ g1
          have f0 := xt _ _ _ (ot _ _ _ d0)
          have f1 := xt _ _ _ (ot _ _ _ d1)
          have f2 := xt _ _ _ (ot _ _ _ d2)
          have f3 := xt _ _ _ (ot _ _ _ d3)
          have f4 := xt _ _ _ (ot _ _ _ d4)
          have f5 := xt _ _ _ (ot _ _ _ d5)
          clear xt ot c0 c1 c2 c3 c4 c5 d0 d1 d2 d3 d4 d5 q0 q1 q2 q3 q4 q5 g0 g1 hE hbE hGE hG b0 b1
          have hBB : beforeB (pu, pv) (u, v) = lkB ⟨pu, pv, p1, p2, p3, p4⟩ ⟨u, v, a1, a2, a3, a4⟩ := rfl
          rw [hBB] at hcB
          cases hB : lkB ⟨pu, pv, p1, p2, p3, p4⟩ ⟨u, v, a1, a2, a3, a4⟩
          · rw [hB] at HN hcB
            rw [if_neg (by simp)] at HN
            clear hB hBB
            refine wp_region_ext wE.heap.size wE (by kernel_rfl) (by kernel_rfl) (Below.refl _ _) ?_
            try simp only [List.append_eq, List.cons_append, List.nil_append]
            repeat (any_goals (go_big_quiet_step (first | (go_at_call 59; exact Calls.ext_of (Nat.le_refl _) (hcO _)) | (go_at_call 59; exact Calls.ext_of (Nat.le_refl _) (hcO2 _)) | (go_at_call 58; exact Calls.ext_of (Nat.le_refl _) (hcB _)))))
            refine wpQuiet_nil ?_
            rintro _ ⟨⟨wq, hq⟩, rfl⟩
            clear e0 e1 e2 e3 e4 e5 e6 e7 f0 f1 f2 f3 f4 f5
            go_wp2
            go_ret
            exact ⟨ret_int HN.out.symm, hfin.trans (hq.mono hfin.size)⟩
          · rw [hB] at HN hcB
            rw [if_pos rfl] at HN
            clear hB hBB
            refine wp_region_ext wE.heap.size wE (by kernel_rfl) (by kernel_rfl) (Below.refl _ _) ?_
            try simp only [List.append_eq, List.cons_append, List.nil_append]
            repeat (any_goals (go_big_quiet_step (first | (go_at_call 59; exact Calls.ext_of (Nat.le_refl _) (hcO _)) | (go_at_call 59; exact Calls.ext_of (Nat.le_refl _) (hcO2 _)) | (go_at_call 58; exact Calls.ext_of (Nat.le_refl _) (hcB _)))))
            refine wpQuiet_nil ?_
            rintro _ ⟨⟨wq, hq⟩, rfl⟩
            clear e0 e1 e2 e3 e4 e5 e6 e7 f0 f1 f2 f3 f4 f5
            go_wp2
            go_roundw
            case rel => exact ⟨k + 1, by omega, by go_num, hfin.trans (hq.mono hfin.size), hnext.trans (hq.mono hnext.size), HN⟩
            case measure => simp [intOf]; omega
    · obtain rfl : k = ls.length := by omega
      have HF : Hid (R = 0) := by show _ = _; rw [HR.out, List.drop_length]; rfl
      clear HR
      go_wp2
      go_ret
      exact ⟨ret_int HF.out.symm, hb⟩
end Go.Proofs.YtpblaoeaeljmhaaDoor
