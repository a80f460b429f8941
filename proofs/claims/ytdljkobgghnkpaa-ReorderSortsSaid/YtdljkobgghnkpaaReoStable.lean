/- The contract of the law's own stable sort. -/
import Derived.Test.YtdljkobgghnkpaaReoPush
import Derived.Test.YtdljkobgghnkpaaReoPlain2
namespace Go.Proofs.Ytdljkobgghnkpaa
open Go.RowKit Go.BigFrame

theorem posS_step' (t : Int) (xs : List Ev) (k : Nat) (x : Ev) (hx : xs[k]? = some x) : posS t xs (k + 1) = if t < x.time then posS t xs k else k + 1 := by
  show (if t < (xs.getD k ⟨0, 0, 0, 0, 0, 0, 0⟩).time then posS t xs k else k + 1) = _
  rw [List.getD_eq_getElem?_getD, hx]; rfl
theorem owns_take {α : Type} {E : Enc α} {w : World} {base T n cap : Nat} {a : Option Addr} {xs : List α} (h : w.ownsRow base T E.k (.slice a n cap) xs.length (flatR E xs)) (i : Nat) (hi : i ≤ xs.length) (ha : a ≠ none) : w.ownsRow base T E.k (.slice a i cap) (xs.take i).length (flatR E (xs.take i)) := by
  have hl : (xs.take i).length = i := by rw [List.length_take, Nat.min_eq_left hi]
  refine ⟨flatR_length E _, .inr ?_⟩
  rcases h.2 with ⟨e, _⟩ | ⟨g, c, cur, e, hb, hg, hn, hc, hs, ht⟩
  · cases e; exact absurd rfl ha
  · obtain ⟨rfl, rfl, rfl⟩ := Value.slice.inj e
    refine ⟨g, cap, cur, by rw [hl], hb, hg, by rw [hl]; omega, hc, hs, ?_⟩
    rw [hl, ← flatR_take, ← ht, List.take_take, Nat.min_eq_left (Nat.mul_le_mul_right _ hi)]
structure StabW (w : World) (base : Nat) (l : List Ev) (k : Nat) (out : List Ev) (vo : Value) (wr : World) : Prop where
  bel : Below w.heap.size w wr
  own : wr.ownsRow base 26 encEv.k vo out.length (flatR encEv out)
  eq : stabS l = stabL out (l.drop k)
  len : out.length = k
  nil : k = 0 → vo = .slice none 0 0
set_option maxRecDepth 100000 in
set_option maxHeartbeats 3200000 in
theorem stable_any (l : List Ev) (a : Option Addr) (cap : Nat) (w : World) (hr : RowAt encEv w (.slice a l.length cap) l) (hn : l.length ≤ 100000) :
    Calls Try.prog 24 #[.slice a l.length cap] w fun e w' => ∃ a1 c1, e = .returned (.slice a1 (stabS l).length c1) ∧ RowAt encEv w' (.slice a1 (stabS l).length c1) (stabS l) ∧ Below w.heap.size w w' := by
  go_enter Try.func24, Try.ntmps24
  go_wp2_with fail
  go_loopw [9, 3] (fun i vo wr => ∃ k : Nat, k ≤ l.length ∧ i = .int .i64 k ∧ ∃ out : List Ev, StabW w w.heap.size l k out vo wr) (fun i _ _ => l.length - (intOf i).toNat)
  case atStart => exact ⟨0, Nat.zero_le _, rfl, [], Below.refl _ _, World.ownsRow_nil _ _ _ _, by rw [List.drop_zero]; rfl, rfl, fun _ => rfl⟩
  case round =>
    obtain ⟨k, hk, rfl, out, hS⟩ := hrel
    obtain ⟨ao, co, hvo⟩ := owns_shape hS.own
    subst hvo
    have hob : out.length ≤ 100000 := by have := hS.len; omega
    by_cases hlt : k < l.length
    · obtain ⟨bb, off, x, rfl, hx, hcap, c0, c1, c2, c3, c4, c5, c6⟩ := ev_at (hr.below hS.bel) k hlt
      have heq := hS.eq
      rw [drop_at _ _ _ hx] at heq
      have HEQ : Hid (stabS l = stabL (insS x out) (l.drop (k + 1))) := heq
      have hX := heap_alloc_new wr (.cells x.cells 26)
      have hownA := hS.own.alloc (.cells x.cells 26)
      have hbA := hS.bel.alloc hS.bel.size (.cells x.cells 26)
      have hdisj : ∀ g, (Value.slice ao out.length co).ownBlock = some g → w.heap.size ≤ g ∧ g < wr.heap.size := fun g e => hS.own.lt g e
      have HK := Lib.hid hS.len
      have hnil := hS.nil
      clear heq hx hS
      unfold Ev.cells at hX hownA hbA
      obtain ⟨k0, t0, u0, v0, wt0, l0, s0⟩ := x
      dsimp only at *
      go_wp2_with fail
      generalize wr.alloc (.cells #[.int .i64 k0, .int .i64 t0, .int .i64 u0, .int .i64 v0, .int .i64 wt0, .int .i64 l0, .int .i64 s0] 26) = wa at *
      go_loopw [6] (fun i wi => ∃ m : Nat, m ≤ out.length ∧ i = .int .i64 m ∧ Hid (posS t0 out out.length = posS t0 out m) ∧ Below wa.heap.size wa wi) (fun i _ => (intOf i).toNat)
      case atStart => exact ⟨out.length, Nat.le_refl _, rfl, rfl, Below.refl _ _⟩
      case round =>
        obtain ⟨m, hm, rfl, HP, hbi⟩ := hrel
        have hXi := lit_next hbi hX
        obtain ⟨x0, x1, x2, x3, x4, x5, x6⟩ := cells7 hXi
        have howni := hownA.kept (grown_of_below hbi) (Classical.em _)
        have hzi := blk_lt hXi
        by_cases hm0 : 0 < m
        · obtain ⟨a1, cap1, hv1, hr1, p1⟩ := RowAt.of_owns howni (by omega)
          cases hv1
          obtain ⟨gb, go, ⟨k9, t9, u9, v9, w9, l9, s9⟩, rfl, hy, hcap2, d0, d1, d2, d3, d4, d5, d6⟩ := ev_at hr1 (m - 1) (by omega)
          dsimp only at d0 d1 d2 d3 d4 d5 d6
          have hst := posS_step' t0 out (m - 1) _ hy
          rw [show m - 1 + 1 = m by omega, ← HP.out] at hst
          dsimp only at hst
          have HS := Lib.hid hst
          clear hst hy HP hr1 p1
          have v1 : IntKind.i64.wrap ((m : Int) - 1) = (m : Int) - 1 := IntWalk.i64_in _ (by omega)
          have v2 : ((m : Int) - 1).toNat = m - 1 := by omega
          have v3 : (0 : Int) ≤ (m : Int) - 1 := by omega
          have v4 : (m : Int) - 1 < (out.length : Int) := by omega
          have v5 : decide ((0 : Int) < (m : Int)) = true := by simp; omega
          have v6 : decide (0 < m) = true := by simpa using hm0
          by_cases h9 : t0 < t9
          · have d9 : decide (t0 < t9) = true := by simpa using h9
            go_wp2_with fail
            go_quiet (fail)
            go_wp2_with fail
            go_roundw
            case rel => exact ⟨m - 1, by omega, by rw [show ((m - 1 : Nat) : Int) = (m : Int) - 1 from (by omega)], by show _ = _; rw [HS.out, if_pos h9], hbi.trans ((Below.refl _ _).drewN _)⟩
            case measure => simp [intOf]; omega
          · have d9 : decide (t0 < t9) = false := by simpa using h9
            have HPP := Lib.hid (show posS t0 out out.length = m by rw [HS.out, if_neg h9])
            clear HS
            go_wp2_with fail
            go_quiet (fail)
            go_wp2_with fail
            have hXW := lit_next ((Below.refl _ wr).drewN nq) hXi
            have hownW := howni.kept (grown_of_below ((Below.refl _ wr).drewN nq)) (Classical.em _)
            have hbW := hbi.trans (((Below.refl _ wr).drewN nq).mono hbi.size)
            clear hXi howni hbi x0 x1 x2 x3 x4 x5 x6 d0 d1 d2 d3 d4 d5 d6 hzi
            generalize wr.drewN nq = W at *
            have hr1 : RowAt encEv W (.slice (some ⟨gb, go, none⟩) out.length co) out := by
              obtain ⟨a1, cap1, hv1, hr1, p1⟩ := RowAt.of_owns hownW (by omega)
              cases hv1; exact hr1
            have hsz1 := hbA.size
            have hsz2 := hbW.size
            have hbW2 := hbA.trans (hbW.mono hbA.size)
            have hbW3 := (hbW2.alloc hbW2.size (.cells #[.int .i64 k0, .int .i64 t0, .int .i64 u0, .int .i64 v0, .int .i64 wt0, .int .i64 l0, .int .i64 s0] 26)).drew
            have hgb : w.heap.size ≤ gb ∧ gb < W.heap.size := by have := hownW.lt gb rfl; omega
            obtain ⟨x0, x1, x2, x3, x4, x5, x6⟩ := cells7 hXW
            have hl1 : RowAt encEv (W.alloc (.cells #[.int .i64 k0, .int .i64 t0, .int .i64 u0, .int .i64 v0, .int .i64 wt0, .int .i64 l0, .int .i64 s0] 26)).drew (.slice (some ⟨W.heap.size, 0, none⟩) 1 1) [⟨k0, t0, u0, v0, wt0, l0, s0⟩] := (rows_lit1 (E := encEv) W ⟨k0, t0, u0, v0, wt0, l0, s0⟩ 26 #[.int .i64 k0, .int .i64 t0, .int .i64 u0, .int .i64 v0, .int .i64 wt0, .int .i64 l0, .int .i64 s0] rfl).below (Below.refl _ _).drew
            have hown1 : (W.alloc (.cells #[.int .i64 k0, .int .i64 t0, .int .i64 u0, .int .i64 v0, .int .i64 wt0, .int .i64 l0, .int .i64 s0] 26)).drew.ownsRow W.heap.size 26 encEv.k (.slice (some ⟨W.heap.size, 0, none⟩) 1 1) [(⟨k0, t0, u0, v0, wt0, l0, s0⟩ : Ev)].length (flatR encEv [⟨k0, t0, u0, v0, wt0, l0, s0⟩]) := ⟨rfl, .inr ⟨W.heap.size, 1, _, rfl, Nat.le_refl _, heap_alloc_new _ _, Nat.le_refl _, by unfold maxLen; omega, rfl, rfl⟩⟩
            have hownT : (W.alloc (.cells #[.int .i64 k0, .int .i64 t0, .int .i64 u0, .int .i64 v0, .int .i64 wt0, .int .i64 l0, .int .i64 s0] 26)).drew.ownsRow w.heap.size 26 encEv.k (.slice (some ⟨gb, go, none⟩) m co) (out.take m).length (flatR encEv (out.take m)) := (owns_take hownW m hm (by simp)).alloc _
            have hcap9 : out.length ≤ co := by rcases hownW.2 with ⟨h, _⟩ | ⟨_, _, _, h, _, _, h2, _⟩ <;> cases h; exact h2
            have htl : (out.take m).length = m := by rw [List.length_take, Nat.min_eq_left hm]
            have HINS : Hid (insS ⟨k0, t0, u0, v0, wt0, l0, s0⟩ out = out.take m ++ ⟨k0, t0, u0, v0, wt0, l0, s0⟩ :: out.drop m) := by show _ = _; unfold insS; rw [show (⟨k0, t0, u0, v0, wt0, l0, s0⟩ : Ev).time = t0 from rfl, HPP.out]
            have hmc : m ≤ co := by omega
            by_cases hcm : co = m
            · obtain rfl : m = out.length := by omega
              obtain rfl : co = out.length := hcm
              have HD0 : Hid (out.drop out.length = []) := List.drop_length
              go_region_law (refine step_app_rows evRT rfl (.tmp 32) (.tmp 38) rfl w.heap.size (.slice (some ⟨gb, go, none⟩) out.length out.length) (.slice (some ⟨W.heap.size, 0, none⟩) 1 1) (out.take out.length) [⟨k0, t0, u0, v0, wt0, l0, s0⟩] rfl (by with_reducible exact hownT) rfl (by with_reducible exact hl1) (by simp; omega) (by simp; omega) (by simp; omega) ?_; intro v6 w6 hown6 hg6)
              all_goals
                go_wp2_with fail
                go_roundw
                case rel =>
                  refine ⟨k + 1, by omega, by go_num, insS ⟨k0, t0, u0, v0, wt0, l0, s0⟩ out, ⟨hbW3.grown hg6 hbW3.size (fun g e => by cases e; exact hgb.1), ?_, HEQ.out, by rw [insS_length, HK.out], fun h => by omega⟩⟩
                  rw [HINS.out, HD0.out]; exact hown6
                case measure => simp [intOf]; omega
            · have hrD : RowAt encEv (W.alloc (.cells #[.int .i64 k0, .int .i64 t0, .int .i64 u0, .int .i64 v0, .int .i64 wt0, .int .i64 l0, .int .i64 s0] 26)).drew (.slice (some ⟨gb, go + m * encEv.k, none⟩) (out.length - m) (co - m)) (out.drop m) := (hr1.drop m (co - m) (by omega)).below ((Below.refl _ _).alloc (Nat.le_refl _) _).drew
              go_region_law (first
                | (refine step_app_rows evRT rfl (.tmp 34) (.tmp 37) rfl W.heap.size (.slice (some ⟨W.heap.size, 0, none⟩) 1 1) (.slice (some ⟨gb, go + m * encEv.k, none⟩) (out.length - m) (co - m)) [⟨k0, t0, u0, v0, wt0, l0, s0⟩] (out.drop m) rfl (by with_reducible exact hown1) rfl (by with_reducible exact hrD) (by simp; omega) (by simp; omega) (by simp) ?_; intro v5 w5 hown5 hg5; have hownT5 := hownT.kept hg5 (.inr (fun e => by have e' : gb = W.heap.size := Option.some.inj e; omega)); have hsz5 := hg5.size; obtain ⟨a5, cap5, hv5, hr5, p5⟩ := RowAt.of_owns hown5 (by simp; omega); subst hv5; have hr5 : RowAt encEv w5 (.slice a5 (out.length - m + 1) cap5) ([⟨k0, t0, u0, v0, wt0, l0, s0⟩] ++ out.drop m) := (by simpa using hr5))
                | (refine step_app_rows evRT rfl (.tmp 32) (.tmp 38) rfl w.heap.size (.slice (some ⟨gb, go, none⟩) m co) (.slice a5 (out.length - m + 1) cap5) (out.take m) ([⟨k0, t0, u0, v0, wt0, l0, s0⟩] ++ out.drop m) rfl (by with_reducible exact hownT5) rfl (by with_reducible exact hr5) (by simp; omega) (by simp; omega) (by simp at hsz5; omega) ?_; intro v6 w6 hown6 hg6))
              all_goals
                have hbW5 := hbW3.grown hg5 hbW3.size (fun g e => by have e' : W.heap.size = g := Option.some.inj e; omega)
                go_wp2_with fail
                go_roundw
                case rel =>
                  refine ⟨k + 1, by omega, by go_num, insS ⟨k0, t0, u0, v0, wt0, l0, s0⟩ out, ⟨hbW5.grown hg6 hbW5.size (fun g e => by cases e; exact hgb.1), ?_, HEQ.out, by rw [insS_length, HK.out], fun h => by omega⟩⟩
                  rw [HINS.out]; exact hown6
                case measure => simp [intOf]; omega
        · obtain rfl : m = 0 := by omega
          have HPP := Lib.hid (show posS t0 out out.length = 0 by rw [HP.out]; rfl)
          clear HP
          go_wp2_with fail
          go_quiet (fail)
          go_wp2_with fail
          have hXW := lit_next ((Below.refl _ wr).drewN nq) hXi
          have hownW := howni.kept (grown_of_below ((Below.refl _ wr).drewN nq)) (Classical.em _)
          have hbW := hbi.trans (((Below.refl _ wr).drewN nq).mono hbi.size)
          clear hXi howni hbi x0 x1 x2 x3 x4 x5 x6 hzi
          generalize wr.drewN nq = W at *
          by_cases hk0 : k = 0
          · have hn := hnil hk0
            obtain ⟨rfl, _, rfl⟩ := Value.slice.inj hn
            have ho0 : out = [] := List.eq_nil_of_length_eq_zero (by rw [HK.out, hk0])
            subst ho0
            obtain ⟨x0, x1, x2, x3, x4, x5, x6⟩ := cells7 hXW
            have hl1 : RowAt encEv (W.alloc (.cells #[.int .i64 k0, .int .i64 t0, .int .i64 u0, .int .i64 v0, .int .i64 wt0, .int .i64 l0, .int .i64 s0] 26)).drew (.slice (some ⟨W.heap.size, 0, none⟩) 1 1) [⟨k0, t0, u0, v0, wt0, l0, s0⟩] := (rows_lit1 (E := encEv) W ⟨k0, t0, u0, v0, wt0, l0, s0⟩ 26 #[.int .i64 k0, .int .i64 t0, .int .i64 u0, .int .i64 v0, .int .i64 wt0, .int .i64 l0, .int .i64 s0] rfl).below (Below.refl _ _).drew
            go_region_law (refine step_app_rows evRT rfl (.tmp 32) (.tmp 38) rfl w.heap.size (.slice none 0 0) (.slice (some ⟨W.heap.size, 0, none⟩) 1 1) [] [⟨k0, t0, u0, v0, wt0, l0, s0⟩] rfl (World.ownsRow_nil _ _ _ _) rfl (by with_reducible exact hl1) (by simp) (by simp) (by have := hbA.size; have := hbW.size; simp; omega) ?_; intro v6 w6 hown6 hg6)
            all_goals
              go_wp2_with fail
              go_roundw
              case rel =>
                have hbW2 := hbA.trans (hbW.mono hbA.size)
                have hbW3 := (hbW2.alloc hbW2.size (.cells #[.int .i64 k0, .int .i64 t0, .int .i64 u0, .int .i64 v0, .int .i64 wt0, .int .i64 l0, .int .i64 s0] 26)).drew
                exact ⟨k + 1, by omega, by go_num, [⟨k0, t0, u0, v0, wt0, l0, s0⟩], ⟨hbW3.grown hg6 hbW3.size (fun g e => by cases e), hown6, HEQ.out, by simp [hk0], fun h => by omega⟩⟩
              case measure => simp [intOf]; omega
          · obtain ⟨a1, cap1, hv1, hr1, p1⟩ := RowAt.of_owns hownW (by omega)
            cases hv1
            obtain ⟨gb, go, y, rfl, -, -, -⟩ := ev_at hr1 0 (by rw [HK.out]; omega)
            have hsz1 := hbA.size
            have hsz2 := hbW.size
            have hbW2 := hbA.trans (hbW.mono hbA.size)
            have hbW3 := (hbW2.alloc hbW2.size (.cells #[.int .i64 k0, .int .i64 t0, .int .i64 u0, .int .i64 v0, .int .i64 wt0, .int .i64 l0, .int .i64 s0] 26)).drew
            have hgb : w.heap.size ≤ gb ∧ gb < W.heap.size := by have := hownW.lt gb rfl; omega
            obtain ⟨x0, x1, x2, x3, x4, x5, x6⟩ := cells7 hXW
            have hl1 : RowAt encEv (W.alloc (.cells #[.int .i64 k0, .int .i64 t0, .int .i64 u0, .int .i64 v0, .int .i64 wt0, .int .i64 l0, .int .i64 s0] 26)).drew (.slice (some ⟨W.heap.size, 0, none⟩) 1 1) [⟨k0, t0, u0, v0, wt0, l0, s0⟩] := (rows_lit1 (E := encEv) W ⟨k0, t0, u0, v0, wt0, l0, s0⟩ 26 #[.int .i64 k0, .int .i64 t0, .int .i64 u0, .int .i64 v0, .int .i64 wt0, .int .i64 l0, .int .i64 s0] rfl).below (Below.refl _ _).drew
            have hown1 : (W.alloc (.cells #[.int .i64 k0, .int .i64 t0, .int .i64 u0, .int .i64 v0, .int .i64 wt0, .int .i64 l0, .int .i64 s0] 26)).drew.ownsRow W.heap.size 26 encEv.k (.slice (some ⟨W.heap.size, 0, none⟩) 1 1) [(⟨k0, t0, u0, v0, wt0, l0, s0⟩ : Ev)].length (flatR encEv [⟨k0, t0, u0, v0, wt0, l0, s0⟩]) := ⟨rfl, .inr ⟨W.heap.size, 1, _, rfl, Nat.le_refl _, heap_alloc_new _ _, Nat.le_refl _, by unfold maxLen; omega, rfl, rfl⟩⟩
            have hownT : (W.alloc (.cells #[.int .i64 k0, .int .i64 t0, .int .i64 u0, .int .i64 v0, .int .i64 wt0, .int .i64 l0, .int .i64 s0] 26)).drew.ownsRow w.heap.size 26 encEv.k (.slice (some ⟨gb, go, none⟩) 0 co) (out.take 0).length (flatR encEv (out.take 0)) := (owns_take hownW 0 (Nat.zero_le _) (by simp)).alloc _
            have hcap9 : out.length ≤ co := by rcases hownW.2 with ⟨h, _⟩ | ⟨_, _, _, h, _, _, h2, _⟩ <;> cases h; exact h2
            have HINS : Hid (insS ⟨k0, t0, u0, v0, wt0, l0, s0⟩ out = out.take 0 ++ ⟨k0, t0, u0, v0, wt0, l0, s0⟩ :: out) := by show _ = _; unfold insS; rw [show (⟨k0, t0, u0, v0, wt0, l0, s0⟩ : Ev).time = t0 from rfl, HPP.out, List.drop_zero]
            have hrD : RowAt encEv (W.alloc (.cells #[.int .i64 k0, .int .i64 t0, .int .i64 u0, .int .i64 v0, .int .i64 wt0, .int .i64 l0, .int .i64 s0] 26)).drew (.slice (some ⟨gb, go, none⟩) out.length co) out := hr1.below ((Below.refl _ _).alloc (Nat.le_refl _) _).drew
            go_region_law (first
              | (refine step_app_rows evRT rfl (.tmp 34) (.tmp 37) rfl W.heap.size (.slice (some ⟨W.heap.size, 0, none⟩) 1 1) (.slice (some ⟨gb, go, none⟩) out.length co) [⟨k0, t0, u0, v0, wt0, l0, s0⟩] (out) rfl (by with_reducible exact hown1) rfl (by with_reducible exact hrD) (by simp; omega) (by simp; omega) (by simp) ?_; intro v5 w5 hown5 hg5; have hownT5 := hownT.kept hg5 (.inr (fun e => by have e' : gb = W.heap.size := Option.some.inj e; omega)); have hsz5 := hg5.size; obtain ⟨a5, cap5, hv5, hr5, p5⟩ := RowAt.of_owns hown5 (by simp; omega); subst hv5; have hr5 : RowAt encEv w5 (.slice a5 (out.length + 1) cap5) ([⟨k0, t0, u0, v0, wt0, l0, s0⟩] ++ out) := (by simpa using hr5))
              | (refine step_app_rows evRT rfl (.tmp 32) (.tmp 38) rfl w.heap.size (.slice (some ⟨gb, go, none⟩) 0 co) (.slice a5 (out.length + 1) cap5) (out.take 0) ([⟨k0, t0, u0, v0, wt0, l0, s0⟩] ++ out) rfl (by with_reducible exact hownT5) rfl (by with_reducible exact hr5) (by simp; omega) (by simp; omega) (by simp at hsz5; omega) ?_; intro v6 w6 hown6 hg6))
            all_goals
              have hbW5 := hbW3.grown hg5 hbW3.size (fun g e => by have e' : W.heap.size = g := Option.some.inj e; omega)
              go_wp2_with fail
              go_roundw
              case rel =>
                refine ⟨k + 1, by omega, by go_num, insS ⟨k0, t0, u0, v0, wt0, l0, s0⟩ out, ⟨hbW5.grown hg6 hbW5.size (fun g e => by cases e; exact hgb.1), ?_, HEQ.out, by rw [insS_length, HK.out], fun h => by omega⟩⟩
                rw [HINS.out]; exact hown6
              case measure => simp [intOf]; omega
    · obtain rfl : k = l.length := by omega
      have heq := hS.eq
      rw [List.drop_length] at heq
      have heq : stabS l = out := heq
      obtain ⟨a1, cap1, hv1, hr1, p1⟩ := RowAt.of_owns hS.own (by omega)
      cases hv1
      go_wp2_with fail
      go_ret
      rw [heq]
      exact ⟨ao, co, rfl, hr1, hS.bel⟩
end Go.Proofs.Ytdljkobgghnkpaa
