/- The contracts of the reference's runs: before, put, sorted, Build. Printed by wip/mkrefrun.py. -/
import Derived.Test.YtdkmdcdoiaelfaaRunP
import Derived.Test.YtdkmdcdoiaelfaaRef03Of
import Derived.Test.YtdkmdcdoiaelfaaRunGr
import Derived.Deep.RegionLaw
namespace Go.Proofs.Ytdkmdcdoiaelfaa
open Go.RowKit Go.BigFrame

theorem pairsT : SliceT Try.prog 31 37 (.agg #[.int .i64 0, .int .i64 0]) 2 16 := ⟨Try.underlying31, by kernel_rfl, rfl, by decide⟩
theorem eq_r2 (x y x' y' : Int) (W : World) : (Op.equalIn 10000 37 (.agg #[.int .i64 x, .int .i64 y]) (.agg #[.int .i64 x', .int .i64 y'])).run Try.prog W = .ok (x == x' && y == y') W := by
  obtain ⟨i, hi⟩ : ∃ i, Try.prog.info? 3 = some i := Option.isSome_iff_exists.1 (by kernel_rfl)
  have hc : Try.prog.cellsOf 3 = 1 := by kernel_rfl
  have hr : List.range 2 = [0, 1] := rfl
  have h1 : ∀ d, (Op.equalIn (d + 1 + 1) 37 (.agg #[.int .i64 x, .int .i64 y]) (.agg #[.int .i64 x', .int .i64 y'])).run Try.prog W = .ok (x == x' && y == y') W := fun d => by
    rw [run_equalIn_array (w := W) (d + 1) #[.int .i64 x, .int .i64 y] #[.int .i64 x', .int .i64 y'] Try.underlying37 hi, hc, hr]
    simp [Op.eqItems, Sem.run_bind, part, isAgg, go_sem, Op.equalIn, run_underlying Try.underlying3, Result.andThen]
    by_cases e1 : x = x' <;> by_cases e2 : y = y' <;> simp [e1, e2]
  exact h1 9998
theorem eq2_yes (x y : Int) (W : World) : (Op.equalIn 10000 37 (.agg #[.int .i64 x, .int .i64 y]) (.agg #[.int .i64 x, .int .i64 y])).run Try.prog W = .ok true W := by
  rw [eq_r2]; simp
theorem eq2_no (x y u v : Int) (h : ¬ (x = u ∧ y = v)) (W : World) : (Op.equalIn 10000 37 (.agg #[.int .i64 x, .int .i64 y]) (.agg #[.int .i64 u, .int .i64 v])).run Try.prog W = .ok false W := by
  rw [eq_r2]
  have : (x == u && y == v) = false := by
    cases hb : (x == u && y == v) with
    | false => rfl
    | true => simp only [Bool.and_eq_true, beq_iff_eq] at hb; exact absurd hb h
  rw [this]
theorem rbefore_any (u v x y : Int) (w : World) :
    Calls Try.prog 129 #[.agg #[.int .i64 u, .int .i64 v], .agg #[.int .i64 x, .int .i64 y]] w fun e w' => e = .returned (.bool (beforeB (u, v) (x, y))) ∧ Below w.heap.size w w' := by
  have hp := ((Below.refl w.heap.size w).alloc (Nat.le_refl _) (.cells #[.int .i64 u, .int .i64 v] 37)).alloc (by simp) (.cells #[.int .i64 x, .int .i64 y] 37)
  rcases Int.lt_trichotomy u x with h | h | h
  · have hb : beforeB (u, v) (x, y) = true := by simp [beforeB, h]
    go_enter Try.func129, Try.ntmps129
    go_wp2
    go_ret
    exact ⟨ret_bool hb.symm, hp⟩
  · subst h
    have hb : beforeB (u, v) (u, y) = decide (v < y) := by simp [beforeB]
    rw [hb]
    have h1 : ¬ u < u := by omega
    go_enter Try.func129, Try.ntmps129
    go_wp2
    all_goals go_ret
    all_goals exact ⟨by simp_all, hp⟩
  · have hb : beforeB (u, v) (x, y) = false := by simp [beforeB]; omega
    have h1 : ¬ u < x := by omega
    have h2 : (u == x) = false := by simp; omega
    go_enter Try.func129, Try.ntmps129
    go_wp2
    go_ret
    exact ⟨rfl, hp⟩
theorem rbefore_yes (u v x y : Int) (w : World) (h : beforeB (u, v) (x, y) = true) :
    Calls Try.prog 129 #[.agg #[.int .i64 u, .int .i64 v], .agg #[.int .i64 x, .int .i64 y]] w fun e w' => e = .returned (.bool true) ∧ Below w.heap.size w w' := by
  have := rbefore_any u v x y w; rw [h] at this; exact this
theorem rbefore_no (u v x y : Int) (w : World) (h : beforeB (u, v) (x, y) = false) :
    Calls Try.prog 129 #[.agg #[.int .i64 u, .int .i64 v], .agg #[.int .i64 x, .int .i64 y]] w fun e w' => e = .returned (.bool false) ∧ Below w.heap.size w w' := by
  have := rbefore_any u v x y w; rw [h] at this; exact this

set_option maxRecDepth 100000 in
set_option maxHeartbeats 1600000 in
theorem put34_any (a : Option Addr) (cap : Nat) (es : List E2) (u v : Int) (w : World) (he : EdgesAt w (.slice a es.length cap) es) (hn : es.length ≤ 1073741824) :
    Calls Try.prog 96 #[.slice a es.length cap, .agg #[.int .i64 u, .int .i64 v]] w (WithPost a w (insE es (u, v))) := by
  obtain ⟨hcap, hnone⟩ := he.caps
  have HE := Lib.hid he
  clear he
  go_enter Try.func96, Try.ntmps96
  go_wp2_with fail
  go_loopw [5] (fun i wr => ∃ k : Nat, k ≤ es.length ∧ i = .int .i64 k ∧ Below (w.heap.size + 1) (w.alloc (.cells #[.int .i64 u, .int .i64 v] 37)) wr ∧ Hid (insE es (u, v) = es.take k ++ insE (es.drop k) (u, v))) (fun i _ => es.length - (intOf i).toNat)
  case atStart => exact ⟨0, Nat.zero_le _, rfl, Below.refl _ _, rfl⟩
  case round =>
    obtain ⟨k, hk, rfl, hb, HP⟩ := hrel
    have hbw : Below w.heap.size w wr := ((Below.refl _ _).alloc (Nat.le_refl _) _).trans (hb.mono (Nat.le_succ _))
    have q0 : wr.cell? ⟨w.heap.size, 0, none⟩ = some (.int .i64 u) := cell_new hb 0 _ rfl
    have q1 : wr.cell? ⟨w.heap.size, 1, none⟩ = some (.int .i64 v) := cell_new hb 1 _ rfl
    have hz : w.heap.size < wr.heap.size := by have := hb.size; simp at this; omega
    have e0 : ∀ z : Ext wr.heap.size wr, z.world.cell? ⟨w.heap.size, 0, none⟩ = some (.int .i64 u) := fun z => (z.below.cell (p := ⟨w.heap.size, 0, none⟩) hz).trans q0
    have e1 : ∀ z : Ext wr.heap.size wr, z.world.cell? ⟨w.heap.size, 1, none⟩ = some (.int .i64 v) := fun z => (z.below.cell (p := ⟨w.heap.size, 1, none⟩) hz).trans q1
    have he1 := HE.out.below hbw
    by_cases hlt : k < es.length
    · obtain ⟨b, off, x, y, rfl, hy, hd, ht, c0, c1⟩ := he1.at k hlt
      have HD := Lib.hid hd
      have HT := Lib.hid ht
      clear hd ht hy
      have d1 : decide ((k : Int) < (es.length : Int)) = true := by simpa using hlt
      have d2 : decide (k < es.length) = true := by simpa using hlt
      have e2 : ∀ z : Ext wr.heap.size wr, z.world.cell? ⟨b, off + k * 2, none⟩ = some (.int .i64 x) := fun z => (z.below.cell (p := ⟨b, off + k * 2, none⟩) (cell_lt c0)).trans c0
      have e3 : ∀ z : Ext wr.heap.size wr, z.world.cell? ⟨b, off + k * 2 + 1, none⟩ = some (.int .i64 y) := fun z => (z.below.cell (p := ⟨b, off + k * 2 + 1, none⟩) (cell_lt c1)).trans c1
      by_cases hyx : beforeB (x, y) (u, v) = true
      · have HYX := Lib.hid hyx
        clear hyx
        go_wp2_with fail
        refine wp_region_ext wr.heap.size wr (by kernel_rfl) (by kernel_rfl) (Below.refl _ _) ?_
        repeat (go_big_quiet_step ((go_at_call 129; exact Calls.ext_of (Nat.le_refl _) (rbefore_yes x y u v _ HYX.out))))
        refine wpQuiet_nil ?_
        rintro wq ⟨⟨wq', hq⟩, hqq⟩
        obtain rfl : wq = wq' := hqq
        clear e0 e1 e2 e3 q0 q1
        go_wp2
        go_roundw
        case rel => exact ⟨k + 1, by omega, by go_num, hb.trans (hq.mono hz), by show _ = _; rw [HP.out, HD.out, insE, if_pos HYX.out, HT.out]; simp⟩
        case measure => simp [intOf]; omega
      · have hyf : beforeB (x, y) (u, v) = false := by simpa using hyx
        have HYX := Lib.hid hyf
        have HNX := Lib.hid hyx
        clear hyx hyf
        go_wp2_with fail
        refine wp_region_ext wr.heap.size wr (by kernel_rfl) (by kernel_rfl) (Below.refl _ _) ?_
        repeat (go_big_quiet_step ((go_at_call 129; exact Calls.ext_of (Nat.le_refl _) (rbefore_no x y u v _ HYX.out))))
        refine wpQuiet_nil ?_
        rintro wq ⟨⟨wq', hq⟩, hqq⟩
        obtain rfl : wq = wq' := hqq
        have g0 : wq.cell? ⟨w.heap.size, 0, none⟩ = some (.int .i64 u) := (hq.cell (p := ⟨w.heap.size, 0, none⟩) hz).trans q0
        have g1 : wq.cell? ⟨w.heap.size, 1, none⟩ = some (.int .i64 v) := (hq.cell (p := ⟨w.heap.size, 1, none⟩) hz).trans q1
        have g2 : wq.cell? ⟨b, off + k * 2, none⟩ = some (.int .i64 x) := e2 ⟨wq, hq⟩
        have g3 : wq.cell? ⟨b, off + k * 2 + 1, none⟩ = some (.int .i64 y) := e3 ⟨wq, hq⟩
        have hbq := hbw.trans (hq.mono hbw.size)
        have heq := HE.out.below hbq
        have hzq : w.heap.size < wq.heap.size := Nat.lt_of_lt_of_le hz hq.size
        clear e0 e1 e2 e3 q0 q1 c0 c1 he1 hb hq hz hbw
        by_cases hxy : x = u ∧ y = v
        · obtain ⟨rfl, rfl⟩ := hxy
          have heqq := fun W => eq2_yes x y W
          have HF : Hid (insE es (x, y) = es) := by show _ = _; rw [HP.out, HD.out, insE, if_neg HNX.out, if_pos rfl, ← HD.out, List.take_append_drop]
          go_wp2_with fail
          go_quiet (fail)
          go_wp2
          go_ret
          rw [HF.out]
          exact ⟨_, _, rfl, heq.below ((Below.refl _ _).drewN _), hbq.drewN _, fun p hp => .inr hp⟩
        · have heqq := fun W => eq2_no x y u v hxy W
          have HF : Hid (insE es (u, v) = es.take k ++ [(u, v)] ++ es.drop k) := by show _ = _; rw [HP.out, HD.out, insE, if_neg HNX.out, if_neg (by intro e; cases e; exact hxy ⟨rfl, rfl⟩)]; simp
          have hck : ¬ cap = k := by omega
          have hcase : ¬ x = u ∨ (x = u ∧ ¬ y = v) := by
            by_cases h1 : x = u
            · exact .inr ⟨h1, fun h2 => hxy ⟨h1, h2⟩⟩
            · exact .inl h1
          clear hxy
          all_goals
            go_wp2_with fail
            go_quiet (fail)
            have hbn := hbq.drewN nq
            have hen := heq.below ((Below.refl _ _).drewN nq)
            have hzn : w.heap.size < (wq.drewN nq).heap.size := hzq
            clear g2 g3
            have hWs : (wq.drewN nq).cell? ⟨w.heap.size, 0, none⟩ = some (.int .i64 u) ∧ (wq.drewN nq).cell? ⟨w.heap.size, 1, none⟩ = some (.int .i64 v) := ⟨g0, g1⟩
            obtain ⟨W, hW⟩ : ∃ W : World, W = wq.drewN nq := ⟨_, rfl⟩
            rw [← hW] at hbn hen hzn hWs ⊢
            clear hW g0 g1 heq hbq hzq
            go_wp2_with fail
            have hlit := edges_lit1 W u v 37
            have hbl := (Below.refl W.heap.size W).alloc (Nat.le_refl _) (.cells #[.int .i64 u, .int .i64 v] 37)
            obtain ⟨g0, g1⟩ := hWs
            have g0a := cell_alloc (o := .cells #[.int .i64 u, .int .i64 v] 37) g0
            have g1a := cell_alloc (o := .cells #[.int .i64 u, .int .i64 v] 37) g1
            have hkc : k ≤ cap := by omega
            have hat : EdgesAt W (.slice (some ⟨b, off, none⟩) k cap) (es.take k) := hen.take k (by omega)
            have hbd := (Below.refl W.heap.size W).drew
            have hszl : w.heap.size ≤ (W.alloc (.cells #[.int .i64 u, .int .i64 v] 37)).heap.size := Nat.le_trans hbn.size hbl.size
            have hbld := hbl.drew
            go_region_law (first
              | (refine step_app_edges pairsT rfl (.const (.slice none 0 0)) (.tmp 36) rfl w.heap.size _ _ [] (es.take k) rfl (World.ownsRow_nil _ _ _ _) rfl (by exact hat) (by simp; omega) (by exact hbn.size) ?_; intro v6 w6 hown6 hg6; have hb6 : Below W.heap.size W w6 := (by exact hbd.trans ((below_of_grown hg6).mono hbd.size)); have g60 := (hb6.cell (p := ⟨w.heap.size, 0, none⟩) hzn).trans g0; have g61 := (hb6.cell (p := ⟨w.heap.size, 1, none⟩) hzn).trans g1; have hbw6 := hbn.trans (hb6.mono hbn.size); have hownA := hown6.alloc (.cells #[.int .i64 u, .int .i64 v] 37); have hlA := edges_lit1 w6 u v 37; have hbA := hbw6.alloc hbw6.size (.cells #[.int .i64 u, .int .i64 v] 37))
              | (refine step_app_edges pairsT rfl (.const (.slice none 0 0)) (.tmp 36) rfl w.heap.size _ _ [] (es.take k) rfl (World.ownsRow_nil _ _ _ _) rfl (by exact hat.below hbld) (by simp; omega) (by exact hszl) ?_; intro v6 w6 hown6 hg6; have hlA : EdgesAt w6 (.slice (some ⟨W.heap.size, 0, none⟩) 1 1) [(u, v)] := (by exact EdgesAt.below (w := (W.alloc (.cells #[.int .i64 u, .int .i64 v] 37)).drew) hlit (below_of_grown hg6)); have hownA := hown6; have hbA := hbn.trans ((by exact hbld.trans ((below_of_grown hg6).mono hbld.size) : Below W.heap.size W w6).mono hbn.size))
              | (refine step_app_edges pairsT rfl (.tmp 37) (.tmp 39) rfl w.heap.size _ _ ([] ++ es.take k) [(u, v)] rfl (by exact hownA) rfl (by exact hlA) (by simp; omega) (by exact hbA.size) ?_; intro v7 w7 hown7 hg7; have hb7 : Below w.heap.size w w7 := (by exact below_app' hbA hownA hg7)))
            all_goals
              have hsrc := (HE.out.drop k hlt).below (hb7)
              go_wp2_with (at_builtin; refine wpList_app_edges pairsT rfl _ _ rfl w.heap.size v7 _ ([] ++ es.take k ++ [(u, v)]) (es.drop k) rfl hown7 rfl (by first | exact hsrc | simpa using hsrc) (by simp; omega) hb7.size ?_; intro v8 w8 hown8 hg8)
              all_goals
                have hb8 := below_app' hb7 hown7 hg8
                go_ret
                rw [HF.out]
                exact with_post (v := v8) hb8 (by simpa only [List.nil_append, List.append_nil] using hown8) (by simp; omega)
    · obtain rfl : k = es.length := by omega
      have HF : Hid (insE es (u, v) = es ++ [(u, v)]) := by show _ = _; rw [HP.out]; simp [insE]
      have d1 : decide ((es.length : Int) < (es.length : Int)) = false := by simp
      have d2 : decide (es.length < es.length) = false := by simp
      have hnil : (if cap = es.length then a else Option.map (fun x => x.add (es.length * 2)) a) = none → cap - es.length = 0 := by
        intro e
        split at e
        · omega
        · have := hnone (by simpa using e); omega
      clear e0 e1
      go_wp2_with fail
      go_quiet (fail)
      obtain ⟨n1, rfl⟩ : ∃ n1, n1 = nq := ⟨_, rfl⟩
      go_wp2_with fail
      go_quiet (fail)
      have hWs : ((wr.drewN n1).drewN nq).cell? ⟨w.heap.size, 0, none⟩ = some (.int .i64 u) ∧ ((wr.drewN n1).drewN nq).cell? ⟨w.heap.size, 1, none⟩ = some (.int .i64 v) := ⟨q0, q1⟩
      have hbn : Below w.heap.size w ((wr.drewN n1).drewN nq) := (hbw.drewN n1).drewN nq
      have hen : EdgesAt ((wr.drewN n1).drewN nq) (.slice a es.length cap) es := he1.below (((Below.refl _ _).drewN n1).drewN nq)
      have hzn : w.heap.size < ((wr.drewN n1).drewN nq).heap.size := hz
      obtain ⟨W, hW⟩ : ∃ W : World, W = (wr.drewN n1).drewN nq := ⟨_, rfl⟩
      rw [← hW] at hbn hen hzn hWs ⊢
      clear hW q0 q1 hb hbw hz he1
      go_wp2_with fail
      have hlit := edges_lit1 W u v 37
      have hbl := (Below.refl W.heap.size W).alloc (Nat.le_refl _) (.cells #[.int .i64 u, .int .i64 v] 37)
      obtain ⟨g0, g1⟩ := hWs
      have g0a := cell_alloc (o := .cells #[.int .i64 u, .int .i64 v] 37) g0
      have g1a := cell_alloc (o := .cells #[.int .i64 u, .int .i64 v] 37) g1
      have hkc : es.length ≤ cap := by omega
      have hat : EdgesAt W (.slice a es.length cap) es := hen
      have hbd := (Below.refl W.heap.size W).drew
      have hszl : w.heap.size ≤ (W.alloc (.cells #[.int .i64 u, .int .i64 v] 37)).heap.size := Nat.le_trans hbn.size hbl.size
      have hbld := hbl.drew
      go_region_law (first
        | (refine step_app_edges pairsT rfl (.const (.slice none 0 0)) (.tmp 36) rfl w.heap.size _ _ [] (es) rfl (World.ownsRow_nil _ _ _ _) rfl (by exact hat) (by simp; omega) (by exact hbn.size) ?_; intro v6 w6 hown6 hg6; have hb6 : Below W.heap.size W w6 := (by exact hbd.trans ((below_of_grown hg6).mono hbd.size)); have g60 := (hb6.cell (p := ⟨w.heap.size, 0, none⟩) hzn).trans g0; have g61 := (hb6.cell (p := ⟨w.heap.size, 1, none⟩) hzn).trans g1; have hbw6 := hbn.trans (hb6.mono hbn.size); have hownA := hown6.alloc (.cells #[.int .i64 u, .int .i64 v] 37); have hlA := edges_lit1 w6 u v 37; have hbA := hbw6.alloc hbw6.size (.cells #[.int .i64 u, .int .i64 v] 37))
        | (refine step_app_edges pairsT rfl (.const (.slice none 0 0)) (.tmp 36) rfl w.heap.size _ _ [] (es) rfl (World.ownsRow_nil _ _ _ _) rfl (by exact hat.below hbld) (by simp; omega) (by exact hszl) ?_; intro v6 w6 hown6 hg6; have hlA : EdgesAt w6 (.slice (some ⟨W.heap.size, 0, none⟩) 1 1) [(u, v)] := (by exact EdgesAt.below (w := (W.alloc (.cells #[.int .i64 u, .int .i64 v] 37)).drew) hlit (below_of_grown hg6)); have hownA := hown6; have hbA := hbn.trans ((by exact hbld.trans ((below_of_grown hg6).mono hbld.size) : Below W.heap.size W w6).mono hbn.size))
        | (refine step_app_edges pairsT rfl (.tmp 37) (.tmp 39) rfl w.heap.size _ _ ([] ++ es) [(u, v)] rfl (by exact hownA) rfl (by exact hlA) (by simp; omega) (by exact hbA.size) ?_; intro v7 w7 hown7 hg7; have hb7 : Below w.heap.size w w7 := (by exact below_app' hbA hownA hg7)))
      all_goals
        have hsrc : EdgesAt w7 (.slice (if cap = es.length then a else Option.map (fun x => x.add (es.length * 2)) a) 0 (cap - es.length)) [] := EdgesAt.empty _ _ hnil
        go_wp2_with (at_builtin; refine wpList_app_edges pairsT rfl _ _ rfl w.heap.size v7 _ ([] ++ es ++ [(u, v)]) [] rfl hown7 rfl (by first | exact hsrc | simpa using hsrc) (by simp; omega) hb7.size ?_; intro v8 w8 hown8 hg8)
        all_goals
          have hb8 := below_app' hb7 hown7 hg8
          go_ret
          rw [HF.out]
          exact with_post (v := v8) hb8 (by simpa only [List.nil_append, List.append_nil] using hown8) (by simp; omega)
end Go.Proofs.Ytdkmdcdoiaelfaa
