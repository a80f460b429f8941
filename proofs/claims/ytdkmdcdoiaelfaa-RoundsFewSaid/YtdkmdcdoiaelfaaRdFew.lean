/- The walk of the law on rounds.Play: every schedule ends (printed by wip/mkfew.py). -/
import Derived.Test.YtdkmdcdoiaelfaaRdPly
import Derived.Test.YtdkmdcdoiaelfaaRdPlan
import Derived.Test.YtdkmdcdoiaelfaaMkGraph
import Derived.Test.YtdkmdcdoiaelfaaRef10
import Derived.Test.YtdkmdcdoiaelfaaRef03
import Derived.Lib.AppendZerosOnto
import Derived.Deep.RegionWith
namespace Go.Proofs.Ytdkmdcdoiaelfaa
open Go.RowKit Go.BigFrame

section
variable {P : Program} {w : World} {t tn e : TypeId}
theorem zeros_list (k : Nat) : (Builtin.zeroCells #[Value.int .i64 0] k).toList = intsV (List.replicate k 0) := by
  unfold Builtin.zeroCells intsV
  refine List.ext_getElem (by simp) fun i h1 h2 => ?_
  simp [Nat.mod_one]
theorem run_app_zeros (S : SliceT P t e (.int .i64 0) 1 8) (kn : IntKind) (htn : P.underlying tn = some (.int kn)) (ty : TypeId) (base : Nat) (v : Value) (xs : List Int) (hown : w.ownsRow base e 1 v xs.length (intsV xs)) (k : Nat) (hk : 0 < k) (hlen : xs.length + k ≤ 1000000) (hbase : base ≤ w.heap.size) :
    ∃ v' w', (Builtin.append_ #[t, tn] ty #[v, .int .i64 k]).run P w = .ok v' w' ∧ w'.ownsRow base e 1 v' (xs ++ List.replicate k 0).length (intsV (xs ++ List.replicate k 0)) ∧ w.grownBy w' v.ownBlock := by
  obtain ⟨i, hi, hz, hs, hb⟩ := info_parts S.info
  have hzc : (Value.int IntKind.i64 0).cells = #[Value.int .i64 0] := rfl
  have hzl := zeros_list k
  have hiv : intsV (xs ++ List.replicate k 0) = intsV xs ++ intsV (List.replicate k 0) := by simp [intsV]
  have hll : (xs ++ List.replicate k 0).length = xs.length + k := by simp
  have hnl : (intsV (List.replicate k 0)).length = k := by simp [intsV]
  have hxl : (intsV xs).length = xs.length := by simp [intsV]
  have h1 := one_ints (List.replicate k 0)
  rw [hll, hiv]
  have h63 : xs.length + k ≤ maxLen := by unfold maxLen; omega
  have grown : ∀ (old : Nat), old < xs.length + k → ∀ (row : Option Nat),
      (w.drew.alloc (.cells ((intsV xs).toArray ++ (intsV (List.replicate k 0)).toArray ++ Builtin.zeroCells (Value.int IntKind.i64 0).cells (grownCap w (xs.length + k) old e - (xs.length + k))) e)).ownsRow base e 1
        (.slice (some ⟨w.heap.size, 0, none⟩) (xs.length + k) (grownCap w (xs.length + k) old e)) (xs.length + k) (intsV xs ++ intsV (List.replicate k 0)) ∧
      w.grownBy (w.drew.alloc (.cells ((intsV xs).toArray ++ (intsV (List.replicate k 0)).toArray ++ Builtin.zeroCells (Value.int IntKind.i64 0).cells (grownCap w (xs.length + k) old e - (xs.length + k))) e)) row := by
    intro old ho row
    have hge := grownCap_ge w (xs.length + k) old e
    have hcm : grownCap w (xs.length + k) old e ≤ maxLen := grownCap_le_maxLen w (xs.length + k) old e h63
    refine ⟨⟨by rw [List.length_append, hxl, hnl, Nat.mul_one], .inr ⟨w.heap.size, _, _, rfl, hbase, heap_alloc_new w.drew _, hge, hcm, ?_, ?_⟩⟩, ⟨rfl, rfl, rfl, by simp, fun j hj _ => heap_alloc_old w.drew _ hj⟩⟩
    · simp only [Array.size_append, List.size_toArray, size_zeroCells, hxl, hnl, hzc, List.size_toArray, List.length_cons, List.length_nil]
      omega
    · simp only [Array.toList_append, List.append_assoc, Nat.mul_one]
      rw [← List.append_assoc, show xs.length + k = (intsV xs ++ intsV (List.replicate k 0)).length by rw [List.length_append, hxl, hnl]]
      exact List.take_left
  have hza : Builtin.zeroCells (Value.int IntKind.i64 0).cells k = (intsV (List.replicate k 0)).toArray := by
    rw [hzc, ← hzl]
  rcases hown.2 with ⟨rfl, h0⟩ | ⟨g, cap, cur, rfl, hbg, hg, hnc, hcm, hcs, htake⟩
  · obtain rfl : xs = [] := List.eq_nil_of_length_eq_zero (by omega)
    have hr := Lib.run_append_nil_zeros w t tn ty e i (.int .i64 0) .i64 kn S.ht htn hi hz k hk (by omega) (by omega) (by rw [hb]; omega)
    have hgr := grown 0 (by simp; omega) (Value.ownBlock (.slice none 0 0))
    rw [hza] at hr
    simp only [intsV, List.map_nil, List.length_nil, Nat.zero_add, List.nil_append, Array.empty_append] at hgr hr ⊢
    exact ⟨_, _, hr, hgr.1, hgr.2⟩
  · by_cases hroom : xs.length + k ≤ cap
    · have hfit : xs.length + (intsV (List.replicate k 0)).length ≤ cur.size := by rw [hnl, hcs]; omega
      have hst := run_storeCells_at P g xs.length e (intsV (List.replicate k 0)) 0 cur w hg (by simpa using hfit) h1
      have hw : IntKind.i64.wrap (k : Int) = k := by rw [IntKind.wrap_i64]; omega
      have hneg : ¬ ((k : Int) < 0) := by omega
      have h48 : ¬ (281474976710656 < (k : Int) * 8) := by omega
      have hk0 : ¬ (k = 0) := by omega
      have hr : (Builtin.append_ #[t, tn] ty #[.slice (some ⟨g, 0, none⟩) xs.length cap, .int .i64 k]).run P w =
          .ok (.slice (some ⟨g, 0, none⟩) (xs.length + k) cap) (w.setRow g (cur.toList.take xs.length ++ intsV (List.replicate k 0) ++ cur.toList.drop (xs.length + (intsV (List.replicate k 0)).length)).toArray) := by
        simp only [Nat.add_zero] at hst
        simp [Builtin.append_, run_underlying S.ht, run_underlying htn, sizeOf, typeInfo, zeroValue, hi, hz, hs, hb, asInt, asIntOf, hw, hneg, h48, hk0, hroom, Addr.add_lit, hst, hzc, zeros_list]
      refine ⟨_, _, hr, ⟨by rw [List.length_append, hxl, hnl, Nat.mul_one], .inr ⟨g, cap, _, rfl, hbg, setRow_heap w g cur _ e _ hg, hroom, hcm, ?_, ?_⟩⟩, ⟨rfl, rfl, rfl, by simp, fun j _ hj => setRow_other w g j _ (fun e => hj (by simp [Value.ownBlock, e]))⟩⟩
      · simp only [List.size_toArray, List.length_append, List.length_take, List.length_drop, Array.length_toList]
        omega
      · rw [Nat.mul_one] at htake
        rw [htake, Nat.mul_one, show xs.length + k = (intsV xs ++ intsV (List.replicate k 0)).length by rw [List.length_append, hxl, hnl]]
        exact List.take_left
    · have holds : ∀ j u, (intsV xs)[j]? = some u → w.cell? ((⟨g, 0, none⟩ : Addr).add j) = some u := hown.cells (g := g) rfl
      have hf := run_firstCells_some (P := P) w.drew i.size xs.length ⟨g, 0, none⟩ xs.length cap (intsV xs) (by rw [hxl, hs, Nat.mul_one]) holds
      have hr := Lib.run_append_grow_zeros w t tn ty e i (.int .i64 0) .i64 kn S.ht htn hi hz (some ⟨g, 0, none⟩) xs.length cap (intsV xs) hf k hk (by omega) (by omega) (by omega) (by rw [hb]; omega) (growslice_fits (by omega) (by rw [hb]; omega))
      have hgr := grown cap (by omega) (Value.ownBlock (.slice (some ⟨g, 0, none⟩) xs.length cap))
      rw [hza] at hr
      exact ⟨_, _, hr, hgr.1, hgr.2⟩
theorem step_app_zeros {ops : Array Oper} {o : Oper} {a : Act} {K : Act → World → Prop} {Q : Exit → Act → World → Prop} {E : Prop} (S : SliceT P t e (.int .i64 0) 1 8) (kn : IntKind) (htn : P.underlying tn = some (.int kn)) (hgd : o.guard = none) (s x : Operand)
    (ho : o.op = .call { callee := .builtin .append, args := #[s, x], argTypes := #[t, tn] }) (base : Nat) (v : Value) (xs : List Int) (k : Nat) (hs : a.eval s = v) (hown : w.ownsRow base e 1 v xs.length (intsV xs))
    (hx : a.eval x = .int .i64 k) (hk : 0 < k) (hlen : xs.length + k ≤ 1000000) (hbase : base ≤ w.heap.size)
    (h : ∀ v' w', w'.ownsRow base e 1 v' (xs ++ List.replicate k 0).length (intsV (xs ++ List.replicate k 0)) → w.grownBy w' v.ownBlock → K (a.put o.dst v') w') : if Region.wanted o (yielded ops a.tmps) = true then Oper.wp P o a w K Q else E := by
  obtain ⟨v', w', hr, h2, h3⟩ := run_app_zeros S kn htn o.type base v xs hown k hk hlen hbase
  rw [if_pos (by simp [Region.wanted, hgd])]
  exact Lib.wp_append_run w s x t tn ho v _ hs hx v' w' hr (h v' w' h2 h3)
end
theorem degree3_any (n : Nat) (a : Option Addr) (cap : Nat) (es : List E2) (v : Nat) (w : World) (he : EdgesAt w (.slice a es.length cap) es) (hv : Valid n es) :
    Calls Try.prog 23 #[.agg #[.int .i64 n, .slice a es.length cap], .int .i64 v] w fun e w' => e = .returned (.int .i64 ((nbL es n v).length : Nat)) ∧ Below w.heap.size w w' := by
  obtain ⟨hx, hb⟩ := boxG_new w #[.int .i64 n, .slice a es.length cap] 27
  have hne := neigh_any n a cap es v _ (he.below hb) hv
  rw [neigh_eq hv] at hne
  have hll : ((nbL es n v).map fun (i : Nat) => (i : Int)).length = (nbL es n v).length := by simp
  generalize hR : ((nbL es n v).map fun (i : Nat) => (i : Int)) = R at *
  obtain ⟨L, hL⟩ : ∃ L, (nbL es n v).length = L := ⟨_, rfl⟩
  rw [hL] at hll ⊢
  clear hR hL
  obtain ⟨k0, k1⟩ := cells2R hx
  go_enter Try.func23, Try.ntmps23
  go_wp2_with fail
  refine hne.mono ?_
  rintro e w2 ⟨a2, c2, rfl, -, hb2⟩
  have hbe := hb.trans (hb2.mono hb.size)
  go_wp2_with fail
  go_ret
  exact ⟨rfl, hbe⟩

theorem WldAt.shape2 {w : World} {v : Value} {W : WdL} (h : WldAt w v W) : ∃ (k0 k2 : Int) (ae ao ah ak ab : Option Addr) (l1 l3 l4 l5 l6 c1 c3 c4 c5 c6 : Nat), v = .agg #[.int .i64 k0, .slice ae l1 c1, .int .i64 k2, .slice ao l3 c3, .slice ah l4 c4, .slice ak l5 c5, .slice ab l6 c6] ∧ KnA w (.slice ak l5 c5) W.kn ∧ BoxA w (.slice ab l6 c6) W.bx := by
  obtain ⟨ae, ao, ah, ak, ab, ce, co, ch, ck, cb, rfl, -, -, -, hk, hb⟩ := h
  exact ⟨_, _, _, _, _, _, _, _, _, _, _, _, _, _, _, _, _, rfl, hk, hb⟩
theorem sumR_bd (f : Nat → Nat) (c : Nat) : ∀ n, (∀ v, v < n → f v ≤ c) → sumR n f ≤ n * c
  | 0, _ => by rw [sumR]; omega
  | n + 1, h => by
    have := sumR_bd f c n (fun v hv => h v (by omega))
    have := h n (by omega)
    rw [sumR, Nat.succ_mul]; omega
theorem ply_inv {n P : Nat} {es : List E2} {ow : Nat → Nat} {W : WdP} (hv : Valid n es) (h0 : RInv es n P ow W) (sc : Nat → Int) (k : Nat) : RInv es n P ow (plyK es n P ow W sc k) := ply_ind (fun _ _ _ _ _ hi hj hb hp => dlv_inv hv hp hi hj hb) h0 sc k
theorem GoodW.ply {n P : Nat} {es : List E2} {ow : Nat → Nat} {hv : List Int} {W : WdP} (h : GoodW n P es ow hv W) (hp : potN n P ow W ≤ 800000) (sc : Nat → Int) (k : Nat) : GoodW n P es ow hv (plyK es n P ow W sc k) :=
  ⟨h.hg, h.hP, h.how, h.hh, h.hhl, ply_vld h.how h.vld sc k, fun i j hi hj => by
    have h1 := bx_pot (n := n) (ow := ow) (W := plyK es n P ow W sc k) hi hj
    have h2 := ply_potle (es := es) h.how h.vld sc k
    omega⟩
/-- at the end the owners know the core numbers -/
theorem num_end {n P : Nat} {es : List E2} {ow : Nat → Nat} {W : WdP} (hv : Valid n es) (how : ∀ v, v < n → ow v < P) (hI : RInv es n P ow W) (he : rdyW P W = []) : numW n ow W = corT es n := by
  have h := (end_core hv how hI (rdyW_nil he)).1
  unfold numW corT
  apply List.ext_getElem?
  intro i
  by_cases hi : i < n
  · rw [fnL_get n _ i hi, fnL_get n _ i hi, h i hi]
  · rw [List.getElem?_eq_none (by rw [fnL_length]; omega), List.getElem?_eq_none (by rw [fnL_length]; omega)]
theorem wpList_app_zeros {P : Program} {w : World} {t e tn : TypeId} {ops : Array Oper} {rest : List Oper} {o : Oper} {a : Act} {Q : Exit → Act → World → Prop} (S : SliceT P t e (.int .i64 0) 1 8) (kn : IntKind) (htn : P.underlying tn = some (.int kn)) (hgd : o.guard = none) (s x : Operand)
    (ho : o.op = .call { callee := .builtin .append, args := #[s, x], argTypes := #[t, tn] }) (base : Nat) (v : Value) (xs : List Int) (k : Nat) (hs : a.eval s = v) (hown : w.ownsRow base e 1 v xs.length (intsV xs))
    (hx : a.eval x = .int .i64 k) (hk : 0 < k) (hlen : xs.length + k ≤ 1000000) (hbase : base ≤ w.heap.size)
    (h : ∀ v' w', w'.ownsRow base e 1 v' (xs ++ List.replicate k 0).length (intsV (xs ++ List.replicate k 0)) → w.grownBy w' v.ownBlock → wpList P ops Q rest (a.put o.dst v') w') : wpList P ops Q (o :: rest) a w := by
  obtain ⟨v', w', hr, h2, h3⟩ := run_app_zeros S kn htn o.type base v xs hown k hk hlen hbase
  exact wpList_plain hgd fun _ hK => Lib.wp_append_run w s x t tn ho v _ hs hx v' w' hr (hK _ _ (h v' w' h2 h3))
set_option linter.unusedSimpArgs false in
set_option maxRecDepth 100000 in
set_option maxHeartbeats 6400000 in
theorem rdfew_law (a : Option Addr) (len cap : Nat) (aS : Option Addr) (lenS cS : Nat) (xs : List Int) (w : World) (hl : ListAt w a len) (hxs0 : lenS ≤ 100000 → IntsAt w (.slice aS xs.length cS) xs ∧ xs.length = lenS) :
    Calls Try.prog 11 #[.slice a len cap, .slice aS lenS cS] w fun e w' => e = .returned (.bool true) ∧ Below w.heap.size w w' := by
  by_cases hfew : len ≤ 500
  case neg =>
    have hd : decide (len ≤ 500) = false := by simpa using hfew
    go_enter Try.func11, Try.ntmps11
    go_wp2_with (first
      | (go_at_call 14; refine (few_any _ _ _ _).mono ?_; rintro e w' ⟨rfl, rfl⟩)
      | (go_at_call 29; refine (rdawake_any _).mono ?_; rintro e w' ⟨rfl, hb⟩))
    go_ret
    exact ⟨rfl, hb⟩
  case pos =>
  have hd : decide (len ≤ 500) = true := by simpa using hfew
  by_cases hxl : lenS ≤ 300
  case neg =>
    have hx3 : (300 : Int) < lenS := by omega
    go_enter Try.func11, Try.ntmps11
    go_wp2_with (first
      | (go_at_call 14; refine (few_any _ _ _ _).mono ?_; rintro e w' ⟨rfl, rfl⟩)
      | (go_at_call 29; refine (rdawake_any _).mono ?_; rintro e w' ⟨rfl, hb⟩))
    go_ret
    exact ⟨rfl, hb⟩
  case pos =>
  obtain ⟨hxs, hxe⟩ := hxs0 (by omega)
  subst hxe
  have hx300 : decide ((300 : Int) < (xs.length : Int)) = false := decide_eq_false (by omega)
  have hdk := deck_new (cap := cap) hl
  have hb1 : Below w.heap.size w (w.alloc (.cells #[.slice a len cap, .int .i64 0] 92)) := (Below.refl _ _).alloc (Nat.le_refl _) _
  go_enter Try.func11, Try.ntmps11
  go_wp2_with (first
    | (go_at_call 14; refine (few_any _ _ _ _).mono ?_; rintro e w' ⟨rfl, rfl⟩)
    | (go_at_call 17; refine (new_any _ _ _ _).mono ?_; rintro e w' ⟨rfl, rfl⟩)
    | (go_at_call 16; refine (mkgraph_any w.heap.size 7 _ hdk (by omega) (by omega)).mono ?_; rintro e w2 ⟨n0, es, a2, cap2, rfl, he2, hv, hn9, hd2, hg2, ho2⟩))
  have hb2 : Below w.heap.size w w2 := below_deck hb1 hg2 (Nat.le_refl _) hb1.size
  obtain ⟨n, rfl⟩ := Int.eq_ofNat_of_zero_le hv.1
  have hn8 : n ≤ 7 := by omega
  have hes := hv.length_le
  obtain ⟨hG0, hb3⟩ := boxG_new w2 #[.int .i64 (n : Int), .slice a2 es.length cap2] 27
  obtain ⟨w3, hw3⟩ : ∃ W : World, W = w2.alloc (.cells #[.int .i64 (n : Int), .slice a2 es.length cap2] 27) := ⟨_, rfl⟩
  rw [← hw3] at hG0 hb3
  have he3 := he2.below hb3
  have hd3 := hd2.kept (grown_of_below hb3) (fun g e => by cases e)
  obtain ⟨Bg, hBg⟩ : ∃ B, w2.heap.size = B := ⟨_, rfl⟩
  rw [hBg] at hG0
  have HW3 := Lib.hid hw3
  have hb03 := hb2.trans (hb3.mono hb2.size)
  have hdb : w.heap.size < w2.heap.size := hd2.lt
  clear hw3 hdk hb1 hg2 hd2 he2 hb3
  rw [← HW3.out]
  refine (fplan_any w.heap.size n w3 hd3 (by omega)).mono ?_
  rintro e w4 ⟨P, ow, hv2, ao, ah, co, ch, rfl, hP1, hP4, how, hhv, hhl, hO4, hH4, hMO, -, -, hg4⟩
  have hb4 : Below w.heap.size w w4 := below_deck hb03 hg4 (Nat.le_refl _) hb03.size
  have hG4 := grown_blk hg4 hG0 (fun e => by have e1 : Bg = w.heap.size := Option.some.inj e; omega)
  have he4 := he3.grown hg4 (fun g e n' c' p ep e2 => by
    have e1 : w.heap.size = g := Option.some.inj e
    have h1 := ho2 p (Value.slice.inj ep).1
    simp at h1
    omega)
  obtain ⟨hp0, hb5⟩ := boxG_new w4 #[.int .i64 (P : Int), .slice ao n co, .slice ah hv2.length ch] 54
  obtain ⟨w5, hw5⟩ : ∃ W : World, W = w4.alloc (.cells #[.int .i64 (P : Int), .slice ao n co, .slice ah hv2.length ch] 54) := ⟨_, rfl⟩
  rw [← hw5] at hp0 hb5
  have hG5 := lit_next' hb5 hG4
  have he5 := he4.below hb5
  have hO5 := hO4.below hb5
  have hH5 := hH4.below hb5
  have hb05 := hb4.trans (hb5.mono hb4.size)
  have hlow : LowV w5.heap.size (.slice ao n co) := (hMO.mono (Nat.le_refl _) hb5.size).low
  obtain ⟨Bp, hBp⟩ : ∃ B, w4.heap.size = B := ⟨_, rfl⟩
  rw [hBp] at hp0
  obtain ⟨x0, x1⟩ := cells2R hG5
  have y0 : w5.cell? ⟨Bp, 0, none⟩ = some (.int .i64 (P : Int)) := cell_blk hp0
  have y1 : w5.cell? ⟨Bp, 1, none⟩ = some (.slice ao n co) := cell_blk hp0
  have y2 : w5.cell? ⟨Bp, 2, none⟩ = some (.slice ah hv2.length ch) := cell_blk hp0
  have x0u := x0
  have x1u := x1
  have y0u := y0
  have y1u := y1
  have y2u := y2
  rw [hw5] at x0u x1u y0u y1u y2u
  have HW5 := Lib.hid hw5
  have hck := (valid_iff n es).2 hv
  obtain ⟨FD, hFD⟩ : ∃ f : Nat → Nat, (fun v => ((nbL es n v).length + 1) * (P - 1)) = f := ⟨_, rfl⟩
  have hFDv : ∀ v, v < n → FD v ≤ 7 * 3 := fun v hv' => by
    rw [← hFD]
    exact Nat.mul_le_mul (by have := nb_lt hv v hv'; omega) (by omega)
  have HFD := Lib.hid hFD
  clear hw5 hd3 he3 he4 hO4 hH4 hG4 hG0 hb5 hb4 hb03 hg4 hMO hFD
  go_wp2_with (rw [← HW5.out])
  go_loopw [8, 9] (fun vm vv wr => ∃ (v c : Nat), v ≤ n ∧ Hid (c = sumR v FD) ∧ c ≤ v * 21 ∧ vm = .int .i64 (c : Int) ∧ vv = .int .i64 (v : Int) ∧ Below w5.heap.size w5 wr) (fun _ vv _ => n - (intOf vv).toNat)
  case atStart => exact ⟨0, 0, Nat.zero_le _, rfl, Nat.zero_le _, rfl, rfl, Below.refl _ _⟩
  case round =>
    obtain ⟨v, c, hvn, HC, hcb, rfl, rfl, hbr⟩ := hrel
    have hG6 := lit_next' hbr hG5
    have hp6 := lit_next' hbr hp0
    have he6 := he5.below hbr
    clear x0 x1 y0 y1 y2 x0u x1u y0u y1u y2u
    obtain ⟨x0, x1⟩ := cells2R hG6
    have y0 : wr.cell? ⟨Bp, 0, none⟩ = some (.int .i64 (P : Int)) := cell_blk hp6
    have y1 : wr.cell? ⟨Bp, 1, none⟩ = some (.slice ao n co) := cell_blk hp6
    have y2 : wr.cell? ⟨Bp, 2, none⟩ = some (.slice ah hv2.length ch) := cell_blk hp6
    by_cases hlt : v < n
    · have hlt3 : (v : Int) < n := by omega
      have hdg := degree3_any n a2 cap2 es v wr.drew (he6.below (Below.refl _ _).drew) hv
      have hfv := hFDv v hlt
      have hfe : FD v = ((nbL es n v).length + 1) * (P - 1) := by rw [← HFD.out]
      have hD7 := nb_lt hv v hlt
      obtain ⟨D, hD⟩ : ∃ D, (nbL es n v).length = D := ⟨_, rfl⟩
      rw [hD] at hdg hfe hD7
      obtain ⟨T, hT⟩ : ∃ T, FD v = T := ⟨_, rfl⟩
      have hmul : ((D : Int) + 1) * ((P : Int) - 1) = (T : Int) := by
        rw [← hT, hfe]
        have e1 : ((P - 1 : Nat) : Int) = (P : Int) - 1 := by omega
        rw [Int.natCast_mul, e1]; rfl
      have HC2 : Hid (c + T = sumR (v + 1) FD) := (show _ = _ by rw [sumR, HC.out, hT])
      have hT21 : T ≤ 21 := by omega
      have hbd : Below w5.heap.size w5 wr.drew := hbr.drew
      have hfp := fun (U : World) (h : Below wr.drew.heap.size wr.drew U) => (h.cell (p := ⟨Bp, 0, none⟩) (cell_lt y0)).trans y0
      clear hfe hD hT hfv
      go_wp2_with fail
      go_region_with (go_at_call 23; refine hdg.mono ?_; rintro e w9 ⟨rfl, hb9⟩; have cc9 := hfp w9 hb9; have hb10 := hbd.trans (hb9.mono hbd.size))
      all_goals
        go_wp2_with fail
        go_roundw
        case rel => exact ⟨v + 1, c + T, by omega, HC2, by omega, by go_num, by go_num, hb10⟩
        case measure => simp [intOf]; omega
    · have hve : n = v := by omega
      subst hve
      have hO6 := hO5.below hbr
      have hH6 := hH5.below hbr
      have hb06 := hb05.trans (hbr.mono hb05.size)
      have hst := rdstart_any n P es ow hv2 a2 ao ah cap2 co ch wr hv ⟨hP1, by omega⟩ how hhv (by omega) he6 hO6 hH6 (fun n' c' p e => by have := hlow n' c' p e; have := hbr.size; omega)
      have hpotS := sta_pot (es := es) (P := P) how
      have hFDs : (sumR n fun v => ((nbL es n v).length + 1) * (P - 1)) = c := by rw [HFD.out, HC.out]
      rw [hFDs] at hpotS
      have hI0 := sta_inv (ow := ow) (P := P) hv how
      have hgw := GoodW.start (ow := ow) hv ⟨hP1, (by omega : P ≤ 8)⟩ how hhv (by omega)
      obtain ⟨SW, hSW⟩ : ∃ S, staP es n P ow = S := ⟨_, rfl⟩
      rw [hSW] at hst hpotS hI0 hgw
      clear hFDs hSW
      go_wp2_with fail
      refine hst.mono ?_
      rintro e w6 ⟨v6, rfl, hw6, hb6⟩
      obtain ⟨k0, k2, ae, ao1, ah1, ak, ab, l1, l3, l4, l5, l6, c1, c3, c4, c5, c6, rfl, -, -⟩ := hw6.shape2
      obtain ⟨hw0, hb7⟩ := boxG_new w6 #[.int .i64 k0, .slice ae l1 c1, .int .i64 k2, .slice ao1 l3 c3, .slice ah1 l4 c4, .slice ak l5 c5, .slice ab l6 c6] 59
      obtain ⟨w7, hw7⟩ : ∃ W : World, W = w6.alloc (.cells #[.int .i64 k0, .slice ae l1 c1, .int .i64 k2, .slice ao1 l3 c3, .slice ah1 l4 c4, .slice ak l5 c5, .slice ab l6 c6] 59) := ⟨_, rfl⟩
      rw [← hw7] at hw0 hb7
      have hb67 := hb6.trans (hb7.mono hb6.size)
      have hG7 := lit_next' hb67 hG6
      have he7 := he6.below hb67
      have hW7 := hw6.below hb7
      have hb07 := hb06.trans (hb67.mono hb06.size)
      have hx7 := hxs.below hb07
      obtain ⟨Bw, hBw⟩ : ∃ B, w6.heap.size = B := ⟨_, rfl⟩
      rw [hBw] at hw0
      have HW7 := Lib.hid hw7
      clear hw7 hst x0 x1 y0 y1 y2 hb6 hb7 hb67 he6 hO6 hH6 hG6 hp6 hw6
      have hcb2 : c ≤ 147 := by omega
      go_upto_region 12 with fail
      rw [← HW7.out]
      go_upto_region 13 with (first
        | (at_builtin; refine wpList_app_ints intsT rfl _ _ rfl w7.heap.size (.slice none 0 0) _ [] xs rfl (World.ownsRow_nil _ _ _ _) rfl hx7 (by simp; omega) (Nat.le_refl _) ?_; intro v8 w8 hown8 hg8; rw [List.nil_append] at hown8)
        | (at_builtin; refine wpList_app_zeros intsT .i64 Try.underlying3 rfl _ _ rfl w7.heap.size v8 xs (c + 1) rfl hown8 rfl (Nat.succ_pos _) (by omega) hg8.size ?_; intro v9 w9 hown9 hg9))
      have hb78 : Below w7.heap.size w7 w8 := below_of_grown hg8
      have hb79 := below_app' hb78 hown8 hg9
      obtain ⟨LS, hLS⟩ : ∃ L, xs ++ List.replicate (c + 1) 0 = L := ⟨_, rfl⟩
      have hLl : LS.length = xs.length + (c + 1) := by rw [← hLS]; simp
      rw [hLS] at hown9
      obtain ⟨aL, cL, hvL, hiL, -⟩ := IntsAt.of_owns hown9 (by omega)
      subst hvL
      have HLl := Lib.hid hLl
      have hw9 := lit_next' hb79 hw0
      have hG9 := lit_next' hb79 hG7
      have he9 := he7.below hb79
      have hW9 := hW7.below hb79
      have hb09 := hb07.trans (hb79.mono hb07.size)
      obtain ⟨SC, hSC⟩ : ∃ f : Nat → Int, (fun i => LS.getD i 0) = f := ⟨_, rfl⟩
      have hpl := rdplay_any n P es ow hv2 SW _ aL cL LS w9 hgw hW9 hiL (by omega)
      rw [hSC] at hpl
      obtain ⟨t0, t1, t2, t3, t4, t5, t6⟩ := cells7 hw9
      clear hLl hLS hSC hown8 hown9 hg8 hg9 hb78 hx7 hW7 he7 hG7 hw0
      go_wp2_with fail
      refine hpl.mono ?_
      rintro e w10 ⟨v10, k, rfl, hW10, hkl, hne, hrdy, hb10⟩
      have hpk := ply_pot (es := es) how hgw.vld SC k hne
      have hkc : k ≤ c := by omega
      have hrd0 := hrdy (by have := HLl.out; omega)
      have hgk := hgw.ply (by omega) SC k
      have hnu0 := num_end hv how (ply_inv hv hI0 SC k) hrd0
      obtain ⟨VW, hVW⟩ : ∃ V, plyK es n P ow SW SC k = V := ⟨_, rfl⟩
      rw [hVW] at hW10 hrd0 hgk hnu0
      obtain ⟨m0, m2, be, bo, bh, bk, bb, j1, j3, j4, j5, j6, f1, f3, f4, f5, f6, rfl, -, -⟩ := hW10.shape2
      obtain ⟨hX0, hb11⟩ := boxG_new w10 #[.int .i64 m0, .slice be j1 f1, .int .i64 m2, .slice bo j3 f3, .slice bh j4 f4, .slice bk j5 f5, .slice bb j6 f6] 59
      obtain ⟨w11, hw11⟩ : ∃ W : World, W = w10.alloc (.cells #[.int .i64 m0, .slice be j1 f1, .int .i64 m2, .slice bo j3 f3, .slice bh j4 f4, .slice bk j5 f5, .slice bb j6 f6] 59) := ⟨_, rfl⟩
      rw [← hw11] at hX0 hb11
      have hb911 := hb10.trans (hb11.mono hb10.size)
      have hG11 := lit_next' hb911 hG9
      have he11 := he9.below hb911
      have hW11 := hW10.below hb11
      have hb011 := hb09.trans (hb911.mono hb09.size)
      obtain ⟨Bx, hBx⟩ : ∃ B, w10.heap.size = B := ⟨_, rfl⟩
      rw [hBx] at hX0
      have HW11 := Lib.hid hw11
      have hcor : corX n es = (corT es n, 0) := by unfold corX; rw [if_neg (by rw [hck]; simp), Int.toNat_natCast]
      have hnu := rnumbers10_any n a2 cap2 es w11 (he11)
      rw [hcor] at hnu
      unfold TPost at hnu
      dsimp only at hnu
      rw [corT_length] at hnu
      obtain ⟨x0, x1⟩ := cells2R hG11
      have hkc3 : (k : Int) ≤ (c : Int) := by omega
      clear hw11 hpl hrdy hne hVW hpk t0 t1 t2 t3 t4 t5 t6 hb10 hb11 he9 hG9 hW9 hW10 hcor hiL
      go_upto_region 14 with fail
      rw [← HW11.out]
      go_wp2_with fail
      refine hnu.mono ?_
      rintro e w12 ⟨a12, c12, rfl, hi12, -, hb12⟩
      have hX12 := lit_next' hb12 hX0
      have hW12 := hW11.below hb12
      have hb012 := hb011.trans (hb12.mono hb011.size)
      obtain ⟨t0, t1, t2, t3, t4, t5, t6⟩ := cells7 hX12
      have hrr := rdReady_any n P es ow hv2 VW _ w12 hgk hW12
      rw [hrd0] at hrr
      clear hnu x0 x1
      go_wp2_with fail
      refine hrr.mono ?_
      rintro e w13 ⟨a13, c13, rfl, -, hb13⟩
      have hX13 := lit_next' hb13 hX12
      have hW13 := hW12.below hb13
      have hi13 := hi12.below hb13
      have hb013 := hb012.trans (hb13.mono hb012.size)
      clear t0 t1 t2 t3 t4 t5 t6 hrr
      obtain ⟨t0, t1, t2, t3, t4, t5, t6⟩ := cells7 hX13
      have hnn := rdNumbers_any n P es ow hv2 VW _ w13 hgk hW13
      rw [hnu0] at hnn
      go_wp2_with fail
      refine hnn.mono ?_
      rintro e w14 ⟨g, rfl, hgl, hgb, hb14⟩
      have hi14 := hi13.below hb14
      have hb014 := hb013.trans (hb14.mono hb013.size)
      have hcl : (corT es n).length = n := corT_length _ _
      have hown14 := ownsI_blk (lo := w13.heap.size) hgb hgl (by omega)
      obtain ⟨_, _, eg, hig, -⟩ := IntsAt.of_owns hown14 (by omega)
      cases eg
      have hcm := icmp_same (some ⟨g, 0, none⟩) a12 (corT es n).length c12 (corT es n) w14 hig (by rw [hcl]; exact hi14)
      rw [hcl] at hcm
      clear t0 t1 t2 t3 t4 t5 t6 hnn hgb hown14 hig
      go_wp2_with fail
      refine hcm.mono ?_
      rintro e w15 ⟨rfl, hb15⟩
      have hb015 := hb014.trans (hb15.mono hb014.size)
      go_wp2_with fail
      refine (rdawake_any _).mono ?_
      rintro e w16 ⟨rfl, hb16⟩
      go_wp2_with fail
      go_ret
      exact ⟨rfl, hb015.trans (hb16.mono hb015.size)⟩
end Go.Proofs.Ytdkmdcdoiaelfaa
