/- The contract of the program's peeling of edges: the order, and the numbers. -/
import Derived.Test.YtbkacbbhiecnkaaDoorTrPeel
namespace Go.Proofs.YtbkacbbhiecnkaaDoor
open Go.RowKit Go.BigFrame

def castL (l : List Nat) : List Int := l.map fun (i : Nat) => (i : Int)
theorem castL_length (l : List Nat) : (castL l).length = l.length := List.length_map _
theorem castL_snoc (l : List Nat) (x : Nat) : castL (l ++ [x]) = castL l ++ [(x : Int)] := by simp [castL]
def bestI : Option Nat → Int
  | none => -1
  | some b => b
theorem left_snoc (i : Nat) (R : Nat → Bool) : (List.range (i + 1)).filter R = (List.range i).filter R ++ (if R i = true then [i] else []) := by
  rw [List.range_succ, List.filter_append]
  congr 1
  cases h : R i <;> simp [h]
theorem rest_lt {m : Nat} {o : List Nat} {x : Nat} (hx : x < m) : restB m o x = !(o.contains x) := by simp [restB, hx]
theorem range_left (m : Nat) (o : List Nat) : leftL m o = (List.range m).filter (restB m o) := rfl
/-- what x has lost behind t of the pairs of b -/
def lostT (T : Nat → List (Nat × Nat)) (S : Nat → Bool) (b x t : Nat) : Nat := (((T b).take t).filter fun p => (S p.1 && S p.2) && hasP x p).length
theorem lostT_zero (T : Nat → List (Nat × Nat)) (S : Nat → Bool) (b x : Nat) : lostT T S b x 0 = 0 := by simp [lostT]
theorem lostT_all (T : Nat → List (Nat × Nat)) (S : Nat → Bool) (b x : Nat) : lostT T S b x (T b).length = lossT T S b x := by unfold lostT lossT; rw [List.take_length]
theorem lostT_step (T : Nat → List (Nat × Nat)) (S : Nat → Bool) (b x t : Nat) (p : Nat × Nat) (h : (T b)[t]? = some p) : lostT T S b x (t + 1) = lostT T S b x t + (if ((S p.1 && S p.2) && hasP x p) = true then 1 else 0) := by
  unfold lostT
  rw [take_at _ _ _ h, List.filter_append, List.length_append]
  congr 1
  cases hq : ((S p.1 && S p.2) && hasP x p) <;> simp [List.filter, hq]
theorem lostT_le (T : Nat → List (Nat × Nat)) (S : Nat → Bool) (b x t : Nat) : lostT T S b x t ≤ (T b).length := by
  unfold lostT
  refine Nat.le_trans (List.length_filter_le _ _) ?_
  rw [List.length_take]; omega
/-- the order and the numbers -/
def ordT (es : List E2) (n : Nat) : List Int := castL (peelO (trS es n) es.length es.length)
def numT (es : List E2) (n : Nat) : List Int := fnL es.length (numP (trS es n) es.length es.length)
theorem ordT_length (es : List E2) (n : Nat) : (ordT es n).length = es.length := by
  unfold ordT; rw [castL_length, (peelO_spec _ _ _ (Nat.le_refl _)).1]
theorem numT_length (es : List E2) (n : Nat) : (numT es n).length = es.length := fnL_length _ _
set_option maxRecDepth 100000 in
set_option maxHeartbeats 6400000 in
theorem tpeel_any (n : Nat) (a : Option Addr) (cap : Nat) (es : List E2) (w : World) (he : EdgesAt w (.slice a es.length cap) es) (hv : Valid n es) (hT : TzAt w) :
    Calls Tryd.prog 116 #[.agg #[.int .i64 n, .slice a es.length cap]] w fun e w' => ∃ ao co nb, e = .returned (.tuple #[.slice ao es.length co, .slice (some ⟨nb, 0, none⟩) es.length es.length]) ∧ IntsAt w' (.slice ao es.length co) (ordT es n) ∧ NumAt w' nb (numT es n) ∧ w.heap.size ≤ nb ∧ (∀ p, ao = some p → w.heap.size ≤ p.block) ∧ Below w.heap.size w w' := by
  have hel := hv.length_le
  have hn64 := hv.2.1
  have hb0 : Below w.heap.size w (w.alloc (.cells #[.int .i64 n, .slice a es.length cap] 27)) := (Below.refl _ _).alloc (Nat.le_refl _) _
  have hmk := make_ints es.length (by omega)
  have hmkb := make_bools es.length (by omega)
  go_enter Tryd.func116, Tryd.ntmps116
  go_wp2_with fail
  refine (triangles_any n a cap es _ (he.below hb0) hv (hT.below hb0)).mono ?_
  rintro e wT ⟨G, rfl, hGw, hTr, hbT⟩
  have hb0T := hb0.trans (hbT.mono hb0.size)
  have hwT := hb0T.size
  clear hbT hb0
  go_wp2_with fail
  have hN0 : NumAt (wT.alloc (.cells (intsV (List.replicate es.length 0)).toArray 3)) wT.heap.size (fnL es.length (fun x => if x < 0 then ((triN es n x).length : Int) else 0)) := by
    rw [fnL_congr es.length (fun x => if x < 0 then ((triN es n x).length : Int) else 0) (fun _ => 0) (fun x _ => by simp), ← fnL_zero]
    exact heap_alloc_new _ _
  have hbS := (Below.refl wT.heap.size wT).alloc (Nat.le_refl _) (.cells (intsV (List.replicate es.length 0)).toArray 3)
  obtain ⟨wS, hwS⟩ : ∃ W : World, W = wT.alloc (.cells (intsV (List.replicate es.length 0)).toArray 3) := ⟨_, rfl⟩
  rw [← hwS] at hN0 hbS ⊢
  clear hwS
  go_loopw [23] (fun vi wr => ∃ k : Nat, k ≤ es.length ∧ vi = .int .i64 k ∧ NumAt wr wT.heap.size (fnL es.length (fun x => if x < k then ((triN es n x).length : Int) else 0)) ∧ Below wT.heap.size wT wr) (fun vi _ => es.length - (intOf vi).toNat)
  case atStart => exact ⟨0, Nat.zero_le _, rfl, hN0, hbS⟩
  case round =>
    clear hN0 hbS
    obtain ⟨k, hk, rfl, hN, hb⟩ := hrel
    by_cases hlt : k < es.length
    · have hlt3 : (k : Int) < es.length := by omega
      obtain ⟨a7, c7, q0, hr7⟩ := (hTr.below hb).row k hlt
      have n0 := numAt_fn hN k hlt
      have nf : ∀ j, wr.frozen? ⟨wT.heap.size, j, none⟩ = false := fun j => free_blk hN
      have hst := numAt_set hN k ((triN es n k).length : Int)
      rw [fnL_congr es.length _ (fun x => if x < k + 1 then ((triN es n x).length : Int) else 0) (fun x _ => by
        by_cases e : x = k
        · subst e; simp
        · by_cases h2 : x < k
          · simp [e, h2, show x < k + 1 by omega]
          · simp [e, h2, show ¬ x < k + 1 by omega])] at hst
      clear hN hr7
      generalize (triN es n k).length = lk at *
      go_wp2_with fail
      go_roundw
      case rel => exact ⟨k + 1, by omega, by go_num, hst, hb.setCell (p := ⟨wT.heap.size, k, none⟩) (Nat.le_refl _) _⟩
      case measure => simp [intOf]; omega
    · obtain rfl : k = es.length := by omega
      go_wp2_with fail
      have hs0 : wT.heap.size < wr.heap.size := blk_lt hN
      have hF0 : SupOk es n (peelO (trS es n) es.length 0) (fun x => if x < es.length then ((triN es n x).length : Int) else 0) := fun x hx => by
        rw [show peelO (trS es n) es.length 0 = [] from rfl] at hx ⊢
        have hxl := ((restB_iff _ _ _).1 hx).1
        show (if x < es.length then ((triN es n x).length : Int) else 0) = _
        rw [if_pos hxl, trS_all hv]
      have hB0 : BoolAt ((wr.alloc (.cells (fnB es.length fun _ => false).toArray 4)).alloc (.cells (intsV (List.replicate es.length 0)).toArray 3)) wr.heap.size es.length (fun x => (peelO (trS es n) es.length 0).contains x) :=
        (Below.heap_alloc _ _ _ (by simp)).trans (heap_alloc_new _ _)
      have hM0 : NumAt ((wr.alloc (.cells (fnB es.length fun _ => false).toArray 4)).alloc (.cells (intsV (List.replicate es.length 0)).toArray 3)) (wr.heap.size + 1) (fnL es.length (numP (trS es n) es.length 0)) := by
        rw [show numP (trS es n) es.length 0 = fun _ => 0 from rfl, ← fnL_zero]
        have h := heap_alloc_new (wr.alloc (.cells (fnB es.length fun _ => false).toArray 4)) (.cells (intsV (List.replicate es.length 0)).toArray 3)
        simpa [NumAt] using h
      have hbn : Below wr.heap.size wr ((wr.alloc (.cells (fnB es.length fun _ => false).toArray 4)).alloc (.cells (intsV (List.replicate es.length 0)).toArray 3)) := ((Below.refl _ _).alloc (Nat.le_refl _) _).alloc (by simp) _
      have hN2 : NumAt _ _ _ := lit_next' hbn hN
      have hb2 := hb.trans (hbn.mono hb.size)
      have hz2 : ((wr.alloc (.cells (fnB es.length fun _ => false).toArray 4)).alloc (.cells (intsV (List.replicate es.length 0)).toArray 3)).heap.size = wr.heap.size + 2 := by simp
      obtain ⟨w2, hw2⟩ : ∃ W : World, W = (wr.alloc (.cells (fnB es.length fun _ => false).toArray 4)).alloc (.cells (intsV (List.replicate es.length 0)).toArray 3) := ⟨_, rfl⟩
      rw [← hw2] at hB0 hM0 hN2 hb2 hz2 ⊢
      obtain ⟨g1, hg1⟩ : ∃ g, wr.heap.size = g := ⟨_, rfl⟩
      rw [hg1] at hs0 hB0 hM0 hz2 ⊢
      obtain ⟨s0, hss0⟩ : ∃ g, wT.heap.size = g := ⟨_, rfl⟩
      rw [hss0] at hs0 hN2 hb2 hwT ⊢
      have HS0 := Lib.hid hss0
      clear hss0 hw2 hg1 hN hb hbn hmk hmkb
      go_loopw [2, 10, 39] (fun vo vk vi wr => ∃ j : Nat, j ≤ es.length ∧ vi = .int .i64 j ∧ vk = .int .i64 (topP (trS es n) es.length j) ∧ wr.ownsRow (g1 + 2) 3 1 vo j (intsV (castL (peelO (trS es n) es.length j))) ∧
        (∃ F, NumAt wr s0 (fnL es.length F) ∧ SupOk es n (peelO (trS es n) es.length j) F) ∧ BoolAt wr g1 es.length (fun x => (peelO (trS es n) es.length j).contains x) ∧ NumAt wr (g1 + 1) (fnL es.length (numP (trS es n) es.length j)) ∧ Below s0 wT wr ∧ g1 + 2 ≤ wr.heap.size) (fun _ _ vi _ => es.length - (intOf vi).toNat)
      case atStart => exact ⟨0, Nat.zero_le _, rfl, rfl, World.ownsRow_nil _ _ _ _, ⟨_, hN2, hF0⟩, hB0, hM0, hb2, by omega⟩
      case round =>
        clear hN2 hF0 hB0 hM0 hb2 hz2
        obtain ⟨j, hj, rfl, rfl, hown, ⟨F, hN, hF⟩, hB, hM, hb, hz⟩ := hrel
        obtain ⟨ao, co, hvo⟩ := owns_shape hown
        subst hvo
        by_cases hlt : j < es.length
        · obtain ⟨b, hbest, hstep, hbr, _⟩ := peelO_step (trS es n) es.length j hlt
          have htk : takS (trS es n) es.length j = trS es n (restB es.length (peelO (trS es n) es.length j)) b := by
            unfold takS
            rw [List.getD_eq_getElem?_getD, peel_get _ _ _ hlt, hbest]; rfl
          have hgb : (peelO (trS es n) es.length es.length).getD j 0 = b := by rw [List.getD_eq_getElem?_getD, peel_get _ _ _ hlt, hbest]; rfl
          have htop := topP_step (trS es n) es.length j
          rw [htk] at htop
          have hol := (peelO_spec (trS es n) es.length j (by omega)).1
          have HN := Lib.hid hgb
          have HTOP := Lib.hid htop
          have HSTEP := Lib.hid hstep
          have HBEST := Lib.hid hbest
          have HOL := Lib.hid hol
          have hnumstep : ∀ x, x < es.length → (if x = b then (topP (trS es n) es.length (j + 1) : Int) else numP (trS es n) es.length j x) = numP (trS es n) es.length (j + 1) x := fun x _ => by
            rw [numP, hgb]
          have HNS := Lib.hid hnumstep
          clear hgb htop hstep hbest htk hol hnumstep
          obtain ⟨O, hO⟩ : ∃ O, peelO (trS es n) es.length j = O := ⟨_, rfl⟩
          rw [hO] at hown hF hB hbr HTOP HSTEP HBEST HOL
          clear hO
          have hdj : decide ((j : Int) < es.length) = true := by simp; omega
          go_wp2_with fail
          obtain ⟨wb, hwb⟩ : ∃ W : World, W = wr := ⟨_, rfl⟩
          rw [← hwb] at hN hB hM hown hb hz ⊢
          clear hwb
          go_loopw [11, 42] (fun vb vi wr => ∃ i : Nat, i ≤ es.length ∧ vi = .int .i64 i ∧ ∃ r, vb = .int .i64 (bestI r) ∧ Hid (r = bestL (trS es n (restB es.length O)) ((List.range i).filter (restB es.length O))) ∧ Below wb.heap.size wb wr) (fun _ vi _ => es.length - (intOf vi).toNat)
          case atStart => exact ⟨0, Nat.zero_le _, rfl, none, rfl, rfl, Below.refl _ _⟩
          case round =>
            obtain ⟨i, hi, rfl, r, rfl, HR, hbw⟩ := hrel
            by_cases hlti : i < es.length
            · have hdi : decide ((i : Int) < es.length) = true := by simp; omega
              have hdi3 : (i : Int) < es.length := by omega
              have hBw : BoolAt wr g1 es.length _ := lit_next' hbw hB
              have hNw : NumAt wr s0 _ := lit_next' hbw hN
              have q0 := hBw.cell i hlti
              have n0 := numAt_fn hNw i hlti
              have hls := left_snoc i (restB es.length O)
              have hrl := rest_lt (o := O) hlti
              by_cases hgi : O.contains i = true
              · have hnx : Hid (r = bestL (trS es n (restB es.length O)) ((List.range (i + 1)).filter (restB es.length O))) := by
                  show _ = _
                  rw [hls, hrl, hgi]; simp [HR.out]
                rw [hgi] at q0
                clear hls hrl HR n0 hBw hNw
                go_wp2_with fail
                go_quiet (fail)
                go_wp2_with fail
                go_roundw
                case rel => exact ⟨i + 1, by omega, by go_num, r, rfl, hnx, hbw.drewN _⟩
                case measure => simp [intOf]; omega
              · have hgf : O.contains i = false := by simpa using hgi
                rw [hgf] at q0 hrl
                have hri : restB es.length O i = true := by rw [hrl]; rfl
                have hFi := hF i hri
                rw [hFi] at n0
                rw [hri, if_pos rfl] at hls
                obtain ⟨f, hf⟩ : ∃ f, trS es n (restB es.length O) = f := ⟨_, rfl⟩
                rw [hf] at n0 HR ⊢
                have hsn := bestL_snoc f ((List.range i).filter (restB es.length O)) i
                rw [← HR.out, ← hls] at hsn
                cases r with
                | none =>
                  have hnx : Hid (some i = bestL f ((List.range (i + 1)).filter (restB es.length O))) := hsn.symm
                  rw [show bestI none = -1 from rfl]
                  clear hls hrl HR hBw hNw hsn hri hFi hgi hgf hf
                  go_wp2_with fail
                  go_quiet (fail)
                  go_wp2_with fail
                  go_roundw
                  case rel => exact ⟨i + 1, by omega, by go_num, some i, rfl, hnx, hbw.drewN _⟩
                  case measure => simp [intOf]; omega
                | some c =>
                  have hcm := (bestL_min f _ none c HR.out.symm).1
                  have hcm2 : c ∈ (List.range i).filter (restB es.length O) := by
                    rcases hcm with h | h
                    · exact h
                    · cases h
                  obtain ⟨hc1, hc2⟩ := List.mem_filter.1 hcm2
                  have hci := List.mem_range.1 hc1
                  have nc := numAt_fn hNw c (by omega)
                  rw [hF c hc2, hf] at nc
                  have dc : decide ((c : Int) < 0) = false := by simp
                  have hce : (c : Int) < es.length := by omega
                  rw [show bestI (some c) = (c : Int) from rfl]
                  by_cases hfl : f i < f c
                  · have d1 : decide ((f i : Int) < (f c : Int)) = true := by simpa using hfl
                    have d2 : decide (f i < f c) = true := by simpa using hfl
                    have hnx : Hid (some i = bestL f ((List.range (i + 1)).filter (restB es.length O))) := by show _ = _; rw [hsn]; simp [stepL, hfl]
                    clear hls hrl HR hBw hNw hsn hri hFi hgi hgf hf hcm hcm2 hc1 hc2 hfl
                    generalize f i = fi at *
                    generalize f c = fc at *
                    go_wp2_with fail
                    go_quiet (fail)
                    go_wp2_with fail
                    go_roundw
                    case rel => exact ⟨i + 1, by omega, by go_num, some i, rfl, hnx, hbw.drewN _⟩
                    case measure => simp [intOf]; omega
                  · have d1 : decide ((f i : Int) < (f c : Int)) = false := by simpa using hfl
                    have d2 : decide (f i < f c) = false := by simpa using hfl
                    have hnx : Hid (some c = bestL f ((List.range (i + 1)).filter (restB es.length O))) := by show _ = _; rw [hsn]; simp [stepL, hfl]
                    clear hls hrl HR hBw hNw hsn hri hFi hgi hgf hf hcm hcm2 hc1 hc2 hfl
                    generalize f i = fi at *
                    generalize f c = fc at *
                    go_wp2_with fail
                    go_quiet (fail)
                    go_wp2_with fail
                    go_roundw
                    case rel => exact ⟨i + 1, by omega, by go_num, some c, rfl, hnx, hbw.drewN _⟩
                    case measure => simp [intOf]; omega
            · obtain rfl : i = es.length := by omega
              have hr : r = some b := by rw [HR.out]; exact HBEST.out
              subst hr
              rw [show bestI (some b) = (b : Int) from rfl]
              have hbl := ((restB_iff _ _ _).1 hbr).1
              have hBw : BoolAt wr g1 es.length _ := lit_next' hbw hB
              have hNw : NumAt wr s0 _ := lit_next' hbw hN
              have hMw : NumAt wr (g1 + 1) _ := lit_next' hbw hM
              have hownw := hown.kept (grown_of_below hbw) (Classical.em _)
              have hbW := hb.trans (hbw.mono (by have := HS0.out; have := hb.size; omega))
              have hzw : g1 + 2 ≤ wr.heap.size := Nat.le_trans hz hbw.size
              have hFb := hF b hbr
              have n0 := numAt_fn hNw b hbl
              rw [hFb] at n0
              have hbl3 : (b : Int) < es.length := by omega
              have hmax : max (topP (trS es n) es.length j : Int) (trS es n (restB es.length O) b : Int) = (topP (trS es n) es.length (j + 1) : Int) := by
                have := HTOP.out; omega
              have m0 := numAt_fn hMw b hbl
              have mf : ∀ j, wr.frozen? ⟨g1 + 1, j, none⟩ = false := fun j => free_blk hMw
              have q0 := hBw.cell b hbl
              have qf : ∀ j, wr.frozen? ⟨g1, j, none⟩ = false := fun j => free_blk hBw
              clear hB hN hM hown hb hbw HR hz
              have hM1 : NumAt ((wr.setCell ⟨g1 + 1, b, none⟩ (.int .i64 (topP (trS es n) es.length (j + 1) : Int))).setCell ⟨g1, b, none⟩ (.bool true)) (g1 + 1) (fnL es.length (numP (trS es n) es.length (j + 1))) := by
                rw [← fnL_congr _ _ _ HNS.out]
                exact numAt_other (numAt_set hMw b _) (by omega)
              have hB1 : BoolAt ((wr.setCell ⟨g1 + 1, b, none⟩ (.int .i64 (topP (trS es n) es.length (j + 1) : Int))).setCell ⟨g1, b, none⟩ (.bool true)) g1 es.length (fun x => (O ++ [b]).contains x) :=
                ((boolAt_other hBw (by omega)).set b true).congr fun x _ => by
                  by_cases e : x = b
                  · subst e; simp
                  · rw [if_neg e]; simp [e]
              have hN1 : NumAt ((wr.setCell ⟨g1 + 1, b, none⟩ (.int .i64 (topP (trS es n) es.length (j + 1) : Int))).setCell ⟨g1, b, none⟩ (.bool true)) s0 (fnL es.length F) := numAt_other (numAt_other hNw (by omega)) (by omega)
              have hgs : wr.grownBy ((wr.setCell ⟨g1 + 1, b, none⟩ (.int .i64 (topP (trS es n) es.length (j + 1) : Int)))) (some (g1 + 1)) := ⟨rfl, rfl, rfl, by simp, fun k _ hk => Below.heap_setCell _ _ _ _ (fun e => hk (by simp [e]))⟩
              have hgs2 : (wr.setCell ⟨g1 + 1, b, none⟩ (.int .i64 (topP (trS es n) es.length (j + 1) : Int))).grownBy ((wr.setCell ⟨g1 + 1, b, none⟩ (.int .i64 (topP (trS es n) es.length (j + 1) : Int))).setCell ⟨g1, b, none⟩ (.bool true)) (some g1) := ⟨rfl, rfl, rfl, by simp, fun k _ hk => Below.heap_setCell _ _ _ _ (fun e => hk (by simp [e]))⟩
              have hnb : ∀ g, (Value.slice ao j co).ownBlock = some g → g1 + 2 ≤ g := fun g e => (hownw.lt g e).1
              have hown1 := (hownw.kept hgs (by
                cases hs : (Value.slice ao j co).ownBlock with
                | none => exact .inl rfl
                | some k => have := hnb k hs; exact .inr (by simp; omega))).kept hgs2 (by
                cases hs : (Value.slice ao j co).ownBlock with
                | none => exact .inl rfl
                | some k => have := hnb k hs; exact .inr (by simp; omega))
              have hb1 : Below s0 wT ((wr.setCell ⟨g1 + 1, b, none⟩ (.int .i64 (topP (trS es n) es.length (j + 1) : Int))).setCell ⟨g1, b, none⟩ (.bool true)) := (hbW.setCell (p := ⟨g1 + 1, b, none⟩) (show s0 ≤ g1 + 1 by omega) _).setCell (p := ⟨g1, b, none⟩) (show s0 ≤ g1 by omega) _
              have hz1 : ((wr.setCell ⟨g1 + 1, b, none⟩ (.int .i64 (topP (trS es n) es.length (j + 1) : Int))).setCell ⟨g1, b, none⟩ (.bool true)).heap.size = wr.heap.size := by simp
              have hlx := ints_lit1 ((wr.setCell ⟨g1 + 1, b, none⟩ (.int .i64 (topP (trS es n) es.length (j + 1) : Int))).setCell ⟨g1, b, none⟩ (.bool true)) (b : Int) 3
              rw [hz1] at hlx
              have hownA := hown1.alloc (.cells #[.int .i64 (b : Int)] 3)
              have hbnA := (Below.refl _ ((wr.setCell ⟨g1 + 1, b, none⟩ (.int .i64 (topP (trS es n) es.length (j + 1) : Int))).setCell ⟨g1, b, none⟩ (.bool true))).alloc (Nat.le_refl _) (.cells #[.int .i64 (b : Int)] 3)
              have hMA : NumAt _ _ _ := lit_next' hbnA hM1
              have hBA : BoolAt _ _ _ _ := lit_next' hbnA hB1
              have hNA : NumAt _ _ _ := lit_next' hbnA hN1
              have hbA : Below s0 wT _ := hb1.trans (hbnA.mono (by rw [hz1]; omega))
              have hcl : (castL O).length = j := by rw [castL_length]; exact HOL.out
              clear hM1 hB1 hN1 hgs hgs2 hown1 hb1 hbnA hBw hNw hMw hownw hbW
              have hlbj : g1 + 2 ≤ (((wr.setCell ⟨g1 + 1, b, none⟩ (.int .i64 (topP (trS es n) es.length (j + 1) : Int))).setCell ⟨g1, b, none⟩ (.bool true)).alloc (.cells #[.int .i64 (b : Int)] 3)).heap.size := by simp; omega
              generalize hTJ : topP (trS es n) es.length (j + 1) = TJ at *
              have HTJ := Lib.hid hTJ
              clear hTJ
              generalize topP (trS es n) es.length j = TP at *
              have HFB := Lib.hid hFb
              clear hFb
              obtain ⟨a7, c7, q7T, hr7T⟩ := hTr.row b hbl
              have hGs : G < s0 := by have := cell_lt q7T; have := HS0.out; omega
              go_wp2_with (at_builtin; refine wpList_app_ints intsT rfl _ _ rfl (g1 + 2) (.slice ao j co) _ (castL O) [(b : Int)] rfl (by rw [hcl]; exact hownA) rfl hlx (by rw [hcl]; simp; omega) hlbj ?_; intro v6 w6 hown6 hg6; have hb6 : Below s0 wT w6 := hbA.grown hg6 (by omega) (fun g e => by have := hnb g e; omega); have q7 := (hb6.cell (p := ⟨G, b, none⟩) hGs).trans q7T)
              have hM6 : NumAt w6 _ _ := grown_blk hg6 hMA (by intro e; have := hnb _ e.symm; omega)
              have hB6 : BoolAt w6 _ _ _ := grown_blk hg6 hBA (by intro e; have := hnb _ e.symm; omega)
              have hN6 : NumAt w6 _ _ := grown_blk hg6 hNA (by intro e; have := hnb _ e.symm; omega)
              have hz6 : g1 + 2 ≤ w6.heap.size := Nat.le_trans hlbj hg6.size
              have hsf : restB es.length (O ++ [b]) = offB (restB es.length O) b := by
                funext x; rw [restB_snoc]; rfl
              have htb := tri_le es n b
              have hTS := HS0.out
              have hmm : ∀ W, Below s0 wT W → Below wT.heap.size wT W := fun W h => by rw [hTS]; exact h
              clear hMA hBA hNA hbA hownA hlbj hg6 hlx hz1 q0 qf m0 mf n0 q7 q7T hmax
              go_loopw [89] (fun vi wr => ∃ t : Nat, t ≤ (triN es n b).length ∧ vi = .int .i64 t ∧ w6.grownBy wr (some s0) ∧ ∃ F', NumAt wr s0 (fnL es.length F') ∧ Hid (∀ x, restB es.length (O ++ [b]) x = true → F' x = (trS es n (restB es.length O) x : Int) - (lostT (triN es n) (restB es.length (O ++ [b])) b x t : Int))) (fun vi _ => (triN es n b).length - (intOf vi).toNat)
              case atStart => exact ⟨0, Nat.zero_le _, rfl, grown_refl _ _, F, hN6, (show _ from fun x hx => by
                rw [lostT_zero]
                rw [restB_snoc] at hx
                simp only [Bool.and_eq_true] at hx
                rw [hF x hx.1]; simp)⟩
              case round =>
                obtain ⟨t, ht, rfl, hgr, F', hNr, HF⟩ := hrel
                have hbr6 : Below s0 wT wr := hb6.grown hgr (by omega) (fun g e => by cases e; exact Nat.le_refl _)
                have hBr : BoolAt wr _ _ _ := grown_blk hgr hB6 (by intro e; have := Option.some.inj e; omega)
                by_cases hltt : t < (triN es n b).length
                · have hltt3 : (t : Int) < (triN es n b).length := by omega
                  obtain ⟨b9, o9, p, rfl, hp, hcap9, hat9⟩ := (hr7T.below (hmm _ hbr6)).elem t hltt
                  have x0 : wr.cell? ⟨b9, o9 + t * 2, none⟩ = some (.int .i64 (p.1 : Int)) := hat9 0 _ rfl
                  have x1 : wr.cell? ⟨b9, o9 + t * 2 + 1, none⟩ = some (.int .i64 (p.2 : Int)) := hat9 1 _ rfl
                  obtain ⟨_, hp1, hp2, hpne, _, _⟩ := (triH hv).lt b p (List.mem_of_getElem? hp)
                  have hls : ∀ x, _ := fun x => lostT_step (triN es n) (restB es.length (O ++ [b])) b x t p hp
                  have hw1 : ∀ x, restB es.length (O ++ [b]) x = true → -100 ≤ F' x ∧ F' x ≤ 100 := fun x hx => by
                    rw [HF.out x hx]
                    have h1 := trS_le (n := n) (es := es) (restB es.length O) x
                    have h2 := lostT_le (triN es n) (restB es.length (O ++ [b])) b x t
                    omega
                  have hr1 := rest_lt (o := O ++ [b]) hp1
                  have hr2 := rest_lt (o := O ++ [b]) hp2
                  have q1 := cell_alloc (o := .cells #[.int .i64 (p.1 : Int), .int .i64 (p.2 : Int)] 77) (hBr.cell p.1 hp1)
                  have q2 := cell_alloc (o := .cells #[.int .i64 (p.1 : Int), .int .i64 (p.2 : Int)] 77) (hBr.cell p.2 hp2)
                  have hp1' : (p.1 : Int) < es.length := by omega
                  have hp2' : (p.2 : Int) < es.length := by omega
                  have hbn := (Below.refl wr.heap.size wr).alloc (Nat.le_refl _) (.cells #[.int .i64 (p.1 : Int), .int .i64 (p.2 : Int)] 77)
                  have hgrA := grown_trans hgr (grown_none (r := some s0) (grown_of_below hbn))
                  have hNA : NumAt _ _ _ := lit_next' hbn hNr
                  by_cases hc1 : (O ++ [b]).contains p.1 = true
                  · have hnx : Hid (∀ x, restB es.length (O ++ [b]) x = true → F' x = (trS es n (restB es.length O) x : Int) - (lostT (triN es n) (restB es.length (O ++ [b])) b x (t + 1) : Int)) := by
                      show ∀ x, _
                      intro x hx
                      rw [hls x, hr1, hc1, HF.out x hx]; simp
                    rw [hc1] at q1
                    clear hls hr1 hr2 hBr HF hat9 hp hw1 hbn
                    go_wp2_with fail
                    go_roundw
                    case rel => exact ⟨t + 1, by omega, by go_num, hgrA, F', hNA, hnx⟩
                    case measure => simp [intOf]; omega
                  · have hc1f : (O ++ [b]).contains p.1 = false := by simpa using hc1
                    rw [hc1f] at q1 hr1
                    by_cases hc2 : (O ++ [b]).contains p.2 = true
                    · have hnx : Hid (∀ x, restB es.length (O ++ [b]) x = true → F' x = (trS es n (restB es.length O) x : Int) - (lostT (triN es n) (restB es.length (O ++ [b])) b x (t + 1) : Int)) := by
                        show ∀ x, _
                        intro x hx
                        rw [hls x, hr2, hc2, HF.out x hx]; simp
                      rw [hc2] at q2
                      clear hls hr1 hr2 hBr HF hat9 hp hw1 hbn
                      go_wp2_with fail
                      go_roundw
                      case rel => exact ⟨t + 1, by omega, by go_num, hgrA, F', hNA, hnx⟩
                      case measure => simp [intOf]; omega
                    · have hc2f : (O ++ [b]).contains p.2 = false := by simpa using hc2
                      rw [hc2f] at q2 hr2
                      have v1 : IntKind.i64.wrap (F' p.1 - 1) = F' p.1 - 1 := IntWalk.i64_in _ (by have := hw1 p.1 hr1; omega)
                      have v2 : IntKind.i64.wrap (F' p.2 - 1) = F' p.2 - 1 := IntWalk.i64_in _ (by have := hw1 p.2 hr2; omega)
                      have n1 := numAt_fn hNA p.1 hp1
                      have n2 := numAt_fn hNA p.2 hp2
                      have nf : ∀ j, (wr.alloc (.cells #[.int .i64 (p.1 : Int), .int .i64 (p.2 : Int)] 77)).frozen? ⟨s0, j, none⟩ = false := fun j => free_blk hNA
                      have hd : ¬ p.2 = p.1 := fun e => hpne e.symm
                      have hzz : g1 + 2 ≤ wr.heap.size := Nat.le_trans hz6 hgr.size
                      have hd2 : ¬ wr.heap.size = s0 := by omega
                      have hd3 : ¬ s0 = wr.heap.size := by omega
                      have hst := numAt_set (numAt_set hNA p.1 (F' p.1 - 1)) p.2 (F' p.2 - 1)
                      have hnx : Hid (∀ x, restB es.length (O ++ [b]) x = true → (if x = p.2 then F' p.2 - 1 else if x = p.1 then F' p.1 - 1 else F' x) = (trS es n (restB es.length O) x : Int) - (lostT (triN es n) (restB es.length (O ++ [b])) b x (t + 1) : Int)) := by
                        show ∀ x, _
                        intro x hx
                        have h0 := HF.out x hx
                        rw [hls x, hr1, hr2]
                        by_cases e2 : x = p.2
                        · subst e2
                          rw [if_pos rfl, h0]; simp [hasP]; omega
                        · rw [if_neg e2]
                          by_cases e1 : x = p.1
                          · subst e1
                            rw [if_pos rfl, h0]; simp [hasP]; omega
                          · rw [if_neg e1, h0]
                            have e1' : ¬ p.1 = x := fun e => e1 e.symm
                            have e2' : ¬ p.2 = x := fun e => e2 e.symm
                            simp [hasP, e1', e2']
                      have hgr2 : w6.grownBy (((wr.alloc (.cells #[.int .i64 (p.1 : Int), .int .i64 (p.2 : Int)] 77)).setCell ⟨s0, p.1, none⟩ (.int .i64 (F' p.1 - 1))).setCell ⟨s0, p.2, none⟩ (.int .i64 (F' p.2 - 1))) (some s0) :=
                        grown_trans hgrA ⟨rfl, rfl, rfl, by simp, fun k _ hk => (Below.heap_setCell _ _ _ _ (fun e => hk (by simp [e]))).trans (Below.heap_setCell _ _ _ _ (fun e => hk (by simp [e])))⟩
                      clear hls hr1 hr2 hBr HF hat9 hp hw1 hbn hNA hgrA hgr
                      go_wp2_with fail
                      go_roundw
                      case rel => exact ⟨t + 1, by omega, by go_num, hgr2, _, hst, hnx⟩
                      case measure => simp [intOf]; omega
                · obtain rfl : t = (triN es n b).length := by omega
                  have hF2 : SupOk es n (O ++ [b]) F' := fun x hx => by
                    rw [HF.out x hx, lostT_all]
                    rw [restB_snoc] at hx
                    simp only [Bool.and_eq_true, decide_eq_true_eq] at hx
                    have h := supT_off (triH hv) (restB es.length O) b x hbr hx.1 hx.2
                    rw [hsf]
                    unfold trS
                    omega
                  have hMr : NumAt wr _ _ := grown_blk hgr hM6 (by intro e; have := Option.some.inj e; omega)
                  have hown7 := hown6.kept hgr (by
                    cases hs : v6.ownBlock with
                    | none => exact .inl rfl
                    | some k => have := (hown6.lt k hs).1; exact .inr (by simp; omega))
                  have hlq : (castL O ++ [(b : Int)]).length = j + 1 := by rw [List.length_append, hcl]; rfl
                  rw [hlq, ← castL_snoc, ← HSTEP.out] at hown7
                  rw [← HSTEP.out] at hF2 hBr
                  go_wp2_with fail
                  go_roundw
                  case rel => exact ⟨j + 1, by omega, by go_num, by rw [HTJ.out], hown7, ⟨F', hNr, hF2⟩, hBr, hMr, hbr6, Nat.le_trans hz6 hgr.size⟩
                  case measure => simp [intOf]; omega
        · obtain rfl : j = es.length := by omega
          have hlen : (castL (peelO (trS es n) es.length es.length)).length = es.length := by rw [castL_length, (peelO_spec _ _ _ (Nat.le_refl _)).1]
          obtain ⟨a', c', hv', hi', hp'⟩ := IntsAt.of_owns (xs := castL (peelO (trS es n) es.length es.length)) (by rw [hlen]; exact hown) (by omega)
          rw [hlen] at hv' hi'
          cases hv'
          go_wp2_with fail
          go_ret2
          exact ⟨ao, co, g1 + 1, rfl, hi', hM, by omega, fun p hp => by have := hp' p hp; omega, hb0T.trans ((show Below w.heap.size wT wr from hb.mono hwT))⟩
end Go.Proofs.YtbkacbbhiecnkaaDoor
