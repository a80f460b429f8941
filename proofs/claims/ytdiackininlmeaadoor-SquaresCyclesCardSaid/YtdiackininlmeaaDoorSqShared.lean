/- The contract of the table of shared neighbours. -/
import Derived.Test.YtdiackininlmeaaDoorSqWedges
namespace Go.Proofs.YtdiackininlmeaaDoor
open Go.RowKit Go.BigFrame

/-- the neighbours of a node, as numbers -/
def nbN (es : List E2) (v : Nat) : List Nat := (List.range 64).filter fun i => (rowN es v).testBit i
theorem nbS_eq (es : List E2) (v : Nat) : nbS es v = (nbN es v).map fun (i : Nat) => (i : Int) := rfl
theorem nbN_lt (es : List E2) (v x : Nat) (h : x ∈ nbN es v) : x < 64 := by
  unfold nbN at h
  exact List.mem_range.1 (List.mem_filter.1 h).1
theorem nbN_length (es : List E2) (v : Nat) : (nbN es v).length ≤ 64 := by
  have := List.length_filter_le (fun i => (rowN es v).testBit i) (List.range 64)
  simpa [nbN] using this
/-- the pairs with first node a -/
def shB (a : Nat) (l : List Nat) : List (Nat × Nat) := (l.filter fun b => decide (a ≠ b)).map fun b => (a, b)
def shA (l l' : List Nat) : List (Nat × Nat) := l'.flatMap fun a => shB a l
def shV (es : List E2) (v : Nat) : List (Nat × Nat) := (List.range v).flatMap fun u => shA (nbN es u) (nbN es u)
theorem shB_snoc (a b : Nat) (l : List Nat) : shB a (l ++ [b]) = shB a l ++ if a = b then [] else [(a, b)] := by
  unfold shB
  rw [List.filter_append, List.map_append]
  congr 1
  by_cases h : a = b
  · simp [h]
  · simp [h]
theorem shA_snoc (l l' : List Nat) (a : Nat) : shA l (l' ++ [a]) = shA l l' ++ shB a l := by simp [shA]
theorem shV_succ (es : List E2) (v : Nat) : shV es (v + 1) = shV es v ++ shA (nbN es v) (nbN es v) := by simp [shV, List.range_succ]
theorem shB_le (a : Nat) (l : List Nat) : (shB a l).length ≤ l.length := by
  unfold shB; rw [List.length_map]; exact List.length_filter_le _ _
theorem shA_le (l : List Nat) (hl : l.length ≤ 64) : ∀ l' : List Nat, (shA l l').length ≤ l'.length * 64 := by
  intro l'
  induction l' with
  | nil => simp [shA]
  | cons a l' ih =>
    have e : shA l (a :: l') = shB a l ++ shA l l' := by simp [shA]
    rw [e, List.length_append, List.length_cons]
    have := shB_le a l
    omega
theorem shV_le (es : List E2) : ∀ v, (shV es v).length ≤ v * 4096 := by
  intro v
  induction v with
  | zero => simp [shV]
  | succ v ih =>
    rw [shV_succ, List.length_append]
    have h1 := shA_le (nbN es v) (nbN_length es v) (nbN es v)
    have h2 := nbN_length es v
    omega
/-- how often a pair occurs -/
def cntP (P : List (Nat × Nat)) (a b : Nat) : Int := ((P.filter fun x => x == (a, b)).length : Int)
theorem cntP_bd (P : List (Nat × Nat)) (a b : Nat) : 0 ≤ cntP P a b ∧ cntP P a b ≤ P.length := by
  have := List.length_filter_le (fun x => x == (a, b)) P
  unfold cntP; omega
/-- the table in block g -/
def ShAt (w : World) (g : Nat) (P : List (Nat × Nat)) : Prop :=
  ∃ cs, w.heap[g]? = some (.cells cs 103 (0, 0)) ∧ cs.size = 4096 ∧ ∀ i j, i < 64 → j < 64 → cs[i * 64 + j]? = some (.int .i64 (cntP P i j))
theorem ShAt.cell {w : World} {g : Nat} {P : List (Nat × Nat)} (h : ShAt w g P) (i j : Nat) (hi : i < 64) (hj : j < 64) : w.cell? ⟨g, i * 64 + j, none⟩ = some (.int .i64 (cntP P i j)) := by
  obtain ⟨cs, h1, h2, h3⟩ := h
  rw [cell_blk h1]; exact h3 i j hi hj
theorem ShAt.free {w : World} {g : Nat} {P : List (Nat × Nat)} (h : ShAt w g P) (k : Nat) : w.frozen? ⟨g, k, none⟩ = false := by
  obtain ⟨cs, h1, h2, h3⟩ := h
  exact free_blk h1
theorem ShAt.lt {w : World} {g : Nat} {P : List (Nat × Nat)} (h : ShAt w g P) : g < w.heap.size := by
  obtain ⟨cs, h1, h2, h3⟩ := h
  exact blk_lt h1
theorem ShAt.below {w w' : World} {g : Nat} {P : List (Nat × Nat)} (h : ShAt w g P) (hb : Below w.heap.size w w') : ShAt w' g P := by
  obtain ⟨cs, h1, h2⟩ := h
  exact ⟨cs, (hb.block g (blk_lt h1)).trans h1, h2⟩
theorem ShAt.step {w : World} {g : Nat} {P : List (Nat × Nat)} (h : ShAt w g P) (p q : Nat) (hp : p < 64) (hq : q < 64) : ShAt (w.setCell ⟨g, p * 64 + q, none⟩ (.int .i64 (cntP P p q + 1))) g (P ++ [(p, q)]) := by
  obtain ⟨cs, h1, h2, h3⟩ := h
  refine ⟨_, heap_setCell_same _ _ _ _ _ _ h1, by simpa using h2, fun i j hi hj => ?_⟩
  rw [Array.getElem?_setIfInBounds]
  by_cases he : p * 64 + q = i * 64 + j
  · obtain ⟨rfl, rfl⟩ : p = i ∧ q = j := by omega
    rw [if_pos he, if_pos (by omega)]
    simp [cntP, List.filter_append]
  · rw [if_neg he, h3 i j hi hj]
    have : ((p, q) == (i, j)) = false := by simp; omega
    simp [cntP, List.filter_append, this]
theorem zero102 : Tryd.zeroCells103 = Array.replicate 4096 (.int .i64 0) := by kernel_rfl

theorem shB_take (a : Nat) (l : List Nat) (j : Nat) (hj : j < l.length) : shB a (l.take (j + 1)) = shB a (l.take j) ++ if a = l[j] then [] else [(a, l[j])] := by
  rw [List.take_succ_eq_append_getElem hj, shB_snoc]
theorem shA_take (l l' : List Nat) (i : Nat) (hi : i < l'.length) : shA l (l'.take (i + 1)) = shA l (l'.take i) ++ shB l'[i] l := by
  rw [List.take_succ_eq_append_getElem hi, shA_snoc]

set_option maxRecDepth 100000 in
set_option maxHeartbeats 1600000 in
theorem shared_any (n : Nat) (a : Option Addr) (cap : Nat) (es : List E2) (w : World) (he : EdgesAt w (.slice a es.length cap) es) (hv : Valid n es) (hT : TzAt w) :
    Calls Tryd.prog 78 #[.agg #[.int .i64 n, .slice a es.length cap]] w fun e w' => ∃ g, e = .returned (.pointer (some ⟨g, 0, none⟩)) ∧ w.heap.size ≤ g ∧ ShAt w' g (shV es n) ∧ Below w.heap.size w w' := by
  have hn := hv.2.1
  have hbw : Below w.heap.size w ((w.alloc (.cells #[.int .i64 n, .slice a es.length cap] 27)).alloc (.cells Tryd.zeroCells103 103)) := ((Below.refl _ _).alloc (Nat.le_refl _) _).alloc (by simp) _
  have hG0 : ((w.alloc (.cells #[.int .i64 n, .slice a es.length cap] 27)).alloc (.cells Tryd.zeroCells103 103)).heap[w.heap.size]? = some (.cells #[.int .i64 n, .slice a es.length cap] 27 (0, 0)) :=
    (Below.heap_alloc _ _ _ (by simp)).trans (heap_alloc_new _ _)
  have hS0 : ShAt ((w.alloc (.cells #[.int .i64 n, .slice a es.length cap] 27)).alloc (.cells Tryd.zeroCells103 103)) (w.heap.size + 1) (shV es 0) := by
    refine ⟨Tryd.zeroCells103, ?_, ?_, ?_⟩
    · have := heap_alloc_new (w.alloc (.cells #[.int .i64 n, .slice a es.length cap] 27)) (.cells Tryd.zeroCells103 103)
      simpa using this
    · rw [zero102]; simp
    · intro i j hi hj
      rw [zero102, Array.getElem?_replicate, if_pos (by omega)]
      rfl
  go_enter Tryd.func78, Tryd.ntmps78
  go_wp2_with fail
  go_loopw [12] (fun i wr => ∃ v : Nat, v ≤ n ∧ i = .int .i64 v ∧ Below w.heap.size w wr ∧ wr.heap[w.heap.size]? = some (.cells #[.int .i64 n, .slice a es.length cap] 27 (0, 0)) ∧ ShAt wr (w.heap.size + 1) (shV es v)) (fun i _ => n - (intOf i).toNat)
  case atStart => exact ⟨0, by omega, rfl, hbw, hG0, hS0⟩
  case round =>
    clear hbw hG0 hS0
    obtain ⟨v, hk, rfl, hb, hG, hS⟩ := hrel
    by_cases hlt : v < n
    · have q1 : wr.cell? ⟨w.heap.size, 1, none⟩ = some (.slice a es.length cap) := cell_blk hG
      have q0 : wr.cell? ⟨w.heap.size, 0, none⟩ = some (.int .i64 n) := cell_blk hG
      go_wp2_with fail
      refine (gneigh_any n v a cap es _ (he.below hb) hv hlt (hT.below hb)).mono ?_
      rintro e w2 ⟨x, rfl, hx, hb2⟩
      have hb02 := hb.trans (hb2.mono hb.size)
      have hG2 := (hb2.block _ (blk_lt hG)).trans hG
      have hS2 := hS.below hb2
      have hzS := hS.lt
      have hx2 := owns_base hx (show w.heap.size + 2 ≤ wr.heap.size by omega)
      have hnl := nbN_length es v
      have hnx := nbN_lt es v
      have HV := Lib.hid (shV_succ es v)
      have hvl := shV_le es v
      have hxl : (nbS es v).length = (nbN es v).length := by rw [nbS_eq, List.length_map]
      rw [nbS_eq] at hx2
      rw [List.length_map] at hx2
      obtain ⟨ax, cx, hvx⟩ := owns_shape hx2
      subst hvx
      have hS3 : ShAt w2 (w.heap.size + 1) (shV es v ++ shA (nbN es v) ((nbN es v).take 0)) := by simpa [shA] using hS2
      clear hx hb2 hb hG hS hxl hS2 q0 q1
      generalize nbN es v = l at *
      generalize shV es v = P at *
      go_wp2_with fail
      go_loopw [20] (fun i wr => ∃ k : Nat, k ≤ l.length ∧ i = .int .i64 k ∧ Below w.heap.size w wr ∧ wr.heap[w.heap.size]? = some (.cells #[.int .i64 n, .slice a es.length cap] 27 (0, 0)) ∧ wr.ownsRow (w.heap.size + 2) 3 1 (.slice ax l.length cx) l.length (intsV (l.map fun (i : Nat) => (i : Int))) ∧ ShAt wr (w.heap.size + 1) (P ++ shA l (l.take k))) (fun i _ => l.length - (intOf i).toNat)
      case atStart => exact ⟨0, by omega, rfl, hb02, hG2, hx2, hS3⟩
      case round =>
        clear hb02 hG2 hx2 hS3
        obtain ⟨k, hk2, rfl, hb, hG, hx, hS⟩ := hrel
        by_cases hltk : k < l.length
        · have hIx : IntsAt wr (.slice ax (l.map fun (i : Nat) => (i : Int)).length cx) (l.map fun (i : Nat) => (i : Int)) := by
            have hx' := hx
            rw [show l.length = (l.map fun (i : Nat) => (i : Int)).length by simp] at hx'
            obtain ⟨a4, c4, hv4, hi4, _⟩ := IntsAt.of_owns hx' (by simp; omega)
            simp only [Value.slice.injEq] at hv4
            obtain ⟨rfl, _, rfl⟩ := hv4
            exact hi4
          obtain ⟨b1, o1, y1, rfl, hy1, _, _, c1⟩ := hIx.at k (by simpa using hltk)
          have hy : y1 = (l[k] : Int) := by simpa [List.getElem?_map, List.getElem?_eq_getElem hltk] using hy1.symm
          subst hy
          have hk64 : l[k] < 64 := hnx _ (List.getElem_mem _)
          have HK := Lib.hid (shA_take l l k hltk)
          have HB := Lib.hid (fun j hj => shB_take l[k] l j hj)
          have hS4 : ShAt wr (w.heap.size + 1) (P ++ shA l (l.take k) ++ shB l[k] (l.take 0)) := by simpa [shB] using hS
          have hal := shA_le l hnl (l.take k)
          have htk : (l.take k).length ≤ 64 := by rw [List.length_take]; omega
          clear hS hIx hy1
          generalize shA l (l.take k) = Q at *
          generalize l[k] = u at *
          go_wp2_with fail
          clear c1
          obtain ⟨wo, rfl⟩ : ∃ wo : World, wo = wr := ⟨_, rfl⟩
          go_loopw [26] (fun i wr => ∃ j : Nat, j ≤ l.length ∧ i = .int .i64 j ∧ Below w.heap.size w wr ∧ wr.heap[w.heap.size]? = some (.cells #[.int .i64 n, .slice a es.length cap] 27 (0, 0)) ∧ wr.ownsRow (w.heap.size + 2) 3 1 (.slice (some ⟨b1, o1, none⟩) l.length cx) l.length (intsV (l.map fun (i : Nat) => (i : Int))) ∧ ShAt wr (w.heap.size + 1) (P ++ Q ++ shB u (l.take j))) (fun i _ => l.length - (intOf i).toNat)
          case atStart => exact ⟨0, by omega, rfl, hb, hG, hx, hS4⟩
          case round =>
            clear hb hG hx hS4
            obtain ⟨j, hj, rfl, hb, hG, hx, hS⟩ := hrel
            by_cases hltj : j < l.length
            · have hIx : IntsAt wr (.slice (some ⟨b1, o1, none⟩) (l.map fun (i : Nat) => (i : Int)).length cx) (l.map fun (i : Nat) => (i : Int)) := by
                have hx' := hx
                rw [show l.length = (l.map fun (i : Nat) => (i : Int)).length by simp] at hx'
                obtain ⟨a4, c4, hv4, hi4, _⟩ := IntsAt.of_owns hx' (by simp; omega)
                simp only [Value.slice.injEq] at hv4
                obtain ⟨rfl, _, rfl⟩ := hv4
                exact hi4
              obtain ⟨b2, o2, y2, hbo, hy2, _, _, c2⟩ := hIx.at j (by simpa using hltj)
              obtain ⟨rfl, rfl⟩ : b1 = b2 ∧ o1 = o2 := by simpa using hbo
              have hy : y2 = (l[j] : Int) := by simpa [List.getElem?_map, List.getElem?_eq_getElem hltj] using hy2.symm
              subst hy
              have hj64 : l[j] < 64 := hnx _ (List.getElem_mem _)
              have HJ := Lib.hid (HB.out j hltj)
              have hbl := shB_le u (l.take j)
              have htj : (l.take j).length ≤ 64 := by rw [List.length_take]; omega
              clear hIx hy2 hbo
              generalize shB u (l.take j) = R at *
              generalize l[j] = v2 at *
              have t0 := hS.cell u v2 hk64 hj64
              have f0 := hS.free (u * 64 + v2)
              have cb := cntP_bd (P ++ Q ++ R) u v2
              have hll : (P ++ Q ++ R).length ≤ 1000000 := by simp only [List.length_append]; omega
              by_cases huv : u = v2
              · have e1 : ((u : Int) != (v2 : Int)) = false := by simp [huv]
                have HJ2 : Hid (shB u (l.take (j + 1)) = R) := by show _ = _; rw [HJ.out, if_pos huv, List.append_nil]
                have hse : ((u : Int) == (v2 : Int)) = true := by simp [huv]
                have HU := Lib.hid huv
                clear huv t0
                go_wp2_with fail
                go_roundw
                case rel => exact ⟨j + 1, by omega, by go_num, hb, hG, hx, by rw [HJ2.out]; exact hS⟩
                case measure => simp [intOf]; omega
              · have e1 : ((u : Int) == (v2 : Int)) = false := by simp; omega
                have HJ2 : Hid (shB u (l.take (j + 1)) = R ++ [(u, v2)]) := by show _ = _; rw [HJ.out, if_neg huv]
                have HS := Lib.hid (hS.step u v2 hk64 hj64)
                have HX := Lib.hid (ownsRow_setCell_below hx (a := ⟨w.heap.size + 1, u * 64 + v2, none⟩) (Nat.lt_succ_self _) (.int .i64 (cntP (P ++ Q ++ R) u v2 + 1)))
                have HG := Lib.hid hG
                clear hS hx hG
                generalize cntP (P ++ Q ++ R) u v2 = c at *
                go_wp2_with fail
                go_region
                go_wp2_with fail
                go_roundw
                case rel => exact ⟨j + 1, by omega, by go_num, (hb.setCell (p := ⟨w.heap.size + 1, u * 64 + v2, none⟩) (Nat.le_succ _) _).drew, (Below.heap_setCell _ _ _ _ (by show w.heap.size ≠ w.heap.size + 1; omega)).trans HG.out, HX.out, by rw [HJ2.out, ← List.append_assoc]; exact HS.out⟩
                case measure => simp [intOf]; omega
            · obtain rfl : j = l.length := by omega
              rw [List.take_length] at hS
              go_wp2_with fail
              go_roundw
              case rel => exact ⟨k + 1, by omega, by go_num, hb, hG, hx, by rw [HK.out, ← List.append_assoc]; exact hS⟩
              case measure => simp [intOf]; omega
        · obtain rfl : k = l.length := by omega
          rw [List.take_length] at hS
          go_wp2_with fail
          go_roundw
          case rel => exact ⟨v + 1, by omega, by go_num, hb, hG, by rw [HV.out]; exact hS⟩
          case measure => simp [intOf]; omega
    · obtain rfl : v = n := by omega
      go_wp2_with fail
      go_ret
      exact ⟨_, rfl, by omega, hS, hb⟩
end Go.Proofs.YtdiackininlmeaaDoor
