/- The contracts of the program's wedges. The contract of the table of shared neighbours. The contracts of the program's counts of squares. The contract of the program's number of squares. -/
import Derived.Test.YtekbpoppajbljaaDoorMasks
import Derived.Test.YtekbpoppajbljaaDoorPatSolvesPlain
namespace Go.Proofs.YtekbpoppajbljaaDoor
open Go.RowKit Go.BigFrame

theorem oc7_bd (x : Int) : 0 ≤ oc7 x ∧ oc7 x ≤ 127 := by
  unfold oc7
  generalize wrap64 x = a
  have e : bits BinOp.and IntKind.i64 a 127 = IntKind.i64.wrap ((BitVec.ofInt 64 a &&& BitVec.ofInt 64 127).toNat : Int) := rfl
  have h : (BitVec.ofInt 64 a &&& BitVec.ofInt 64 127).toNat ≤ 127 := by
    rw [BitVec.toNat_and]
    exact Nat.le_trans Nat.and_le_right (by decide)
  rw [e]
  generalize (BitVec.ofInt 64 a &&& BitVec.ofInt 64 127).toNat = y at *
  rw [IntKind.wrap_i64]
  omega
theorem oc64_bd (x : Int) : 0 ≤ oc64 x ∧ oc64 x ≤ 127 := oc7_bd _
def pairI (x : Int) : Int := x * (x - 1) / 2
theorem prod_bd (x : Int) (h0 : 0 ≤ x) (h1 : x ≤ 262144) : 0 ≤ x * (x - 1) ∧ x * (x - 1) ≤ 68719476736 := by
  by_cases hx : x = 0
  · subst hx; simp
  · have a := mul_bd (x := x) (y := x - 1) (a := 262144) (b := 262144) (by omega) (by omega)
    omega
theorem pairI_bd (x : Int) (h0 : 0 ≤ x) (h1 : x ≤ 262144) : 0 ≤ pairI x ∧ pairI x ≤ 34359738368 := by
  have h := prod_bd x h0 h1
  unfold pairI
  generalize x * (x - 1) = y at *
  omega
theorem pairs_any (x : Int) (w : World) (h0 : 0 ≤ x) (h1 : x ≤ 262144) : Calls Tryd.prog 84 #[.int .i64 x] w fun e w' => e = .returned (.int .i64 (pairI x)) ∧ w = w' := by
  have h := prod_bd x h0 h1
  have w1 : IntKind.i64.wrap (x - 1) = x - 1 := IntWalk.i64_in _ (by omega)
  have w2 : IntKind.i64.wrap (x * (x - 1)) = x * (x - 1) := IntWalk.i64_in _ (by omega)
  go_enter Tryd.func84, Tryd.ntmps84
  go_wp2
  go_ret
  exact ⟨rfl, rfl⟩
/-- the wedges of the nodes before v -/
def wedS (es : List E2) (v : Nat) : Int := sumN (fun u => pairI (oc64 (rowN es u))) v
theorem wedS_bd (es : List E2) (v : Nat) : 0 ≤ wedS es v ∧ wedS es v ≤ v * 34359738368 :=
  sumN_bd _ 34359738368 v (fun u _ => pairI_bd _ (oc64_bd _).1 (by have := (oc64_bd (rowN es u : Int)).2; omega))
set_option maxRecDepth 100000 in
set_option maxHeartbeats 800000 in
theorem wedges_any (n : Nat) (a : Option Addr) (cap : Nat) (es : List E2) (w : World) (he : EdgesAt w (.slice a es.length cap) es) (hv : Valid n es) :
    Calls Tryd.prog 59 #[.agg #[.int .i64 n, .slice a es.length cap]] w fun e w' => e = .returned (.int .i64 (wedS es n)) ∧ Below w.heap.size w w' := by
  have hn := hv.2.1
  have hbd0 : Below w.heap.size w (w.alloc (.cells #[.int .i64 n, .slice a es.length cap] 27)) := (Below.refl _ _).alloc (Nat.le_refl _) _
  have hG0 : (w.alloc (.cells #[.int .i64 n, .slice a es.length cap] 27)).heap[w.heap.size]? = some (.cells #[.int .i64 n, .slice a es.length cap] 27 (0, 0)) := heap_alloc_new _ _
  have hbx : Below (w.heap.size + 1) (w.alloc (.cells #[.int .i64 n, .slice a es.length cap] 27)) (w.alloc (.cells #[.int .i64 n, .slice a es.length cap] 27)) := Below.refl _ _
  go_enter Tryd.func59, Tryd.ntmps59
  go_wp2_with fail
  go_loopw [3, 7] (fun s i wr => ∃ v : Nat, v ≤ n ∧ s = .int .i64 (wedS es v) ∧ i = .int .i64 v ∧ Below w.heap.size w wr ∧ wr.heap[w.heap.size]? = some (.cells #[.int .i64 n, .slice a es.length cap] 27 (0, 0))) (fun _ i _ => n - (intOf i).toNat)
  case atStart => exact ⟨0, Nat.zero_le _, rfl, rfl, hbd0, hG0⟩
  case round =>
    clear hbd0 hG0 hbx
    obtain ⟨v, hk, rfl, rfl, hb, hG⟩ := hrel
    by_cases hlt : v < n
    · have q0 : wr.cell? ⟨w.heap.size, 0, none⟩ = some (.int .i64 n) := cell_blk hG
      have q1 : wr.cell? ⟨w.heap.size, 1, none⟩ = some (.slice a es.length cap) := cell_blk hG
      have o := oc64_bd (rowN es v : Int)
      have b1 := wedS_bd es v
      have HS : Hid (wedS es (v + 1) = wedS es v + pairI (oc64 (rowN es v : Int))) := rfl
      go_wp2_with fail
      refine (gdegree_any n v a cap es _ (he.below hb) hv hlt).mono ?_
      rintro e w2 ⟨rfl, hb2⟩
      have hb3 := hb.trans (hb2.mono hb.size)
      have hG3 := (hb2.block _ (blk_lt hG)).trans hG
      clear q0 q1 hb hG hb2
      generalize oc64 (rowN es v : Int) = x at *
      have pb := pairI_bd x o.1 (by omega)
      generalize wedS es v = s at *
      have hw : IntKind.i64.wrap (s + pairI x) = s + pairI x := IntWalk.i64_in _ (by omega)
      go_wp2_with fail
      refine (pairs_any x _ o.1 (by omega)).mono ?_
      rintro e w3 ⟨rfl, rfl⟩
      go_wp2_with fail
      go_roundw
      case rel => exact ⟨v + 1, by omega, by rw [HS.out], by go_num, hb3, hG3⟩
      case measure => simp [intOf]; omega
    · obtain rfl : v = n := by omega
      go_wp2_with fail
      go_ret
      exact ⟨rfl, hb⟩
set_option maxRecDepth 100000 in
set_option maxHeartbeats 800000 in
theorem swedges_any (n : Nat) (a : Option Addr) (cap : Nat) (es : List E2) (w : World) (he : EdgesAt w (.slice a es.length cap) es) (hv : Valid n es) :
    Calls Tryd.prog 25 #[.agg #[.int .i64 n, .slice a es.length cap]] w fun e w' => e = .returned (.tuple #[.int .i64 (wedS es n), .int .i64 0]) ∧ Below w.heap.size w w' := by
  go_enter Tryd.func25, Tryd.ntmps25
  go_wp2_with fail
  refine (gcheck_any n a cap es _ (he.below ((Below.refl _ _).alloc (Nat.le_refl _) _))).mono ?_
  rintro e w1 ⟨rfl, hb1⟩
  rw [(valid_iff n es).2 hv]
  have b0 : w1.cell? ⟨w.heap.size, 0, none⟩ = some (.int .i64 n) := (hb1.cell (p := ⟨w.heap.size, 0, none⟩) (by simp)).trans (cell_blk (heap_alloc_new _ _))
  have b1 : w1.cell? ⟨w.heap.size, 1, none⟩ = some (.slice a es.length cap) := (hb1.cell (p := ⟨w.heap.size, 1, none⟩) (by simp)).trans (cell_blk (heap_alloc_new _ _))
  have hbw : Below w.heap.size w w1 := ((Below.refl _ _).alloc (Nat.le_refl _) _).trans (hb1.mono (by simp))
  clear hb1
  go_wp2_with fail
  refine (wedges_any n a cap es _ (he.below hbw) hv).mono ?_
  rintro e w2 ⟨rfl, hb2⟩
  go_wp2
  go_ret2
  exact ⟨rfl, hbw.trans (hb2.mono hbw.size)⟩
end Go.Proofs.YtekbpoppajbljaaDoor

namespace Go.Proofs.YtekbpoppajbljaaDoor
open Go.RowKit Go.BigFrame

/-- the neighbours of a node, as numbers -/
def nbN (es : List E2) (v : Nat) : List Nat := (List.range 64).filter fun i => (rowN es v).testBit i
theorem nbS_eq (es : List E2) (v : Nat) : nbS es v = (nbN es v).map fun (i : Nat) => (i : Int) := rfl
theorem nbN_lt (es : List E2) (v x : Nat) (h : x ∈ nbN es v) : x < 64 := by
  unfold nbN at h
  exact List.mem_range.1 (List.mem_filter.1 h).1
theorem nbN_length (es : List E2) (v : Nat) : (nbN es v).length ≤ 64 := by
  have := List.length_filter_le (fun i => (rowN es v).testBit i) (List.range 64)
  simpa [nbN] using this
/-- the pairs with first node a -/
def shB (a : Nat) (l : List Nat) : List (Nat × Nat) := (l.filter fun b => decide (a ≠ b)).map fun b => (a, b)
def shA (l l' : List Nat) : List (Nat × Nat) := l'.flatMap fun a => shB a l
def shV (es : List E2) (v : Nat) : List (Nat × Nat) := (List.range v).flatMap fun u => shA (nbN es u) (nbN es u)
theorem shB_snoc (a b : Nat) (l : List Nat) : shB a (l ++ [b]) = shB a l ++ if a = b then [] else [(a, b)] := by
  unfold shB
  rw [List.filter_append, List.map_append]
  congr 1
  by_cases h : a = b
  · simp [h]
  · simp [h]
theorem shA_snoc (l l' : List Nat) (a : Nat) : shA l (l' ++ [a]) = shA l l' ++ shB a l := by simp [shA]
theorem shV_succ (es : List E2) (v : Nat) : shV es (v + 1) = shV es v ++ shA (nbN es v) (nbN es v) := by simp [shV, List.range_succ]
theorem shB_le (a : Nat) (l : List Nat) : (shB a l).length ≤ l.length := by
  unfold shB; rw [List.length_map]; exact List.length_filter_le _ _
theorem shA_le (l : List Nat) (hl : l.length ≤ 64) : ∀ l' : List Nat, (shA l l').length ≤ l'.length * 64 := by
  intro l'
  induction l' with
  | nil => simp [shA]
  | cons a l' ih =>
    have e : shA l (a :: l') = shB a l ++ shA l l' := by simp [shA]
    rw [e, List.length_append, List.length_cons]
    have := shB_le a l
    omega
theorem shV_le (es : List E2) : ∀ v, (shV es v).length ≤ v * 4096 := by
  intro v
  induction v with
  | zero => simp [shV]
  | succ v ih =>
    rw [shV_succ, List.length_append]
    have h1 := shA_le (nbN es v) (nbN_length es v) (nbN es v)
    have h2 := nbN_length es v
    omega
/-- how often a pair occurs -/
def cntP (P : List (Nat × Nat)) (a b : Nat) : Int := ((P.filter fun x => x == (a, b)).length : Int)
theorem cntP_bd (P : List (Nat × Nat)) (a b : Nat) : 0 ≤ cntP P a b ∧ cntP P a b ≤ P.length := by
  have := List.length_filter_le (fun x => x == (a, b)) P
  unfold cntP; omega
/-- the table in block g -/
def ShAt (w : World) (g : Nat) (P : List (Nat × Nat)) : Prop :=
  ∃ cs, w.heap[g]? = some (.cells cs 113 (0, 0)) ∧ cs.size = 4096 ∧ ∀ i j, i < 64 → j < 64 → cs[i * 64 + j]? = some (.int .i64 (cntP P i j))
theorem ShAt.cell {w : World} {g : Nat} {P : List (Nat × Nat)} (h : ShAt w g P) (i j : Nat) (hi : i < 64) (hj : j < 64) : w.cell? ⟨g, i * 64 + j, none⟩ = some (.int .i64 (cntP P i j)) := by
  obtain ⟨cs, h1, h2, h3⟩ := h
  rw [cell_blk h1]; exact h3 i j hi hj
theorem ShAt.free {w : World} {g : Nat} {P : List (Nat × Nat)} (h : ShAt w g P) (k : Nat) : w.frozen? ⟨g, k, none⟩ = false := by
  obtain ⟨cs, h1, h2, h3⟩ := h
  exact free_blk h1
theorem ShAt.lt {w : World} {g : Nat} {P : List (Nat × Nat)} (h : ShAt w g P) : g < w.heap.size := by
  obtain ⟨cs, h1, h2, h3⟩ := h
  exact blk_lt h1
theorem ShAt.below {w w' : World} {g : Nat} {P : List (Nat × Nat)} (h : ShAt w g P) (hb : Below w.heap.size w w') : ShAt w' g P := by
  obtain ⟨cs, h1, h2⟩ := h
  exact ⟨cs, (hb.block g (blk_lt h1)).trans h1, h2⟩
theorem ShAt.step {w : World} {g : Nat} {P : List (Nat × Nat)} (h : ShAt w g P) (p q : Nat) (hp : p < 64) (hq : q < 64) : ShAt (w.setCell ⟨g, p * 64 + q, none⟩ (.int .i64 (cntP P p q + 1))) g (P ++ [(p, q)]) := by
  obtain ⟨cs, h1, h2, h3⟩ := h
  refine ⟨_, heap_setCell_same _ _ _ _ _ _ h1, by simpa using h2, fun i j hi hj => ?_⟩
  rw [Array.getElem?_setIfInBounds]
  by_cases he : p * 64 + q = i * 64 + j
  · obtain ⟨rfl, rfl⟩ : p = i ∧ q = j := by omega
    rw [if_pos he, if_pos (by omega)]
    simp [cntP, List.filter_append]
  · rw [if_neg he, h3 i j hi hj]
    have : ((p, q) == (i, j)) = false := by simp; omega
    simp [cntP, List.filter_append, this]
theorem zero102 : Tryd.zeroCells113 = Array.replicate 4096 (.int .i64 0) := by kernel_rfl

theorem shB_take (a : Nat) (l : List Nat) (j : Nat) (hj : j < l.length) : shB a (l.take (j + 1)) = shB a (l.take j) ++ if a = l[j] then [] else [(a, l[j])] := by
  rw [List.take_succ_eq_append_getElem hj, shB_snoc]
theorem shA_take (l l' : List Nat) (i : Nat) (hi : i < l'.length) : shA l (l'.take (i + 1)) = shA l (l'.take i) ++ shB l'[i] l := by
  rw [List.take_succ_eq_append_getElem hi, shA_snoc]

set_option maxRecDepth 100000 in
set_option maxHeartbeats 1600000 in
theorem shared_any (n : Nat) (a : Option Addr) (cap : Nat) (es : List E2) (w : World) (he : EdgesAt w (.slice a es.length cap) es) (hv : Valid n es) (hT : TzAt w) :
    Calls Tryd.prog 83 #[.agg #[.int .i64 n, .slice a es.length cap]] w fun e w' => ∃ g, e = .returned (.pointer (some ⟨g, 0, none⟩)) ∧ w.heap.size ≤ g ∧ ShAt w' g (shV es n) ∧ Below w.heap.size w w' := by
  have hn := hv.2.1
  have hbw : Below w.heap.size w ((w.alloc (.cells #[.int .i64 n, .slice a es.length cap] 27)).alloc (.cells Tryd.zeroCells113 113)) := ((Below.refl _ _).alloc (Nat.le_refl _) _).alloc (by simp) _
  have hG0 : ((w.alloc (.cells #[.int .i64 n, .slice a es.length cap] 27)).alloc (.cells Tryd.zeroCells113 113)).heap[w.heap.size]? = some (.cells #[.int .i64 n, .slice a es.length cap] 27 (0, 0)) :=
    (Below.heap_alloc _ _ _ (by simp)).trans (heap_alloc_new _ _)
  have hS0 : ShAt ((w.alloc (.cells #[.int .i64 n, .slice a es.length cap] 27)).alloc (.cells Tryd.zeroCells113 113)) (w.heap.size + 1) (shV es 0) := by
    refine ⟨Tryd.zeroCells113, ?_, ?_, ?_⟩
    · have := heap_alloc_new (w.alloc (.cells #[.int .i64 n, .slice a es.length cap] 27)) (.cells Tryd.zeroCells113 113)
      simpa using this
    · rw [zero102]; simp
    · intro i j hi hj
      rw [zero102, Array.getElem?_replicate, if_pos (by omega)]
      rfl
  go_enter Tryd.func83, Tryd.ntmps83
  go_wp2_with fail
  go_loopw [12] (fun i wr => ∃ v : Nat, v ≤ n ∧ i = .int .i64 v ∧ Below w.heap.size w wr ∧ wr.heap[w.heap.size]? = some (.cells #[.int .i64 n, .slice a es.length cap] 27 (0, 0)) ∧ ShAt wr (w.heap.size + 1) (shV es v)) (fun i _ => n - (intOf i).toNat)
  case atStart => exact ⟨0, by omega, rfl, hbw, hG0, hS0⟩
  case round =>
    clear hbw hG0 hS0
    obtain ⟨v, hk, rfl, hb, hG, hS⟩ := hrel
    by_cases hlt : v < n
    · have q1 : wr.cell? ⟨w.heap.size, 1, none⟩ = some (.slice a es.length cap) := cell_blk hG
      have q0 : wr.cell? ⟨w.heap.size, 0, none⟩ = some (.int .i64 n) := cell_blk hG
      go_wp2_with fail
      refine (gneigh_any n v a cap es _ (he.below hb) hv hlt (hT.below hb)).mono ?_
      rintro e w2 ⟨x, rfl, hx, hb2⟩
      have hb02 := hb.trans (hb2.mono hb.size)
      have hG2 := (hb2.block _ (blk_lt hG)).trans hG
      have hS2 := hS.below hb2
      have hzS := hS.lt
      have hx2 := owns_base hx (show w.heap.size + 2 ≤ wr.heap.size by omega)
      have hnl := nbN_length es v
      have hnx := nbN_lt es v
      have HV := Lib.hid (shV_succ es v)
      have hvl := shV_le es v
      have hxl : (nbS es v).length = (nbN es v).length := by rw [nbS_eq, List.length_map]
      rw [nbS_eq] at hx2
      rw [List.length_map] at hx2
      obtain ⟨ax, cx, hvx⟩ := owns_shape hx2
      subst hvx
      have hS3 : ShAt w2 (w.heap.size + 1) (shV es v ++ shA (nbN es v) ((nbN es v).take 0)) := by simpa [shA] using hS2
      clear hx hb2 hb hG hS hxl hS2 q0 q1
      generalize nbN es v = l at *
      generalize shV es v = P at *
      go_wp2_with fail
      go_loopw [20] (fun i wr => ∃ k : Nat, k ≤ l.length ∧ i = .int .i64 k ∧ Below w.heap.size w wr ∧ wr.heap[w.heap.size]? = some (.cells #[.int .i64 n, .slice a es.length cap] 27 (0, 0)) ∧ wr.ownsRow (w.heap.size + 2) 3 1 (.slice ax l.length cx) l.length (intsV (l.map fun (i : Nat) => (i : Int))) ∧ ShAt wr (w.heap.size + 1) (P ++ shA l (l.take k))) (fun i _ => l.length - (intOf i).toNat)
      case atStart => exact ⟨0, by omega, rfl, hb02, hG2, hx2, hS3⟩
      case round =>
        clear hb02 hG2 hx2 hS3
        obtain ⟨k, hk2, rfl, hb, hG, hx, hS⟩ := hrel
        by_cases hltk : k < l.length
        · have hIx : IntsAt wr (.slice ax (l.map fun (i : Nat) => (i : Int)).length cx) (l.map fun (i : Nat) => (i : Int)) := by
            have hx' := hx
            rw [show l.length = (l.map fun (i : Nat) => (i : Int)).length by simp] at hx'
            obtain ⟨a4, c4, hv4, hi4, _⟩ := IntsAt.of_owns hx' (by simp; omega)
            simp only [Value.slice.injEq] at hv4
            obtain ⟨rfl, _, rfl⟩ := hv4
            exact hi4
          obtain ⟨b1, o1, y1, rfl, hy1, _, _, c1⟩ := hIx.at k (by simpa using hltk)
          have hy : y1 = (l[k] : Int) := by simpa [List.getElem?_map, List.getElem?_eq_getElem hltk] using hy1.symm
          subst hy
          have hk64 : l[k] < 64 := hnx _ (List.getElem_mem _)
          have HK := Lib.hid (shA_take l l k hltk)
          have HB := Lib.hid (fun j hj => shB_take l[k] l j hj)
          have hS4 : ShAt wr (w.heap.size + 1) (P ++ shA l (l.take k) ++ shB l[k] (l.take 0)) := by simpa [shB] using hS
          have hal := shA_le l hnl (l.take k)
          have htk : (l.take k).length ≤ 64 := by rw [List.length_take]; omega
          clear hS hIx hy1
          generalize shA l (l.take k) = Q at *
          generalize l[k] = u at *
          go_wp2_with fail
          clear c1
          obtain ⟨wo, rfl⟩ : ∃ wo : World, wo = wr := ⟨_, rfl⟩
          go_loopw [26] (fun i wr => ∃ j : Nat, j ≤ l.length ∧ i = .int .i64 j ∧ Below w.heap.size w wr ∧ wr.heap[w.heap.size]? = some (.cells #[.int .i64 n, .slice a es.length cap] 27 (0, 0)) ∧ wr.ownsRow (w.heap.size + 2) 3 1 (.slice (some ⟨b1, o1, none⟩) l.length cx) l.length (intsV (l.map fun (i : Nat) => (i : Int))) ∧ ShAt wr (w.heap.size + 1) (P ++ Q ++ shB u (l.take j))) (fun i _ => l.length - (intOf i).toNat)
          case atStart => exact ⟨0, by omega, rfl, hb, hG, hx, hS4⟩
          case round =>
            clear hb hG hx hS4
            obtain ⟨j, hj, rfl, hb, hG, hx, hS⟩ := hrel
            by_cases hltj : j < l.length
            · have hIx : IntsAt wr (.slice (some ⟨b1, o1, none⟩) (l.map fun (i : Nat) => (i : Int)).length cx) (l.map fun (i : Nat) => (i : Int)) := by
                have hx' := hx
                rw [show l.length = (l.map fun (i : Nat) => (i : Int)).length by simp] at hx'
                obtain ⟨a4, c4, hv4, hi4, _⟩ := IntsAt.of_owns hx' (by simp; omega)
                simp only [Value.slice.injEq] at hv4
                obtain ⟨rfl, _, rfl⟩ := hv4
                exact hi4
              obtain ⟨b2, o2, y2, hbo, hy2, _, _, c2⟩ := hIx.at j (by simpa using hltj)
              obtain ⟨rfl, rfl⟩ : b1 = b2 ∧ o1 = o2 := by simpa using hbo
              have hy : y2 = (l[j] : Int) := by simpa [List.getElem?_map, List.getElem?_eq_getElem hltj] using hy2.symm
              subst hy
              have hj64 : l[j] < 64 := hnx _ (List.getElem_mem _)
              have HJ := Lib.hid (HB.out j hltj)
              have hbl := shB_le u (l.take j)
              have htj : (l.take j).length ≤ 64 := by rw [List.length_take]; omega
              clear hIx hy2 hbo
              generalize shB u (l.take j) = R at *
              generalize l[j] = v2 at *
              have t0 := hS.cell u v2 hk64 hj64
              have f0 := hS.free (u * 64 + v2)
              have cb := cntP_bd (P ++ Q ++ R) u v2
              have hll : (P ++ Q ++ R).length ≤ 1000000 := by simp only [List.length_append]; omega
              by_cases huv : u = v2
              · have e1 : ((u : Int) != (v2 : Int)) = false := by simp [huv]
                have HJ2 : Hid (shB u (l.take (j + 1)) = R) := by show _ = _; rw [HJ.out, if_pos huv, List.append_nil]
                have hse : ((u : Int) == (v2 : Int)) = true := by simp [huv]
                have HU := Lib.hid huv
                clear huv t0
                go_wp2_with fail
                go_roundw
                case rel => exact ⟨j + 1, by omega, by go_num, hb, hG, hx, by rw [HJ2.out]; exact hS⟩
                case measure => simp [intOf]; omega
              · have e1 : ((u : Int) == (v2 : Int)) = false := by simp; omega
                have HJ2 : Hid (shB u (l.take (j + 1)) = R ++ [(u, v2)]) := by show _ = _; rw [HJ.out, if_neg huv]
                have HS := Lib.hid (hS.step u v2 hk64 hj64)
                have HX := Lib.hid (ownsRow_setCell_below hx (a := ⟨w.heap.size + 1, u * 64 + v2, none⟩) (Nat.lt_succ_self _) (.int .i64 (cntP (P ++ Q ++ R) u v2 + 1)))
                have HG := Lib.hid hG
                clear hS hx hG
                generalize cntP (P ++ Q ++ R) u v2 = c at *
                go_wp2_with fail
                go_region
                go_wp2_with fail
                go_roundw
                case rel => exact ⟨j + 1, by omega, by go_num, (hb.setCell (p := ⟨w.heap.size + 1, u * 64 + v2, none⟩) (Nat.le_succ _) _).drew, (Below.heap_setCell _ _ _ _ (by show w.heap.size ≠ w.heap.size + 1; omega)).trans HG.out, HX.out, by rw [HJ2.out, ← List.append_assoc]; exact HS.out⟩
                case measure => simp [intOf]; omega
            · obtain rfl : j = l.length := by omega
              rw [List.take_length] at hS
              go_wp2_with fail
              go_roundw
              case rel => exact ⟨k + 1, by omega, by go_num, hb, hG, hx, by rw [HK.out, ← List.append_assoc]; exact hS⟩
              case measure => simp [intOf]; omega
        · obtain rfl : k = l.length := by omega
          rw [List.take_length] at hS
          go_wp2_with fail
          go_roundw
          case rel => exact ⟨v + 1, by omega, by go_num, hb, hG, by rw [HV.out]; exact hS⟩
          case measure => simp [intOf]; omega
    · obtain rfl : v = n := by omega
      go_wp2_with fail
      go_ret
      exact ⟨_, rfl, by omega, hS, hb⟩
end Go.Proofs.YtekbpoppajbljaaDoor

namespace Go.Proofs.YtekbpoppajbljaaDoor
open Go.RowKit Go.BigFrame

/-- the squares of node v with the nodes before k opposite -/
def sqN (es : List E2) (n v k : Nat) : Int := sumN (fun u => pairI (cntP (shV es n) v u)) k
/-- the squares of all nodes before v -/
def sqT (es : List E2) (n v : Nat) : Int := sumN (fun u => sqN es n u n) v
def sqV (es : List E2) (n v k : Nat) : List Int := (List.range n).map fun (i : Nat) => if i < v then sqN es n i n else if i = v then sqN es n v k else 0
theorem sqV_length (es : List E2) (n v k : Nat) : (sqV es n v k).length = n := by simp [sqV]
theorem sqV_get (es : List E2) (n v k i : Nat) (hi : i < n) : (sqV es n v k)[i]? = some (if i < v then sqN es n i n else if i = v then sqN es n v k else 0) := by simp [sqV, hi]
theorem sqV_zero (es : List E2) (n : Nat) : sqV es n 0 0 = List.replicate n 0 := by
  apply List.ext_getElem?
  intro i
  by_cases hi : i < n
  · rw [sqV_get _ _ _ _ _ hi, if_neg (by omega), List.getElem?_replicate, if_pos hi]
    split <;> rfl
  · rw [List.getElem?_eq_none (by rw [sqV_length]; omega), List.getElem?_eq_none (by simp; omega)]
theorem sqV_next (es : List E2) (n v : Nat) : sqV es n v n = sqV es n (v + 1) 0 := by
  unfold sqV
  apply List.map_congr_left
  intro i _
  by_cases h1 : i < v
  · rw [if_pos h1, if_pos (by omega)]
  · rw [if_neg h1]
    by_cases h2 : i = v
    · rw [if_pos h2, if_pos (by omega), h2]
    · rw [if_neg h2, if_neg (by omega)]
      split <;> rfl
theorem sqV_step (es : List E2) (n v k : Nat) : (sqV es n v k).set v (sqN es n v k + pairI (cntP (shV es n) v k)) = sqV es n v (k + 1) := by
  apply List.ext_getElem?
  intro i
  by_cases hi : i < n
  · rw [List.getElem?_set, sqV_get _ _ _ _ _ hi, sqV_get _ _ _ _ _ hi, sqV_length]
    by_cases h : v = i
    · subst h; rw [if_pos rfl, if_pos hi, if_neg (by omega), if_pos rfl]; rfl
    · rw [if_neg h]
      by_cases h1 : i < v
      · rw [if_pos h1, if_pos h1]
      · rw [if_neg h1, if_neg h1, if_neg (by omega), if_neg (by omega)]
  · rw [List.getElem?_eq_none (by rw [List.length_set, sqV_length]; omega), List.getElem?_eq_none (by rw [sqV_length]; omega)]
theorem cnt_small (es : List E2) (n : Nat) (hn : n ≤ 64) (a b : Nat) : 0 ≤ cntP (shV es n) a b ∧ cntP (shV es n) a b ≤ 262144 := by
  have h1 := cntP_bd (shV es n) a b
  have h2 := shV_le es n
  omega
theorem sqN_bd (es : List E2) (n : Nat) (hn : n ≤ 64) (v k : Nat) : 0 ≤ sqN es n v k ∧ sqN es n v k ≤ k * 34359738368 :=
  sumN_bd _ 34359738368 k (fun u _ => pairI_bd _ (cnt_small es n hn v u).1 (cnt_small es n hn v u).2)
theorem sqT_bd (es : List E2) (n : Nat) (hn : n ≤ 64) (v : Nat) : 0 ≤ sqT es n v ∧ sqT es n v ≤ v * 2199023255552 :=
  sumN_bd _ 2199023255552 v (fun u _ => by have := sqN_bd es n hn u n; omega)

set_option maxRecDepth 100000 in
set_option maxHeartbeats 1600000 in
theorem counts_any (n : Nat) (a : Option Addr) (cap : Nat) (es : List E2) (w : World) (he : EdgesAt w (.slice a es.length cap) es) (hv : Valid n es) (hT : TzAt w) :
    Calls Tryd.prog 58 #[.agg #[.int .i64 n, .slice a es.length cap]] w fun e w' => ∃ g, e = .returned (.tuple #[.int .i64 (sqT es n n / 4), .slice (some ⟨g, 0, none⟩) n n]) ∧ w.heap.size ≤ g ∧ NumAt w' g (sqV es n n 0) ∧ Below w.heap.size w w' := by
  have hn : n ≤ 64 := by have := hv.2.1; omega
  have hbd0 : Below w.heap.size w (w.alloc (.cells #[.int .i64 n, .slice a es.length cap] 27)) := (Below.refl _ _).alloc (Nat.le_refl _) _
  have hmk := make_ints n (by omega)
  go_enter Tryd.func58, Tryd.ntmps58
  go_wp2_with fail
  refine (shared_any n a cap es _ (he.below hbd0) hv (hT.below hbd0)).mono ?_
  rintro e w1 ⟨g, rfl, hg, hS, hb1⟩
  have b0 : w1.cell? ⟨w.heap.size, 0, none⟩ = some (.int .i64 n) := (hb1.cell (p := ⟨w.heap.size, 0, none⟩) (by simp)).trans (cell_blk (heap_alloc_new _ _))
  have hbw := hbd0.trans (hb1.mono hbd0.size)
  have hgl := hS.lt
  have hgw : w.heap.size ≤ g := Nat.le_trans hbd0.size hg
  clear hb1 hbd0
  go_wp2_with fail
  go_region
  go_wp2_with fail
  clear hmk b0
  have hN0 : NumAt ((w1.alloc (.cells (intsV (List.replicate n 0)).toArray 3)).drew) w1.heap.size (sqV es n 0 0) := by rw [sqV_zero]; exact heap_alloc_new _ _
  have hbx : Below w1.heap.size w1 ((w1.alloc (.cells (intsV (List.replicate n 0)).toArray 3)).drew) := ((Below.refl _ _).alloc (Nat.le_refl _) _).drew
  go_loopw [5, 16] (fun s i wr => ∃ v : Nat, v ≤ n ∧ s = .int .i64 (sqT es n v) ∧ i = .int .i64 v ∧ Below w1.heap.size w1 wr ∧ NumAt wr w1.heap.size (sqV es n v 0)) (fun _ i _ => n - (intOf i).toNat)
  case atStart => exact ⟨0, by omega, rfl, rfl, hbx, hN0⟩
  case round =>
    clear hbx hN0
    obtain ⟨v, hk, rfl, rfl, hb, hN⟩ := hrel
    by_cases hlt : v < n
    · go_wp2_with fail
      obtain ⟨wo, rfl⟩ : ∃ wo : World, wo = wr := ⟨_, rfl⟩
      go_loopw [21] (fun i wr => ∃ k : Nat, k ≤ n ∧ i = .int .i64 k ∧ Below w1.heap.size w1 wr ∧ NumAt wr w1.heap.size (sqV es n v k)) (fun i _ => n - (intOf i).toNat)
      case atStart => exact ⟨0, by omega, rfl, hb, hN⟩
      case round =>
        clear hb hN
        obtain ⟨k, hk2, rfl, hb, hN⟩ := hrel
        by_cases hltk : k < n
        · have c0 := hN.cell v _ (sqV_get _ _ _ _ _ hlt)
          rw [if_neg (by omega), if_pos rfl] at c0
          have f0 : wr.frozen? ⟨w1.heap.size, v, none⟩ = false := free_blk hN
          have t0 := (hS.below hb).cell v k (by omega) (by omega)
          have cs := cnt_small es n hn v k
          have sb := sqN_bd es n hn v k
          have pb := pairI_bd _ cs.1 cs.2
          have HN := Lib.hid (hN.set v (sqN es n v k + pairI (cntP (shV es n) v k)))
          have HS := Lib.hid (sqV_step es n v k)
          clear hN
          generalize cntP (shV es n) v k = c at *
          generalize sqN es n v k = s at *
          have hw : IntKind.i64.wrap (s + pairI c) = s + pairI c := IntWalk.i64_in _ (by omega)
          have hv64 : v < 64 := by omega
          have hk64 : k < 64 := by omega
          go_wp2_with fail
          go_region_with (go_at_call 84; refine (pairs_any c _ cs.1 cs.2).mono ?_; rintro e w2 ⟨rfl, rfl⟩)
          all_goals
            go_wp2_with fail
            go_roundw
            case rel => exact ⟨k + 1, by omega, by go_num, (hb.setCell (p := ⟨w1.heap.size, v, none⟩) (Nat.le_refl _) _).drew, by rw [← HS.out]; exact HN.out⟩
            case measure => simp [intOf]; omega
        · obtain rfl : k = n := by omega
          have c0 := hN.cell v _ (sqV_get _ _ _ _ _ hlt)
          rw [if_neg (by omega), if_pos rfl] at c0
          have sb := sqN_bd es k hn v k
          have tb := sqT_bd es k hn v
          have HT : Hid (sqT es k (v + 1) = sqT es k v + sqN es k v k) := rfl
          have HX := Lib.hid (sqV_next es k v)
          generalize sqT es k v = t at *
          have hw : IntKind.i64.wrap (t + sqN es k v k) = t + sqN es k v k := IntWalk.i64_in _ (by omega)
          go_wp2_with fail
          go_roundw
          case rel => exact ⟨v + 1, by omega, by rw [HT.out], by go_num, hb, by rw [← HX.out]; exact hN⟩
          case measure => simp [intOf]; omega
    · obtain rfl : v = n := by omega
      have tb := sqT_bd es v hn v
      have hq : wrap64 ((sqT es v v).tdiv 4) = sqT es v v / 4 := by
        rw [Int.tdiv_eq_ediv_of_nonneg tb.1]
        unfold wrap64
        omega
      go_wp2_with fail
      go_ret2
      exact ⟨_, rfl, hbw.size, hN, hbw.trans (hb.mono hbw.size)⟩
end Go.Proofs.YtekbpoppajbljaaDoor

namespace Go.Proofs.YtekbpoppajbljaaDoor
open Go.RowKit Go.BigFrame

set_option maxRecDepth 100000 in
set_option maxHeartbeats 800000 in
theorem scount_any (n : Nat) (a : Option Addr) (cap : Nat) (es : List E2) (w : World) (he : EdgesAt w (.slice a es.length cap) es) (hv : Valid n es) (hT : TzAt w) :
    Calls Tryd.prog 24 #[.agg #[.int .i64 n, .slice a es.length cap]] w fun e w' => e = .returned (.tuple #[.int .i64 (sqT es n n / 4), .int .i64 0]) ∧ Below w.heap.size w w' := by
  go_enter Tryd.func24, Tryd.ntmps24
  go_wp2_with fail
  refine (gcheck_any n a cap es _ (he.below ((Below.refl _ _).alloc (Nat.le_refl _) _))).mono ?_
  rintro e w1 ⟨rfl, hb1⟩
  rw [(valid_iff n es).2 hv]
  have b0 : w1.cell? ⟨w.heap.size, 0, none⟩ = some (.int .i64 n) := (hb1.cell (p := ⟨w.heap.size, 0, none⟩) (by simp)).trans (cell_blk (heap_alloc_new _ _))
  have b1 : w1.cell? ⟨w.heap.size, 1, none⟩ = some (.slice a es.length cap) := (hb1.cell (p := ⟨w.heap.size, 1, none⟩) (by simp)).trans (cell_blk (heap_alloc_new _ _))
  have hbw : Below w.heap.size w w1 := ((Below.refl _ _).alloc (Nat.le_refl _) _).trans (hb1.mono (by simp))
  clear hb1
  go_wp2_with fail
  refine (counts_any n a cap es _ (he.below hbw) hv (hT.below hbw)).mono ?_
  rintro e w2 ⟨g, rfl, hg, hN, hb2⟩
  go_wp2
  go_ret2
  exact ⟨rfl, hbw.trans (hb2.mono hbw.size)⟩
end Go.Proofs.YtekbpoppajbljaaDoor
