/- The contract of the program's common neighbours. -/
import Derived.Test.YtbkacbbhiecnkaaDoorTrPlain
import Derived.Test.YtbkacbbhiecnkaaDoorGrFind
import Derived.Deep.RegionLaw
namespace Go.Proofs.YtbkacbbhiecnkaaDoor
open Go.RowKit Go.BigFrame

theorem pow_bitT (p x : Nat) : (2 ^ p).testBit x = decide (x = p) := by
  rw [Nat.testBit_two_pow]
  by_cases h : p = x
  · simp [h]
  · have : ¬ x = p := fun e => h e.symm
    simp [h, this]
theorem row_bitT_from (n : Int) (v x : Nat) : ∀ (es : List E2) (m : Nat), (∀ e ∈ es, Ins n e) → (es.foldl (rowE v) m).testBit x = (m.testBit x || adjB es v x) := by
  intro es
  induction es with
  | nil => intro m _; simp [adjB]
  | cons e es ih =>
    intro m h
    have he := h e List.mem_cons_self
    unfold Ins at he
    rw [List.foldl_cons, ih _ (fun y hy => h y (List.mem_cons_of_mem _ hy))]
    have hc : adjB (e :: es) v x = (decide ((e.1 = v ∧ e.2 = x) ∨ (e.1 = x ∧ e.2 = v)) || adjB es v x) := by simp [adjB]
    rw [hc, ← Bool.or_assoc]
    congr 1
    unfold rowE
    split
    · rename_i h1
      rw [Nat.testBit_or, pow_bitT]
      congr 1
      by_cases h2 : x = e.2.toNat
      · rw [decide_eq_true h2, decide_eq_true]; left; constructor
        · exact h1
        · omega
      · rw [decide_eq_false h2, decide_eq_false]; intro h3; omega
    · rename_i h1
      split
      · rename_i h2
        rw [Nat.testBit_or, pow_bitT]
        congr 1
        by_cases h3 : x = e.1.toNat
        · rw [decide_eq_true h3, decide_eq_true]; right; omega
        · rw [decide_eq_false h3, decide_eq_false]; intro h4; omega
      · rename_i h2
        have : ¬ ((e.1 = v ∧ e.2 = x) ∨ (e.1 = x ∧ e.2 = v)) := by intro h3; omega
        rw [decide_eq_false this, Bool.or_false]
/-- A ROW's BITS ARE THE EDGES. -/
theorem row_bitT {n : Int} {es : List E2} (hv : Valid n es) (v x : Nat) : (rowN es v).testBit x = adjB es v x := by
  unfold rowN
  rw [row_bitT_from n v x es 0 hv.2.2.1]
  simp
theorem filter_rangeN (p : Nat → Bool) (n : Nat) (h : ∀ x, p x = true → x < n) : ∀ m, n ≤ m → (List.range m).filter p = (List.range n).filter p := by
  intro m hm
  induction m with
  | zero =>
    obtain rfl : n = 0 := by omega
    rfl
  | succ m ih =>
    by_cases hn : n = m + 1
    · rw [hn]
    · rw [List.range_succ, List.filter_append, ih (by omega)]
      have : p m = false := by
        cases hp : p m
        · rfl
        · have := h m hp; omega
      simp [this]
theorem adj_in {n : Nat} {es : List E2} (hv : Valid n es) (u x : Nat) (h : adjB es u x = true) : u < n ∧ x < n := by
  rcases (adjB_iff es u x).1 h with h | h <;> have := hv.2.2.1 _ h <;> unfold Ins at this <;> simp at this <;> omega
theorem common_bits {n : Nat} {es : List E2} (hv : Valid n es) (u v : Nat) : bitsL (rowN es u &&& rowN es v) = (cmL es n u v).map fun (i : Nat) => (i : Int) := by
  have hn := hv.2.1
  unfold bitsL cmL
  rw [← filter_rangeN _ n (fun x h => by rw [Bool.and_eq_true] at h; exact (adj_in hv u x h.1).2) 64 (by omega)]
  congr 2
  funext i
  rw [Nat.testBit_and, row_bitT hv, row_bitT hv]
def cmI (es : List E2) (n u v : Nat) : List Int := (cmL es n u v).map fun (i : Nat) => (i : Int)
theorem cmI_length (es : List E2) (n u v : Nat) : (cmI es n u v).length = (cmL es n u v).length := List.length_map _
theorem cmL_length (es : List E2) (n u v : Nat) : (cmL es n u v).length ≤ n := by
  have h := List.length_filter_le (fun x => adjB es u x && adjB es v x) (List.range n)
  rw [List.length_range] at h; exact h
set_option maxRecDepth 100000 in
set_option maxHeartbeats 1600000 in
theorem gcommon_any (n u v : Nat) (a : Option Addr) (cap : Nat) (es : List E2) (w : World) (he : EdgesAt w (.slice a es.length cap) es) (hv : Valid n es) (hu : u < n) (hvn : v < n) (huv : u ≠ v) (hT : TzAt w) :
    Calls Tryd.prog 140 #[.agg #[.int .i64 n, .slice a es.length cap], .int .i64 u, .int .i64 v] w fun e w' => ∃ x, e = .returned x ∧ w'.ownsRow w.heap.size 3 1 x (cmI es n u v).length (intsV (cmI es n u v)) ∧ Below w.heap.size w w' := by
  have hbd0 : Below w.heap.size w (w.alloc (.cells #[.int .i64 n, .slice a es.length cap] 27)) := (Below.refl _ _).alloc (Nat.le_refl _) _
  have hG0 := heap_alloc_new w (.cells #[.int .i64 n, .slice a es.length cap] 27)
  have dne : ((u : Int) == (v : Int)) = false := by simp; omega
  have dne2 : (u == v) = false := by simpa using huv
  have hand : bits BinOp.and IntKind.u64 (rowN es u : Int) (rowN es v : Int) = ((rowN es u &&& rowN es v : Nat) : Int) := bits_and_u64_nat _ _ (rowN_lt64 hv u) (rowN_lt64 hv v)
  have hlt : rowN es u &&& rowN es v < 18446744073709551616 := Nat.lt_of_le_of_lt Nat.and_le_left (rowN_lt64 hv u)
  have hcb := common_bits hv u v
  obtain ⟨M, hM⟩ : ∃ M, rowN es u &&& rowN es v = M := ⟨_, rfl⟩
  rw [hM] at hand hlt hcb
  have HCB := Lib.hid hcb
  clear hM hcb
  go_enter Tryd.func140, Tryd.ntmps140
  go_wp2_with fail
  obtain ⟨w0, hw0⟩ : ∃ W : World, W = w.alloc (.cells #[.int .i64 n, .slice a es.length cap] 27) := ⟨_, rfl⟩
  rw [← hw0] at hbd0 hG0 ⊢
  clear hw0
  have he0 := (he.below hbd0).below (Below.refl _ _).drew
  have g0 : w0.cell? ⟨w.heap.size, 0, none⟩ = some (.int .i64 n) := by rw [cell_blk hG0]; rfl
  have g1 : w0.cell? ⟨w.heap.size, 1, none⟩ = some (.slice a es.length cap) := by rw [cell_blk hG0]; rfl
  have hG0d : w0.drew.heap[w.heap.size]? = _ := hG0
  have hdd : Below w.heap.size w w0.drew := hbd0.drew
  go_region_law (first
    | (go_simp; go_at_call 154; with_reducible refine (list_any M hlt _ (hT.below hb02)).mono ?_; rintro e w5 ⟨x, rfl, hown5, hb5⟩)
    | (go_simp; go_at_call 152; (first | with_reducible refine (row_any n u a cap es _ he1 hv hu).mono ?_ | with_reducible refine (row_any n v a cap es _ he1 hv hvn).mono ?_); rintro e w2 ⟨rfl, hb2⟩; have hb02 := hb01.trans (hb2.mono hb01.size))
    | (go_simp; go_at_call 152; (first | with_reducible refine (row_any n u a cap es _ he0 hv hu).mono ?_ | with_reducible refine (row_any n v a cap es _ he0 hv hvn).mono ?_); rintro e w1 ⟨rfl, hb1⟩; have hb01 := hdd.trans (hb1.mono hdd.size); have he1 := he0.below hb1; have hG1 := lit_next' hb1 hG0d; have g0' := cell_blk (j := 0) hG1; have g1' := cell_blk (j := 1) hG1))
  all_goals
    go_wp2_with fail
    have hown6 := owns_base hown5 hb02.size
    rw [HCB.out] at hown6
    have hbf := hb02.trans (hb5.mono hb02.size)
    go_ret
    exact ⟨_, rfl, hown6, hbf⟩
end Go.Proofs.YtbkacbbhiecnkaaDoor
