/- The contract of the program's table of joined pairs. -/
import Derived.Test.YtekbpoppajbljaaDoorGraphCheck
import Derived.RegionTactic
import Derived.BigRegion
namespace Go.Proofs.YtekbpoppajbljaaDoor
open Go.RowKit Go.BigFrame

/-- are two nodes joined? -/
def adjB (es : List E2) (i j : Nat) : Bool := es.any fun e => decide ((e.1 = i ∧ e.2 = j) ∨ (e.1 = j ∧ e.2 = i))
theorem adjB_snoc (es : List E2) (x y : Int) (i j : Nat) : adjB (es ++ [(x, y)]) i j = (adjB es i j || decide ((x = i ∧ y = j) ∨ (x = j ∧ y = i))) := by simp [adjB]

/-- the table of joined pairs in block g -/
def TableAt (w : World) (g : Nat) (es : List E2) : Prop :=
  ∃ cs, w.heap[g]? = some (.cells cs 110 (0, 0)) ∧ cs.size = 4096 ∧ ∀ i j, i < 64 → j < 64 → cs[i * 64 + j]? = some (.bool (adjB es i j))
theorem zero97 : Tryd.zeroCells110 = Array.replicate 4096 (.bool false) := by kernel_rfl

theorem table_step {cs : Array Value} {es : List E2} {p q : Nat} (hs : cs.size = 4096) (hp : p < 64) (hq : q < 64) (h : ∀ i j, i < 64 → j < 64 → cs[i * 64 + j]? = some (.bool (adjB es i j))) :
    ∀ i j, i < 64 → j < 64 → ((cs.setIfInBounds (p * 64 + q) (.bool true)).setIfInBounds (q * 64 + p) (.bool true))[i * 64 + j]? = some (.bool (adjB (es ++ [((p : Int), (q : Int))]) i j)) := by
  intro i j hi hj
  rw [Array.getElem?_setIfInBounds, Array.getElem?_setIfInBounds, adjB_snoc]
  by_cases h1 : q * 64 + p = i * 64 + j
  · have : q = i ∧ p = j := by omega
    rw [if_pos h1, if_pos (by simp; omega)]
    simp [this]
  · rw [if_neg h1]
    by_cases h2 : p * 64 + q = i * 64 + j
    · have : p = i ∧ q = j := by omega
      rw [if_pos h2, if_pos (by omega)]
      simp [this]
    · rw [if_neg h2, h i j hi hj]
      have : ¬ (((p : Int) = i ∧ (q : Int) = j) ∨ ((p : Int) = j ∧ (q : Int) = i)) := by omega
      simp only [this, decide_false, Bool.or_false]

def JoinedPost (es : List E2) (w : World) (e : Ending) (w' : World) : Prop := ∃ g, e = .returned (.pointer (some ⟨g, 0, none⟩)) ∧ TableAt w' g es ∧ w.heap.size ≤ g ∧ Below w.heap.size w w'

set_option maxRecDepth 100000 in
set_option maxHeartbeats 800000 in
theorem joined_any (n : Int) (a : Option Addr) (cap : Nat) (es : List E2) (w : World) (he : EdgesAt w (.slice a es.length cap) es) (hv : Valid n es) :
    Calls Tryd.prog 74 #[.agg #[.int .i64 n, .slice a es.length cap]] w (JoinedPost es w) := by
  have hl := hv.length_le
  have hbw : Below w.heap.size w ((w.alloc (.cells #[.int .i64 n, .slice a es.length cap] 27)).alloc (.cells Tryd.zeroCells110 110)) := ((Below.refl _ _).alloc (Nat.le_refl _) _).alloc (by simp) _
  have ht0 : TableAt ((w.alloc (.cells #[.int .i64 n, .slice a es.length cap] 27)).alloc (.cells Tryd.zeroCells110 110)) (w.heap.size + 1) [] := by
    refine ⟨Tryd.zeroCells110, ?_, ?_, ?_⟩
    · have := heap_alloc_new (w.alloc (.cells #[.int .i64 n, .slice a es.length cap] 27)) (.cells Tryd.zeroCells110 110)
      simpa using this
    · rw [zero97]; simp
    · intro i j hi hj
      rw [zero97, Array.getElem?_replicate, if_pos (by omega)]
      rfl
  have he0 := he.below hbw
  go_enter Tryd.func74, Tryd.ntmps74
  go_wp2_with fail
  go_loopw [9] (fun i wr => ∃ k : Nat, k ≤ es.length ∧ i = .int .i64 k ∧ Below w.heap.size w wr ∧ w.heap.size + 1 < wr.heap.size ∧ TableAt wr (w.heap.size + 1) (es.take k)) (fun i _ => es.length - (intOf i).toNat)
  case atStart => exact ⟨0, Nat.zero_le _, rfl, hbw, by simp, ht0⟩
  case round =>
    clear ht0
    obtain ⟨k, hk, rfl, hb, hz, ht⟩ := hrel
    by_cases hlt : k < es.length
    · obtain ⟨b, off, x, y, rfl, hxy, _, hd, c0, c1⟩ := (he.below hb).at k hlt
      have hin : Ins n (x, y) := hv.2.2.1 _ (List.mem_of_getElem? hxy)
      have hn := hv.2.1
      unfold Ins at hin
      dsimp at hin
      have HD := Lib.hid hd
      clear hd hxy
      obtain ⟨p, rfl⟩ := Int.eq_ofNat_of_zero_le hin.1
      obtain ⟨q, rfl⟩ := Int.eq_ofNat_of_zero_le (show 0 ≤ y by omega)
      have hp : p < 64 := by omega
      have hq : q < 64 := by omega
      have hpq : p < q := by omega
      have hz2 : b < wr.heap.size := cell_lt c0
      obtain ⟨cs, hg, hs, hc⟩ := ht
      have t1 : wr.cell? ⟨w.heap.size + 1, p * 64 + q, none⟩ = some (.bool (adjB (es.take k) p q)) := (cell_blk hg).trans (hc p q hp hq)
      have t2 : wr.cell? ⟨w.heap.size + 1, q * 64 + p, none⟩ = some (.bool (adjB (es.take k) q p)) := (cell_blk hg).trans (hc q p hq hp)
      have t3 : wr.frozen? ⟨w.heap.size + 1, p * 64 + q, none⟩ = false := free_blk hg
      have t4 : wr.frozen? ⟨w.heap.size + 1, q * 64 + p, none⟩ = false := free_blk hg
      have HC := Lib.hid hc
      have HG := Lib.hid hg
      clear hc hg hin
      go_wp2_with fail
      go_region
      go_wp2
      go_roundw
      case rel =>
        refine ⟨k + 1, by omega, by go_num, ?_, ?_, ?_⟩
        · have h2 := (hb.setCell (p := ⟨w.heap.size + 1, p * 64 + q, none⟩) (Nat.le_succ _) (.bool true)).setCell (p := ⟨w.heap.size + 1, q * 64 + p, none⟩) (Nat.le_succ _) (.bool true)
          exact (h2.alloc h2.size _).drew
        · simp; omega
        · rw [HD.out]
          refine ⟨_, ?_, ?_, table_step hs hp hq HC.out⟩
          · have g1 := heap_setCell_same _ _ (q * 64 + p) _ _ (.bool true) (heap_setCell_same wr _ (p * 64 + q) _ _ (.bool true) HG.out)
            exact (Below.heap_alloc _ _ _ (blk_lt g1)).trans g1
          · simpa using hs
      case measure => simp [intOf]; omega
    · go_wp2
      go_ret
      have : es.take k = es := List.take_of_length_le (by omega)
      rw [this] at ht
      exact ⟨_, rfl, ht, by omega, hb⟩
end Go.Proofs.YtekbpoppajbljaaDoor
