/- links.Where: the links with labels, a sign and a least weight. -/
import Derived.Test.YtkadeibinhkbjaaLkOnly
import Derived.Test.YtkadeibinhkbjaaLkApply
namespace Go.Proofs.Ytkadeibinhkbjaa
open Go.RowKit Go.BigFrame

def whX (n : Int) (ls : List Lk) (labels : List Int) (sign least : Int) : (Int × List Lk) × Int := if stS n ls ≠ 0 then ((0, []), stS n ls) else ((n, ls.filter (whB labels sign least)), 0)
def WherePost (w : World) (r : (Int × List Lk) × Int) (e : Ending) (w' : World) : Prop :=
  ∃ a1 c1, e = .returned (.tuple #[.agg #[.int .i64 r.1.1, .slice a1 r.1.2.length c1], .int .i64 r.2]) ∧ RowAt encLk w' (.slice a1 r.1.2.length c1) r.1.2 ∧ Below w.heap.size w w'
/-- the five boxes of Where -/
structure WhS (w wr : World) (n : Int) (v : Value) (a : Option Addr) (cap : Nat) (labels : List Int) (sign least : Int) : Prop where
  s : wr.heap[w.heap.size]? = some (.cells #[.int .i64 n, v] 24 (0, 0))
  h : WhW wr (w.heap.size + 1) (w.heap.size + 1 + 1) (w.heap.size + 1 + 1 + 1) a cap labels sign least
  r : wr.heap[w.heap.size + 1 + 1 + 1 + 1]? = some (.cells #[.int .i64 0, .slice none 0 0] 24 (0, 0))
  be : Below w.heap.size w wr
theorem WhS.next {w wr w' : World} {n : Int} {v : Value} {a : Option Addr} {cap : Nat} {labels : List Int} {sign least : Int} (h : WhS w wr n v a cap labels sign least) (hb : Below wr.heap.size wr w') : WhS w w' n v a cap labels sign least :=
  ⟨lk_next hb h.s, h.h.next hb, lk_next hb h.r, h.be.trans (hb.mono h.be.size)⟩
theorem WhS.start (w : World) (n : Int) (v : Value) (a : Option Addr) (cap : Nat) (labels : List Int) (sign least : Int) (hi : IntsAt w (.slice a labels.length cap) labels) :
    WhS w (((((w.alloc (.cells #[.int .i64 n, v] 24)).alloc (.cells #[.slice a labels.length cap] 27)).alloc (.cells #[.int .i64 sign] 3)).alloc (.cells #[.int .i64 least] 3)).alloc (.cells #[.int .i64 0, .slice none 0 0] 24)) n v a cap labels sign least := by
  obtain ⟨w1, h1⟩ : ∃ W : World, W = w.alloc (.cells #[.int .i64 n, v] 24) := ⟨_, rfl⟩
  have b1 : Below w.heap.size w w1 := by rw [h1]; exact (Below.refl _ _).alloc (Nat.le_refl _) _
  have z1 : w1.heap.size = w.heap.size + 1 := by rw [h1]; simp
  have g1 : w1.heap[w.heap.size]? = some (.cells #[.int .i64 n, v] 24 (0, 0)) := by rw [h1]; exact heap_alloc_new _ _
  rw [← h1]
  obtain ⟨w2, h2⟩ : ∃ W : World, W = w1.alloc (.cells #[.slice a labels.length cap] 27) := ⟨_, rfl⟩
  have b2 : Below w1.heap.size w1 w2 := by rw [h2]; exact (Below.refl _ _).alloc (Nat.le_refl _) _
  have z2 : w2.heap.size = w1.heap.size + 1 := by rw [h2]; simp
  have g2 : w2.heap[w1.heap.size]? = some (.cells #[.slice a labels.length cap] 27 (0, 0)) := by rw [h2]; exact heap_alloc_new _ _
  rw [← h2]
  obtain ⟨w3, h3⟩ : ∃ W : World, W = w2.alloc (.cells #[.int .i64 sign] 3) := ⟨_, rfl⟩
  have b3 : Below w2.heap.size w2 w3 := by rw [h3]; exact (Below.refl _ _).alloc (Nat.le_refl _) _
  have z3 : w3.heap.size = w2.heap.size + 1 := by rw [h3]; simp
  have g3 : w3.heap[w2.heap.size]? = some (.cells #[.int .i64 sign] 3 (0, 0)) := by rw [h3]; exact heap_alloc_new _ _
  rw [← h3]
  obtain ⟨w4, h4⟩ : ∃ W : World, W = w3.alloc (.cells #[.int .i64 least] 3) := ⟨_, rfl⟩
  have b4 : Below w3.heap.size w3 w4 := by rw [h4]; exact (Below.refl _ _).alloc (Nat.le_refl _) _
  have z4 : w4.heap.size = w3.heap.size + 1 := by rw [h4]; simp
  have g4 : w4.heap[w3.heap.size]? = some (.cells #[.int .i64 least] 3 (0, 0)) := by rw [h4]; exact heap_alloc_new _ _
  rw [← h4]
  have b5 := (Below.refl w4.heap.size w4).alloc (Nat.le_refl _) (.cells #[.int .i64 0, .slice none 0 0] 24)
  have g5 := heap_alloc_new w4 (.cells #[.int .i64 0, .slice none 0 0] 24)
  have b45 := b4.trans (b5.mono b4.size)
  have b35 := b3.trans (b45.mono b3.size)
  have b25 := b2.trans (b35.mono b2.size)
  have b15 := b1.trans (b25.mono b1.size)
  rw [z1] at z2 g2
  rw [z2] at z3 g3
  rw [z3] at z4 g4
  rw [z4] at g5
  exact ⟨lk_next b25 g1, ⟨lk_next b35 g2, lk_next b45 g3, lk_next b5 g4, hi.below b15⟩, g5, b15⟩
set_option maxRecDepth 100000 in
set_option maxHeartbeats 3200000 in
theorem lwhere_any (n : Int) (ls : List Lk) (a a2 : Option Addr) (cap cap2 : Nat) (labels : List Int) (sign least : Int) (w : World) (hl : RowAt encLk w (.slice a ls.length cap) ls) (hi : IntsAt w (.slice a2 labels.length cap2) labels) :
    Calls Try.prog 25 #[.agg #[.int .i64 n, .slice a ls.length cap], .slice a2 labels.length cap2, .int .i64 sign, .int .i64 least] w (WherePost w (whX n ls labels sign least)) := by
  have hW := WhS.start w n (.slice a ls.length cap) a2 cap2 labels sign least hi
  have hck := fun W h => lcheck_any n a cap ls W h
  have hon := fun W h hln hW => lonly_any n ls a a2 cap cap2 (w.heap.size + 1) (w.heap.size + 1 + 1) (w.heap.size + 1 + 1 + 1) labels sign least W h hln hW
  have hl0 := hl.below hW.be
  have hzw := hW.be.size
  have hFl : (ls.filter (whB labels sign least)).length ≤ ls.length := List.length_filter_le _ _
  unfold WherePost whX
  obtain ⟨F, hF⟩ : ∃ L, ls.filter (whB labels sign least) = L := ⟨_, rfl⟩
  rw [hF] at hon hFl ⊢
  clear hF
  by_cases hS : stS n ls = 0
  case neg =>
    rw [if_pos hS]
    obtain ⟨Z, hZ⟩ : ∃ Z, stS n ls = Z := ⟨_, rfl⟩
    rw [hZ] at hck hS ⊢
    have d1 : (Z == 0) = false := by simpa using hS
    have d2 : (Z != 0) = true := by simpa using hS
    have s0 := cell_blk (j := 0) hW.s
    have s1 := cell_blk (j := 1) hW.s
    have hck2 := hck _ hl0
    clear hon hS hZ hck
    dsimp only
    go_enter Try.func25, Try.ntmps25
    go_wp2_with fail
    refine hck2.mono ?_
    rintro _ w1 ⟨rfl, hb1⟩
    have hW1 := hW.next hb1
    have r0 := cell_blk (j := 0) hW1.r
    have r1 := cell_blk (j := 1) hW1.r
    have g0 := free_blk (j := 0) hW1.r
    have g1 := free_blk (j := 1) hW1.r
    go_wp2_with fail
    have hfin := set_two (u := .int .i64 0) (v := .slice none 0 0) hW1.r
    have t0 := cell_blk (j := 0) hfin
    have t1 := cell_blk (j := 1) hfin
    exact bodyPost_ret (v := .tuple #[.agg #[.int .i64 0, .slice none 0 0], .int .i64 Z]) (by simp [results, Try.results25, go_sem, t0, t1]) rfl ⟨none, 0, rfl, RowAt.nil _, hW1.be.grown (grown_trans grown_lk grown_lk) hW1.be.size (fun k e => by cases e; omega)⟩
  rw [if_neg (by rw [hS]; simp)]
  have hv := (stS_iff n ls).1 hS
  have hln := hv.length_le
  rw [hS] at hck
  have s0 := cell_blk (j := 0) hW.s
  have s1 := cell_blk (j := 1) hW.s
  have hck2 := hck _ hl0
  have hon2 := fun W h hW => hon W h hln hW
  clear hck hS hon hv
  dsimp only
  go_enter Try.func25, Try.ntmps25
  go_wp2_with fail
  refine hck2.mono ?_
  rintro _ w1 ⟨rfl, hb1⟩
  have hW1 := hW.next hb1
  have z0 := cell_blk (j := 0) hW1.s
  have z1 := cell_blk (j := 1) hW1.s
  have hl1 := hl0.below hb1
  go_wp2_with fail
  refine (hon2 _ hl1 hW1.h).mono ?_
  rintro _ w2 ⟨a1, c1, rfl, hr2, hn2, hb2⟩
  have hlt := blk_lt hW1.r
  have hW2 := hW1.next hb2
  have r0 := cell_blk (j := 0) hW2.r
  have r1 := cell_blk (j := 1) hW2.r
  have g0 := free_blk (j := 0) hW2.r
  have g1 := free_blk (j := 1) hW2.r
  go_wp2_with fail
  have hfin := set_two (u := .int .i64 n) (v := .slice a1 F.length c1) hW2.r
  have t0 := cell_blk (j := 0) hfin
  have t1 := cell_blk (j := 1) hfin
  exact bodyPost_ret (v := .tuple #[.agg #[.int .i64 n, .slice a1 F.length c1], .int .i64 0]) (by simp [results, Try.results25, go_sem, t0, t1]) rfl ⟨a1, c1, rfl, hr2.grown (grown_trans grown_lk grown_lk) (fun g e n' c' p hp => by cases e; have := hn2 p (Value.slice.inj hp).1; omega), hW2.be.grown (grown_trans grown_lk grown_lk) hW2.be.size (fun k e => by cases e; omega)⟩
end Go.Proofs.Ytkadeibinhkbjaa
