/- The contracts of the program's counts and copies. -/
import Derived.Test.YtekbpoppajbljaaDoorPatWithin
namespace Go.Proofs.YtekbpoppajbljaaDoor
open Go.RowKit Go.BigFrame

/-- numbers and OK are handed back -/
def IntsOk (w : World) (ys : List Int) (e : Ending) (w' : World) : Prop := ∃ a cap, e = .returned (.tuple #[.slice a ys.length cap, .int .i64 0]) ∧ IntsAt w' (.slice a ys.length cap) ys ∧ Below w.heap.size w w'
def indS (es : List E2) (n : Nat) : List Int := cntV (kA es (fun _ _ _ _ => true) n)
theorem indS_length (es : List E2) (n : Nat) : (indS es n).length = 11 := cntV_length _

set_option maxRecDepth 100000 in
set_option maxHeartbeats 800000 in
theorem induced_any (n : Nat) (a : Option Addr) (cap : Nat) (es : List E2) (w : World) (he : EdgesAt w (.slice a es.length cap) es) (hv : Valid n es) (ht : TabsAt w) :
    Calls Tryd.prog 22 #[.agg #[.int .i64 n, .slice a es.length cap]] w (IntsOk w (indS es n)) := by
  go_enter Tryd.func22, Tryd.ntmps22
  go_wp2_with fail
  refine (gcheck_any n a cap es _ (he.below ((Below.refl _ _).alloc (Nat.le_refl _) _))).mono ?_
  rintro e w1 ⟨rfl, hb1⟩
  rw [(valid_iff n es).2 hv]
  have b0 : w1.cell? ⟨w.heap.size, 0, none⟩ = some (.int .i64 n) := (hb1.cell (p := ⟨w.heap.size, 0, none⟩) (by simp)).trans (cell_blk (heap_alloc_new _ _))
  have b1 : w1.cell? ⟨w.heap.size, 1, none⟩ = some (.slice a es.length cap) := (hb1.cell (p := ⟨w.heap.size, 1, none⟩) (by simp)).trans (cell_blk (heap_alloc_new _ _))
  have hbw : Below w.heap.size w w1 := ((Below.refl _ _).alloc (Nat.le_refl _) _).trans (hb1.mono (by simp))
  clear hb1
  go_wp2_with fail
  refine (sums_all n a cap es _ (he.below hbw) hv (ht.below hbw)).mono ?_
  rintro e w2 ⟨a2, cap2, rfl, hi2, hb2⟩
  go_wp2
  go_ret2
  exact ⟨_, _, rfl, hi2, hbw.trans (hb2.mono hbw.size)⟩

/-- the sum of the products of the first k numbers -/
def dotS (x l : List Int) : Nat → Int
  | 0 => 0
  | k + 1 => dotS x l k + x.getD k 0 * l.getD k 0
def copV (l : List Int) (a k : Nat) : List Int := (List.range 11).map fun (i : Nat) => if i < a then dotS (matV (wAll 11) i) l 11 else if i = a then dotS (matV (wAll 11) i) l k else 0
def copS (l : List Int) : List Int := copV l 11 0
theorem copV_length (l : List Int) (a k : Nat) : (copV l a k).length = 11 := by simp [copV]
theorem copV_get (l : List Int) (a k i : Nat) (hi : i < 11) : (copV l a k)[i]? = some (if i < a then dotS (matV (wAll 11) i) l 11 else if i = a then dotS (matV (wAll 11) i) l k else 0) := by simp [copV, hi]
theorem copV_zero (l : List Int) : copV l 0 0 = cntV [] := by
  apply List.ext_getElem?
  intro j
  by_cases hj : j < 11
  · rw [copV_get _ _ _ _ hj, cntV_get _ _ hj]
    rw [if_neg (by omega)]
    split <;> simp [dotS]
  · rw [List.getElem?_eq_none (by rw [copV_length]; omega), List.getElem?_eq_none (by rw [cntV_length]; omega)]
theorem copV_next (l : List Int) (a : Nat) : copV l a 11 = copV l (a + 1) 0 := by
  unfold copV
  apply List.map_congr_left
  intro i _
  by_cases h1 : i < a
  · rw [if_pos h1, if_pos (by omega)]
  · rw [if_neg h1]
    by_cases h2 : i = a
    · rw [if_pos h2, if_pos (by omega)]
    · rw [if_neg h2, if_neg (by omega)]
      split <;> simp [dotS]
theorem copV_step (l : List Int) (a k : Nat) (ha : a < 11) : (copV l a k).set a (dotS (matV (wAll 11) a) l (k + 1)) = copV l a (k + 1) := by
  apply List.ext_getElem?
  intro j
  by_cases hj : j < 11
  · rw [List.getElem?_set, copV_get _ _ _ _ hj, copV_get _ _ _ _ hj, copV_length]
    by_cases h : a = j
    · subst h; simp [ha]
    · rw [if_neg h]
      by_cases h1 : j < a
      · rw [if_pos h1, if_pos h1]
      · rw [if_neg h1, if_neg h1, if_neg (by omega), if_neg (by omega)]
  · rw [List.getElem?_eq_none (by rw [List.length_set, copV_length]; omega), List.getElem?_eq_none (by rw [copV_length]; omega)]
theorem mat_at (i k : Nat) (hk : k < 11) : (matV (wAll 11) i).getD k 0 = (((wAll 11).filter (fun x => x == (i, k))).length : Int) := by
  rw [List.getD_eq_getElem?_getD, matV_get _ _ _ hk]; rfl
theorem mat_le (i k : Nat) (hk : k < 11) : 0 ≤ (matV (wAll 11) i).getD k 0 ∧ (matV (wAll 11) i).getD k 0 ≤ 704 := by
  have := mat_bd (wAll 11) i k
  have := wAll_le 11 (by omega)
  rw [mat_at i k hk]; omega
theorem mul_bd {x y : Int} {a b : Int} (hx : 0 ≤ x ∧ x ≤ a) (hy : 0 ≤ y ∧ y ≤ b) : 0 ≤ x * y ∧ x * y ≤ a * b :=
  ⟨Int.mul_nonneg hx.1 hy.1, Int.mul_le_mul hx.2 hy.2 hy.1 (by omega)⟩
theorem dotS_bd (i : Nat) (l : List Int) (hl : ∀ k, 0 ≤ l.getD k 0 ∧ l.getD k 0 ≤ 16777216) : ∀ k, k ≤ 11 → 0 ≤ dotS (matV (wAll 11) i) l k ∧ dotS (matV (wAll 11) i) l k ≤ k * 11811160064 := by
  intro k
  induction k with
  | zero => intro _; simp [dotS]
  | succ k ih =>
    intro hk
    have h1 := ih (by omega)
    have h2 := mul_bd (mat_le i k (by omega)) (hl k)
    unfold dotS
    omega
theorem indS_bd (es : List E2) (n : Nat) (hn : n ≤ 64) (k : Nat) : 0 ≤ (indS es n).getD k 0 ∧ (indS es n).getD k 0 ≤ 16777216 := by
  rw [List.getD_eq_getElem?_getD]
  by_cases hk : k < 11
  · unfold indS
    rw [cntV_get _ _ hk]
    have := cnt_bd (kA es (fun _ _ _ _ => true) n) k
    have := kA_le es (fun _ _ _ _ => true) n hn
    simp only [Option.getD_some]; omega
  · rw [List.getElem?_eq_none (by rw [indS_length]; omega)]; simp

/-- numbers in block g -/
def NumAt (w : World) (g : Nat) (l : List Int) : Prop := w.heap[g]? = some (.cells (intsV l).toArray 3 (0, 0))
theorem NumAt.cell {w : World} {g : Nat} {l : List Int} (h : NumAt w g l) (k : Nat) (x : Int) (hk : l[k]? = some x) : w.cell? ⟨g, k, none⟩ = some (.int .i64 x) := by
  rw [cell_blk h]; simp [intsV, hk]
theorem NumAt.set {w : World} {g : Nat} {l : List Int} (h : NumAt w g l) (k : Nat) (x : Int) : NumAt (w.setCell ⟨g, k, none⟩ (.int .i64 x)) g (l.set k x) := by
  unfold NumAt; rw [heap_setCell_same _ _ _ _ _ _ h]; simp [intsV, List.map_set]
theorem NumAt.ints {w : World} {g : Nat} {l : List Int} (h : NumAt w g l) (hl : l.length ≤ 1000000) : IntsAt w (.slice (some ⟨g, 0, none⟩) l.length l.length) l := by
  refine ⟨_, l.length, rfl, Nat.le_refl _, (fun e => by cases e), by omega, fun i x hi => ⟨g, 0, rfl, ?_⟩⟩
  rw [Nat.zero_add]; exact h.cell i x hi

set_option maxRecDepth 100000 in
set_option maxHeartbeats 1600000 in
theorem copies_any (n : Nat) (a : Option Addr) (cap : Nat) (es : List E2) (w : World) (he : EdgesAt w (.slice a es.length cap) es) (hv : Valid n es) (ht : TabsAt w) :
    Calls Tryd.prog 13 #[.agg #[.int .i64 n, .slice a es.length cap]] w (IntsOk w (copS (indS es n))) := by
  have hn : n ≤ 64 := by have := hv.2.1; omega
  have hbd0 : Below w.heap.size w (w.alloc (.cells #[.int .i64 n, .slice a es.length cap] 27)) := (Below.refl _ _).alloc (Nat.le_refl _) _
  go_enter Tryd.func13, Tryd.ntmps13
  go_wp2_with fail
  refine (induced_any n a cap es _ (he.below hbd0) hv (ht.below hbd0)).mono ?_
  rintro e w1 ⟨a1, cap1, rfl, hi1, hb1⟩
  have hil := indS_length es n
  have hib := indS_bd es n hn
  generalize indS es n = l at *
  have hil1 : l.length ≤ 11 := by omega
  have hil2 : 11 ≤ l.length := by omega
  have HIL := Lib.hid hil
  have HIB := Lib.hid hib
  clear hil hib
  have hb01 := hbd0.trans (hb1.mono hbd0.size)
  clear hb1 hbd0
  go_wp2_with fail
  refine (within_any _ (ht.below hb01)).mono ?_
  rintro e w2 ⟨G, rfl, hM2, hG2, hb2⟩
  have hb02 := hb01.trans (hb2.mono hb01.size)
  have hi2 := hi1.below hb2
  have hmk := make11
  clear hb2 hi1
  go_wp2_with fail
  clear hmk
  have hb0 : Below w.heap.size w (w2.alloc (.cells (intsV (cntV [])).toArray 3)) := hb02.alloc hb02.size _
  have hN0 : NumAt (w2.alloc (.cells (intsV (cntV [])).toArray 3)) w2.heap.size (copV l 0 0) := by rw [copV_zero]; exact heap_alloc_new _ _
  have hGl := blk_lt hM2.1
  have hbx : Below w2.heap.size w2 (w2.alloc (.cells (intsV (cntV [])).toArray 3)) := (Below.refl _ _).alloc (Nat.le_refl _) _
  have hwg : w.heap.size ≤ w2.heap.size := hb02.size
  go_loopw [23] (fun i wr => ∃ p : Nat, p ≤ 11 ∧ i = .int .i64 p ∧ Below w2.heap.size w2 wr ∧ NumAt wr w2.heap.size (copV l p 0)) (fun i _ => 11 - (intOf i).toNat)
  case atStart => exact ⟨0, by omega, rfl, hbx, hN0⟩
  case round =>
    clear hN0 hbx hb0
    obtain ⟨p, hp, rfl, hb, hN⟩ := hrel
    by_cases hlt : p < 11
    · have hdp : decide ((p : Int) < 11) = true := by simp; omega
      go_wp2_with fail
      obtain ⟨wo, rfl⟩ : ∃ wo : World, wo = wr := ⟨_, rfl⟩
      go_loopw [28] (fun i wr => ∃ k : Nat, k ≤ l.length ∧ i = .int .i64 k ∧ Below w2.heap.size w2 wr ∧ NumAt wr w2.heap.size (copV l p k)) (fun i _ => l.length - (intOf i).toNat)
      case atStart => exact ⟨0, by omega, rfl, hb, hN⟩
      case round =>
        clear hb hN
        obtain ⟨k, hk, rfl, hb, hN⟩ := hrel
        by_cases hltk : k < l.length
        · obtain ⟨b, off, y, rfl, hy, _, _, c0⟩ := (hi2.below hb).at k hltk
          have hM := hM2.below hb
          have m0 : wr.cell? ⟨G, p, none⟩ = some (.slice (some ⟨G + 1 + p, 0, none⟩) 11 11) := (cell_blk hM.1).trans (rowsA_get _ _ _ hlt hlt)
          have hx := mat_le p k (by omega)
          have m1 : wr.cell? ⟨G + 1 + p, k, none⟩ = some (.int .i64 ((matV (wAll 11) p).getD k 0)) := by
            rw [cell_blk (hM.2 p hlt), mat_at p k (by omega)]; simp [intsV, matV_get _ _ k (by omega)]
          have hyl : l.getD k 0 = y := by rw [List.getD_eq_getElem?_getD, hy]; rfl
          have hyb := HIB.out k
          rw [hyl] at hyb
          have hxy := mul_bd hx hyb
          have hd := dotS_bd p l HIB.out k (by omega)
          have n0 : wr.cell? ⟨w2.heap.size, p, none⟩ = some (.int .i64 (dotS (matV (wAll 11) p) l k)) := hN.cell p _ (by rw [copV_get _ _ _ _ hlt, if_neg (by omega), if_pos rfl])
          have n1 : wr.frozen? ⟨w2.heap.size, p, none⟩ = false := free_blk hN
          have HD : Hid (dotS (matV (wAll 11) p) l (k + 1) = dotS (matV (wAll 11) p) l k + (matV (wAll 11) p).getD k 0 * y) := by show _ = _; rw [dotS, hyl]
          have HS := Lib.hid (copV_step l p k hlt)
          have HN := Lib.hid hN
          have hz2 : w2.heap.size < wr.heap.size := blk_lt hN
          clear hy hyl hN
          generalize (matV (wAll 11) p).getD k 0 = x at *
          generalize dotS (matV (wAll 11) p) l k = dk at *
          have hw1 : IntKind.i64.wrap (x * y) = x * y := IntWalk.i64_in _ (by omega)
          have hw2 : IntKind.i64.wrap (dk + x * y) = dk + x * y := IntWalk.i64_in _ (by omega)
          go_wp2_with fail
          go_region
          go_wp2_with fail
          go_roundw
          case rel => exact ⟨k + 1, by omega, by go_num, (hb.setCell (p := ⟨w2.heap.size, p, none⟩) (Nat.le_refl _) _).drew, by rw [← HS.out, HD.out]; exact HN.out.set p _⟩
          case measure => simp [intOf]; omega
        · have hk11 : k = 11 := by omega
          go_wp2_with fail
          go_roundw
          case rel => exact ⟨p + 1, by omega, by go_num, hb, by rw [← copV_next, ← hk11]; exact hN⟩
          case measure => simp [intOf]; omega
    · obtain rfl : p = 11 := by omega
      have hi := hN.ints (by rw [copV_length]; omega)
      have hcl := copV_length l 11 0
      go_wp2_with fail
      go_ret2
      refine ⟨_, _, ?_, hi, hb02.trans (hb.mono hwg)⟩
      rw [copS, hcl]
      rfl

end Go.Proofs.YtekbpoppajbljaaDoor
