/- The contract of the program's search of a region. -/
import Derived.Test.YtkknknehchnccaaDoorRepSet
import Derived.Test.YtkknknehchnccaaDoorIClone
namespace Go.Proofs.YtkknknehchnccaaDoor
open Go.RowKit Go.BigFrame

@[go_sem] theorem ite_minC (a b : Nat) : (if b < a then (b : Int) else (a : Int)) = min (a : Int) (b : Int) := by split <;> omega
theorem MaskAt.congr {w : World} {g T m : Nat} {F G : Nat → Nat} (h : MaskAt w g T m F) (e : ∀ x, x < m → F x = G x) : MaskAt w g T m G := by
  have : fnU m F = fnU m G := List.map_congr_left fun x hx => by rw [e x (List.mem_range.1 hx)]
  unfold MaskAt; rw [← this]; exact h
theorem rowP {n p q : Nat} {es : List E2} (hv : Valid n es) (hp : p < n) (hq : q < n) (hne : p ≠ q) (x : Nat) : updN (updN (rowN es) p (rowN es p ||| 2 ^ q)) q (rowN es q ||| 2 ^ p) x = mskN (adjP es p q x) n := by
  apply Nat.eq_of_testBit_eq
  intro i
  rw [mskN_bit]
  unfold updN adjP
  by_cases h1 : x = q
  · subst h1
    rw [if_pos rfl, orN_bit, row_bits hv]
    by_cases e : i = p
    · subst e; simp [hp]
    · have : ¬ (x = p ∧ i = x) := fun h => hne h.1.symm
      simp [e, this]
  · rw [if_neg h1]
    by_cases h2 : x = p
    · subst h2
      rw [if_pos rfl, orN_bit, row_bits hv]
      by_cases e : i = q
      · subst e; simp [hq]
      · have : ¬ (x = q ∧ i = x) := fun h => hne h.1
        simp [e, this]
    · rw [if_neg h2, row_bits hv]
      simp [h1, h2]
theorem regS_more {B : Nat → Nat → Bool} {n : Nat} {c : Nat → Nat} {k p q w : Nat} {F : Nat → Bool} {W Z : List Nat} (h : RegS B n c k p q F (W ++ [w])) (hZ : ∀ x, x ∈ Z ↔ x < n ∧ B w x = true ∧ c x = k ∧ F x = false) :
    RegS B n c k p q (fun x => F x || decide (x ∈ Z)) (W ++ Z) := by
  refine regS_step h (show w ∈ W ++ [w] by simp) (fun x => ?_) (fun x hx => ?_) (fun x hx hf => ?_) (fun x hx => ?_)
  · simp only [Bool.or_eq_true, decide_eq_true_eq, hZ]
    constructor
    · rintro (h1 | h1)
      · exact .inl h1
      · exact .inr ⟨h1.1, h1.2.1, h1.2.2.1⟩
    · rintro (h1 | h1)
      · exact .inl h1
      · cases hf : F x with
        | true => exact .inl rfl
        | false => exact .inr ⟨h1.1, h1.2.1, h1.2.2, rfl⟩
  · rcases List.mem_append.1 hx with h1 | h1
    · exact .inr (List.mem_append_left _ h1)
    · exact .inl (List.mem_singleton.1 h1)
  · simp only [Bool.or_eq_true, decide_eq_true_eq] at hx
    rcases hx with h1 | h1
    · rw [hf] at h1; cases h1
    · exact List.mem_append_right _ h1
  · simp only [Bool.or_eq_true, decide_eq_true_eq]
    rcases List.mem_append.1 hx with h1 | h1
    · exact .inl (h.todo x (List.mem_append_left _ h1))
    · exact .inr h1
/-- a row that grows beside the rows of the graph and a list -/
structure RgL (w : World) (s g T n : Nat) (RW : Nat → Nat) (az : Option Addr) (zc : Nat) (Z : List Int) (vs : Value) (W : List Nat) (wr : World) : Prop where
  own : wr.ownsRow s 3 1 vs (castL W).length (intsV (castL W))
  rows : MaskAt wr g T n RW
  z : IntsAt wr (.slice az Z.length zc) Z
  zl : ∀ p, az = some p → p.block < wr.heap.size ∧ vs.ownBlock ≠ some p.block
  be : Below w.heap.size w wr
  sz : s ≤ wr.heap.size
section
variable {w wr w' : World} {s g T n zc zc' : Nat} {RW : Nat → Nat} {az az' : Option Addr} {Z Z' : List Int} {vs v' : Value} {W : List Nat}
theorem RgL.push (h : RgL w s g T n RW az zc Z vs W wr) (hgs : g < s) (hws : w.heap.size ≤ s) (x : Nat) (o : Obj) (hown : w'.ownsRow s 3 1 v' (castL W ++ [(x : Int)]).length (intsV (castL W ++ [(x : Int)]))) (hg : (wr.alloc o).grownBy w' vs.ownBlock)
    (hat : v'.ownBlock = vs.ownBlock ∨ v'.ownBlock = some (wr.alloc o).heap.size) : RgL w s g T n RW az zc Z v' (W ++ [x]) w' := by
  have hb := (Below.refl wr.heap.size wr).alloc (Nat.le_refl _) o
  have hlt := fun k e => (h.own.lt k e).1
  have hs1 : (wr.alloc o).heap.size = wr.heap.size + 1 := by simp
  refine ⟨by rw [castL_snoc]; exact hown, grown_blk hg (lit_next' hb h.rows) (fun e => by have := hlt _ e.symm; omega), (h.z.below hb).grown hg (fun k e n' c' p hp => ?_), fun p hp => ?_, (h.be.trans (hb.mono h.be.size)).grown hg (by have := h.be.size; omega) (fun k e => by have := hlt k e; omega), by have := hg.size; have := h.sz; omega⟩
  · have := (h.zl p (Value.slice.inj hp).1).2
    intro e2
    rw [e2] at this
    exact this e
  · obtain ⟨h1, h2⟩ := h.zl p hp
    refine ⟨by have := hg.size; omega, ?_⟩
    rcases hat with e | e
    · rw [e]; exact h2
    · rw [e]; intro e2; have := Option.some.inj e2; omega
theorem RgL.list (h : RgL w s g T n RW az zc Z vs W wr) (hb : Below wr.heap.size wr w') (hi : IntsAt w' (.slice az' Z'.length zc') Z') (ha : ∀ p, az' = some p → wr.heap.size ≤ p.block) (hal : ∀ p, az' = some p → p.block < w'.heap.size) : RgL w s g T n RW az' zc' Z' vs W w' :=
  ⟨h.own.kept (grown_of_below hb) (Classical.em _), lit_next' hb h.rows, hi, fun p hp => ⟨hal p hp, fun e => by have := (h.own.lt _ e).2; have := ha p hp; omega⟩, h.be.trans (hb.mono h.be.size), Nat.le_trans h.sz hb.size⟩
theorem RgL.bare (h : RgL w s g T n RW az zc Z vs W wr) : RgL w s g T n RW none 0 [] vs W wr := ⟨h.own, h.rows, ints_nil _, fun p hp => (by cases hp), h.be, h.sz⟩
end
theorem owns_blk {w : World} {base T size n : Nat} {a : Option Addr} {cap : Nat} {xs : List Value} (h : w.ownsRow base T size (.slice a n cap) n xs) : ∀ p, a = some p → p.block < w.heap.size := by
  rintro p rfl
  exact (h.lt p.block rfl).2
theorem snoc_split {α : Type} (W : List α) (h : W ≠ []) : ∃ V v, W = V ++ [v] := ⟨W.dropLast, W.getLast h, (List.dropLast_concat_getLast h).symm⟩
set_option maxRecDepth 100000 in
set_option maxHeartbeats 6400000 in
theorem region_any (n p q : Nat) (a a2 : Option Addr) (cap c2 : Nat) (es : List E2) (l : List Int) (w : World) (he : EdgesAt w (.slice a es.length cap) es) (hi : IntsAt w (.slice a2 l.length c2) l) (hv : Valid n es) (hl : l.length = n)
    (hnn : ∀ v, v < n → l[v]? = some (nfN l v : Int)) (hp : p < n) (hq : q < n) (hne : p ≠ q) (hT : TzAt w) :
    Calls Tryd.prog 87 #[.agg #[.int .i64 n, .slice a es.length cap, .slice a2 l.length c2], .int .i64 p, .int .i64 q] w fun e w' => e = .returned (.tuple #[.int .u64 (mskN (regB es n l p q) n : Int), .int .i64 (min (nfN l p) (nfN l q) : Nat)]) ∧ Below w.heap.size w w' := by
  have hn : n ≤ 64 := by have := hv.2.1; omega
  have hll : l.length ≤ n ∧ n ≤ l.length := by omega
  have HL := Lib.hid hl
  have HNN := Lib.hid hnn
  clear hl hnn
  obtain ⟨K, hK⟩ : ∃ K, min (nfN l p) (nfN l q) = K := ⟨_, rfl⟩
  have HK := Lib.hid hK
  obtain ⟨RG, hRG⟩ : ∃ M, mskN (regB es n l p q) n = M := ⟨_, rfl⟩
  have HRG := Lib.hid hRG
  rw [hK, hRG]
  clear hRG hK
  have hb0 : Below w.heap.size w (w.alloc (.cells #[.int .i64 n, .slice a es.length cap, .slice a2 l.length c2] 62)) := (Below.refl _ _).alloc (Nat.le_refl _) _
  have hG0 := heap_alloc_new w (.cells #[.int .i64 n, .slice a es.length cap, .slice a2 l.length c2] 62)
  go_enter Tryd.func87, Tryd.ntmps87
  go_wp2_with fail
  refine (rows_any n a cap es _ (he.below hb0) hv).mono ?_
  rintro e w1 ⟨g, rfl, hg, hR, hb1⟩
  have hb01 := hb0.trans (hb1.mono hb0.size)
  have hG1 := lit_next' hb1 hG0
  have hz0 : (w.alloc (.cells #[.int .i64 n, .slice a es.length cap, .slice a2 l.length c2] 62)).heap.size = w.heap.size + 1 := by simp
  rw [hz0] at hg
  have hgw : w.heap.size < g := by omega
  have hRM : MaskAt w1 g 97 n (rowN es) := hR
  have hp64 : p < 64 := by omega
  have hq64 : q < 64 := by omega
  have hp3 : (p : Int) < n := by omega
  have hq3 : (q : Int) < n := by omega
  have hbp := fun W => bit_any p hp64 W
  have hbq := fun W => bit_any q hq64 W
  have ho1 := bits_or_u64_nat (rowN es p) (2 ^ q) (rowN_lt64 hv p) (pow64 q hq64)
  have ho2 := bits_or_u64_nat (rowN es q) (2 ^ p) (rowN_lt64 hv q) (pow64 p hp64)
  have hRP := rowP hv hp hq hne
  have hin0 : 2 ^ p ||| 2 ^ q = mskN (fun y => decide (y = p) || decide (y = q)) n := by rw [mskN_one n p hp, mskN_one n q hq, mskN_join]
  have ho3 := bits_or_u64_nat (2 ^ p) (2 ^ q) (pow64 p hp64) (pow64 q hq64)
  rw [hin0] at ho3
  have hRS := hRM.set p (rowN es p ||| 2 ^ q)
  have r0 := hRM.cell p hp
  have rf : ∀ j, w1.frozen? ⟨g, j, none⟩ = false := fun j => free_blk hRM
  have r1 := hRS.cell q hq
  rw [show updN (rowN es) p (rowN es p ||| 2 ^ q) q = rowN es q by unfold updN; rw [if_neg (Ne.symm hne)]] at r1
  have hbS : Below w.heap.size w (w1.setCell ⟨g, p, none⟩ (.int .u64 ((rowN es p ||| 2 ^ q : Nat) : Int))) := hb01.setCell (p := ⟨g, p, none⟩) (by show w.heap.size ≤ g; omega) _
  have hGS : (w1.setCell ⟨g, p, none⟩ (.int .u64 ((rowN es p ||| 2 ^ q : Nat) : Int))).heap[w.heap.size]? = _ := (Below.heap_setCell _ _ _ _ (by show w.heap.size ≠ g; omega)).trans hG1
  have hRW := (hRS.set q (rowN es q ||| 2 ^ p)).congr (fun x _ => hRP x)
  obtain ⟨M1, hM1⟩ : ∃ M, rowN es p ||| 2 ^ q = M := ⟨_, rfl⟩
  rw [hM1] at ho1 r1 hRS hbS hRW hGS
  obtain ⟨M2, hM2⟩ : ∃ M, rowN es q ||| 2 ^ p = M := ⟨_, rfl⟩
  rw [hM2] at ho2 hRW
  obtain ⟨P, hP⟩ : ∃ M, 2 ^ p = M := ⟨_, rfl⟩
  rw [hP] at hbp ho2 ho3
  obtain ⟨Q, hQ⟩ : ∃ M, 2 ^ q = M := ⟨_, rfl⟩
  rw [hQ] at hbq ho1 ho3
  obtain ⟨X1, hX1⟩ : ∃ M, rowN es p = M := ⟨_, rfl⟩
  rw [hX1] at r0 ho1
  obtain ⟨X2, hX2⟩ : ∃ M, rowN es q = M := ⟨_, rfl⟩
  rw [hX2] at r1 ho2
  have hne2 : ¬ q = p := fun e => hne e.symm
  obtain ⟨w2, hw2⟩ : ∃ W : World, W = (w1.setCell ⟨g, p, none⟩ (.int .u64 (M1 : Int))).drew := ⟨_, rfl⟩
  have r1d : w2.cell? ⟨g, q, none⟩ = some (.int .u64 (X2 : Int)) := by rw [hw2]; exact r1
  have rf2 : ∀ j, w2.frozen? ⟨g, j, none⟩ = false := fun j => by rw [hw2]; exact free_blk hRS
  have hb2 : Below w.heap.size w w2 := by rw [hw2]; exact hbS.drew
  have hG2 : w2.heap[w.heap.size]? = some (.cells #[.int .i64 n, .slice a es.length cap, .slice a2 l.length c2] 62 (0, 0)) := by rw [hw2]; exact hGS
  have hRW2 : MaskAt (w2.setCell ⟨g, q, none⟩ (.int .u64 (M2 : Int))) g 97 n (fun x => mskN (adjP es p q x) n) := by rw [hw2]; exact hRW
  have HW2 := Lib.hid hw2
  have hG3 : (w2.setCell ⟨g, q, none⟩ (.int .u64 (M2 : Int))).heap[w.heap.size]? = _ := (Below.heap_setCell _ _ _ _ (by show w.heap.size ≠ g; omega)).trans hG2
  have hb3 : Below w.heap.size w (w2.setCell ⟨g, q, none⟩ (.int .u64 (M2 : Int))) := hb2.setCell (p := ⟨g, q, none⟩) (by show w.heap.size ≤ g; omega) _
  obtain ⟨w3, hw3⟩ : ∃ W : World, W = (w2.setCell ⟨g, q, none⟩ (.int .u64 (M2 : Int))).drew := ⟨_, rfl⟩
  have hG3' : w3.heap[w.heap.size]? = some (.cells #[.int .i64 n, .slice a es.length cap, .slice a2 l.length c2] 62 (0, 0)) := by rw [hw3]; exact hG3
  have hb3' : Below w.heap.size w w3 := by rw [hw3]; exact hb3.drew
  have hRW3 : MaskAt w3 g 97 n (fun x => mskN (adjP es p q x) n) := by rw [hw3]; exact hRW2
  have HW3 := Lib.hid hw3
  clear hw2 hw3 hM1 hM2 hP hQ hX1 hX2 hRP hin0 hRS hbS hGS hRW hRW2 hG3 hb3 r1 hG2 hb2 hRM hR hb1 hb0 hG0 hz0
  go_wp2_with fail
  refine wp_region_still_tail 8 (by kernel_rfl) (by kernel_rfl) ?_
  simp only [List.take_succ_cons, List.take_zero, List.drop_succ_cons, List.drop_zero]
  repeat still_step
  still_call ((hbq _).mono fun _ _ h => ⟨h.1, h.2.symm⟩)
  repeat still_step
  refine wpStill_nil ?_
  change wpList _ _ _ _ _ w1.drew
  go_wp2_with fail
  rw [← HW2.out]
  refine wp_region_still_tail 8 (by kernel_rfl) (by kernel_rfl) ?_
  simp only [List.take_succ_cons, List.take_zero, List.drop_succ_cons, List.drop_zero]
  repeat still_step
  still_call ((hbp _).mono fun _ _ h => ⟨h.1, h.2.symm⟩)
  repeat still_step
  refine wpStill_nil ?_
  change wpList _ _ _ _ _ w2.drew
  go_wp2_with fail
  rw [← HW3.out]
  obtain ⟨b2, o2, y, rfl, hy, -, -, c0⟩ := (hi.below hb3').at p (by omega)
  obtain ⟨b2', o2', y', e', hy', -, -, c1⟩ := (hi.below hb3').at q (by omega)
  cases e'
  rw [HNN.out p hp] at hy
  rw [HNN.out q hq] at hy'
  obtain rfl := Option.some.inj hy
  obtain rfl := Option.some.inj hy'
  have hmin : min ((nfN l p : Nat) : Int) (nfN l q : Int) = (K : Int) := by have := HK.out; omega
  have hlev : ∀ W : World, IntsAt W (.slice (some ⟨b2, o2, none⟩) l.length c2) l → Calls Tryd.prog 127 #[.slice (some ⟨b2, o2, none⟩) l.length c2, .int .i64 (K : Int)] W fun e w' => e = .returned (.int .u64 (mskN (levS l (K : Int)) n : Int)) ∧ W = w' := fun W h =>
    (level_any (some ⟨b2, o2, none⟩) c2 l (K : Int) W h (by omega)).mono fun e w' h => ⟨by rw [h.1, HL.out], h.2⟩
  have hl3 : (p : Int) < l.length := by omega
  have hl4 : (q : Int) < l.length := by omega
  have hin1 := mskN_meet (fun y => decide (y = p) || decide (y = q)) (levS l (K : Int)) n
  have hand := bits_and_u64_nat (mskN (fun y => decide (y = p) || decide (y = q)) n) (mskN (levS l (K : Int)) n) (mskN_lt _ n hn) (mskN_lt _ n hn)
  rw [hin1] at hand
  have hlist := fun W h => list_any (mskN (fun y => (decide (y = p) || decide (y = q)) && levS l (K : Int) y) n) (mskN_lt _ n hn) W h
  rw [mskN_list _ n hn] at hlist
  have hmr := make_room n (by omega)
  have g2 := cell_blk (j := 2) hG3'
  obtain ⟨IN, hIN⟩ : ∃ M, mskN (levS l K) n = M := ⟨_, rfl⟩
  have HIN := Lib.hid hIN
  have hINl : IN < 18446744073709551616 := by rw [← hIN]; exact mskN_lt _ n hn
  rw [hIN] at hlev hin1 hand
  obtain ⟨PQ, hPQ⟩ : ∃ M, mskN (fun y => decide (y = p) || decide (y = q)) n = M := ⟨_, rfl⟩
  rw [hPQ] at ho3 hand hin1
  obtain ⟨Z0, hZ0⟩ : ∃ Z, selL n (fun y => (decide (y = p) || decide (y = q)) && levS l K y) = Z := ⟨_, rfl⟩
  have hZm : ∀ x, x ∈ Z0 ↔ (x = p ∨ x = q) ∧ nfN l x = K := fun x => by
    rw [← hZ0]
    unfold selL levS
    rw [List.mem_filter, List.mem_range, Bool.and_eq_true, Bool.or_eq_true, decide_eq_true_eq, decide_eq_true_eq, decide_eq_true_eq]
    constructor
    · rintro ⟨h1, h2, h3⟩
      rw [HNN.out x h1] at h3
      simp only [Option.getD_some] at h3
      exact ⟨h2, by omega⟩
    · rintro ⟨h2, h3⟩
      have h1 : x < n := by rcases h2 with rfl | rfl <;> assumption
      refine ⟨h1, h2, ?_⟩
      rw [HNN.out x h1]
      simp only [Option.getD_some]; omega
  have hZl : Z0.length ≤ n := by rw [← hZ0]; exact selL_len _ _
  have hZn : Z0.Nodup := by rw [← hZ0]; exact selL_nodup _ _
  rw [hZ0] at hlist
  have HZM := Lib.hid hZm
  obtain ⟨MZ, hMZ⟩ : ∃ M, mskN (fun y => (decide (y = p) || decide (y = q)) && levS l K y) n = M := ⟨_, rfl⟩
  rw [hMZ] at hand hlist
  clear hin1 hIN hPQ hZ0 hMZ hZm hy hy' ho1 ho2
  go_quiet (fail)
  obtain ⟨w4, hw4⟩ : ∃ W : World, W = w3.drewN nq := ⟨_, rfl⟩
  have hb4 : Below w.heap.size w w4 := by rw [hw4]; exact hb3'.drewN _
  have hRW4 : MaskAt w4 g 97 n (fun x => mskN (adjP es p q x) n) := by rw [hw4]; exact hRW3
  have g4 : w4.cell? ⟨w.heap.size, 2, none⟩ = some (.slice (some ⟨b2, o2, none⟩) l.length c2) := by rw [hw4]; exact g2
  rw [← hw4]
  have hlev4 := hlev w4 (hi.below hb4)
  clear hw4 g2 c0 c1 hRW3 hG3' hb3' hlev hmin
  go_wp2_with (first
    | (go_at_call 127; refine hlev4.mono ?_; rintro e w5 ⟨rfl, rfl⟩)
    | (go_at_call 103; first | ((with_reducible refine (hbp _).mono ?_); rintro e w5 ⟨rfl, rfl⟩) | ((with_reducible refine (hbq _).mono ?_); rintro e w5 ⟨rfl, rfl⟩)))
  have hown5 := ownsI_room w4 w4.heap.size n (Nat.le_refl _) (by omega)
  have hb5 := hb4.alloc hb4.size (.cells (intsV (List.replicate n 0)).toArray 3)
  have hbn5 := (Below.refl w4.heap.size w4).alloc (Nat.le_refl _) (.cells (intsV (List.replicate n 0)).toArray 3)
  have hRW5 := hRW4.below hbn5
  have hgs : g < w4.heap.size := blk_lt hRW4
  have hws : w.heap.size ≤ w4.heap.size := hb4.size
  have hL5 : RgL w w4.heap.size g 97 n (fun x => mskN (adjP es p q x) n) none 0 [] (.slice (some ⟨w4.heap.size, 0, none⟩) 0 n) [] (w4.alloc (.cells (intsV (List.replicate n 0)).toArray 3)) :=
    ⟨hown5, hRW5, ints_nil _, fun p hp => (by cases hp), hb5, by simp⟩
  refine (hlist _ (hT.below hb5)).mono ?_
  rintro e w6 ⟨vz, rfl, hownz, hb6⟩
  have hzl0 : (castL Z0).length = Z0.length := castL_length _
  have hblk0 : ∀ k, vz.ownBlock = some k → k < w6.heap.size := fun k e => (hownz.lt k e).2
  obtain ⟨az, cz, rfl, hiz, haz⟩ := IntsAt.of_owns hownz (by omega)
  have hL6 := hL5.list hb6 hiz haz (fun p hp => hblk0 p.block (by rw [hp]; rfl))
  obtain ⟨s, hs⟩ : ∃ s, w4.heap.size = s := ⟨_, rfl⟩
  rw [hs] at hgs hws hL6 ⊢
  have HZL0 := Lib.hid hzl0
  have hF0 : Hid (0 = mskN (fun y => decide (y ∈ Z0.take 0)) n) := (show _ = _ from ((mskN_zero _ n hn).2 (fun x _ => by simp)).symm)
  clear hzl0 hown5 hb5 hbn5 hRW5 hL5 hownz hblk0 hb6 hiz haz hlist hs hlev4 g4 hb4 hRW4 hmr hand ho3
  go_wp2_with fail
  go_loopw [11, 12, 64] (fun vf vs vi wr => ∃ t : Nat, t ≤ (castL Z0).length ∧ vi = .int .i64 t ∧ (∃ M : Nat, vf = .int .u64 M ∧ M < 18446744073709551616 ∧ Hid (M = mskN (fun y => decide (y ∈ Z0.take t)) n)) ∧ ∃ W : List Nat, Hid (W = Z0.take t) ∧ RgL w s g 97 n (fun x => mskN (adjP es p q x) n) az cz (castL Z0) vs W wr) (fun _ _ vi _ => (castL Z0).length - (intOf vi).toNat)
  case atStart => exact ⟨0, Nat.zero_le _, rfl, ⟨0, rfl, by decide, hF0⟩, [], (show _ = _ by simp), hL6⟩
  case round =>
    clear hF0 hL6
    obtain ⟨t, ht, rfl, ⟨M, rfl, hM, HM⟩, W, HW, hL⟩ := hrel
    by_cases hlt : t < (castL Z0).length
    · have hlt3 : (t : Int) < (castL Z0).length := by omega
      have hzl0 := HZL0.out
      have hts : t < Z0.length := by omega
      have hx : Z0[t]? = some (Z0[t]'hts) := List.getElem?_eq_getElem hts
      obtain ⟨x, hxx⟩ : ∃ x, (Z0[t]'hts) = x := ⟨_, rfl⟩
      rw [hxx] at hx
      have hxn : x < n := by rcases ((HZM.out x).1 (List.mem_of_getElem? hx)).1 with rfl | rfl <;> assumption
      have hx64 : x < 64 := by omega
      obtain ⟨b9, o9, z, rfl, hz9, _, _, c0⟩ := hL.z.at t hlt
      have hzx : z = x := by
        unfold castL at hz9
        rw [List.getElem?_map, hx] at hz9
        exact (Option.some.inj hz9).symm
      subst hzx
      have htk := take_at _ _ _ hx
      have hbit := fun W => bit_any x hx64 W
      have hor := bits_or_u64_nat M (2 ^ x) hM (pow64 x hx64)
      have hol := orN_lt M x hM hx64
      have hM2 : Hid (M ||| 2 ^ x = mskN (fun y => decide (y ∈ Z0.take (t + 1))) n) := (show _ = _ by
        rw [HM.out, mskN_or _ n x hxn, htk]
        refine mskN_congr n fun y _ => ?_
        rw [Bool.eq_iff_iff]
        simp only [Bool.or_eq_true, decide_eq_true_eq, List.mem_append, List.mem_singleton])
      have HW2 : Hid (W ++ [x] = Z0.take (t + 1)) := (show _ = _ by rw [htk, HW.out])
      obtain ⟨P2, hP2⟩ : ∃ V, 2 ^ x = V := ⟨_, rfl⟩
      rw [hP2] at hor hbit hol hM2
      obtain ⟨M2, hMM⟩ : ∃ m, M ||| P2 = m := ⟨_, rfl⟩
      rw [hMM] at hor hol hM2
      obtain ⟨av, cv, hvs⟩ := owns_shape hL.own
      subst hvs
      have hWl : (castL W).length ≤ 64 := by rw [castL_length, HW.out, List.length_take]; omega
      have hlx := ints_lit1 wr (x : Int) 3
      have hownA := hL.own.alloc (.cells #[.int .i64 (x : Int)] 3)
      have hszA : s ≤ (wr.alloc (.cells #[.int .i64 (x : Int)] 3)).heap.size := by have := hL.sz; simp; omega
      clear hzl0 hMM hP2 hz9 hx hxx htk HM HW
      go_wp2_with (first
        | (go_at_call 103; refine (hbit _).mono ?_; rintro e w5 ⟨rfl, rfl⟩)
        | (at_builtin; refine wpList_app_ints_at intsT rfl _ _ rfl s (.slice av (castL W).length cv) _ (castL W) [(x : Int)] rfl hownA rfl hlx (by simp; omega) hszA ?_; intro v7 w7 hown7 hg7 hat7))
      have hL7 := hL.push hgs hws x _ hown7 hg7 hat7
      go_roundw
      case rel => exact ⟨t + 1, by omega, by go_num, ⟨M2, rfl, hol, hM2⟩, W ++ [x], HW2, hL7⟩
      case measure => simp [intOf]; omega
    · obtain rfl : (castL Z0).length = t := by omega
      have hW0 : W = Z0 := by rw [HW.out, HZL0.out, List.take_length]
      subst hW0
      have hFs : Hid (RegS (adjP es p q) n (nfN l) K p q (fun y => decide (y ∈ W)) W) := (show RegS _ _ _ _ _ _ _ _ from regS_start hp hq (fun x => by rw [decide_eq_true_eq]; exact HZM.out x) (fun x => by rw [decide_eq_true_eq]))
      have hMs : Hid (M = mskN (fun y => decide (y ∈ W)) n) := (show _ = _ by rw [HM.out, HZL0.out, List.take_length])
      have hL0 := hL.bare
      clear HM HW hL HZM
      go_wp2_with fail
      go_loopw [11, 12] (fun vf vs wr => ∃ (F : Nat → Bool) (W : List Nat) (M : Nat), vf = .int .u64 M ∧ M < 18446744073709551616 ∧ Hid (M = mskN F n) ∧ Hid (RegS (adjP es p q) n (nfN l) K p q F W) ∧ Hid (W.Nodup) ∧ RgL w s g 97 n (fun x => mskN (adjP es p q x) n) none 0 [] vs W wr) (fun vf vs _ => 2 * (64 - (bitsL (intOf vf).toNat).length) + lenV vs)
      case atStart => exact ⟨_, W, M, rfl, hM, hMs, hFs, hZn, hL0⟩
      case round =>
        clear hMs hFs hL0 hM hZl hZn
        obtain ⟨F, W, M, rfl, hM, HM, HS, HND, hL⟩ := hrel
        have hWl : (castL W).length ≤ 64 := by
          rw [castL_length]
          exact Nat.le_trans (nodup_le n W HND.out (fun x hx => (HS.out.lev x (HS.out.todo x hx)).1)) hn
        by_cases hW : W = []
        · subst hW
          have hreg := regS_end HS.out
          have hres : M = RG := by
            rw [HM.out, ← HRG.out]
            have hKK := HK.out
            subst hKK
            exact mskN_congr n fun x _ => regB_of hreg x
          obtain ⟨av, cv, hvs⟩ := owns_shape hL.own
          subst hvs
          have hbe := hL.be
          have HRES := Lib.hid hres
          clear hL HS HM hreg hres
          go_wp2_with fail
          go_ret2
          exact ⟨by rw [HRES.out]; rfl, hbe⟩
        · obtain ⟨V, x, rfl⟩ := snoc_split W hW
          have hxF := HS.out.todo x (by simp)
          obtain ⟨hxn, hxK⟩ := HS.out.lev x hxF
          have hx64 : x < 64 := by omega
          have hxn3 : (x : Int) < n := by omega
          have hm : (castL (V ++ [x])).length = (castL V).length + 1 := by rw [castL_snoc, List.length_append]; rfl
          have hown := hL.own
          rw [hm] at hown hWl
          obtain ⟨b9, cp, hvs, hb9, hcp, hb9l, hfz, hcell⟩ := ownsI_at hown (by omega)
          subst hvs
          have c0 := hcell (castL V).length (x : Int) (by rw [castL_snoc, List.getElem?_append_right (Nat.le_refl _)]; simp)
          have hownV := ownsI_take hown (castL V).length (by omega) (by simp)
          rw [castL_snoc, List.take_left' rfl] at hownV
          have hLV : RgL w s g 97 n (fun x => mskN (adjP es p q x) n) none 0 [] (.slice (some ⟨b9, 0, none⟩) (castL V).length cp) V wr := ⟨hownV, hL.rows, ints_nil _, fun p hp => (by cases hp), hL.be, hL.sz⟩
          have r0 := hL.rows.cell x hxn
          have hRl := mskN_lt (adjP es p q x) n hn
          have ha1 := bits_and_u64_nat (mskN (adjP es p q x) n) IN hRl hINl
          have hi1 : mskN (adjP es p q x) n &&& IN = mskN (fun y => adjP es p q x y && levS l (K : Int) y) n := by rw [← HIN.out, mskN_meet]
          rw [hi1] at ha1
          have ha2 := u64_andNot_nat (mskN (fun y => adjP es p q x y && levS l (K : Int) y) n) M (mskN_lt _ n hn) hM
          have hi2 : mskN (fun y => adjP es p q x y && levS l (K : Int) y) n &&& (18446744073709551615 - M) = mskN (fun y => (adjP es p q x y && levS l (K : Int) y) && !F y) n := by rw [HM.out, mskN_off _ _ n hn]
          rw [hi2] at ha2
          have hlist := list_any (mskN (fun y => (adjP es p q x y && levS l (K : Int) y) && !F y) n) (mskN_lt _ n hn) wr (hT.below hL.be)
          rw [mskN_list _ n hn] at hlist
          obtain ⟨Z, hZ⟩ : ∃ Z, selL n (fun y => (adjP es p q x y && levS l (K : Int) y) && !F y) = Z := ⟨_, rfl⟩
          have hZm : ∀ y, y ∈ Z ↔ y < n ∧ adjP es p q x y = true ∧ nfN l y = K ∧ F y = false := fun y => by
            rw [← hZ]
            unfold selL levS
            rw [List.mem_filter, List.mem_range, Bool.and_eq_true, Bool.and_eq_true, decide_eq_true_eq, Bool.not_eq_true']
            constructor
            · rintro ⟨h1, ⟨h2, h3⟩, h4⟩
              rw [HNN.out y h1] at h3
              simp only [Option.getD_some] at h3
              exact ⟨h1, h2, by omega, h4⟩
            · rintro ⟨h1, h2, h3, h4⟩
              refine ⟨h1, ⟨h2, ?_⟩, h4⟩
              rw [HNN.out y h1]
              simp only [Option.getD_some]; omega
          have hZn2 : Z.Nodup := by rw [← hZ]; exact selL_nodup _ _
          have hZl2 : Z.length ≤ n := by rw [← hZ]; exact selL_len _ _
          rw [hZ] at hlist
          have hS2 := regS_more HS.out hZm
          have hND2 : (V ++ Z).Nodup := by
            rw [List.nodup_append]
            have h1 := HND.out
            rw [List.nodup_append] at h1
            refine ⟨h1.1, hZn2, fun y hy z hz e => ?_⟩
            subst e
            have := HS.out.todo y (List.mem_append_left _ hy)
            rw [((hZm y).1 hz).2.2.2] at this
            cases this
          have hcnt : (selL n (fun y => F y || decide (y ∈ Z))).length = (selL n F).length + Z.length := by
            rw [← hZ]
            unfold selL
            rw [← filter_or F (fun y => (adjP es p q x y && levS l (K : Int) y) && !F y) (fun y hy => by simp [hy])]
            congr 1
            refine List.filter_congr fun y hy => ?_
            congr 1
            rw [Bool.eq_iff_iff, decide_eq_true_eq, List.mem_filter]
            exact ⟨fun h => h.2, fun h => ⟨hy, h⟩⟩
          have hcl : (selL n (fun y => F y || decide (y ∈ Z))).length ≤ 64 := Nat.le_trans (selL_len _ _) hn
          have hvz : (castL (V ++ Z)).length = (castL V).length + Z.length := by rw [castL_length, castL_length, List.length_append]
          have HZm := Lib.hid hZm
          have HS2 := Lib.hid hS2
          have HND2 := Lib.hid hND2
          have HCNT := Lib.hid (And.intro hcnt (And.intro hcl hvz))
          obtain ⟨RX, hRX⟩ : ∃ M, mskN (adjP es p q x) n = M := ⟨_, rfl⟩
          rw [hRX] at r0 ha1
          obtain ⟨RI, hRI⟩ : ∃ M, mskN (fun y => adjP es p q x y && levS l (K : Int) y) n = M := ⟨_, rfl⟩
          rw [hRI] at ha1 ha2
          obtain ⟨MZ, hMZ⟩ : ∃ M, mskN (fun y => (adjP es p q x y && levS l (K : Int) y) && !F y) n = M := ⟨_, rfl⟩
          rw [hMZ] at ha2 hlist
          obtain ⟨m, hmm⟩ : ∃ m, (castL V).length = m := ⟨_, rfl⟩
          have HMM := Lib.hid hmm
          rw [hmm] at hcp hWl c0 hLV ⊢
          clear hZ hZm hS2 hND2 hcnt hcl hvz hRX hRI hMZ hi1 hi2 hmm hm hown hownV hL hcell HND hxK hZn2
          have hm1 : m + 1 ≤ cp := hcp
          have hm2 : (m : Int) + 1 ≤ (cp : Int) := by omega
          have hm3 : (m : Int) ≤ (cp : Int) := by omega
          have hc1 : ¬ cp = 0 := by omega
          go_wp2_with fail
          refine hlist.mono ?_
          rintro e w7 ⟨vz, rfl, hownz, hb7⟩
          have hzl2 : (castL Z).length = Z.length := castL_length _
          have hblk : ∀ k, vz.ownBlock = some k → k < w7.heap.size := fun k e => (hownz.lt k e).2
          obtain ⟨az2, cz2, rfl, hiz, haz⟩ := IntsAt.of_owns hownz (by omega)
          have hL7 := hLV.list hb7 hiz haz (fun p hp => hblk p.block (by rw [hp]; rfl))
          have HZL2 := Lib.hid hzl2
          have hF0 : Hid (M = mskN (fun y => F y || decide (y ∈ Z.take 0)) n) := (show _ = _ from by rw [HM.out]; exact mskN_congr n fun y _ => by simp)
          clear hzl2 hblk hownz hb7 hiz haz hlist hLV c0 r0 ha1 ha2
          go_wp2_with fail
          go_loopw [11, 12, 103] (fun vf vs vi wr => ∃ t : Nat, t ≤ (castL Z).length ∧ vi = .int .i64 t ∧ (∃ M : Nat, vf = .int .u64 M ∧ M < 18446744073709551616 ∧ Hid (M = mskN (fun y => F y || decide (y ∈ Z.take t)) n)) ∧ ∃ W : List Nat, Hid (W = V ++ Z.take t) ∧ RgL w s g 97 n (fun x => mskN (adjP es p q x) n) az2 cz2 (castL Z) vs W wr) (fun _ _ vi _ => (castL Z).length - (intOf vi).toNat)
          case atStart => exact ⟨0, Nat.zero_le _, rfl, ⟨M, rfl, hM, hF0⟩, V, (show _ = _ by simp), hL7⟩
          case round =>
            clear hF0 hL7
            obtain ⟨t, ht, rfl, ⟨M2, rfl, hM2, HM2⟩, W2, HW2, hL⟩ := hrel
            by_cases hlt : t < (castL Z).length
            · have hlt3 : (t : Int) < (castL Z).length := by omega
              have hzl2 := HZL2.out
              have hts : t < Z.length := by omega
              have hx : Z[t]? = some (Z[t]'hts) := List.getElem?_eq_getElem hts
              obtain ⟨y, hyy⟩ : ∃ y, (Z[t]'hts) = y := ⟨_, rfl⟩
              rw [hyy] at hx
              have hyn : y < n := ((HZm.out y).1 (List.mem_of_getElem? hx)).1
              have hy64 : y < 64 := by omega
              obtain ⟨b8, o8, z, rfl, hz9, _, _, c0⟩ := hL.z.at t hlt
              have hzy : z = y := by
                unfold castL at hz9
                rw [List.getElem?_map, hx] at hz9
                exact (Option.some.inj hz9).symm
              subst hzy
              have htk := take_at _ _ _ hx
              have hbit := fun W => bit_any y hy64 W
              have hor := bits_or_u64_nat M2 (2 ^ y) hM2 (pow64 y hy64)
              have hol := orN_lt M2 y hM2 hy64
              have hM3 : Hid (M2 ||| 2 ^ y = mskN (fun z => F z || decide (z ∈ Z.take (t + 1))) n) := (show _ = _ by
                rw [HM2.out, mskN_or _ n y hyn, htk]
                refine mskN_congr n fun z _ => ?_
                rw [Bool.eq_iff_iff]
                simp only [Bool.or_eq_true, decide_eq_true_eq, List.mem_append, List.mem_singleton, or_assoc])
              have HW3 : Hid (W2 ++ [y] = V ++ Z.take (t + 1)) := (show _ = _ by rw [htk, HW2.out, List.append_assoc])
              obtain ⟨P2, hP2⟩ : ∃ V, 2 ^ y = V := ⟨_, rfl⟩
              rw [hP2] at hor hbit hol hM3
              obtain ⟨M3, hMM⟩ : ∃ m, M2 ||| P2 = m := ⟨_, rfl⟩
              rw [hMM] at hor hol hM3
              obtain ⟨av2, cv2, hvs⟩ := owns_shape hL.own
              subst hvs
              have hWl2 : (castL W2).length ≤ 200 := by
                have h1 := HMM.out
                rw [castL_length] at h1
                rw [castL_length, HW2.out, List.length_append, List.length_take]; omega
              have hlx := ints_lit1 wr (y : Int) 3
              have hownA := hL.own.alloc (.cells #[.int .i64 (y : Int)] 3)
              have hszA : s ≤ (wr.alloc (.cells #[.int .i64 (y : Int)] 3)).heap.size := by have := hL.sz; simp; omega
              clear hzl2 hMM hP2 hz9 hx hyy htk HM2 HW2
              go_wp2_with (first
                | (go_at_call 103; refine (hbit _).mono ?_; rintro e w5 ⟨rfl, rfl⟩)
                | (at_builtin; refine wpList_app_ints_at intsT rfl _ _ rfl s (.slice av2 (castL W2).length cv2) _ (castL W2) [(y : Int)] rfl hownA rfl hlx (by simp; omega) hszA ?_; intro v9 w9 hown9 hg9 hat9))
              have hL9 := hL.push hgs hws y _ hown9 hg9 hat9
              go_roundw
              case rel => exact ⟨t + 1, by omega, by go_num, ⟨M3, rfl, hol, hM3⟩, W2 ++ [y], HW3, hL9⟩
              case measure => simp [intOf]; omega
            · obtain rfl : (castL Z).length = t := by omega
              have hW2 : W2 = V ++ Z := by rw [HW2.out, HZL2.out, List.take_length]
              have hMs : Hid (M2 = mskN (fun y => F y || decide (y ∈ Z)) n) := (show _ = _ by rw [HM2.out, HZL2.out, List.take_length])
              subst hW2
              have hLb := hL.bare
              obtain ⟨av2, cv2, hvs⟩ := owns_shape hL.own
              subst hvs
              have hms : 2 * (64 - (bitsL M2).length) + (castL (V ++ Z)).length < 2 * (64 - (bitsL M).length) + (m + 1) := by
                obtain ⟨h1, h2, h3⟩ := HCNT.out
                rw [hMs.out, HM.out, mskN_list _ n hn, mskN_list _ n hn, castL_length, castL_length (selL n F), h3, HMM.out]
                omega
              have HMS := Lib.hid hms
              clear hms hL HM2 HW2
              go_wp2_with fail
              go_roundw
              case rel =>
                exact ⟨_, V ++ Z, M2, rfl, hM2, hMs, HS2, HND2, hLb⟩
              case measure => have := HMS.out; simp only [intOf, lenV]; simpa using this
end Go.Proofs.YtkknknehchnccaaDoor
