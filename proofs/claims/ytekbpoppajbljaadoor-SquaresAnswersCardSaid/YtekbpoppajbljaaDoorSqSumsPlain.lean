/- Plain laws of the rows and of the shared neighbours. Plain: the squares in a form that the kernel reckons fast. The contract of the squares' laws' own example. Plain: squares and wedges by rows of bits; the graphs with all edges between two sides. The sums of the squares: of the nodes, of the edges, of the pairs of nodes; in plain numbers. -/
import Derived.Test.YtekbpoppajbljaaDoorSqWedges
import Derived.Test.YtekbpoppajbljaaDoorPatAwake
import Derived.Test.YtekbpoppajbljaaDoorRef25
import Derived.Test.YtekbpoppajbljaaDoorCopLaw
namespace Go.Proofs.YtekbpoppajbljaaDoor
open Go.RowKit Go.BigFrame

theorem pow_bit (p x : Nat) : (2 ^ p).testBit x = decide (x = p) := by
  rw [Nat.testBit_two_pow]
  by_cases h : p = x
  · simp [h]
  · have : ¬ x = p := fun e => h e.symm
    simp [h, this]
theorem row_bit_from (n : Int) (v x : Nat) : ∀ (es : List E2) (m : Nat), (∀ e ∈ es, Ins n e) → (es.foldl (rowE v) m).testBit x = (m.testBit x || adjB es v x) := by
  intro es
  induction es with
  | nil => intro m _; simp [adjB]
  | cons e es ih =>
    intro m h
    have he := h e List.mem_cons_self
    unfold Ins at he
    rw [List.foldl_cons, ih _ (fun y hy => h y (List.mem_cons_of_mem _ hy))]
    have hc : adjB (e :: es) v x = (decide ((e.1 = v ∧ e.2 = x) ∨ (e.1 = x ∧ e.2 = v)) || adjB es v x) := by simp [adjB]
    rw [hc, ← Bool.or_assoc]
    congr 1
    unfold rowE
    split
    · rename_i h1
      rw [Nat.testBit_or, pow_bit]
      congr 1
      by_cases h2 : x = e.2.toNat
      · rw [decide_eq_true h2, decide_eq_true]; left; constructor
        · exact h1
        · omega
      · rw [decide_eq_false h2, decide_eq_false]; intro h3; omega
    · rename_i h1
      split
      · rename_i h2
        rw [Nat.testBit_or, pow_bit]
        congr 1
        by_cases h3 : x = e.1.toNat
        · rw [decide_eq_true h3, decide_eq_true]; right; omega
        · rw [decide_eq_false h3, decide_eq_false]; intro h4; omega
      · rename_i h2
        have : ¬ ((e.1 = v ∧ e.2 = x) ∨ (e.1 = x ∧ e.2 = v)) := by intro h3; omega
        rw [decide_eq_false this, Bool.or_false]
/-- A ROW's BITS ARE THE EDGES. -/
theorem row_bit {n : Int} {es : List E2} (hv : Valid n es) (v x : Nat) : (rowN es v).testBit x = adjB es v x := by
  unfold rowN
  rw [row_bit_from n v x es 0 hv.2.2.1]
  simp
theorem nbN_eq {n : Int} {es : List E2} (hv : Valid n es) (v : Nat) : nbN es v = (List.range 64).filter fun i => adjB es v i := by
  unfold nbN
  congr 1
  funext i
  exact row_bit hv v i
theorem cntP_append (P Q : List (Nat × Nat)) (a b : Nat) : cntP (P ++ Q) a b = cntP P a b + cntP Q a b := by simp [cntP, List.filter_append]
/-- how often a number occurs in a list without doubles -/
theorem count_nodup (l : List Nat) (h : l.Nodup) (x : Nat) : (l.filter fun y => y == x).length = if x ∈ l then 1 else 0 := by
  induction l with
  | nil => simp
  | cons y l ih =>
    rw [List.nodup_cons] at h
    have := ih h.2
    by_cases hy : y = x
    · subst hy
      rw [if_neg h.1] at this
      simp [this]
    · have hx : ¬ x = y := fun e => hy e.symm
      simp [hy, hx, this]
theorem cntP_shB (u p q : Nat) (l : List Nat) (h : l.Nodup) : cntP (shB u l) p q = if u = p ∧ p ≠ q ∧ q ∈ l then 1 else 0 := by
  induction l with
  | nil => simp [cntP, shB]
  | cons y l ih =>
    rw [List.nodup_cons] at h
    have e : shB u (y :: l) = (if u = y then [] else [(u, y)]) ++ shB u l := by
      unfold shB
      by_cases hu : u = y
      · simp [hu]
      · simp [hu]
    rw [e, cntP_append, ih h.2]
    by_cases hq : q = y
    · subst hq
      have hz : (if u = p ∧ p ≠ q ∧ q ∈ l then (1 : Int) else 0) = 0 := if_neg (fun hh => h.1 hh.2.2)
      rw [hz]
      by_cases hu : u = q
      · subst hu
        rw [if_pos rfl]
        have hz2 : (if u = p ∧ p ≠ u ∧ u ∈ u :: l then (1 : Int) else 0) = 0 := if_neg (fun hh => hh.2.1 hh.1.symm)
        rw [hz2]; rfl
      · rw [if_neg hu]
        by_cases hp : u = p
        · subst hp
          rw [if_pos ⟨rfl, hu, List.mem_cons_self⟩]
          simp [cntP]
        · rw [if_neg (fun hh => hp hh.1)]
          simp [cntP, hp]
    · have h0 : cntP (if u = y then [] else [(u, y)]) p q = 0 := by
        split
        · rfl
        · have : ¬ (u = p ∧ y = q) := fun hh => hq hh.2.symm
          simp [cntP]
          intro _ hyq
          exact hq hyq.symm
      rw [h0]
      by_cases hh : u = p ∧ p ≠ q ∧ q ∈ l
      · rw [if_pos hh, if_pos ⟨hh.1, hh.2.1, List.mem_cons_of_mem _ hh.2.2⟩]; rfl
      · rw [if_neg hh, if_neg (fun k => hh ⟨k.1, k.2.1, by rcases List.mem_cons.1 k.2.2 with h | h; exact absurd h hq; exact h⟩)]; rfl
theorem cntP_shA (p q : Nat) (l : List Nat) (h : l.Nodup) : ∀ l' : List Nat, l'.Nodup → cntP (shA l l') p q = if p ≠ q ∧ p ∈ l' ∧ q ∈ l then 1 else 0 := by
  intro l'
  induction l' with
  | nil => intro _; simp [cntP, shA]
  | cons u l' ih =>
    intro h'
    rw [List.nodup_cons] at h'
    have e : shA l (u :: l') = shB u l ++ shA l l' := by simp [shA]
    rw [e, cntP_append, ih h'.2, cntP_shB u p q l h]
    by_cases hu : u = p
    · subst hu
      rw [if_neg (fun hh : u ≠ q ∧ u ∈ l' ∧ q ∈ l => h'.1 hh.2.1)]
      by_cases hh : u ≠ q ∧ q ∈ l
      · rw [if_pos ⟨rfl, hh.1, hh.2⟩, if_pos ⟨hh.1, List.mem_cons_self, hh.2⟩]; rfl
      · rw [if_neg (fun k => hh ⟨k.2.1, k.2.2⟩), if_neg (fun k => hh ⟨k.1, k.2.2⟩)]; rfl
    · rw [if_neg (fun hh => hu hh.1)]
      by_cases hh : p ≠ q ∧ p ∈ l' ∧ q ∈ l
      · rw [if_pos hh, if_pos ⟨hh.1, List.mem_cons_of_mem _ hh.2.1, hh.2.2⟩]; rfl
      · rw [if_neg hh, if_neg (fun k => hh ⟨k.1, by rcases List.mem_cons.1 k.2.1 with h | h; exact absurd h.symm hu; exact h, k.2.2⟩)]; rfl
theorem nbN_nodup (es : List E2) (v : Nat) : (nbN es v).Nodup := by
  unfold nbN
  exact List.nodup_range.sublist List.filter_sublist
theorem nbN_mem {n : Int} {es : List E2} (hv : Valid n es) (v x : Nat) : x ∈ nbN es v ↔ x < 64 ∧ adjB es v x = true := by
  rw [nbN_eq hv, List.mem_filter, List.mem_range]
/-- A PAIR's NUMBER OF SHARED NEIGHBOURS. -/
theorem cnt_shared {n : Int} {es : List E2} (hv : Valid n es) (p q : Nat) (hp : p < 64) (hq : q < 64) : ∀ N : Nat, cntP (shV es N) p q = sumN (fun u => if p ≠ q ∧ adjB es u p = true ∧ adjB es u q = true then 1 else 0) N := by
  intro N
  induction N with
  | zero => simp [shV, cntP, sumN]
  | succ N ih =>
    rw [shV_succ, cntP_append, ih, cntP_shA p q _ (nbN_nodup es N) _ (nbN_nodup es N)]
    simp only [sumN]
    congr 1
    by_cases hh : p ≠ q ∧ adjB es N p = true ∧ adjB es N q = true
    · rw [if_pos hh, if_pos ⟨hh.1, (nbN_mem hv N p).2 ⟨hp, hh.2.1⟩, (nbN_mem hv N q).2 ⟨hq, hh.2.2⟩⟩]
    · rw [if_neg hh, if_neg (fun k => hh ⟨k.1, ((nbN_mem hv N p).1 k.2.1).2, ((nbN_mem hv N q).1 k.2.2).2⟩)]
end Go.Proofs.YtekbpoppajbljaaDoor

namespace Go.Proofs.YtekbpoppajbljaaDoor
open Go.RowKit Go.BigFrame

def sqF (es : List E2) (n : Nat) : Int := sumN (fun v => sumN (fun u => pairI (sumN (fun x => if v ≠ u ∧ adjB es x v = true ∧ adjB es x u = true then 1 else 0) n)) n) n
theorem sqT_eq {n : Nat} {es : List E2} (hv : Valid n es) : sqT es n n = sqF es n := by
  have hn := hv.2.1
  unfold sqT sqF sqN
  refine sumN_congr _ _ n fun v hvn => sumN_congr _ _ n fun u hun => ?_
  rw [cnt_shared hv v u (by omega) (by omega)]
set_option maxRecDepth 100000 in
theorem k4_sq : sqF k4 4 = 12 := by decide +kernel
set_option maxRecDepth 100000 in
theorem k4_wed : wedS k4 4 = 12 := by decide +kernel
end Go.Proofs.YtekbpoppajbljaaDoor

namespace Go.Proofs.YtekbpoppajbljaaDoor
open Go.RowKit Go.BigFrame

set_option maxRecDepth 100000 in
set_option maxHeartbeats 1600000 in
theorem awake30_any (w : World) (hT : TzAt w) : Calls Tryd.prog 26 #[] w fun e w' => e = .returned (.bool true) ∧ Below w.heap.size w w' := by
  go_enter Tryd.func26, Tryd.ntmps26
  go_wp2_with fail
  have h1 := heap_alloc_new w (.cells (flatE k4).toArray 42)
  have he1 : EdgesAt (w.alloc (.cells (flatE k4).toArray 42)) (.slice (some ⟨w.heap.size, 0, none⟩) k4.length 6) k4 := edges_blk h1 (by decide) 6 (by decide)
  have hb1 : Below w.heap.size w (w.alloc (.cells (flatE k4).toArray 42)) := (Below.refl _ _).alloc (Nat.le_refl _) _
  have hb2 := hb1.alloc hb1.size (.cells #[.int .i64 4, .slice (some ⟨w.heap.size, 0, none⟩) 6 6] 27)
  have he2 := he1.below ((Below.refl _ _).alloc (Nat.le_refl _) (.cells #[.int .i64 4, .slice (some ⟨w.heap.size, 0, none⟩) 6 6] 27))
  have hg2 := heap_alloc_new (w.alloc (.cells (flatE k4).toArray 42)) (.cells #[.int .i64 4, .slice (some ⟨w.heap.size, 0, none⟩) 6 6] 27)
  refine (swedges_any 4 _ 6 k4 _ he2 k4_valid).mono ?_
  rintro e w3 ⟨rfl, hb3⟩
  rw [k4_wed]
  have hb03 := hb2.trans (hb3.mono hb2.size)
  have he3 := he2.below hb3
  have hg3 := (hb3.block _ (blk_lt hg2)).trans hg2
  have hz : (w.alloc (.cells (flatE k4).toArray 42)).heap.size = w.heap.size + 1 := by simp
  rw [hz] at hg3
  have q0 : w3.cell? ⟨w.heap.size + 1, 0, none⟩ = some (.int .i64 4) := cell_blk hg3
  have q1 : w3.cell? ⟨w.heap.size + 1, 1, none⟩ = some (.slice (some ⟨w.heap.size, 0, none⟩) 6 6) := cell_blk hg3
  clear hg3 hg2 hb3 hz
  go_wp2_with fail
  refine (scount_any 4 _ 6 k4 _ he3 k4_valid (hT.below hb03)).mono ?_
  rintro e w4 ⟨rfl, hb4⟩
  have h4 : sqT k4 4 4 / 4 = 3 := by rw [sqT_eq (n := 4) k4_valid, k4_sq]; rfl
  rw [h4]
  have hbf := hb03.trans (hb4.mono hb03.size)
  go_wp2
  go_ret
  exact ⟨rfl, hbf⟩
end Go.Proofs.YtekbpoppajbljaaDoor

namespace Go.Proofs.YtekbpoppajbljaaDoor
open Go.RowKit Go.BigFrame

def sqR (R : Nat → Nat) (n : Nat) : Int := sumN (fun v => sumN (fun u => pairI (sumN (fun x => bif v != u && ((R x).testBit v && (R x).testBit u) then 1 else 0) n)) n) n
def wedR (R : Nat → Nat) (n : Nat) : Int := sumN (fun u => pairI (oc64 (R u))) n
theorem sqF_rows {n : Nat} {es : List E2} (hv : Valid n es) (R : Nat → Nat) (h : ∀ x, x < n → rowN es x = R x) : sqF es n = sqR R n := by
  unfold sqF sqR
  refine sumN_congr _ _ n fun v hvn => sumN_congr _ _ n fun u hun => ?_
  congr 1
  refine sumN_congr _ _ n fun x hx => ?_
  rw [← h x hx, row_bit hv, row_bit hv]
  by_cases hvu : v = u
  · subst hvu; simp
  · have hb : (v != u) = true := by simpa using hvu
    rw [hb]
    cases adjB es x v <;> cases adjB es x u <;> simp [hvu]
theorem wedS_rows {n : Nat} {es : List E2} (R : Nat → Nat) (h : ∀ x, x < n → rowN es x = R x) : wedS es n = wedR R n := by
  unfold wedS wedR
  refine sumN_congr _ _ n fun u hu => ?_
  rw [h u hu]
def allN (p : Nat → Bool) : Nat → Bool
  | 0 => true
  | n + 1 => allN p n && p n
theorem allN_at (p : Nat → Bool) : ∀ n, allN p n = true → ∀ i, i < n → p i = true := by
  intro n
  induction n with
  | zero => intro _ i hi; omega
  | succ n ih =>
    intro h i hi
    simp only [allN, Bool.and_eq_true] at h
    by_cases e : i = n
    · rw [e]; exact h.2
    · exact ih h.1 i (by omega)

/-- the edges of the first u nodes, and k of node u -/
def eT (a b u k : Nat) : List E2 := ((List.range u).flatMap fun (i : Nat) => (List.range b).map fun (j : Nat) => ((i : Int), ((a + j : Nat) : Int))) ++ (List.range k).map fun (j : Nat) => ((u : Int), ((a + j : Nat) : Int))
theorem eT_next (a b u : Nat) : eT a b u b = eT a b (u + 1) 0 := by simp [eT, List.range_succ]
theorem eT_step (a b u k : Nat) : eT a b u (k + 1) = eT a b u k ++ [((u : Int), ((a + k : Nat) : Int))] := by simp [eT, List.range_succ, List.append_assoc]
theorem eT_length (a b u k : Nat) : (eT a b u k).length = u * b + k := by
  have h : ∀ u, ((List.range u).flatMap fun (i : Nat) => (List.range b).map fun (j : Nat) => ((i : Int), ((a + j : Nat) : Int))).length = u * b := by
    intro u
    induction u with
    | zero => simp
    | succ u ih => rw [List.range_succ, List.flatMap_append, List.length_append, ih, Nat.succ_mul]; simp
  unfold eT
  rw [List.length_append, h]; simp
def rS (a b u : Nat) : Nat := bif Nat.blt u a then (2 ^ b - 1) * 2 ^ a else 2 ^ a - 1
def sideB (a b : Nat) : Bool := checkS ((a + b : Nat) : Int) (eT a b a 0) == 0 && (allN (fun u => rowN (eT a b a 0) u == rS a b u) (a + b) && (wedR (rS a b) (a + b) == (a : Int) * b * ((b : Int) - 1) / 2 + (b : Int) * a * ((a : Int) - 1) / 2 && sqR (rS a b) (a + b) / 4 == (chS a 2 : Int) * (chS b 2 : Int)))
set_option maxRecDepth 100000 in
theorem side_all : allN (fun a => allN (fun b => sideB a b) 7) 7 = true := by decide +kernel
theorem side_at (a b : Nat) (ha : a < 7) (hb : b < 7) : Valid ((a + b : Nat) : Int) (eT a b a 0) ∧ wedS (eT a b a 0) (a + b) = (a : Int) * b * ((b : Int) - 1) / 2 + (b : Int) * a * ((a : Int) - 1) / 2 ∧ sqT (eT a b a 0) (a + b) (a + b) / 4 = (chS a 2 : Int) * (chS b 2 : Int) := by
  have h := allN_at _ _ (allN_at _ _ side_all a ha) b hb
  simp only [sideB, Bool.and_eq_true, beq_iff_eq] at h
  obtain ⟨h1, h2, h3, h4⟩ := h
  have hv := (valid_iff _ _).1 h1
  have hr : ∀ x, x < a + b → rowN (eT a b a 0) x = rS a b x := fun x hx => by simpa using allN_at _ _ h2 x hx
  exact ⟨hv, by rw [wedS_rows _ hr]; exact h3, by rw [sqT_eq hv, sqF_rows hv _ hr]; exact h4⟩
end Go.Proofs.YtekbpoppajbljaaDoor

namespace Go.Proofs.YtekbpoppajbljaaDoor
open Go.RowKit Go.BigFrame

theorem adj_small {n : Nat} {es : List E2} (hv : Valid n es) (p q : Nat) (h : adjB es p q = true) : p < n ∧ q < n := by
  rcases (adjB_iff es p q).1 h with h | h
  · have := hv.2.2.1 _ h; unfold Ins at this; dsimp only at this; omega
  · have := hv.2.2.1 _ h; unfold Ins at this; dsimp only at this; omega
theorem filter_range (p : Nat → Bool) (n : Nat) (h : ∀ x, p x = true → x < n) : ∀ m, n ≤ m → (List.range m).filter p = (List.range n).filter p := by
  intro m hm
  induction m with
  | zero =>
    obtain rfl : n = 0 := by omega
    rfl
  | succ m ih =>
    by_cases hn : n = m + 1
    · rw [hn]
    · rw [List.range_succ, List.filter_append, ih (by omega)]
      have : p m = false := by
        cases hp : p m
        · rfl
        · have := h m hp; omega
      simp [this]
theorem nbN_nbL {n : Nat} {es : List E2} (hv : Valid n es) (v : Nat) : nbN es v = nbL es n v := by
  have hn := hv.2.1
  rw [nbN_eq hv]
  exact filter_range _ n (fun x h => (adj_small hv v x h).2) 64 (by omega)

/-- a cycle through four places: a c b d -/
def gg8 (_x0 x1 x2 x3 x4 _x5 : Bool) : Int := ind x1 * ind x2 * ind x3 * ind x4
theorem gg8_ok : ∀ x0 x1 x2 x3 x4 x5, P6 gg8 x5 x4 x2 x3 x1 x0 = 8 * (rowM 8).getD (kB6 x0 x1 x2 x3 x4 x5).toNat 0 := by decide +kernel
theorem all_cyc {n : Nat} {es : List E2} (hv : Valid n es) : all4 n (onG es gg8) = 8 * ((cyc30 es n).length : Int) := by
  rw [← cop_all es n 8 (by omega) 8 gg8 gg8_ok, cop8 hv]
theorem pairI_two (x : Int) : 2 * pairI x = x * x - x := by
  unfold pairI
  have h1 : x * (x - 1) = x * x - x := by rw [Int.mul_sub, Int.mul_one]
  have h2 : x * (x - 1) % 2 = 0 := by
    rcases (by omega : x % 2 = 0 ∨ x % 2 = 1) with h | h
    · rw [Int.mul_emod, h]; simp
    · have : (x - 1) % 2 = 0 := by omega
      rw [Int.mul_emod, this]; simp
  omega
theorem ind_and (p q : Bool) : ind (p && q) = ind p * ind q := by cases p <;> cases q <;> rfl
theorem ind_sq (p : Bool) : ind p * ind p = ind p := by cases p <;> rfl
/-- twice the pairs of a sum of answers: all pairs of different places -/
theorem pairs_sum (i : Nat → Int) (hi : ∀ x, i x * i x = i x) (n : Nat) : 2 * pairI (sumN i n) = sumN (fun x => sumN (fun y => if x = y then 0 else i x * i y) n) n := by
  rw [pairI_two]
  have e : ∀ x, x < n → sumN (fun y => if x = y then 0 else i x * i y) n + i x = i x * sumN i n := by
    intro x hx
    have e2 : ∀ y, y < n → (if x = y then 0 else i x * i y) + (if y = x then i x else 0) = i x * i y := by
      intro y _
      by_cases h : x = y
      · subst h; rw [if_pos rfl, if_pos rfl, hi]; omega
      · rw [if_neg h, if_neg (fun k => h k.symm)]; omega
    have h := sumN_congr _ _ n e2
    rw [sumN_add, sumN_one x n _ hx, sumN_mul] at h
    exact h
  have h := sumN_congr _ _ n e
  rw [sumN_add] at h
  have h2 : sumN (fun x => i x * sumN i n) n = sumN i n * sumN i n := by
    rw [sumN_congr _ (fun x => sumN i n * i x) n (fun x _ => Int.mul_comm _ _), sumN_mul]
  rw [h2] at h
  omega
theorem sqF_all {n : Nat} {es : List E2} (hv : Valid n es) : 2 * sqF es n = all4 n (onG es gg8) := by
  unfold sqF
  rw [← sumN_mul]
  refine sumN_congr _ _ n fun v _ => ?_
  rw [← sumN_mul]
  refine sumN_congr _ _ n fun u _ => ?_
  rw [pairs_sum _ (fun x => by split <;> rfl)]
  refine sumN_congr _ _ n fun x _ => sumN_congr _ _ n fun y _ => ?_
  unfold onG gg8
  by_cases hd : dist4 v u x y = true
  · have hh := (dist4_iff v u x y).1 hd
    rw [if_pos hd, if_neg hh.2.2.2.2.2, adjB_comm es v x, adjB_comm es v y, adjB_comm es u x, adjB_comm es u y]
    cases adjB es v x <;> cases adjB es v y <;> cases adjB es u x <;> cases adjB es u y <;> simp [ind, hh.1]
  · rw [if_neg hd]
    by_cases hxy : x = y
    · rw [if_pos hxy]
    · rw [if_neg hxy]
      by_cases hA : v ≠ u ∧ adjB es x v = true ∧ adjB es x u = true
      · by_cases hB : v ≠ u ∧ adjB es y v = true ∧ adjB es y u = true
        · exfalso
          apply hd
          rw [dist4_iff]
          have hne : ∀ p q, adjB es p q = true → p ≠ q := by
            rintro p q h rfl
            rw [adj_irrefl hv] at h; cases h
          have := hne _ _ hA.2.1
          have := hne _ _ hA.2.2
          have := hne _ _ hB.2.1
          have := hne _ _ hB.2.2
          refine ⟨hA.1, ?_, ?_, ?_, ?_, hxy⟩ <;> omega
        · rw [if_neg hB]; simp
      · rw [if_neg hA]; simp
theorem sqT_four {n : Nat} {es : List E2} (hv : Valid n es) : sqT es n n = 4 * ((cyc30 es n).length : Int) := by
  have h1 := sqF_all hv
  have h2 := all_cyc hv
  rw [sqT_eq hv]
  omega
theorem sort2_com {n : Nat} {es : List E2} (hv : Valid n es) : sort2 n (fun u v => pairI ((cmL es n u v).length : Int)) = 2 * ((cyc30 es n).length : Int) := by
  have h1 := sqF_all hv
  have h2 := all_cyc hv
  have e : sqF es n = all2 n (fun u v => if u = v then 0 else pairI ((cmL es n u v).length : Int)) := by
    unfold sqF
    refine sumN_congr _ _ n fun v _ => sumN_congr _ _ n fun u _ => ?_
    dsimp only
    by_cases h : v = u
    · subst h
      rw [if_pos rfl, sumN_congr _ (fun _ => 0) n (fun x _ => if_neg (fun k => k.1 rfl)), sumN_zero]
      rfl
    · rw [if_neg h]
      congr 1
      unfold cmL
      rw [filter_len]
      refine sumN_congr _ _ n fun x _ => ?_
      rw [adjB_comm es v x, adjB_comm es u x]
      cases adjB es v x <;> cases adjB es u x <;> simp [ind, h]
  have e2 := sym2 (fun u v => if u = v then 0 else pairI ((cmL es n u v).length : Int)) (fun a => if_pos rfl) n
  have e3 : sort2 n (P2 (fun u v => if u = v then 0 else pairI ((cmL es n u v).length : Int))) = sort2 n (fun u v => pairI ((cmL es n u v).length : Int)) + sort2 n (fun u v => pairI ((cmL es n u v).length : Int)) := by
    rw [← sort2_add]
    refine sumN_congr _ _ n fun a _ => sumN_congr _ _ a fun b hb => ?_
    unfold P2
    dsimp only
    rw [if_neg (by omega), if_neg (by omega)]
    have : cmL es n b a = cmL es n a b := by unfold cmL; congr 1; funext x; exact Bool.and_comm _ _
    rw [this]
  omega

theorem sumN_swap (F : Nat → Nat → Int) (m : Nat) : ∀ n, sumN (fun a => sumN (fun b => F a b) m) n = sumN (fun b => sumN (fun a => F a b) n) m := by
  intro n
  induction n with
  | zero =>
    show (0 : Int) = sumN (fun b => 0) m
    rw [sumN_zero]
  | succ n ih =>
    show sumN (fun a => sumN (fun b => F a b) m) n + sumN (fun b => F n b) m = sumN (fun b => sumN (fun a => F a b) n + F n b) m
    rw [ih, sumN_add]
theorem all3_flip (n : Nat) (H : Nat → Nat → Nat → Int) : all3 n (fun v a b => H b a v) = all3 n H := by
  show sumN (fun v => sumN (fun a => sumN (fun b => H b a v) n) n) n = sumN (fun b => sumN (fun a => sumN (fun v => H b a v) n) n) n
  rw [sumN_congr _ (fun v => sumN (fun b => sumN (fun a => H b a v) n) n) n (fun v _ => sumN_swap (fun a b => H b a v) n n)]
  rw [sumN_swap (fun v b => sumN (fun a => H b a v) n) n n]
  exact sumN_congr _ _ n fun b _ => sumN_swap (fun v a => H b a v) n n
/-- the pairs that make a square with an edge between u and v -/
def ovB (es : List E2) (u a : Nat) (l : List Nat) : List (Nat × Nat) := (l.filter fun b => b != u && adjB es a b).map fun b => (a, b)
def ovA (es : List E2) (u v : Nat) (l' l : List Nat) : List (Nat × Nat) := l'.flatMap fun a => if a = v then [] else ovB es u a l
def ovN (es : List E2) (u v : Nat) : List (Nat × Nat) := ovA es u v (nbN es u) (nbN es v)
theorem ovB_len (es : List E2) (u a : Nat) (l : List Nat) : (ovB es u a l).length ≤ l.length := by
  unfold ovB; rw [List.length_map]; exact List.length_filter_le _ _
theorem ovA_len (es : List E2) (u v : Nat) (l : List Nat) (hl : l.length ≤ 64) : ∀ l' : List Nat, (ovA es u v l' l).length ≤ l'.length * 64 := by
  intro l'
  induction l' with
  | nil => simp [ovA]
  | cons a l' ih =>
    have e : ovA es u v (a :: l') l = (if a = v then [] else ovB es u a l) ++ ovA es u v l' l := by simp [ovA]
    rw [e, List.length_append, List.length_cons]
    have := ovB_len es u a l
    split <;> simp <;> omega
theorem ovN_len (es : List E2) (u v : Nat) : (ovN es u v).length ≤ 4096 := by
  have h1 := nbN_length es u
  have h2 := ovA_len es u v (nbN es v) (nbN_length es v) (nbN es u)
  unfold ovN; omega
theorem ovN_sum {n : Nat} {es : List E2} (hv : Valid n es) (u v : Nat) : ((ovN es u v).length : Int) = sumN (fun a => sumN (fun b => if (a ≠ v ∧ b ≠ u) then ind (adjB es u a) * ind (adjB es v b) * ind (adjB es a b) else 0) n) n := by
  have e : ∀ l' l : List Nat, ((ovA es u v l' l).length : Int) = lsum (fun a => if a = v then 0 else lsum (fun b => if (b != u && adjB es a b) = true then 1 else 0) l) l' := by
    intro l' l
    induction l' with
    | nil => rfl
    | cons a l' ih =>
      have e : ovA es u v (a :: l') l = (if a = v then [] else ovB es u a l) ++ ovA es u v l' l := by simp [ovA]
      rw [e, List.length_append, lsum, ← ih, Int.natCast_add]
      congr 1
      by_cases h : a = v
      · rw [if_pos h, if_pos h]; rfl
      · rw [if_neg h, if_neg h]
        unfold ovB
        rw [List.length_map]
        clear ih e
        induction l with
        | nil => rfl
        | cons b l ihl =>
          rw [lsum, ← ihl]
          cases hb : (b != u && adjB es a b)
          · rw [List.filter_cons_of_neg (by simp [hb])]; simp
          · rw [List.filter_cons_of_pos (by simp [hb])]; simp; omega
  unfold ovN
  rw [nbN_nbL hv, nbN_nbL hv, e]
  unfold nbL
  rw [lsum_filter, lsum_range]
  refine sumN_congr _ _ n fun a _ => ?_
  by_cases ha : adjB es u a = true
  · rw [if_pos ha]
    by_cases hav : a = v
    · rw [if_pos hav, sumN_congr _ (fun _ => 0) n (fun b _ => if_neg (fun k => k.1 hav)), sumN_zero]
    · rw [if_neg hav, lsum_filter, lsum_range]
      refine sumN_congr _ _ n fun b _ => ?_
      by_cases hbu : b = u
      · subst hbu; rw [if_neg (show ¬ (a ≠ v ∧ b ≠ b) from fun k => k.2 rfl)]; simp
      · rw [if_pos (show a ≠ v ∧ b ≠ u from ⟨hav, hbu⟩), ha]
        have : (b != u) = true := by simpa using hbu
        rw [this]
        cases adjB es v b <;> cases adjB es a b <;> simp [ind]
  · rw [if_neg ha]
    have hf : adjB es u a = false := by simpa using ha
    rw [sumN_congr _ (fun _ => 0) n (fun b _ => by rw [hf]; simp [ind]), sumN_zero]
/-- the squares of the edges before k -/
def ovS (es : List E2) (k : Nat) : List Int := (es.take k).map fun e => ((ovN es e.1.toNat e.2.toNat).length : Int)
theorem ovS_sum {n : Nat} {es : List E2} (hv : Valid n es) : (ovS es es.length).sum = 4 * ((cyc30 es n).length : Int) := by
  have hsym : ∀ u v, ((ovN es v u).length : Int) = ((ovN es u v).length : Int) := by
    intro u v
    rw [ovN_sum hv, ovN_sum hv]
    rw [sumN_swap (fun a b => if (a ≠ v ∧ b ≠ u) then ind (adjB es u a) * ind (adjB es v b) * ind (adjB es a b) else 0) n n]
    refine sumN_congr _ _ n fun a _ => sumN_congr _ _ n fun b _ => ?_
    rw [adjB_comm es b a]
    by_cases hh : a ≠ u ∧ b ≠ v
    · rw [if_pos hh, if_pos ⟨hh.2, hh.1⟩, Int.mul_comm (ind (adjB es v a))]
    · rw [if_neg hh, if_neg (fun k => hh ⟨k.2, k.1⟩)]
  have h := edges_sum hv (fun u v => ((ovN es u v).length : Int)) hsym
  have e : (ovS es es.length).sum = (es.map fun e => ((ovN es e.1.toNat e.2.toNat).length : Int)).sum := by unfold ovS; rw [List.take_length]
  rw [e]
  have e2 : all2 n (fun u v => ind (adjB es u v) * ((ovN es u v).length : Int)) = all4 n (fun u v a b => if dist4 u b a v = true then gg8 (adjB es u b) (adjB es u a) (adjB es u v) (adjB es b a) (adjB es b v) (adjB es a v) else 0) := by
    refine sumN_congr _ _ n fun u _ => sumN_congr _ _ n fun v _ => ?_
    dsimp only
    rw [ovN_sum hv, ← sumN_mul]
    refine sumN_congr _ _ n fun a _ => ?_
    rw [← sumN_mul]
    refine sumN_congr _ _ n fun b _ => ?_
    dsimp only
    unfold gg8
    rw [adjB_comm es b a, adjB_comm es v b]
    by_cases hd : dist4 u b a v = true
    · have hh := (dist4_iff u b a v).1 hd
      rw [if_pos hd, if_pos ⟨hh.2.2.2.2.2, fun k => hh.1 k.symm⟩]
      cases adjB es u v <;> cases adjB es u a <;> cases adjB es b v <;> cases adjB es b a <;> simp [ind]
    · rw [if_neg hd]
      by_cases hk : a ≠ v ∧ b ≠ u
      · rw [if_pos hk]
        have hne : ∀ p q, p = q → ind (adjB es p q) = 0 := by
          rintro p q rfl
          rw [adj_irrefl hv]; rfl
        have : u = v ∨ u = a ∨ b = v ∨ b = a := by
          apply Classical.byContradiction
          intro hc
          apply hd
          rw [dist4_iff]
          omega
        rcases this with h | h | h | h
        · rw [hne _ _ h]; simp
        · rw [hne _ _ h]; simp
        · rw [hne _ _ h.symm]; simp
        · rw [hne _ _ h]; simp
      · rw [if_neg hk]; simp
  have e3 : all4 n (fun u v a b => if dist4 u b a v = true then gg8 (adjB es u b) (adjB es u a) (adjB es u v) (adjB es b a) (adjB es b v) (adjB es a v) else 0) = all4 n (onG es gg8) := by
    exact sumN_congr _ _ n fun u _ => all3_flip n (onG es gg8 u)
  have h2 := all_cyc hv
  rw [e2, e3] at h
  omega
end Go.Proofs.YtekbpoppajbljaaDoor
