/- Plain laws of the rows and of the shared neighbours. Plain: the squares in a form that the kernel reckons fast. The contract of the squares' laws' own example. Plain: squares and wedges by rows of bits; the graphs with all edges between two sides. -/
import Derived.Test.YtbkacbbhiecnkaaDoorSqWedges
import Derived.Test.YtbkacbbhiecnkaaDoorPatAwake
import Derived.Test.YtbkacbbhiecnkaaDoorRef25
namespace Go.Proofs.YtbkacbbhiecnkaaDoor
open Go.RowKit Go.BigFrame

theorem pow_bit (p x : Nat) : (2 ^ p).testBit x = decide (x = p) := by
  rw [Nat.testBit_two_pow]
  by_cases h : p = x
  · simp [h]
  · have : ¬ x = p := fun e => h e.symm
    simp [h, this]
theorem row_bit_from (n : Int) (v x : Nat) : ∀ (es : List E2) (m : Nat), (∀ e ∈ es, Ins n e) → (es.foldl (rowE v) m).testBit x = (m.testBit x || adjB es v x) := by
  intro es
  induction es with
  | nil => intro m _; simp [adjB]
  | cons e es ih =>
    intro m h
    have he := h e List.mem_cons_self
    unfold Ins at he
    rw [List.foldl_cons, ih _ (fun y hy => h y (List.mem_cons_of_mem _ hy))]
    have hc : adjB (e :: es) v x = (decide ((e.1 = v ∧ e.2 = x) ∨ (e.1 = x ∧ e.2 = v)) || adjB es v x) := by simp [adjB]
    rw [hc, ← Bool.or_assoc]
    congr 1
    unfold rowE
    split
    · rename_i h1
      rw [Nat.testBit_or, pow_bit]
      congr 1
      by_cases h2 : x = e.2.toNat
      · rw [decide_eq_true h2, decide_eq_true]; left; constructor
        · exact h1
        · omega
      · rw [decide_eq_false h2, decide_eq_false]; intro h3; omega
    · rename_i h1
      split
      · rename_i h2
        rw [Nat.testBit_or, pow_bit]
        congr 1
        by_cases h3 : x = e.1.toNat
        · rw [decide_eq_true h3, decide_eq_true]; right; omega
        · rw [decide_eq_false h3, decide_eq_false]; intro h4; omega
      · rename_i h2
        have : ¬ ((e.1 = v ∧ e.2 = x) ∨ (e.1 = x ∧ e.2 = v)) := by intro h3; omega
        rw [decide_eq_false this, Bool.or_false]
/-- A ROW's BITS ARE THE EDGES. -/
theorem row_bit {n : Int} {es : List E2} (hv : Valid n es) (v x : Nat) : (rowN es v).testBit x = adjB es v x := by
  unfold rowN
  rw [row_bit_from n v x es 0 hv.2.2.1]
  simp
theorem nbN_eq {n : Int} {es : List E2} (hv : Valid n es) (v : Nat) : nbN es v = (List.range 64).filter fun i => adjB es v i := by
  unfold nbN
  congr 1
  funext i
  exact row_bit hv v i
theorem cntP_append (P Q : List (Nat × Nat)) (a b : Nat) : cntP (P ++ Q) a b = cntP P a b + cntP Q a b := by simp [cntP, List.filter_append]
/-- how often a number occurs in a list without doubles -/
theorem count_nodup (l : List Nat) (h : l.Nodup) (x : Nat) : (l.filter fun y => y == x).length = if x ∈ l then 1 else 0 := by
  induction l with
  | nil => simp
  | cons y l ih =>
    rw [List.nodup_cons] at h
    have := ih h.2
    by_cases hy : y = x
    · subst hy
      rw [if_neg h.1] at this
      simp [this]
    · have hx : ¬ x = y := fun e => hy e.symm
      simp [hy, hx, this]
theorem cntP_shB (u p q : Nat) (l : List Nat) (h : l.Nodup) : cntP (shB u l) p q = if u = p ∧ p ≠ q ∧ q ∈ l then 1 else 0 := by
  induction l with
  | nil => simp [cntP, shB]
  | cons y l ih =>
    rw [List.nodup_cons] at h
    have e : shB u (y :: l) = (if u = y then [] else [(u, y)]) ++ shB u l := by
      unfold shB
      by_cases hu : u = y
      · simp [hu]
      · simp [hu]
    rw [e, cntP_append, ih h.2]
    by_cases hq : q = y
    · subst hq
      have hz : (if u = p ∧ p ≠ q ∧ q ∈ l then (1 : Int) else 0) = 0 := if_neg (fun hh => h.1 hh.2.2)
      rw [hz]
      by_cases hu : u = q
      · subst hu
        rw [if_pos rfl]
        have hz2 : (if u = p ∧ p ≠ u ∧ u ∈ u :: l then (1 : Int) else 0) = 0 := if_neg (fun hh => hh.2.1 hh.1.symm)
        rw [hz2]; rfl
      · rw [if_neg hu]
        by_cases hp : u = p
        · subst hp
          rw [if_pos ⟨rfl, hu, List.mem_cons_self⟩]
          simp [cntP]
        · rw [if_neg (fun hh => hp hh.1)]
          simp [cntP, hp]
    · have h0 : cntP (if u = y then [] else [(u, y)]) p q = 0 := by
        split
        · rfl
        · have : ¬ (u = p ∧ y = q) := fun hh => hq hh.2.symm
          simp [cntP]
          intro _ hyq
          exact hq hyq.symm
      rw [h0]
      by_cases hh : u = p ∧ p ≠ q ∧ q ∈ l
      · rw [if_pos hh, if_pos ⟨hh.1, hh.2.1, List.mem_cons_of_mem _ hh.2.2⟩]; rfl
      · rw [if_neg hh, if_neg (fun k => hh ⟨k.1, k.2.1, by rcases List.mem_cons.1 k.2.2 with h | h; exact absurd h hq; exact h⟩)]; rfl
theorem cntP_shA (p q : Nat) (l : List Nat) (h : l.Nodup) : ∀ l' : List Nat, l'.Nodup → cntP (shA l l') p q = if p ≠ q ∧ p ∈ l' ∧ q ∈ l then 1 else 0 := by
  intro l'
  induction l' with
  | nil => intro _; simp [cntP, shA]
  | cons u l' ih =>
    intro h'
    rw [List.nodup_cons] at h'
    have e : shA l (u :: l') = shB u l ++ shA l l' := by simp [shA]
    rw [e, cntP_append, ih h'.2, cntP_shB u p q l h]
    by_cases hu : u = p
    · subst hu
      rw [if_neg (fun hh : u ≠ q ∧ u ∈ l' ∧ q ∈ l => h'.1 hh.2.1)]
      by_cases hh : u ≠ q ∧ q ∈ l
      · rw [if_pos ⟨rfl, hh.1, hh.2⟩, if_pos ⟨hh.1, List.mem_cons_self, hh.2⟩]; rfl
      · rw [if_neg (fun k => hh ⟨k.2.1, k.2.2⟩), if_neg (fun k => hh ⟨k.1, k.2.2⟩)]; rfl
    · rw [if_neg (fun hh => hu hh.1)]
      by_cases hh : p ≠ q ∧ p ∈ l' ∧ q ∈ l
      · rw [if_pos hh, if_pos ⟨hh.1, List.mem_cons_of_mem _ hh.2.1, hh.2.2⟩]; rfl
      · rw [if_neg hh, if_neg (fun k => hh ⟨k.1, by rcases List.mem_cons.1 k.2.1 with h | h; exact absurd h.symm hu; exact h, k.2.2⟩)]; rfl
theorem nbN_nodup (es : List E2) (v : Nat) : (nbN es v).Nodup := by
  unfold nbN
  exact List.nodup_range.sublist List.filter_sublist
theorem nbN_mem {n : Int} {es : List E2} (hv : Valid n es) (v x : Nat) : x ∈ nbN es v ↔ x < 64 ∧ adjB es v x = true := by
  rw [nbN_eq hv, List.mem_filter, List.mem_range]
/-- A PAIR's NUMBER OF SHARED NEIGHBOURS. -/
theorem cnt_shared {n : Int} {es : List E2} (hv : Valid n es) (p q : Nat) (hp : p < 64) (hq : q < 64) : ∀ N : Nat, cntP (shV es N) p q = sumN (fun u => if p ≠ q ∧ adjB es u p = true ∧ adjB es u q = true then 1 else 0) N := by
  intro N
  induction N with
  | zero => simp [shV, cntP, sumN]
  | succ N ih =>
    rw [shV_succ, cntP_append, ih, cntP_shA p q _ (nbN_nodup es N) _ (nbN_nodup es N)]
    simp only [sumN]
    congr 1
    by_cases hh : p ≠ q ∧ adjB es N p = true ∧ adjB es N q = true
    · rw [if_pos hh, if_pos ⟨hh.1, (nbN_mem hv N p).2 ⟨hp, hh.2.1⟩, (nbN_mem hv N q).2 ⟨hq, hh.2.2⟩⟩]
    · rw [if_neg hh, if_neg (fun k => hh ⟨k.1, ((nbN_mem hv N p).1 k.2.1).2, ((nbN_mem hv N q).1 k.2.2).2⟩)]
end Go.Proofs.YtbkacbbhiecnkaaDoor

namespace Go.Proofs.YtbkacbbhiecnkaaDoor
open Go.RowKit Go.BigFrame

def sqF (es : List E2) (n : Nat) : Int := sumN (fun v => sumN (fun u => pairI (sumN (fun x => if v ≠ u ∧ adjB es x v = true ∧ adjB es x u = true then 1 else 0) n)) n) n
theorem sqT_eq {n : Nat} {es : List E2} (hv : Valid n es) : sqT es n n = sqF es n := by
  have hn := hv.2.1
  unfold sqT sqF sqN
  refine sumN_congr _ _ n fun v hvn => sumN_congr _ _ n fun u hun => ?_
  rw [cnt_shared hv v u (by omega) (by omega)]
set_option maxRecDepth 100000 in
theorem k4_sq : sqF k4 4 = 12 := by decide +kernel
set_option maxRecDepth 100000 in
theorem k4_wed : wedS k4 4 = 12 := by decide +kernel
end Go.Proofs.YtbkacbbhiecnkaaDoor

namespace Go.Proofs.YtbkacbbhiecnkaaDoor
open Go.RowKit Go.BigFrame

set_option maxRecDepth 100000 in
set_option maxHeartbeats 1600000 in
theorem awake30_any (w : World) (hT : TzAt w) : Calls Tryd.prog 32 #[] w fun e w' => e = .returned (.bool true) ∧ Below w.heap.size w w' := by
  go_enter Tryd.func32, Tryd.ntmps32
  go_wp2_with fail
  have h1 := heap_alloc_new w (.cells (flatE k4).toArray 42)
  have he1 : EdgesAt (w.alloc (.cells (flatE k4).toArray 42)) (.slice (some ⟨w.heap.size, 0, none⟩) k4.length 6) k4 := edges_blk h1 (by decide) 6 (by decide)
  have hb1 : Below w.heap.size w (w.alloc (.cells (flatE k4).toArray 42)) := (Below.refl _ _).alloc (Nat.le_refl _) _
  have hb2 := hb1.alloc hb1.size (.cells #[.int .i64 4, .slice (some ⟨w.heap.size, 0, none⟩) 6 6] 27)
  have he2 := he1.below ((Below.refl _ _).alloc (Nat.le_refl _) (.cells #[.int .i64 4, .slice (some ⟨w.heap.size, 0, none⟩) 6 6] 27))
  have hg2 := heap_alloc_new (w.alloc (.cells (flatE k4).toArray 42)) (.cells #[.int .i64 4, .slice (some ⟨w.heap.size, 0, none⟩) 6 6] 27)
  refine (swedges_any 4 _ 6 k4 _ he2 k4_valid).mono ?_
  rintro e w3 ⟨rfl, hb3⟩
  rw [k4_wed]
  have hb03 := hb2.trans (hb3.mono hb2.size)
  have he3 := he2.below hb3
  have hg3 := (hb3.block _ (blk_lt hg2)).trans hg2
  have hz : (w.alloc (.cells (flatE k4).toArray 42)).heap.size = w.heap.size + 1 := by simp
  rw [hz] at hg3
  have q0 : w3.cell? ⟨w.heap.size + 1, 0, none⟩ = some (.int .i64 4) := cell_blk hg3
  have q1 : w3.cell? ⟨w.heap.size + 1, 1, none⟩ = some (.slice (some ⟨w.heap.size, 0, none⟩) 6 6) := cell_blk hg3
  clear hg3 hg2 hb3 hz
  go_wp2_with fail
  refine (scount_any 4 _ 6 k4 _ he3 k4_valid (hT.below hb03)).mono ?_
  rintro e w4 ⟨rfl, hb4⟩
  have h4 : sqT k4 4 4 / 4 = 3 := by rw [sqT_eq (n := 4) k4_valid, k4_sq]; rfl
  rw [h4]
  have hbf := hb03.trans (hb4.mono hb03.size)
  go_wp2
  go_ret
  exact ⟨rfl, hbf⟩
end Go.Proofs.YtbkacbbhiecnkaaDoor

namespace Go.Proofs.YtbkacbbhiecnkaaDoor
open Go.RowKit Go.BigFrame

def sqR (R : Nat → Nat) (n : Nat) : Int := sumN (fun v => sumN (fun u => pairI (sumN (fun x => bif v != u && ((R x).testBit v && (R x).testBit u) then 1 else 0) n)) n) n
def wedR (R : Nat → Nat) (n : Nat) : Int := sumN (fun u => pairI (oc64 (R u))) n
theorem sqF_rows {n : Nat} {es : List E2} (hv : Valid n es) (R : Nat → Nat) (h : ∀ x, x < n → rowN es x = R x) : sqF es n = sqR R n := by
  unfold sqF sqR
  refine sumN_congr _ _ n fun v hvn => sumN_congr _ _ n fun u hun => ?_
  congr 1
  refine sumN_congr _ _ n fun x hx => ?_
  rw [← h x hx, row_bit hv, row_bit hv]
  by_cases hvu : v = u
  · subst hvu; simp
  · have hb : (v != u) = true := by simpa using hvu
    rw [hb]
    cases adjB es x v <;> cases adjB es x u <;> simp [hvu]
theorem wedS_rows {n : Nat} {es : List E2} (R : Nat → Nat) (h : ∀ x, x < n → rowN es x = R x) : wedS es n = wedR R n := by
  unfold wedS wedR
  refine sumN_congr _ _ n fun u hu => ?_
  rw [h u hu]
def allN (p : Nat → Bool) : Nat → Bool
  | 0 => true
  | n + 1 => allN p n && p n
theorem allN_at (p : Nat → Bool) : ∀ n, allN p n = true → ∀ i, i < n → p i = true := by
  intro n
  induction n with
  | zero => intro _ i hi; omega
  | succ n ih =>
    intro h i hi
    simp only [allN, Bool.and_eq_true] at h
    by_cases e : i = n
    · rw [e]; exact h.2
    · exact ih h.1 i (by omega)

/-- the edges of the first u nodes, and k of node u -/
def eT (a b u k : Nat) : List E2 := ((List.range u).flatMap fun (i : Nat) => (List.range b).map fun (j : Nat) => ((i : Int), ((a + j : Nat) : Int))) ++ (List.range k).map fun (j : Nat) => ((u : Int), ((a + j : Nat) : Int))
theorem eT_next (a b u : Nat) : eT a b u b = eT a b (u + 1) 0 := by simp [eT, List.range_succ]
theorem eT_step (a b u k : Nat) : eT a b u (k + 1) = eT a b u k ++ [((u : Int), ((a + k : Nat) : Int))] := by simp [eT, List.range_succ, List.append_assoc]
theorem eT_length (a b u k : Nat) : (eT a b u k).length = u * b + k := by
  have h : ∀ u, ((List.range u).flatMap fun (i : Nat) => (List.range b).map fun (j : Nat) => ((i : Int), ((a + j : Nat) : Int))).length = u * b := by
    intro u
    induction u with
    | zero => simp
    | succ u ih => rw [List.range_succ, List.flatMap_append, List.length_append, ih, Nat.succ_mul]; simp
  unfold eT
  rw [List.length_append, h]; simp
def rS (a b u : Nat) : Nat := bif Nat.blt u a then (2 ^ b - 1) * 2 ^ a else 2 ^ a - 1
def sideB (a b : Nat) : Bool := checkS ((a + b : Nat) : Int) (eT a b a 0) == 0 && (allN (fun u => rowN (eT a b a 0) u == rS a b u) (a + b) && (wedR (rS a b) (a + b) == (a : Int) * b * ((b : Int) - 1) / 2 + (b : Int) * a * ((a : Int) - 1) / 2 && sqR (rS a b) (a + b) / 4 == (chS a 2 : Int) * (chS b 2 : Int)))
set_option maxRecDepth 100000 in
theorem side_all : allN (fun a => allN (fun b => sideB a b) 7) 7 = true := by decide +kernel
theorem side_at (a b : Nat) (ha : a < 7) (hb : b < 7) : Valid ((a + b : Nat) : Int) (eT a b a 0) ∧ wedS (eT a b a 0) (a + b) = (a : Int) * b * ((b : Int) - 1) / 2 + (b : Int) * a * ((a : Int) - 1) / 2 ∧ sqT (eT a b a 0) (a + b) (a + b) / 4 = (chS a 2 : Int) * (chS b 2 : Int) := by
  have h := allN_at _ _ (allN_at _ _ side_all a ha) b hb
  simp only [sideB, Bool.and_eq_true, beq_iff_eq] at h
  obtain ⟨h1, h2, h3, h4⟩ := h
  have hv := (valid_iff _ _).1 h1
  have hr : ∀ x, x < a + b → rowN (eT a b a 0) x = rS a b x := fun x hx => by simpa using allN_at _ _ h2 x hx
  exact ⟨hv, by rw [wedS_rows _ hr]; exact h3, by rw [sqT_eq hv, sqF_rows hv _ hr]; exact h4⟩
end Go.Proofs.YtbkacbbhiecnkaaDoor
