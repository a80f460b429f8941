/- Plain: in how many of the reference's squares each node and each edge is. The contracts of the reference's addition and removal of an edge, at any graph. The contracts of the squares' functions and of the reference's, at any graph. The contracts of the reference's graphs with squares: Open, Same, Valid. The contracts of the reference's insertion and deletion of an edge of a graph with squares. -/
import Derived.Test.YtekbpoppajbljaaDoorSqKeptJ
import Derived.Test.YtekbpoppajbljaaDoorSqNums
import Derived.Test.YtekbpoppajbljaaDoorGrAdd
import Derived.Test.YtekbpoppajbljaaDoorRef03Of
import Derived.Test.YtekbpoppajbljaaDoorSqInsDel
import Derived.Test.YtekbpoppajbljaaDoorRef30
import Derived.Test.YtekbpoppajbljaaDoorGrSame
namespace Go.Proofs.YtekbpoppajbljaaDoor

/-- a weight over a list of squares -/
def qsum (W : Quad → Int) : List Quad → Int
  | [] => 0
  | x :: l => W x + qsum W l
theorem qsum_append (W : Quad → Int) : ∀ l m : List Quad, qsum W (l ++ m) = qsum W l + qsum W m := by
  intro l m
  induction l with
  | nil => show _ = 0 + _; rw [Int.zero_add]; rfl
  | cons x l ih => rw [List.cons_append, qsum, qsum, ih, Int.add_assoc]
theorem occ_qsum (F : Quad → List Nat) (k : Nat) : ∀ l : List Quad, occ (l.flatMap F) k = qsum (fun x => occ (F x) k) l := by
  intro l
  induction l with
  | nil => rfl
  | cons x l ih =>
    rw [List.flatMap_cons, qsum, ← ih]
    simp [occ, List.filter_append]
def HW (es : List E2) (W : Quad → Int) (a b d c : Nat) : Int :=
  if b < d ∧ (adjB es a b && adjB es a d) = true then (if (a < b ∧ a < c) ∧ (adjB es b c && adjB es d c) = true then W (a, b, c, d) else 0) else 0
theorem qJ_sum (es : List E2) (W : Quad → Int) (n a b d : Nat) : qsum W (qJ a b d (cmL es n b d)) = sumN (fun c => if (a < b ∧ a < c) ∧ (adjB es b c && adjB es d c) = true then W (a, b, c, d) else 0) n := by
  have e : ∀ l : List Nat, qsum W (qJ a b d l) = lsum (fun c => if a < b ∧ a < c then W (a, b, c, d) else 0) l := by
    intro l
    induction l with
    | nil => rfl
    | cons c l ih =>
      unfold qJ at ih ⊢
      rw [List.flatMap_cons, qsum_append, lsum, ← ih]
      congr 1
      by_cases h : a < b ∧ a < c
      · rw [if_pos h, if_pos h]; show W (a, b, c, d) + 0 = _; rw [Int.add_zero]
      · rw [if_neg h, if_neg h]; rfl
  rw [e]
  unfold cmL
  rw [lsum_filter, lsum_range]
  refine sumN_congr _ _ n fun c _ => ?_
  by_cases h : (adjB es b c && adjB es d c) = true
  · rw [if_pos h]
    by_cases h2 : a < b ∧ a < c
    · rw [if_pos h2, if_pos ⟨h2, h⟩]
    · rw [if_neg h2, if_neg (fun k => h2 k.1)]
  · rw [if_neg h, if_neg (fun k => h k.2)]
theorem qI_sum (es : List E2) (W : Quad → Int) (n a : Nat) : ∀ l : List Nat, qsum W (qI es n a l) = pairsum (fun b d => qsum W (qJ a b d (cmL es n b d))) l := by
  intro l
  induction l with
  | nil => rfl
  | cons b t ih =>
    rw [qI, pairsum, qsum_append, ih]
    congr 1
    unfold qK
    clear ih
    induction t with
    | nil => rfl
    | cons d t ih => rw [List.flatMap_cons, qsum_append, lsum, ← ih]
theorem cyc_sum (es : List E2) (W : Quad → Int) (n : Nat) : qsum W (cyc30 es n) = all4 n (HW es W) := by
  have e : ∀ l : List Nat, qsum W (qA es n l) = lsum (fun a => qsum W (qI es n a (nbL es n a))) l := by
    intro l
    unfold qA
    induction l with
    | nil => rfl
    | cons a l ih => rw [List.flatMap_cons, qsum_append, lsum, ← ih]
  unfold cyc30
  rw [e, lsum_range]
  refine sumN_congr _ _ n fun a _ => ?_
  rw [qI_sum]
  unfold nbL
  rw [pairsum_filter]
  refine sumN_congr _ _ n fun b _ => sumN_congr _ _ n fun d _ => ?_
  rw [qJ_sum, ← sumN_if]
  rfl
theorem all4_rot (n : Nat) (g : Nat → Nat → Nat → Nat → Int) : all4 n (fun a b c d => g b c d a) = all4 n g := by
  unfold all4 all3 all2
  rw [sumN_swap (fun a b => sumN (fun c => sumN (fun d => g b c d a) n) n) n n]
  refine sumN_congr _ _ n fun b _ => ?_
  rw [sumN_swap (fun a c => sumN (fun d => g b c d a) n) n n]
  refine sumN_congr _ _ n fun c _ => ?_
  rw [sumN_swap (fun a d => g b c d a) n n]
theorem all4_ref (n : Nat) (g : Nat → Nat → Nat → Nat → Int) : all4 n (fun a b c d => g a d c b) = all4 n g := by
  unfold all4 all3 all2
  refine sumN_congr _ _ n fun a _ => ?_
  rw [sumN_swap (fun b c => sumN (fun d => g a d c b) n) n n]
  rw [sumN_congr _ _ n fun c _ => sumN_swap (fun b d => g a d c b) n n]
  rw [sumN_swap (fun c d => sumN (fun b => g a d c b) n) n n]
theorem all4_last (n : Nat) (g : Nat → Nat → Nat → Nat → Int) : all4 n (fun a b d c => g a b c d) = all4 n g := by
  unfold all4 all3 all2
  refine sumN_congr _ _ n fun a _ => sumN_congr _ _ n fun b _ => ?_
  rw [sumN_swap (fun d c => g a b c d) n n]
theorem all4_add (n : Nat) (f g : Nat → Nat → Nat → Nat → Int) : all4 n (fun a b c d => f a b c d + g a b c d) = all4 n f + all4 n g := by
  unfold all4 all3 all2
  rw [← sumN_add]
  refine sumN_congr _ _ n fun a _ => ?_
  rw [← sumN_add]
  refine sumN_congr _ _ n fun b _ => ?_
  rw [← sumN_add]
  refine sumN_congr _ _ n fun c _ => ?_
  rw [← sumN_add]
theorem all4_cg (n : Nat) (f g : Nat → Nat → Nat → Nat → Int) (h : ∀ a b c d, a < n → b < n → c < n → d < n → f a b c d = g a b c d) : all4 n f = all4 n g := by
  unfold all4 all3 all2
  exact sumN_congr _ _ n fun a ha => sumN_congr _ _ n fun b hb => sumN_congr _ _ n fun c hc => sumN_congr _ _ n fun d hd => h a b c d ha hb hc hd
/-- a is the least node, b less than d -/
def cK4 (a b c d : Nat) : Int := if a < b ∧ a < c ∧ a < d ∧ b < d then 1 else 0
theorem cK4_one (a b c d : Nat) (h : a ≠ b ∧ a ≠ c ∧ a ≠ d ∧ b ≠ c ∧ b ≠ d ∧ c ≠ d) : cK4 a b c d + cK4 b c d a + cK4 c d a b + cK4 d a b c + cK4 a d c b + cK4 d c b a + cK4 c b a d + cK4 b a d c = 1 := by
  obtain ⟨h1, h2, h3, h4, h5, h6⟩ := h
  have k : ∀ x y : Nat, x ≠ y → (x < y ∧ ¬ y < x) ∨ (y < x ∧ ¬ x < y) := fun x y h => by omega
  unfold cK4
  rcases k a b h1 with ⟨a1, a2⟩ | ⟨a1, a2⟩ <;> rcases k a c h2 with ⟨b1, b2⟩ | ⟨b1, b2⟩ <;> rcases k a d h3 with ⟨c1, c2⟩ | ⟨c1, c2⟩ <;> rcases k b c h4 with ⟨d1, d2⟩ | ⟨d1, d2⟩ <;> rcases k b d h5 with ⟨e1, e2⟩ | ⟨e1, e2⟩ <;> rcases k c d h6 with ⟨f1, f2⟩ | ⟨f1, f2⟩ <;>
    first
    | (exfalso; omega)
    | (repeat (first | rw [if_pos (by omega)] | rw [if_neg (by omega)])
       rfl)
structure Dih (f : Nat → Nat → Nat → Nat → Int) : Prop where
  rot : ∀ a b c d, f a b c d = f b c d a
  ref : ∀ a b c d, f a b c d = f a d c b
  off : ∀ a b c d, ¬ (a ≠ b ∧ a ≠ c ∧ a ≠ d ∧ b ≠ c ∧ b ≠ d ∧ c ≠ d) → f a b c d = 0
theorem dih_sum {f : Nat → Nat → Nat → Nat → Int} (h : Dih f) (n : Nat) : all4 n f = 8 * all4 n (fun a b c d => cK4 a b c d * f a b c d) := by
  obtain ⟨G, hG⟩ : ∃ G : Nat → Nat → Nat → Nat → Int, G = fun a b c d => cK4 a b c d * f a b c d := ⟨_, rfl⟩
  have g : ∀ a b c d, G a b c d = cK4 a b c d * f a b c d := fun a b c d => by rw [hG]
  have e : ∀ a b c d, f a b c d = G a b c d + G b c d a + G c d a b + G d a b c + G a d c b + G d c b a + G c b a d + G b a d c := by
    intro a b c d
    rw [g, g, g, g, g, g, g, g]
    have r1 := h.rot a b c d
    have r2 := h.rot b c d a
    have r3 := h.rot c d a b
    have s1 := h.ref a b c d
    have s2 := h.rot a d c b
    have s3 := h.rot d c b a
    have s4 := h.rot c b a d
    have q1 : f b c d a = f a b c d := r1.symm
    have q2 : f c d a b = f a b c d := by rw [← r2, q1]
    have q3 : f d a b c = f a b c d := by rw [← r3, q2]
    have q4 : f a d c b = f a b c d := s1.symm
    have q5 : f d c b a = f a b c d := by rw [← s2, q4]
    have q6 : f c b a d = f a b c d := by rw [← s3, q5]
    have q7 : f b a d c = f a b c d := by rw [← s4, q6]
    rw [q1, q2, q3, q4, q5, q6, q7, ← Int.add_mul, ← Int.add_mul, ← Int.add_mul, ← Int.add_mul, ← Int.add_mul, ← Int.add_mul, ← Int.add_mul]
    by_cases hd : a ≠ b ∧ a ≠ c ∧ a ≠ d ∧ b ≠ c ∧ b ≠ d ∧ c ≠ d
    · rw [cK4_one a b c d hd, Int.one_mul]
    · rw [h.off a b c d hd, Int.mul_zero]
  rw [← hG, all4_cg n f _ fun a b c d _ _ _ _ => e a b c d, all4_add, all4_add, all4_add, all4_add, all4_add, all4_add, all4_add]
  have t1 : all4 n (fun a b c d => G b c d a) = all4 n G := all4_rot n G
  have t2 : all4 n (fun a b c d => G c d a b) = all4 n G := (all4_rot n (fun a b c d => G b c d a)).trans t1
  have t3 : all4 n (fun a b c d => G d a b c) = all4 n G := (all4_rot n (fun a b c d => G c d a b)).trans t2
  have t4 : all4 n (fun a b c d => G a d c b) = all4 n G := all4_ref n G
  have t5 : all4 n (fun a b c d => G d c b a) = all4 n G := (all4_ref n (fun a b c d => G b c d a)).trans t1
  have t6 : all4 n (fun a b c d => G c b a d) = all4 n G := (all4_ref n (fun a b c d => G c d a b)).trans t2
  have t7 : all4 n (fun a b c d => G b a d c) = all4 n G := (all4_ref n (fun a b c d => G d a b c)).trans t3
  rw [t1, t2, t3, t4, t5, t6, t7]
  omega
/-- a cycle of four nodes -/
def iC (A : Nat → Nat → Bool) (a b c d : Nat) : Int := if (A a b = true ∧ A b c = true ∧ A c d = true ∧ A d a = true) ∧ a ≠ c ∧ b ≠ d then 1 else 0
section
variable {A : Nat → Nat → Bool} (sym : ∀ i j, A i j = A j i) (irr : ∀ i, A i i = false)
include sym in
theorem iC_ref (a b c d : Nat) : iC A a b c d = iC A a d c b := by
  unfold iC
  rw [sym a d, sym d c, sym c b, sym b a]
  by_cases h : (A a b = true ∧ A b c = true ∧ A c d = true ∧ A d a = true) ∧ a ≠ c ∧ b ≠ d
  · rw [if_pos h, if_pos ⟨⟨h.1.2.2.2, h.1.2.2.1, h.1.2.1, h.1.1⟩, h.2.1, fun e => h.2.2 e.symm⟩]
  · rw [if_neg h, if_neg fun k => h ⟨⟨k.1.2.2.2, k.1.2.2.1, k.1.2.1, k.1.1⟩, k.2.1, fun e => k.2.2 e.symm⟩]
theorem iC_rot (a b c d : Nat) : iC A a b c d = iC A b c d a := by
  unfold iC
  by_cases h : (A a b = true ∧ A b c = true ∧ A c d = true ∧ A d a = true) ∧ a ≠ c ∧ b ≠ d
  · rw [if_pos h, if_pos ⟨⟨h.1.2.1, h.1.2.2.1, h.1.2.2.2, h.1.1⟩, h.2.2, fun e => h.2.1 e.symm⟩]
  · rw [if_neg h, if_neg fun k => h ⟨⟨k.1.2.2.2, k.1.1, k.1.2.1, k.1.2.2.1⟩, fun e => k.2.2 e.symm, k.2.1⟩]
include irr in
theorem iC_off (a b c d : Nat) (h : ¬ (a ≠ b ∧ a ≠ c ∧ a ≠ d ∧ b ≠ c ∧ b ≠ d ∧ c ≠ d)) : iC A a b c d = 0 := by
  unfold iC
  rw [if_neg]
  rintro ⟨⟨h1, h2, h3, h4⟩, h5, h6⟩
  have ne : ∀ i j, A i j = true → i ≠ j := fun i j hij e => by rw [e, irr] at hij; cases hij
  exact h ⟨ne _ _ h1, h5, fun e => ne _ _ h4 e.symm, ne _ _ h2, h6, ne _ _ h3⟩
end
/-- what the reference counts, eight times over -/
theorem cyc_eight {n : Nat} {es : List E2} (hv : Valid n es) (W : Quad → Int) (w : Nat → Nat → Nat → Nat → Int) (hW : ∀ a b c d, adjB es a b = true → adjB es b c = true → adjB es c d = true → adjB es d a = true → W (a, b, c, d) = w a b c d)
    (wr : ∀ a b c d, w a b c d = w b c d a) (wf : ∀ a b c d, w a b c d = w a d c b) : 8 * qsum W (cyc30 es n) = all4 n (fun a b c d => iC (adjB es) a b c d * w a b c d) := by
  have sym : ∀ i j, adjB es i j = adjB es j i := fun i j => adjB_comm es j i
  have irr : ∀ i, adjB es i i = false := fun i => by
    cases h : adjB es i i with
    | false => rfl
    | true =>
      rcases (adjB_iff es i i).1 h with h | h <;> (have := hv.2.2.1 _ h; unfold Ins at this; dsimp only at this; omega)
  have hd : Dih (fun a b c d => iC (adjB es) a b c d * w a b c d) := ⟨fun a b c d => by rw [iC_rot a b c d, wr a b c d], fun a b c d => by rw [iC_ref sym a b c d, wf a b c d], fun a b c d h => by rw [iC_off irr a b c d h, Int.zero_mul]⟩
  rw [dih_sum hd, cyc_sum, ← all4_last n (fun a b c d => cK4 a b c d * (iC (adjB es) a b c d * w a b c d))]
  congr 1
  refine all4_cg n _ _ fun a b d c _ _ _ _ => ?_
  unfold HW cK4 iC
  by_cases h1 : adjB es a b = true <;> by_cases h2 : adjB es b c = true <;> by_cases h3 : adjB es c d = true <;> by_cases h4 : adjB es d a = true
  case pos =>
    have h3' : adjB es d c = true := by rw [sym]; exact h3
    have h4' : adjB es a d = true := by rw [sym]; exact h4
    rw [hW a b c d h1 h2 h3 h4]
    by_cases k1 : b < d <;> by_cases k2 : a < b <;> by_cases k3 : a < c
    · have k4 : a < d := by omega
      have k5 : a ≠ c := by omega
      have k6 : b ≠ d := by omega
      simp [h1, h2, h3, h4, h3', h4', k1, k2, k3, k4, k5, k6]
    all_goals simp [h1, h2, h3, h4, h3', h4', k1, k2, k3]
  all_goals
    have h3' : adjB es d c = adjB es c d := sym d c
    have h4' : adjB es a d = adjB es d a := sym a d
    simp [h1, h2, h3, h4, h3', h4']
theorem all4_first (n v : Nat) (hv : v < n) (g : Nat → Nat → Nat → Nat → Int) : all4 n (fun a b c d => if a = v then g a b c d else 0) = all3 n (g v) := by
  unfold all4
  rw [sumN_congr _ (fun a => if a = v then all3 n (g v) else 0) n fun a _ => ?_]
  · rw [sumN_single v (fun _ => all3 n (g v)) n, if_pos hv]
  · by_cases h : a = v
    · subst h
      rw [if_pos rfl]
      unfold all3 all2
      exact sumN_congr _ _ n fun b _ => sumN_congr _ _ n fun c _ => sumN_congr _ _ n fun d _ => if_pos rfl
    · rw [if_neg h]
      unfold all3 all2
      rw [sumN_congr _ (fun _ => 0) n fun b _ => ?_, sumN_zero]
      rw [sumN_congr _ (fun _ => 0) n fun c _ => ?_, sumN_zero]
      rw [sumN_congr _ (fun _ => 0) n fun d _ => ?_, sumN_zero]
      exact if_neg h
/-- four equal parts -/
theorem all4_four (n : Nat) (f : Nat → Nat → Nat → Nat → Int) (e : Nat → Nat → Nat → Nat → Int) (hf : ∀ a b c d, f a b c d = f b c d a) : all4 n (fun a b c d => f a b c d * (e a b c d + e b c d a + e c d a b + e d a b c)) = 4 * all4 n (fun a b c d => f a b c d * e a b c d) := by
  obtain ⟨G, hG⟩ : ∃ G : Nat → Nat → Nat → Nat → Int, G = fun a b c d => f a b c d * e a b c d := ⟨_, rfl⟩
  have g : ∀ a b c d, f a b c d * (e a b c d + e b c d a + e c d a b + e d a b c) = G a b c d + G b c d a + G c d a b + G d a b c := fun a b c d => by
    rw [hG]
    dsimp only
    have r1 := hf a b c d
    have r2 := hf b c d a
    have r3 := hf c d a b
    rw [← r3, ← r2, ← r1, Int.mul_add, Int.mul_add, Int.mul_add]
  rw [← hG, all4_cg n _ _ fun a b c d _ _ _ _ => g a b c d, all4_add, all4_add, all4_add]
  have t1 : all4 n (fun a b c d => G b c d a) = all4 n G := all4_rot n G
  have t2 : all4 n (fun a b c d => G c d a b) = all4 n G := (all4_rot n (fun a b c d => G b c d a)).trans t1
  have t3 : all4 n (fun a b c d => G d a b c) = all4 n G := (all4_rot n (fun a b c d => G c d a b)).trans t2
  rw [t1, t2, t3]
  omega
def isN (v x : Nat) : Int := if x = v then 1 else 0
theorem mul_isN (v x : Nat) (t : Int) : t * isN v x = if x = v then t else 0 := by
  unfold isN
  by_cases h : x = v
  · rw [if_pos h, if_pos h, Int.mul_one]
  · rw [if_neg h, if_neg h, Int.mul_zero]
theorem iC_node {n : Nat} {es : List E2} (v : Nat) : all3 n (iC (adjB es) v) = 2 * nK (adjK es) n v := by
  have sym : ∀ i j, adjB es i j = adjB es j i := fun i j => adjB_comm es j i
  unfold all3 all2
  rw [sumN_swap (fun b c => sumN (fun d => iC (adjB es) v b c d) n) n n]
  unfold nK
  rw [← sumN_K, ← sumN_mul]
  refine sumN_congr _ _ n fun c _ => ?_
  by_cases hvc : v = c
  · subst hvc
    rw [cK_self, sumN_congr _ (fun _ => 0) n fun b _ => ?_, sumN_zero]
    · rfl
    · rw [sumN_congr _ (fun _ => 0) n fun d _ => ?_, sumN_zero]
      unfold iC
      rw [if_neg fun h => h.2.1 rfl]
  · have h2 := pairs_sum (fun x => if v ≠ c ∧ adjB es x v = true ∧ adjB es x c = true then 1 else 0) (fun x => by split <;> rfl) n
    have e : cK (adjK es) n v c = sumN (fun x => if v ≠ c ∧ adjB es x v = true ∧ adjB es x c = true then 1 else 0) n := by
      unfold cK
      rw [sumN_K]
      rfl
    rw [e]
    show _ = 2 * pairI _
    rw [h2]
    refine sumN_congr _ _ n fun b _ => sumN_congr _ _ n fun d _ => ?_
    unfold iC
    rw [sym c d, sym v b]
    by_cases hbd : b = d
    · rw [if_pos hbd, if_neg fun h => h.2.2 hbd]
    · rw [if_neg hbd]
      by_cases h1 : adjB es b v = true <;> by_cases h2 : adjB es b c = true <;> by_cases h3 : adjB es d c = true <;> by_cases h4 : adjB es d v = true <;> simp [h1, h2, h3, h4, hvc, hbd]
/-- IN HOW MANY SQUARES A NODE IS. -/
theorem cyc_node {n : Nat} {es : List E2} (hv : Valid n es) (v : Nat) (hvn : v < n) : occ ((cyc30 es n).flatMap qn) v = sqN es n v n := by
  rw [occ_qsum, sqN_K hv v hvn]
  have h := cyc_eight hv (fun x => occ (qn x) v) (fun a b c d => isN v a + isN v b + isN v c + isN v d) (fun a b c d _ _ _ _ => by
      unfold occ qn isN
      dsimp only
      simp only [List.filter_cons, List.filter_nil, beq_iff_eq]
      by_cases h1 : a = v <;> by_cases h2 : b = v <;> by_cases h3 : c = v <;> by_cases h4 : d = v <;> simp [h1, h2, h3, h4])
    (fun a b c d => by omega) (fun a b c d => by omega)
  have h4 := all4_four n (iC (adjB es)) (fun a _ _ _ => isN v a) (fun a b c d => iC_rot a b c d)
  rw [h4, all4_cg n _ (fun a b c d => if a = v then iC (adjB es) a b c d else 0) fun a b c d _ _ _ _ => mul_isN v a _, all4_first n v hvn, iC_node] at h
  omega
def isE (p q x y : Nat) : Int := if (x = p ∧ y = q) ∨ (x = q ∧ y = p) then 1 else 0
theorem isE_comm (p q x y : Nat) : isE p q x y = isE p q y x := by
  unfold isE
  by_cases h : (x = p ∧ y = q) ∨ (x = q ∧ y = p)
  · rw [if_pos h, if_pos (by omega)]
  · rw [if_neg h, if_neg (by omega)]
theorem iC_edge {n : Nat} {es : List E2} (hv : Valid n es) (p q : Nat) (hpq : adjB es p q = true) (hp : p < n) (hq : q < n) (hne : p ≠ q) : all4 n (fun a b c d => iC (adjB es) a b c d * isE p q a b) = 2 * ((ovN es p q).length : Int) := by
  have sym : ∀ i j, adjB es i j = adjB es j i := fun i j => adjB_comm es j i
  have e : ∀ a b c d, iC (adjB es) a b c d * isE p q a b = (if a = p then (if b = q then iC (adjB es) p q c d else 0) else 0) + (if a = q then (if b = p then iC (adjB es) q p c d else 0) else 0) := by
    intro a b c d
    unfold isE
    by_cases h1 : a = p
    · subst h1
      rw [if_pos rfl, if_neg (show ¬ a = q from hne)]
      by_cases h2 : b = q
      · subst h2; simp
      · simp [h2, hne]
    · rw [if_neg h1]
      by_cases h2 : a = q
      · subst h2
        by_cases h3 : b = p
        · subst h3; simp
        · simp [h1, h3]
      · simp [h1, h2]
  have part : ∀ x y : Nat, x < n → y < n → all4 n (fun a b c d => if a = x then (if b = y then iC (adjB es) x y c d else 0) else 0) = all2 n (iC (adjB es) x y) := by
    intro x y hx hy
    rw [all4_first n x hx (fun _ b c d => if b = y then iC (adjB es) x y c d else 0)]
    unfold all3
    rw [sumN_congr _ (fun b => if b = y then all2 n (iC (adjB es) x y) else 0) n fun b _ => ?_]
    · rw [sumN_single y (fun _ => all2 n (iC (adjB es) x y)) n, if_pos hy]
    · by_cases h : b = y
      · simp [h]
      · rw [if_neg h]
        unfold all2
        rw [sumN_congr _ (fun _ => 0) n fun c _ => ?_, sumN_zero]
        rw [sumN_congr _ (fun _ => 0) n fun d _ => ?_, sumN_zero]
        exact if_neg h
  have turn : all2 n (iC (adjB es) q p) = all2 n (iC (adjB es) p q) := by
    unfold all2
    rw [sumN_swap (fun c d => iC (adjB es) q p c d) n n]
    refine sumN_congr _ _ n fun d _ => sumN_congr _ _ n fun c _ => ?_
    rw [iC_rot q p c d, iC_ref sym p c d q]
  have ov : all2 n (iC (adjB es) p q) = ((ovN es p q).length : Int) := by
    rw [ovN_sum hv p q]
    unfold all2
    rw [sumN_swap (fun c d => iC (adjB es) p q c d) n n]
    refine sumN_congr _ _ n fun d _ => sumN_congr _ _ n fun c _ => ?_
    unfold iC ind
    rw [sym c d, sym d p]
    by_cases h1 : d = q
    · subst h1; simp
    · by_cases h2 : c = p
      · subst h2; simp
      · have h1' : ¬ q = d := fun e => h1 e.symm
        have h2' : ¬ p = c := fun e => h2 e.symm
        by_cases h3 : adjB es q c = true <;> by_cases h4 : adjB es d c = true <;> by_cases h5 : adjB es p d = true <;> simp [h1, h2, h1', h2', h3, h4, h5, hpq]
  rw [all4_cg n _ _ fun a b c d _ _ _ _ => e a b c d, all4_add, part p q hp hq, part q p hq hp, turn, ov]
  omega
theorem ff_get : ∀ (es : List E2) (k : Nat) (t : E2), t ∈ es → ∃ i, findFrom k es t = ((k + i : Nat) : Int) ∧ es[i]? = some t := by
  intro es
  induction es with
  | nil => intro k t h; cases h
  | cons e es ih =>
    intro k t h
    unfold findFrom
    by_cases he : e = t
    · exact ⟨0, by rw [if_pos he]; rfl, by rw [he]; rfl⟩
    · rw [if_neg he]
      rcases List.mem_cons.1 h with h' | h'
      · exact absurd h'.symm he
      · obtain ⟨i, h1, h2⟩ := ih (k + 1) t h'
        exact ⟨i + 1, by rw [h1]; congr 1; omega, by simpa using h2⟩
theorem fi_iff {n : Int} {es : List E2} (hv : Valid n es) (x y k p q : Nat) (h : adjB es x y = true) (hk : es[k]? = some ((p : Int), (q : Int))) : fiN es x y = k ↔ (x = p ∧ y = q) ∨ (x = q ∧ y = p) := by
  have hpq := hv.2.2.1 _ (List.mem_of_getElem? hk)
  unfold Ins at hpq
  dsimp only at hpq
  have hm : (min (x : Int) (y : Int), max (x : Int) (y : Int)) ∈ es := by
    have := adj_min hv x y
    rw [h] at this
    exact of_decide_eq_true this
  obtain ⟨i, h1, h2⟩ := ff_get es 0 _ hm
  have hfi : fiN es x y = i := by unfold fiN findS; rw [h1]; omega
  rw [hfi]
  constructor
  · intro e
    subst e
    rw [hk] at h2
    have e := Option.some.inj h2
    have e1 := (Prod.mk.inj e).1
    have e2 := (Prod.mk.inj e).2
    omega
  · intro e
    have ht : (min (x : Int) (y : Int), max (x : Int) (y : Int)) = ((p : Int), (q : Int)) := by
      rw [Prod.mk.injEq]
      omega
    rw [ht] at h2
    obtain ⟨l1, g1⟩ := List.getElem?_eq_some_iff.1 h2
    obtain ⟨l2, g2⟩ := List.getElem?_eq_some_iff.1 hk
    rcases Nat.lt_trichotomy i k with hlt | heq | hlt
    · have := List.pairwise_iff_getElem.1 hv.2.2.2 i k l1 l2 hlt
      rw [g1, g2, before_irrefl] at this
      cases this
    · exact heq
    · have := List.pairwise_iff_getElem.1 hv.2.2.2 k i l2 l1 hlt
      rw [g1, g2, before_irrefl] at this
      cases this
/-- IN HOW MANY SQUARES AN EDGE IS. -/
theorem cyc_edge {n : Nat} {es : List E2} (hv : Valid n es) (k : Nat) (hk : k < es.length) : occ ((cyc30 es n).flatMap (qe es)) k = ((ovN es es[k].1.toNat es[k].2.toNat).length : Int) := by
  have hI := hv.2.2.1 _ (List.getElem_mem hk)
  unfold Ins at hI
  obtain ⟨p, hp⟩ := Int.eq_ofNat_of_zero_le (show 0 ≤ es[k].1 by omega)
  obtain ⟨q, hq⟩ := Int.eq_ofNat_of_zero_le (show 0 ≤ es[k].2 by omega)
  have hkk : es[k]? = some ((p : Int), (q : Int)) := by rw [List.getElem?_eq_getElem hk, ← hp, ← hq]
  rw [hp, hq] at hI ⊢
  rw [Int.toNat_natCast, Int.toNat_natCast]
  have hadj : adjB es p q = true := (adjB_iff es p q).2 (.inl (List.mem_of_getElem? hkk))
  rw [occ_qsum]
  have sym : ∀ i j, adjB es i j = adjB es j i := fun i j => adjB_comm es j i
  have one : ∀ x y, adjB es x y = true → (if fiN es x y = k then (1 : Int) else 0) = isE p q x y := fun x y h => by
    unfold isE
    by_cases h1 : fiN es x y = k
    · rw [if_pos h1, if_pos ((fi_iff hv x y k p q h hkk).1 h1)]
    · rw [if_neg h1, if_neg fun h2 => h1 ((fi_iff hv x y k p q h hkk).2 h2)]
  have h := cyc_eight hv (fun x => occ (qe es x) k) (fun a b c d => isE p q a b + isE p q b c + isE p q c d + isE p q d a) (fun a b c d h1 h2 h3 h4 => by
      rw [← one a b h1, ← one b c h2, ← one c d h3, ← one d a h4]
      unfold occ qe
      dsimp only
      simp only [List.filter_cons, List.filter_nil, beq_iff_eq]
      by_cases k1 : fiN es a b = k <;> by_cases k2 : fiN es b c = k <;> by_cases k3 : fiN es c d = k <;> by_cases k4 : fiN es d a = k <;> simp [k1, k2, k3, k4])
    (fun a b c d => by omega) (fun a b c d => by rw [isE_comm p q a d, isE_comm p q d c, isE_comm p q c b, isE_comm p q b a]; omega)
  have h4 := all4_four n (iC (adjB es)) (fun a b _ _ => isE p q a b) (fun a b c d => iC_rot a b c d)
  rw [h4, iC_edge hv p q hadj (by omega) (by omega) (by omega)] at h
  omega
end Go.Proofs.YtekbpoppajbljaaDoor

namespace Go.Proofs.YtekbpoppajbljaaDoor
open Go.RowKit Go.BigFrame

theorem endsB_parts (n u v : Int) : endsB n u v = (decide (0 ≤ u) && (decide (0 ≤ v) && (decide (u < n) && (decide (v < n) && (u != v))))) := by
  rw [Bool.eq_iff_iff, endsB_iff]
  simp only [Bool.and_eq_true, decide_eq_true_eq, bne_iff_ne, ne_eq]
  constructor
  · rintro ⟨h1, h2, h3⟩; exact ⟨by omega, by omega, by omega, by omega, h1⟩
  · rintro ⟨h1, h2, h3, h4, h5⟩; exact ⟨h5, by omega, by omega⟩
theorem rends_any (n u v : Int) (w : World) : Calls Tryd.prog 78 #[.int .i64 n, .int .i64 u, .int .i64 v] w fun e w' => e = .returned (.bool (endsB n u v)) ∧ w = w' := by
  rw [endsB_parts]
  obtain ⟨B1, h1⟩ : ∃ B, decide (0 ≤ u) = B := ⟨_, rfl⟩
  obtain ⟨B2, h2⟩ : ∃ B, decide (0 ≤ v) = B := ⟨_, rfl⟩
  obtain ⟨B3, h3⟩ : ∃ B, decide (u < n) = B := ⟨_, rfl⟩
  obtain ⟨B4, h4⟩ : ∃ B, decide (v < n) = B := ⟨_, rfl⟩
  obtain ⟨B5, h5⟩ : ∃ B, (u != v) = B := ⟨_, rfl⟩
  rw [h1, h2, h3, h4, h5]
  cases B1
  case' true => cases B2
  case' true.true => cases B3
  case' true.true.true => cases B4
  all_goals
    go_enter Tryd.func78, Tryd.ntmps78
    go_wp2
    go_ret
    exact ⟨rfl, rfl⟩
theorem ff_pos : ∀ (es : List E2) (k : Nat) (t : E2), t ∈ es → 0 ≤ findFrom k es t := by
  intro es
  induction es with
  | nil => intro k t h; cases h
  | cons e es ih =>
    intro k t h
    unfold findFrom
    by_cases he : e = t
    · rw [if_pos he]; omega
    · rw [if_neg he]
      rcases List.mem_cons.1 h with h' | h'
      · exact absurd h'.symm he
      · exact ih (k + 1) t h'
set_option maxRecDepth 100000 in
set_option maxHeartbeats 3200000 in
theorem radd_any (n : Int) (a : Option Addr) (cap : Nat) (es : List E2) (u v : Int) (w : World) (he : EdgesAt w (.slice a es.length cap) es) :
    Calls Tryd.prog 70 #[.agg #[.int .i64 n, .slice a es.length cap], .int .i64 u, .int .i64 v] w (GrPost w (addX n es u v)) := by
  have hck := fun W h => check_any n a cap es W h
  have hen := fun W => rends_any n u v W
  have h0 := Gr2.start w n (.slice a es.length cap)
  unfold addX chgE
  obtain ⟨C, hC⟩ : ∃ C, checkS n es = C := ⟨_, rfl⟩
  rw [hC] at hck ⊢
  by_cases hz : C = 0
  case neg =>
    rw [if_pos hz, if_pos hz]
    have d1 : (C != 0) = true := by simpa using hz
    clear hC hz
    go_enter Tryd.func70, Tryd.ntmps70
    go_wp2_with fail
    refine (hck _ (he.below h0.be)).mono ?_
    rintro e w1 ⟨rfl, hb1⟩
    have h1 := h0.next hb1
    clear hb1 h0
    have o0 := cell_blk (j := 0) h1.o
    have o1 := cell_blk (j := 1) h1.o
    have f0 := free_blk (j := 0) h1.o
    have f1 := free_blk (j := 1) h1.o
    obtain ⟨t0, t1, hef, hbf⟩ := h1.fin (N := 0) (a := none) (cap := 0) (ys := []) (edges_nil w1) (fun p h => by cases h)
    simp only [List.length_nil] at t0 t1 hef hbf
    clear h1 hck
    go_wp2_with fail
    exact bodyPost_ret (v := .tuple #[.agg #[.int .i64 0, .slice none 0 0], .int .i64 C]) (by simp [results, Tryd.results70, go_sem, t0, t1]) rfl ⟨none, 0, rfl, hef, (fun p h => by cases h), hbf⟩
  subst hz
  have hv := (valid_iff n es).1 hC
  rw [if_neg (show ¬ ((0 : Int) ≠ 0) by simp)]
  obtain ⟨B, hB⟩ : ∃ B, endsB n u v = B := ⟨_, rfl⟩
  rw [hB] at hen ⊢
  cases B with
  | false =>
    rw [if_neg (show ¬ (false = true) by simp), if_pos (show (6 : Int) ≠ 0 by decide)]
    clear hB hC
    go_enter Tryd.func70, Tryd.ntmps70
    go_wp2_with fail
    refine (hck _ (he.below h0.be)).mono ?_
    rintro e w1 ⟨rfl, hb1⟩
    have h1 := h0.next hb1
    clear hb1 h0
    have g0 := cell_blk (j := 0) h1.g
    go_wp2_with fail
    refine (hen _).mono ?_
    rintro e w2 ⟨rfl, rfl⟩
    have o0 := cell_blk (j := 0) h1.o
    have o1 := cell_blk (j := 1) h1.o
    have f0 := free_blk (j := 0) h1.o
    have f1 := free_blk (j := 1) h1.o
    obtain ⟨t0, t1, hef, hbf⟩ := h1.fin (N := 0) (a := none) (cap := 0) (ys := []) (edges_nil w1) (fun p h => by cases h)
    simp only [List.length_nil] at t0 t1 hef hbf
    clear h1 hck
    go_wp2_with fail
    exact bodyPost_ret (v := .tuple #[.agg #[.int .i64 0, .slice none 0 0], .int .i64 6]) (by simp [results, Tryd.results70, go_sem, t0, t1]) rfl ⟨none, 0, rfl, hef, (fun p h => by cases h), hbf⟩
  | true =>
    rw [if_pos rfl, if_neg (show ¬ ((0 : Int) ≠ 0) by simp)]
    obtain ⟨hne, hmin, hmax⟩ := endsB_iff.1 hB
    by_cases hm : (min u v, max u v) ∈ es
    · rw [if_pos hm]
      have hfd := fun W h => find_any n a cap es u v W h hv
      have hs : 0 ≤ findS es u v := ff_pos es 0 _ hm
      obtain ⟨S, hS⟩ : ∃ S, findS es u v = S := ⟨_, rfl⟩
      rw [hS] at hfd hs
      have d2 : decide (S ≥ 0) = true := decide_eq_true hs
      clear hB hC hS hm hne hmin hmax
      go_enter Tryd.func70, Tryd.ntmps70
      go_wp2_with fail
      refine (hck _ (he.below h0.be)).mono ?_
      rintro e w1 ⟨rfl, hb1⟩
      have h1 := h0.next hb1
      clear hb1 h0
      have g0 := cell_blk (j := 0) h1.g
      have g1 := cell_blk (j := 1) h1.g
      go_wp2_with fail
      refine (hen _).mono ?_
      rintro e w2 ⟨rfl, rfl⟩
      go_wp2_with fail
      refine (hfd _ (he.below h1.be)).mono ?_
      rintro e w3 ⟨rfl, hb3⟩
      have h3 := h1.next hb3
      clear hb3 h1 g0 g1
      have o0 := cell_blk (j := 0) h3.o
      have o1 := cell_blk (j := 1) h3.o
      have f0 := free_blk (j := 0) h3.o
      have f1 := free_blk (j := 1) h3.o
      obtain ⟨t0, t1, hef, hbf⟩ := h3.fin (N := 0) (a := none) (cap := 0) (ys := []) (edges_nil w3) (fun p h => by cases h)
      simp only [List.length_nil] at t0 t1 hef hbf
      clear h3 hck hfd
      go_wp2_with fail
      exact bodyPost_ret (v := .tuple #[.agg #[.int .i64 0, .slice none 0 0], .int .i64 15]) (by simp [results, Tryd.results70, go_sem, t0, t1]) rfl ⟨none, 0, rfl, hef, (fun p h => by cases h), hbf⟩
    · rw [if_neg hm]
      refine (add_any n a cap es u v w he hv (by omega) (by omega) (by omega) (by omega) hne hm).mono ?_
      rintro e w' ⟨a1, c1, rfl, h1, h2, h3⟩
      exact ⟨a1, c1, rfl, h1, h3, h2⟩
/-- the boxes of a removal: the graph, the result, what is built -/
structure Gr3 (w : World) (n : Int) (sl : Value) (H : Nat) (v : Value) (k : Nat) (fl : List Value) (wr : World) : Prop where
  g : Gr2 w n sl wr
  h : wr.heap[H]? = some (.cells #[.int .i64 n, v] 27 (0, 0))
  own : wr.ownsRow (H + 1) 42 2 v k fl
  hH : w.heap.size + 2 ≤ H
section
variable {w wr w' : World} {n : Int} {sl : Value} {H : Nat} {v : Value} {k : Nat} {fl : List Value}
theorem Gr3.next (x : Gr3 w n sl H v k fl wr) (hb : Below wr.heap.size wr w') : Gr3 w n sl H v k fl w' := ⟨x.g.next hb, lit_next' hb x.h, x.own.kept (grown_of_below hb) (Classical.em _), x.hH⟩
theorem Gr3.alloc (x : Gr3 w n sl H v k fl wr) (o : Obj) : Gr3 w n sl H v k fl (wr.alloc o) := x.next ((Below.refl _ _).alloc (Nat.le_refl _) _)
theorem Gr3.app {v2 : Value} {k2 : Nat} {f2 : List Value} (x : Gr3 w n sl H v k fl wr) (hown : w'.ownsRow (H + 1) 42 2 v2 k2 f2) (hg : wr.grownBy w' v.ownBlock) :
    Gr3 w n sl H v2 k2 f2 (w'.setCell ⟨H, 1, none⟩ v2) := by
  have hl : ∀ b, v.ownBlock = some b → H + 1 ≤ b := fun b e => (x.own.lt b e).1
  have hH := x.hH
  have g1 : Gr2 w n sl w' := x.g.grown hg (fun b e => by have := hl b e; omega)
  have h1 : w'.heap[H]? = _ := grown_blk hg x.h (fun e => by have := hl H e.symm; omega)
  exact ⟨g1.grown grown_store (fun b e => by cases e; omega), heap_setCell_same w' H 1 _ _ _ h1, hown.kept grown_store (by
      cases hs : v2.ownBlock with
      | none => exact .inl rfl
      | some b => have := (hown.lt b hs).1; exact .inr (by intro e; have := Option.some.inj e; omega)), hH⟩
theorem Gr3.base (x : Gr3 w n sl H v k fl wr) : H + 1 ≤ wr.heap.size := blk_lt x.h
end
theorem delE_snoc (es : List E2) (t x : E2) : delE (es ++ [x]) t = delE es t ++ (if x = t then [] else [x]) := by
  unfold delE
  rw [List.filter_append]
  by_cases h : x = t
  · simp [h]
  · simp [h]
set_option maxRecDepth 100000 in
set_option maxHeartbeats 6400000 in
theorem rremove_any (n : Int) (a : Option Addr) (cap : Nat) (es : List E2) (u v : Int) (w : World) (he : EdgesAt w (.slice a es.length cap) es) :
    Calls Tryd.prog 71 #[.agg #[.int .i64 n, .slice a es.length cap], .int .i64 u, .int .i64 v] w (GrPost w (remX n es u v)) := by
  have hck := fun W h => check_any n a cap es W h
  have hen := fun W => rends_any n u v W
  have h0 := Gr2.start w n (.slice a es.length cap)
  unfold remX chgE
  obtain ⟨C, hC⟩ : ∃ C, checkS n es = C := ⟨_, rfl⟩
  rw [hC] at hck ⊢
  by_cases hz : C = 0
  case neg =>
    rw [if_pos hz, if_pos hz]
    have d1 : (C != 0) = true := by simpa using hz
    clear hC hz
    go_enter Tryd.func71, Tryd.ntmps71
    go_wp2_with fail
    refine (hck _ (he.below h0.be)).mono ?_
    rintro e w1 ⟨rfl, hb1⟩
    have h1 := h0.next hb1
    clear hb1 h0
    have o0 := cell_blk (j := 0) h1.o
    have o1 := cell_blk (j := 1) h1.o
    have f0 := free_blk (j := 0) h1.o
    have f1 := free_blk (j := 1) h1.o
    obtain ⟨t0, t1, hef, hbf⟩ := h1.fin (N := 0) (a := none) (cap := 0) (ys := []) (edges_nil w1) (fun p h => by cases h)
    simp only [List.length_nil] at t0 t1 hef hbf
    clear h1 hck
    go_wp2_with fail
    exact bodyPost_ret (v := .tuple #[.agg #[.int .i64 0, .slice none 0 0], .int .i64 C]) (by simp [results, Tryd.results71, go_sem, t0, t1]) rfl ⟨none, 0, rfl, hef, (fun p h => by cases h), hbf⟩
  subst hz
  have hv := (valid_iff n es).1 hC
  have hel := hv.length_le
  rw [if_neg (show ¬ ((0 : Int) ≠ 0) by simp)]
  obtain ⟨B, hB⟩ : ∃ B, endsB n u v = B := ⟨_, rfl⟩
  rw [hB] at hen ⊢
  cases B with
  | false =>
    rw [if_neg (show ¬ (false = true) by simp), if_pos (show (6 : Int) ≠ 0 by decide)]
    clear hB hC
    go_enter Tryd.func71, Tryd.ntmps71
    go_wp2_with fail
    refine (hck _ (he.below h0.be)).mono ?_
    rintro e w1 ⟨rfl, hb1⟩
    have h1 := h0.next hb1
    clear hb1 h0
    have g0 := cell_blk (j := 0) h1.g
    go_wp2_with fail
    refine (hen _).mono ?_
    rintro e w2 ⟨rfl, rfl⟩
    have o0 := cell_blk (j := 0) h1.o
    have o1 := cell_blk (j := 1) h1.o
    have f0 := free_blk (j := 0) h1.o
    have f1 := free_blk (j := 1) h1.o
    obtain ⟨t0, t1, hef, hbf⟩ := h1.fin (N := 0) (a := none) (cap := 0) (ys := []) (edges_nil w1) (fun p h => by cases h)
    simp only [List.length_nil] at t0 t1 hef hbf
    clear h1 hck
    go_wp2_with fail
    exact bodyPost_ret (v := .tuple #[.agg #[.int .i64 0, .slice none 0 0], .int .i64 6]) (by simp [results, Tryd.results71, go_sem, t0, t1]) rfl ⟨none, 0, rfl, hef, (fun p h => by cases h), hbf⟩
  | true =>
    rw [if_pos rfl, if_neg (show ¬ ((0 : Int) ≠ 0) by simp)]
    have hfd := fun W h => find_any n a cap es u v W h hv
    by_cases hm : (min u v, max u v) ∈ es
    case neg =>
      rw [if_neg hm]
      have hs : findS es u v = -1 := find_no u v es 0 hm
      rw [hs] at hfd
      clear hB hC hm
      go_enter Tryd.func71, Tryd.ntmps71
      go_wp2_with fail
      refine (hck _ (he.below h0.be)).mono ?_
      rintro e w1 ⟨rfl, hb1⟩
      have h1 := h0.next hb1
      clear hb1 h0
      have g0 := cell_blk (j := 0) h1.g
      have g1 := cell_blk (j := 1) h1.g
      go_wp2_with fail
      refine (hen _).mono ?_
      rintro e w2 ⟨rfl, rfl⟩
      go_wp2_with fail
      refine (hfd _ (he.below h1.be)).mono ?_
      rintro e w3 ⟨rfl, hb3⟩
      have h3 := h1.next hb3
      clear hb3 h1 g0 g1
      have o0 := cell_blk (j := 0) h3.o
      have o1 := cell_blk (j := 1) h3.o
      have f0 := free_blk (j := 0) h3.o
      have f1 := free_blk (j := 1) h3.o
      obtain ⟨t0, t1, hef, hbf⟩ := h3.fin (N := 0) (a := none) (cap := 0) (ys := []) (edges_nil w3) (fun p h => by cases h)
      simp only [List.length_nil] at t0 t1 hef hbf
      clear h3 hck hfd
      go_wp2_with fail
      exact bodyPost_ret (v := .tuple #[.agg #[.int .i64 0, .slice none 0 0], .int .i64 7]) (by simp [results, Tryd.results71, go_sem, t0, t1]) rfl ⟨none, 0, rfl, hef, (fun p h => by cases h), hbf⟩
    rw [if_pos hm]
    have hs : 0 ≤ findS es u v := ff_pos es 0 _ hm
    obtain ⟨S, hS⟩ : ∃ S, findS es u v = S := ⟨_, rfl⟩
    rw [hS] at hfd hs
    have d2 : decide (S < 0) = false := decide_eq_false (by omega)
    have hdl : ∀ k, (delE (es.take k) (min u v, max u v)).length ≤ 4096 := fun k => Nat.le_trans (List.length_filter_le _ _) (by rw [List.length_take]; omega)
    obtain ⟨D, hD⟩ : ∃ D, delE es (min u v, max u v) = D := ⟨_, rfl⟩
    rw [hD]
    have HD := Lib.hid hD
    clear hB hC hS hm hD
    go_enter Tryd.func71, Tryd.ntmps71
    go_wp2_with fail
    refine (hck _ (he.below h0.be)).mono ?_
    rintro e w1 ⟨rfl, hb1⟩
    have h1 := h0.next hb1
    clear hb1 h0
    have g0 := cell_blk (j := 0) h1.g
    have g1 := cell_blk (j := 1) h1.g
    go_wp2_with fail
    refine (hen _).mono ?_
    rintro e w2 ⟨rfl, rfl⟩
    go_wp2_with fail
    refine (hfd _ (he.below h1.be)).mono ?_
    rintro e w3 ⟨rfl, hb3⟩
    have h3 := h1.next hb3
    have hx : Gr3 w n (.slice a es.length cap) w3.heap.size (.slice none 0 0) 0 (flatE []) (w3.alloc (.cells #[.int .i64 n, .slice none 0 0] 27)) :=
      ⟨h3.alloc _, heap_alloc_new _ _, World.ownsRow_nil _ _ _ _, h3.base⟩
    clear hb3 h1 g0 g1 hck hfd
    have g0 := cell_blk (j := 0) h3.g
    have g1 := cell_blk (j := 1) h3.g
    obtain ⟨H, hH⟩ : ∃ H, w3.heap.size = H := ⟨_, rfl⟩
    have k1 := cell_blk (j := 1) hx.g.g
    have he3 := he.below hx.g.be
    go_wp2_with fail
    rw [hH] at hx
    try rw [hH]
    obtain ⟨W3, hW3⟩ : ∃ W : World, W = w3.alloc (.cells #[.int .i64 n, .slice none 0 0] 27) := ⟨_, rfl⟩
    rw [← hW3] at hx he3 ⊢
    clear hW3 k1 g0 g1 h3 hH
    go_loopw [37] (fun i wr => ∃ k : Nat, k ≤ es.length ∧ i = .int .i64 k ∧ ∃ sl R, Hid (R = delE (es.take k) (min u v, max u v)) ∧ Gr3 w n (.slice a es.length cap) H sl R.length (flatE R) wr) (fun i _ => es.length - (intOf i).toNat)
    case atStart => exact ⟨0, Nat.zero_le _, rfl, _, [], rfl, hx⟩
    case round =>
      obtain ⟨k, hk, rfl, sl, R, HR, hS⟩ := hrel
      obtain ⟨av, cv, hvv⟩ := owns_shape hS.own
      subst hvv
      by_cases hlt : k < es.length
      · obtain ⟨b, off, x, y, rfl, _, _, htk, c0, c1⟩ := (he.below hS.g.be).at k hlt
        have hds := delE_snoc (es.take k) (min u v, max u v) (x, y)
        rw [← htk] at hds
        have hki : (k : Int) < es.length := by omega
        clear htk hx
        by_cases hxx : x = min u v
        · by_cases hyy : y = max u v
          · have HT : Hid (R = delE (es.take (k + 1)) (min u v, max u v)) := by show _ = _; rw [hds, if_pos (by rw [hxx, hyy]), List.append_nil, HR.out]
            clear hds HR
            subst hxx hyy
            go_wp2_with fail
            have e0 : ∀ z : Ext (wr.heap.size + 1) (wr.alloc (.cells #[.int .i64 (min u v), .int .i64 (max u v)] 42)), z.world.cell? ⟨wr.heap.size, 0, none⟩ = some (.int .i64 (min u v)) := fun z => cell_new z.below 0 _ rfl
            have e1 : ∀ z : Ext (wr.heap.size + 1) (wr.alloc (.cells #[.int .i64 (min u v), .int .i64 (max u v)] 42)), z.world.cell? ⟨wr.heap.size, 1, none⟩ = some (.int .i64 (max u v)) := fun z => cell_new z.below 1 _ rfl
            refine wp_region_ext (wr.heap.size + 1) (wr.alloc (.cells #[.int .i64 (min u v), .int .i64 (max u v)] 42)) (by kernel_rfl) (by kernel_rfl) (Below.refl _ _) ?_
            repeat (go_big_quiet_step ((go_at_call 80; exact Calls.ext_of (by simp) (edge_any u v _))))
            refine wpQuiet_nil ?_
            rintro wq ⟨⟨_, hq⟩, rfl⟩
            have hq2 : Below (wr.alloc (.cells #[.int .i64 (min u v), .int .i64 (max u v)] 42)).heap.size (wr.alloc (.cells #[.int .i64 (min u v), .int .i64 (max u v)] 42)) wq := by simpa using hq
            have hSq := (hS.alloc (.cells #[.int .i64 (min u v), .int .i64 (max u v)] 42)).next hq2
            clear e0 e1 hS c0 c1
            go_wp2_with fail
            go_roundw
            case rel => exact ⟨k + 1, by omega, by go_num, _, R, HT, hSq⟩
            case measure => simp [intOf]; omega
          · subst hxx
            have HT : Hid (R ++ [((min u v), y)] = delE (es.take (k + 1)) (min u v, max u v)) := by show _ = _; rw [hds, if_neg (fun e => by cases e; exact hyy rfl), HR.out]
            have hRl2 : (R ++ [((min u v), y)]).length ≤ 4096 := by rw [HT.out]; exact hdl _
            have hRl3 := hRl2
            rw [List.length_append] at hRl3
            clear hds HR
            go_wp2_with fail
            have e0 : ∀ z : Ext (wr.heap.size + 1) (wr.alloc (.cells #[.int .i64 (min u v), .int .i64 y] 42)), z.world.cell? ⟨wr.heap.size, 0, none⟩ = some (.int .i64 (min u v)) := fun z => cell_new z.below 0 _ rfl
            have e1 : ∀ z : Ext (wr.heap.size + 1) (wr.alloc (.cells #[.int .i64 (min u v), .int .i64 y] 42)), z.world.cell? ⟨wr.heap.size, 1, none⟩ = some (.int .i64 y) := fun z => cell_new z.below 1 _ rfl
            refine wp_region_ext (wr.heap.size + 1) (wr.alloc (.cells #[.int .i64 (min u v), .int .i64 y] 42)) (by kernel_rfl) (by kernel_rfl) (Below.refl _ _) ?_
            repeat (go_big_quiet_step ((go_at_call 80; exact Calls.ext_of (by simp) (edge_any u v _))))
            refine wpQuiet_nil ?_
            rintro wq ⟨⟨_, hq⟩, rfl⟩
            have hq2 : Below (wr.alloc (.cells #[.int .i64 (min u v), .int .i64 y] 42)).heap.size (wr.alloc (.cells #[.int .i64 (min u v), .int .i64 y] 42)) wq := by simpa using hq
            have hSq := (hS.alloc (.cells #[.int .i64 (min u v), .int .i64 y] 42)).next hq2
            have m0 : wq.cell? ⟨wr.heap.size, 0, none⟩ = some (.int .i64 (min u v)) := e0 ⟨wq, hq⟩
            have m1 : wq.cell? ⟨wr.heap.size, 1, none⟩ = some (.int .i64 y) := e1 ⟨wq, hq⟩
            clear e0 e1 hS c0 c1
            have hSA := hSq.alloc (.cells #[.int .i64 (min u v), .int .i64 y] 42)
            have h1 := cell_blk (j := 1) hSq.h
            have hl1 := edges_lit1 wq (min u v) y 42
            clear hSq hq hq2
            go_wp2_with (at_builtin; refine wpList_app_edges edgesT rfl _ _ rfl (H + 1) (.slice av R.length cv) _ R [((min u v), y)] rfl hSA.own rfl hl1 (by simp; omega) (by have := hSA.base; omega) ?_; intro v6 w6 hown6 hg6; rw [List.length_append, List.length_singleton] at hown6; obtain ⟨a6, c6, rfl⟩ := owns_shape hown6; have hH6 := grown_blk hg6 hSA.h (fun e => by have := (hSA.own.lt H e.symm).1; omega); have p1 := cell_blk (j := 1) hH6; have q1 := free_blk (j := 1) hH6)
            go_roundw
            case rel => exact ⟨k + 1, by omega, by go_num, _, R ++ [((min u v), y)], HT, by rw [List.length_append, List.length_singleton]; exact hSA.app hown6 hg6⟩
            case measure => simp [intOf]; omega
        · have HT : Hid (R ++ [(x, y)] = delE (es.take (k + 1)) (min u v, max u v)) := by show _ = _; rw [hds, if_neg (fun e => by cases e; exact hxx rfl), HR.out]
          have hRl2 : (R ++ [(x, y)]).length ≤ 4096 := by rw [HT.out]; exact hdl _
          have hRl3 := hRl2
          rw [List.length_append] at hRl3
          clear hds HR
          go_wp2_with fail
          have e0 : ∀ z : Ext (wr.heap.size + 1) (wr.alloc (.cells #[.int .i64 x, .int .i64 y] 42)), z.world.cell? ⟨wr.heap.size, 0, none⟩ = some (.int .i64 x) := fun z => cell_new z.below 0 _ rfl
          have e1 : ∀ z : Ext (wr.heap.size + 1) (wr.alloc (.cells #[.int .i64 x, .int .i64 y] 42)), z.world.cell? ⟨wr.heap.size, 1, none⟩ = some (.int .i64 y) := fun z => cell_new z.below 1 _ rfl
          refine wp_region_ext (wr.heap.size + 1) (wr.alloc (.cells #[.int .i64 x, .int .i64 y] 42)) (by kernel_rfl) (by kernel_rfl) (Below.refl _ _) ?_
          repeat (go_big_quiet_step ((go_at_call 80; exact Calls.ext_of (by simp) (edge_any u v _))))
          refine wpQuiet_nil ?_
          rintro wq ⟨⟨_, hq⟩, rfl⟩
          have hq2 : Below (wr.alloc (.cells #[.int .i64 x, .int .i64 y] 42)).heap.size (wr.alloc (.cells #[.int .i64 x, .int .i64 y] 42)) wq := by simpa using hq
          have hSq := (hS.alloc (.cells #[.int .i64 x, .int .i64 y] 42)).next hq2
          have m0 : wq.cell? ⟨wr.heap.size, 0, none⟩ = some (.int .i64 x) := e0 ⟨wq, hq⟩
          have m1 : wq.cell? ⟨wr.heap.size, 1, none⟩ = some (.int .i64 y) := e1 ⟨wq, hq⟩
          clear e0 e1 hS c0 c1
          have hSA := hSq.alloc (.cells #[.int .i64 x, .int .i64 y] 42)
          have h1 := cell_blk (j := 1) hSq.h
          have hl1 := edges_lit1 wq x y 42
          clear hSq hq hq2
          go_wp2_with (at_builtin; refine wpList_app_edges edgesT rfl _ _ rfl (H + 1) (.slice av R.length cv) _ R [(x, y)] rfl hSA.own rfl hl1 (by simp; omega) (by have := hSA.base; omega) ?_; intro v6 w6 hown6 hg6; rw [List.length_append, List.length_singleton] at hown6; obtain ⟨a6, c6, rfl⟩ := owns_shape hown6; have hH6 := grown_blk hg6 hSA.h (fun e => by have := (hSA.own.lt H e.symm).1; omega); have p1 := cell_blk (j := 1) hH6; have q1 := free_blk (j := 1) hH6)
          go_roundw
          case rel => exact ⟨k + 1, by omega, by go_num, _, R ++ [(x, y)], HT, by rw [List.length_append, List.length_singleton]; exact hSA.app hown6 hg6⟩
          case measure => simp [intOf]; omega
      · obtain rfl : k = es.length := by omega
        have hRD : R = D := by rw [HR.out, List.take_length]; exact HD.out
        subst hRD
        obtain ⟨a6, c6, hv6, he6, ha6⟩ := EdgesAt.of_owns hS.own (by have := hdl es.length; rw [List.take_length] at this; rw [HD.out] at this; omega)
        cases hv6
        have h0 := cell_blk (j := 0) hS.h
        have h1 := cell_blk (j := 1) hS.h
        have o0 := cell_blk (j := 0) hS.g.o
        have o1 := cell_blk (j := 1) hS.g.o
        have f0 := free_blk (j := 0) hS.g.o
        have f1 := free_blk (j := 1) hS.g.o
        have hHH := hS.hH
        obtain ⟨t0, t1, hef, hbf⟩ := hS.g.fin (N := n) he6 (fun p h => by have := ha6 p h; omega)
        clear HR hS
        go_wp2_with fail
        exact bodyPost_ret (v := .tuple #[.agg #[.int .i64 n, .slice av R.length cv], .int .i64 0]) (by simp [results, Tryd.results71, go_sem, t0, t1]) rfl ⟨av, cv, rfl, hef, (fun p h => by have := ha6 p h; omega), hbf⟩
end Go.Proofs.YtekbpoppajbljaaDoor

namespace Go.Proofs.YtekbpoppajbljaaDoor
open Go.RowKit Go.BigFrame

def wedX (n : Int) (es : List E2) : Int × Int := if checkS n es ≠ 0 then (0, checkS n es) else (wedS es n.toNat, 0)
def cntX (n : Int) (es : List E2) : Int × Int := if checkS n es ≠ 0 then (0, checkS n es) else (sqT es n.toNat n.toNat / 4, 0)
def nodX (n : Int) (es : List E2) : List Int × Int := if checkS n es ≠ 0 then ([], checkS n es) else (sqL es n.toNat, 0)
def edgX (n : Int) (es : List E2) : List Int × Int := if checkS n es ≠ 0 then ([], checkS n es) else (ovS es es.length, 0)
/-- numbers and an error are handed back -/
def LPost (w : World) (x : List Int × Int) (e : Ending) (w' : World) : Prop := ∃ a c, e = .returned (.tuple #[.slice a x.1.length c, .int .i64 x.2]) ∧ IntsAt w' (.slice a x.1.length c) x.1 ∧ (∀ p, a = some p → w.heap.size ≤ p.block) ∧ Below w.heap.size w w'
theorem valid_nat {n : Int} {es : List E2} (h : ¬ checkS n es ≠ 0) : ∃ m : Nat, n = m ∧ Valid m es := by
  have hv := (valid_iff n es).1 (Classical.not_not.1 h)
  obtain ⟨m, rfl⟩ := Int.eq_ofNat_of_zero_le hv.1
  exact ⟨m, rfl, hv⟩
theorem cyc_cnt {n : Nat} {es : List E2} (hv : Valid n es) : wrap64 ((cyc30 es n).length : Int) = sqT es n n / 4 := by
  have h1 := sqT_four hv
  have h2 := sqT_bd es n (by have := hv.2.1; omega) n
  have hn : n ≤ 64 := by have := hv.2.1; omega
  rw [h1] at h2 ⊢
  rw [show 4 * ((cyc30 es n).length : Int) / 4 = ((cyc30 es n).length : Int) by omega]
  exact wrap64_in _ (by omega) (by omega)
theorem cyc_nodes {n : Nat} {es : List E2} (hv : Valid n es) : cntW n ((cyc30 es n).flatMap qn) = sqL es n := by
  have hn : n ≤ 64 := by have := hv.2.1; omega
  apply List.ext_getElem?
  intro i
  by_cases hi : i < n
  · rw [cntW_get _ _ _ hi, sqL_get _ _ _ hi, cyc_node hv i hi]
    have := sqN_bd es n hn i n
    rw [wrap64_in _ (by omega) (by omega)]
  · rw [List.getElem?_eq_none (by rw [cntW_length]; omega), List.getElem?_eq_none (by rw [sqL_length]; omega)]
theorem cyc_edges {n : Nat} {es : List E2} (hv : Valid n es) : cntW es.length ((cyc30 es n).flatMap (qe es)) = ovS es es.length := by
  apply List.ext_getElem?
  intro i
  by_cases hi : i < es.length
  · rw [cntW_get _ _ _ hi, cyc_edge hv i hi]
    unfold ovS
    rw [List.take_length, List.getElem?_map, List.getElem?_eq_getElem hi]
    have := ovN_len es es[i].1.toNat es[i].2.toNat
    rw [wrap64_in _ (by omega) (by omega)]
    rfl
  · rw [List.getElem?_eq_none (by rw [cntW_length]; omega), List.getElem?_eq_none (by rw [ovS_len _ _ (Nat.le_refl _)]; omega)]
theorem deg_same {n : Nat} {es : List E2} (hv : Valid n es) (p : Nat) : ((neighS es p).length : Int) = oc64 (rowN es p : Int) := by
  rw [oc_K hv, deg_sum hv]
  unfold dK
  rw [sumN_K]
  refine sumK_congr n fun x _ => ?_
  show ind (adjK es p x) = _
  cases adjK es p x <;> rfl
theorem kept_nums {X X' Y Y' D1 D2 : Int} {L : Nat} (hw : X' = X + D1 + D2) (hc : Y' = Y + (L : Int)) (hL : L ≤ 4096) (hX : 0 ≤ X ∧ X ≤ 1125899906842624) (hY : 0 ≤ Y ∧ Y ≤ 1125899906842624) (h1 : 0 ≤ D1 ∧ D1 ≤ 127) (h2 : 0 ≤ D2 ∧ D2 ≤ 127) :
    IntKind.i64.wrap (X + D1) = X + D1 ∧ IntKind.i64.wrap (X + D1 + D2) = X + D1 + D2 ∧ IntKind.i64.wrap (Y + (L : Int)) = Y + (L : Int) ∧ (X' != X + D1 + D2) = false ∧ (Y' != Y + (L : Int)) = false :=
  ⟨IntWalk.i64_in _ (by omega), IntWalk.i64_in _ (by omega), IntWalk.i64_in _ (by omega), by simp; omega, by simp; omega⟩
theorem kept_back {Y Y' : Int} {L : Nat} (hc : Y = Y' + (L : Int)) (hL : L ≤ 4096) : IntKind.i64.wrap (Y - Y') = Y - Y' ∧ ((L : Int) != Y - Y') = false :=
  ⟨IntWalk.i64_in _ (by omega), by simp; omega⟩
theorem wed_same {n : Nat} {es : List E2} (hv : Valid n es) : wed30 es n = wedS es n := by
  unfold wed30 wedS
  exact sumN_congr _ _ n fun u _ => by unfold deg30; rw [deg_same hv]
theorem swed_err (n : Int) (a : Option Addr) (cap : Nat) (es : List E2) (w : World) (he : EdgesAt w (.slice a es.length cap) es) (hC : checkS n es ≠ 0) :
    Calls Tryd.prog 25 #[.agg #[.int .i64 n, .slice a es.length cap]] w fun e w' => e = .returned (.tuple #[.int .i64 0, .int .i64 (checkS n es)]) ∧ Below w.heap.size w w' := by
  have hb0 : Below w.heap.size w (w.alloc (.cells #[.int .i64 n, .slice a es.length cap] 27)) := (Below.refl _ _).alloc (Nat.le_refl _) _
  have hck := fun W h => gcheck_any n a cap es W h
  obtain ⟨C, hCC⟩ : ∃ C, checkS n es = C := ⟨_, rfl⟩
  rw [hCC] at hck hC ⊢
  have d1 : (C != 0) = true := by simpa using hC
  clear hCC hC
  go_enter Tryd.func25, Tryd.ntmps25
  go_wp2_with fail
  refine (hck _ (he.below hb0)).mono ?_
  rintro e w1 ⟨rfl, hb1⟩
  go_wp2_with fail
  go_ret2
  exact ⟨rfl, hb0.trans (hb1.mono hb0.size)⟩
theorem scnt_err (n : Int) (a : Option Addr) (cap : Nat) (es : List E2) (w : World) (he : EdgesAt w (.slice a es.length cap) es) (hC : checkS n es ≠ 0) :
    Calls Tryd.prog 24 #[.agg #[.int .i64 n, .slice a es.length cap]] w fun e w' => e = .returned (.tuple #[.int .i64 0, .int .i64 (checkS n es)]) ∧ Below w.heap.size w w' := by
  have hb0 : Below w.heap.size w (w.alloc (.cells #[.int .i64 n, .slice a es.length cap] 27)) := (Below.refl _ _).alloc (Nat.le_refl _) _
  have hck := fun W h => gcheck_any n a cap es W h
  obtain ⟨C, hCC⟩ : ∃ C, checkS n es = C := ⟨_, rfl⟩
  rw [hCC] at hck hC ⊢
  have d1 : (C != 0) = true := by simpa using hC
  clear hCC hC
  go_enter Tryd.func24, Tryd.ntmps24
  go_wp2_with fail
  refine (hck _ (he.below hb0)).mono ?_
  rintro e w1 ⟨rfl, hb1⟩
  go_wp2_with fail
  go_ret2
  exact ⟨rfl, hb0.trans (hb1.mono hb0.size)⟩
theorem rwed_err (n : Int) (a : Option Addr) (cap : Nat) (es : List E2) (w : World) (he : EdgesAt w (.slice a es.length cap) es) (hC : checkS n es ≠ 0) :
    Calls Tryd.prog 15 #[.agg #[.int .i64 n, .slice a es.length cap]] w fun e w' => e = .returned (.tuple #[.int .i64 0, .int .i64 (checkS n es)]) ∧ Below w.heap.size w w' := by
  have hb0 : Below w.heap.size w (w.alloc (.cells #[.int .i64 n, .slice a es.length cap] 27)) := (Below.refl _ _).alloc (Nat.le_refl _) _
  have hck := fun W h => check_any n a cap es W h
  obtain ⟨C, hCC⟩ : ∃ C, checkS n es = C := ⟨_, rfl⟩
  rw [hCC] at hck hC ⊢
  have d1 : (C != 0) = true := by simpa using hC
  clear hCC hC
  go_enter Tryd.func15, Tryd.ntmps15
  go_wp2_with fail
  refine (hck _ (he.below hb0)).mono ?_
  rintro e w1 ⟨rfl, hb1⟩
  go_wp2_with fail
  go_ret2
  exact ⟨rfl, hb0.trans (hb1.mono hb0.size)⟩
theorem rcnt_err (n : Int) (a : Option Addr) (cap : Nat) (es : List E2) (w : World) (he : EdgesAt w (.slice a es.length cap) es) (hC : checkS n es ≠ 0) :
    Calls Tryd.prog 16 #[.agg #[.int .i64 n, .slice a es.length cap]] w fun e w' => e = .returned (.tuple #[.int .i64 0, .int .i64 (checkS n es)]) ∧ Below w.heap.size w w' := by
  have hb0 : Below w.heap.size w (w.alloc (.cells #[.int .i64 n, .slice a es.length cap] 27)) := (Below.refl _ _).alloc (Nat.le_refl _) _
  have hck := fun W h => check_any n a cap es W h
  obtain ⟨C, hCC⟩ : ∃ C, checkS n es = C := ⟨_, rfl⟩
  rw [hCC] at hck hC ⊢
  have d1 : (C != 0) = true := by simpa using hC
  clear hCC hC
  go_enter Tryd.func16, Tryd.ntmps16
  go_wp2_with fail
  refine (hck _ (he.below hb0)).mono ?_
  rintro e w1 ⟨rfl, hb1⟩
  go_wp2_with fail
  go_ret2
  exact ⟨rfl, hb0.trans (hb1.mono hb0.size)⟩
theorem snod_err (n : Int) (a : Option Addr) (cap : Nat) (es : List E2) (w : World) (he : EdgesAt w (.slice a es.length cap) es) (hC : checkS n es ≠ 0) :
    Calls Tryd.prog 27 #[.agg #[.int .i64 n, .slice a es.length cap]] w fun e w' => e = .returned (.tuple #[.slice none 0 0, .int .i64 (checkS n es)]) ∧ Below w.heap.size w w' := by
  have hb0 : Below w.heap.size w (w.alloc (.cells #[.int .i64 n, .slice a es.length cap] 27)) := (Below.refl _ _).alloc (Nat.le_refl _) _
  have hck := fun W h => gcheck_any n a cap es W h
  obtain ⟨C, hCC⟩ : ∃ C, checkS n es = C := ⟨_, rfl⟩
  rw [hCC] at hck hC ⊢
  have d1 : (C != 0) = true := by simpa using hC
  clear hCC hC
  go_enter Tryd.func27, Tryd.ntmps27
  go_wp2_with fail
  refine (hck _ (he.below hb0)).mono ?_
  rintro e w1 ⟨rfl, hb1⟩
  go_wp2_with fail
  go_ret2
  exact ⟨rfl, hb0.trans (hb1.mono hb0.size)⟩
theorem sedg_err (n : Int) (a : Option Addr) (cap : Nat) (es : List E2) (w : World) (he : EdgesAt w (.slice a es.length cap) es) (hC : checkS n es ≠ 0) :
    Calls Tryd.prog 28 #[.agg #[.int .i64 n, .slice a es.length cap]] w fun e w' => e = .returned (.tuple #[.slice none 0 0, .int .i64 (checkS n es)]) ∧ Below w.heap.size w w' := by
  have hb0 : Below w.heap.size w (w.alloc (.cells #[.int .i64 n, .slice a es.length cap] 27)) := (Below.refl _ _).alloc (Nat.le_refl _) _
  have hck := fun W h => gcheck_any n a cap es W h
  obtain ⟨C, hCC⟩ : ∃ C, checkS n es = C := ⟨_, rfl⟩
  rw [hCC] at hck hC ⊢
  have d1 : (C != 0) = true := by simpa using hC
  clear hCC hC
  go_enter Tryd.func28, Tryd.ntmps28
  go_wp2_with fail
  refine (hck _ (he.below hb0)).mono ?_
  rintro e w1 ⟨rfl, hb1⟩
  go_wp2_with fail
  go_ret2
  exact ⟨rfl, hb0.trans (hb1.mono hb0.size)⟩
theorem rnod_err (n : Int) (a : Option Addr) (cap : Nat) (es : List E2) (w : World) (he : EdgesAt w (.slice a es.length cap) es) (hC : checkS n es ≠ 0) :
    Calls Tryd.prog 40 #[.agg #[.int .i64 n, .slice a es.length cap]] w fun e w' => e = .returned (.tuple #[.slice none 0 0, .int .i64 (checkS n es)]) ∧ Below w.heap.size w w' := by
  have hb0 : Below w.heap.size w (w.alloc (.cells #[.int .i64 n, .slice a es.length cap] 27)) := (Below.refl _ _).alloc (Nat.le_refl _) _
  have hck := fun W h => check_any n a cap es W h
  obtain ⟨C, hCC⟩ : ∃ C, checkS n es = C := ⟨_, rfl⟩
  rw [hCC] at hck hC ⊢
  have d1 : (C != 0) = true := by simpa using hC
  clear hCC hC
  go_enter Tryd.func40, Tryd.ntmps40
  go_wp2_with fail
  refine (hck _ (he.below hb0)).mono ?_
  rintro e w1 ⟨rfl, hb1⟩
  go_wp2_with fail
  go_ret2
  exact ⟨rfl, hb0.trans (hb1.mono hb0.size)⟩
theorem redg_err (n : Int) (a : Option Addr) (cap : Nat) (es : List E2) (w : World) (he : EdgesAt w (.slice a es.length cap) es) (hC : checkS n es ≠ 0) :
    Calls Tryd.prog 41 #[.agg #[.int .i64 n, .slice a es.length cap]] w fun e w' => e = .returned (.tuple #[.slice none 0 0, .int .i64 (checkS n es)]) ∧ Below w.heap.size w w' := by
  have hb0 : Below w.heap.size w (w.alloc (.cells #[.int .i64 n, .slice a es.length cap] 27)) := (Below.refl _ _).alloc (Nat.le_refl _) _
  have hck := fun W h => check_any n a cap es W h
  obtain ⟨C, hCC⟩ : ∃ C, checkS n es = C := ⟨_, rfl⟩
  rw [hCC] at hck hC ⊢
  have d1 : (C != 0) = true := by simpa using hC
  clear hCC hC
  go_enter Tryd.func41, Tryd.ntmps41
  go_wp2_with fail
  refine (hck _ (he.below hb0)).mono ?_
  rintro e w1 ⟨rfl, hb1⟩
  go_wp2_with fail
  go_ret2
  exact ⟨rfl, hb0.trans (hb1.mono hb0.size)⟩
theorem rnodes_any (n : Nat) (a : Option Addr) (cap : Nat) (es : List E2) (w : World) (he : EdgesAt w (.slice a es.length cap) es) (hv : Valid n es) :
    Calls Tryd.prog 40 #[.agg #[.int .i64 n, .slice a es.length cap]] w fun e w' => ∃ g, e = .returned (.tuple #[.slice (some ⟨g, 0, none⟩) n n, .int .i64 0]) ∧ w.heap.size ≤ g ∧ NumAt w' g (sqL es n) ∧ Below w.heap.size w w' := by
  have hb0 : Below w.heap.size w (w.alloc (.cells #[.int .i64 n, .slice a es.length cap] 27)) := (Below.refl _ _).alloc (Nat.le_refl _) _
  have hG0 := heap_alloc_new w (.cells #[.int .i64 n, .slice a es.length cap] 27)
  have hs := fun w1 h => squares30_any n a cap es w1 h hv
  have hck := fun W h => check_any n a cap es W h
  rw [(valid_iff n es).2 hv] at hck
  rw [← cyc_nodes hv]
  obtain ⟨C, hC⟩ : ∃ C, wrap64 ((cyc30 es n).length : Int) = C := ⟨_, rfl⟩
  rw [hC] at hs
  clear hC
  go_enter Tryd.func40, Tryd.ntmps40
  go_wp2_with fail
  refine (hck _ (he.below hb0)).mono ?_
  rintro e w1 ⟨rfl, hb1⟩
  have hb01 := hb0.trans (hb1.mono hb0.size)
  have g0 := cell_blk (j := 0) (lit_next' hb1 hG0)
  have g1 := cell_blk (j := 1) (lit_next' hb1 hG0)
  go_wp2_with fail
  refine (hs _ (he.below hb01)).mono ?_
  rintro e w2 ⟨gN, gE, rfl, hS, hN, hE, hb2⟩
  go_wp2_with fail
  go_ret2
  exact ⟨gN, rfl, Nat.le_trans hb01.size hN, hS.1, hb01.trans (hb2.mono hb01.size)⟩
theorem redges_any (n : Nat) (a : Option Addr) (cap : Nat) (es : List E2) (w : World) (he : EdgesAt w (.slice a es.length cap) es) (hv : Valid n es) :
    Calls Tryd.prog 41 #[.agg #[.int .i64 n, .slice a es.length cap]] w fun e w' => ∃ g, e = .returned (.tuple #[.slice (some ⟨g, 0, none⟩) es.length es.length, .int .i64 0]) ∧ w.heap.size ≤ g ∧ NumAt w' g (ovS es es.length) ∧ Below w.heap.size w w' := by
  have hb0 : Below w.heap.size w (w.alloc (.cells #[.int .i64 n, .slice a es.length cap] 27)) := (Below.refl _ _).alloc (Nat.le_refl _) _
  have hG0 := heap_alloc_new w (.cells #[.int .i64 n, .slice a es.length cap] 27)
  have hs := fun w1 h => squares30_any n a cap es w1 h hv
  have hck := fun W h => check_any n a cap es W h
  rw [(valid_iff n es).2 hv] at hck
  rw [← cyc_edges hv]
  obtain ⟨C, hC⟩ : ∃ C, wrap64 ((cyc30 es n).length : Int) = C := ⟨_, rfl⟩
  rw [hC] at hs
  clear hC
  go_enter Tryd.func41, Tryd.ntmps41
  go_wp2_with fail
  refine (hck _ (he.below hb0)).mono ?_
  rintro e w1 ⟨rfl, hb1⟩
  have hb01 := hb0.trans (hb1.mono hb0.size)
  have g0 := cell_blk (j := 0) (lit_next' hb1 hG0)
  have g1 := cell_blk (j := 1) (lit_next' hb1 hG0)
  go_wp2_with fail
  refine (hs _ (he.below hb01)).mono ?_
  rintro e w2 ⟨gN, gE, rfl, hS, hN, hE, hb2⟩
  go_wp2_with fail
  go_ret2
  exact ⟨gE, rfl, Nat.le_trans hb01.size hE, hS.2.1, hb01.trans (hb2.mono hb01.size)⟩
theorem swedX_any (n : Int) (a : Option Addr) (cap : Nat) (es : List E2) (w : World) (he : EdgesAt w (.slice a es.length cap) es) :
    Calls Tryd.prog 25 #[.agg #[.int .i64 n, .slice a es.length cap]] w fun e w' => e = .returned (.tuple #[.int .i64 (wedX n es).1, .int .i64 (wedX n es).2]) ∧ Below w.heap.size w w' := by
  by_cases hC : checkS n es ≠ 0
  · unfold wedX
    rw [if_pos hC]
    exact swed_err n a cap es w he hC
  · unfold wedX
    rw [if_neg hC]
    obtain ⟨m, rfl, hv⟩ := valid_nat hC
    rw [Int.toNat_natCast]
    exact swedges_any m a cap es w he hv
theorem scntX_any (n : Int) (a : Option Addr) (cap : Nat) (es : List E2) (w : World) (he : EdgesAt w (.slice a es.length cap) es) (hT : TzAt w) :
    Calls Tryd.prog 24 #[.agg #[.int .i64 n, .slice a es.length cap]] w fun e w' => e = .returned (.tuple #[.int .i64 (cntX n es).1, .int .i64 (cntX n es).2]) ∧ Below w.heap.size w w' := by
  by_cases hC : checkS n es ≠ 0
  · unfold cntX
    rw [if_pos hC]
    exact scnt_err n a cap es w he hC
  · unfold cntX
    rw [if_neg hC]
    obtain ⟨m, rfl, hv⟩ := valid_nat hC
    rw [Int.toNat_natCast]
    exact scount_any m a cap es w he hv hT
theorem rwedX_any (n : Int) (a : Option Addr) (cap : Nat) (es : List E2) (w : World) (he : EdgesAt w (.slice a es.length cap) es) :
    Calls Tryd.prog 15 #[.agg #[.int .i64 n, .slice a es.length cap]] w fun e w' => e = .returned (.tuple #[.int .i64 (wedX n es).1, .int .i64 (wedX n es).2]) ∧ Below w.heap.size w w' := by
  by_cases hC : checkS n es ≠ 0
  · unfold wedX
    rw [if_pos hC]
    exact rwed_err n a cap es w he hC
  · unfold wedX
    rw [if_neg hC]
    obtain ⟨m, rfl, hv⟩ := valid_nat hC
    rw [Int.toNat_natCast]
    have h := wedges30_any m a cap es w he hv; rw [wed_same hv] at h; exact h
theorem rcntX_any (n : Int) (a : Option Addr) (cap : Nat) (es : List E2) (w : World) (he : EdgesAt w (.slice a es.length cap) es) :
    Calls Tryd.prog 16 #[.agg #[.int .i64 n, .slice a es.length cap]] w fun e w' => e = .returned (.tuple #[.int .i64 (cntX n es).1, .int .i64 (cntX n es).2]) ∧ Below w.heap.size w w' := by
  by_cases hC : checkS n es ≠ 0
  · unfold cntX
    rw [if_pos hC]
    exact rcnt_err n a cap es w he hC
  · unfold cntX
    rw [if_neg hC]
    obtain ⟨m, rfl, hv⟩ := valid_nat hC
    rw [Int.toNat_natCast]
    have h := count30_any m a cap es w he hv; rw [cyc_cnt hv] at h; exact h
theorem snodX_any (n : Int) (a : Option Addr) (cap : Nat) (es : List E2) (w : World) (he : EdgesAt w (.slice a es.length cap) es) (hT : TzAt w) :
    Calls Tryd.prog 27 #[.agg #[.int .i64 n, .slice a es.length cap]] w (LPost w (nodX n es)) := by
  by_cases hC : checkS n es ≠ 0
  · unfold nodX
    rw [if_pos hC]
    refine (snod_err n a cap es w he hC).mono ?_
    rintro e w' ⟨rfl, hb⟩
    exact ⟨none, 0, rfl, ints_nil w', (fun p h => by cases h), hb⟩
  · unfold nodX
    rw [if_neg hC]
    obtain ⟨m, rfl, hv⟩ := valid_nat hC
    rw [Int.toNat_natCast]
    refine (snodes_any m a cap es w he hv hT).mono ?_
    rintro e w' ⟨g, rfl, hg, hN, hb⟩
    have hl := sqL_length es m
    change NumAt w' g (sqL es m) at hN
    have h64 := hv.2.1
    have hel := hv.length_le
    have h := NumAt.ints (l := _) hN (by rw [hl]; omega)
    exact ⟨some ⟨g, 0, none⟩, _, by rw [hl], h, (fun p hp => by cases hp; exact hg), hb⟩
theorem sedgX_any (n : Int) (a : Option Addr) (cap : Nat) (es : List E2) (w : World) (he : EdgesAt w (.slice a es.length cap) es) (hT : TzAt w) :
    Calls Tryd.prog 28 #[.agg #[.int .i64 n, .slice a es.length cap]] w (LPost w (edgX n es)) := by
  by_cases hC : checkS n es ≠ 0
  · unfold edgX
    rw [if_pos hC]
    refine (sedg_err n a cap es w he hC).mono ?_
    rintro e w' ⟨rfl, hb⟩
    exact ⟨none, 0, rfl, ints_nil w', (fun p h => by cases h), hb⟩
  · unfold edgX
    rw [if_neg hC]
    obtain ⟨m, rfl, hv⟩ := valid_nat hC
    refine (sedges_any m a cap es w he hv hT).mono ?_
    rintro e w' ⟨g, rfl, hg, hN, hb⟩
    have hl := ovS_len es es.length (Nat.le_refl _)
    have h64 := hv.2.1
    have hel := hv.length_le
    have h := NumAt.ints (l := _) hN (by rw [hl]; omega)
    exact ⟨some ⟨g, 0, none⟩, _, by rw [hl], h, (fun p hp => by cases hp; exact hg), hb⟩
theorem rnodX_any (n : Int) (a : Option Addr) (cap : Nat) (es : List E2) (w : World) (he : EdgesAt w (.slice a es.length cap) es) :
    Calls Tryd.prog 40 #[.agg #[.int .i64 n, .slice a es.length cap]] w (LPost w (nodX n es)) := by
  by_cases hC : checkS n es ≠ 0
  · unfold nodX
    rw [if_pos hC]
    refine (rnod_err n a cap es w he hC).mono ?_
    rintro e w' ⟨rfl, hb⟩
    exact ⟨none, 0, rfl, ints_nil w', (fun p h => by cases h), hb⟩
  · unfold nodX
    rw [if_neg hC]
    obtain ⟨m, rfl, hv⟩ := valid_nat hC
    rw [Int.toNat_natCast]
    refine (rnodes_any m a cap es w he hv).mono ?_
    rintro e w' ⟨g, rfl, hg, hN, hb⟩
    have hl := sqL_length es m
    change NumAt w' g (sqL es m) at hN
    have h64 := hv.2.1
    have hel := hv.length_le
    have h := NumAt.ints (l := _) hN (by rw [hl]; omega)
    exact ⟨some ⟨g, 0, none⟩, _, by rw [hl], h, (fun p hp => by cases hp; exact hg), hb⟩
theorem redgX_any (n : Int) (a : Option Addr) (cap : Nat) (es : List E2) (w : World) (he : EdgesAt w (.slice a es.length cap) es) :
    Calls Tryd.prog 41 #[.agg #[.int .i64 n, .slice a es.length cap]] w (LPost w (edgX n es)) := by
  by_cases hC : checkS n es ≠ 0
  · unfold edgX
    rw [if_pos hC]
    refine (redg_err n a cap es w he hC).mono ?_
    rintro e w' ⟨rfl, hb⟩
    exact ⟨none, 0, rfl, ints_nil w', (fun p h => by cases h), hb⟩
  · unfold edgX
    rw [if_neg hC]
    obtain ⟨m, rfl, hv⟩ := valid_nat hC
    refine (redges_any m a cap es w he hv).mono ?_
    rintro e w' ⟨g, rfl, hg, hN, hb⟩
    have hl := ovS_len es es.length (Nat.le_refl _)
    have h64 := hv.2.1
    have hel := hv.length_le
    have h := NumAt.ints (l := _) hN (by rw [hl]; omega)
    exact ⟨some ⟨g, 0, none⟩, _, by rw [hl], h, (fun p hp => by cases hp; exact hg), hb⟩
end Go.Proofs.YtekbpoppajbljaaDoor

namespace Go.Proofs.YtekbpoppajbljaaDoor
open Go.RowKit Go.BigFrame

/-- a graph with its numbers is handed back: the edges lie where they lay -/
def RPost (w : World) (a : Option Addr) (q : Qd) (err : Int) (e : Ending) (w' : World) : Prop :=
  ∃ a1 cap a2 c2, e = .returned (.tuple #[.agg #[.int .i64 q.n, .slice a1 q.es.length cap, .int .i64 q.wd, .int .i64 q.ct, .slice a2 q.ns.length c2], .int .i64 err]) ∧ EdgesAt w' (.slice a1 q.es.length cap) q.es ∧ IntsAt w' (.slice a2 q.ns.length c2) q.ns ∧ (∀ p, a1 = some p → a = some p) ∧ (∀ p, a2 = some p → w.heap.size ≤ p.block) ∧ Below w.heap.size w w'
set_option maxRecDepth 100000 in
set_option maxHeartbeats 3200000 in
theorem ropen_any (n : Int) (a : Option Addr) (cap : Nat) (es : List E2) (w : World) (he : EdgesAt w (.slice a es.length cap) es) :
    Calls Tryd.prog 38 #[.agg #[.int .i64 n, .slice a es.length cap]] w (RPost w a (openX n es).1 (openX n es).2) := by
  have h0 := Bx2.start w (.cells #[.int .i64 n, .slice a es.length cap] 27) (.int .i64 0) (.slice none 0 0) (.int .i64 0) (.int .i64 0) (.slice none 0 0) 46
  have hwx := fun W h => rwedX_any n a cap es W h
  unfold openX
  by_cases hC : checkS n es ≠ 0
  · rw [if_pos hC]
    unfold wedX at hwx
    rw [if_pos hC] at hwx
    dsimp only at hwx ⊢
    obtain ⟨C, hCC⟩ : ∃ C, checkS n es = C := ⟨_, rfl⟩
    rw [hCC] at hwx hC ⊢
    have d1 : (C != 0) = true := by simpa using hC
    clear hCC hC
    have g0 := cell_blk (j := 0) h0.g
    have g1 := cell_blk (j := 1) h0.g
    go_enter Tryd.func38, Tryd.ntmps38
    go_wp2_with fail
    refine (hwx _ (he.below h0.be)).mono ?_
    rintro e w1 ⟨rfl, hb1⟩
    have h1 := h0.next hb1
    clear hb1 h0 g0 g1
    obtain ⟨o0, o1, o2, o3, o4⟩ := cells5 h1.o
    obtain ⟨f0, f1, f2, f3, f4⟩ := frees5 h1.o
    have hbe := h1.be
    have HF := Lib.hid (set5_at h1.o (.int .i64 0) (.slice none 0 0) (.int .i64 0) (.int .i64 0) (.slice none 0 0))
    clear h1 hwx
    go_wp2_with fail
    obtain ⟨t0, t1, t2, t3, t4⟩ := cells5 HF.out
    unfold set5 at t0 t1 t2 t3 t4
    exact bodyPost_ret (v := .tuple #[.agg #[.int .i64 0, .slice none 0 0, .int .i64 0, .int .i64 0, .slice none 0 0], .int .i64 C]) (by simp [results, Tryd.results38, go_sem, t0, t1, t2, t3, t4]) rfl
      ⟨none, 0, none, 0, rfl, edges_nil _, ints_nil _, (fun p h => by cases h), (fun p h => by cases h), hbe.grown (set5_grown w1 (w.heap.size + 1) (.int .i64 0) (.slice none 0 0) (.int .i64 0) (.int .i64 0) (.slice none 0 0)) hbe.size (fun k e => by cases e; omega)⟩
  · rw [if_neg hC]
    unfold wedX at hwx
    rw [if_neg hC] at hwx
    dsimp only at hwx
    obtain ⟨m, rfl, hv⟩ := valid_nat hC
    rw [Int.toNat_natCast] at hwx ⊢
    clear hC
    have hsq : ∀ W : World, EdgesAt W (.slice a es.length cap) es → Calls Tryd.prog 50 #[.agg #[.int .i64 m, .slice a es.length cap]] W fun e w' => ∃ gN gE, e = .returned (.tuple #[.slice (some ⟨gN, 0, none⟩) m m, .slice (some ⟨gE, 0, none⟩) es.length es.length, .int .i64 (sqT es m m / 4)]) ∧ NumAt w' gN (sqL es m) ∧ W.heap.size ≤ gN ∧ Below W.heap.size W w' := fun W h => by
      have hs := squares30_any m a cap es W h hv
      rw [cyc_cnt hv] at hs
      refine hs.mono ?_
      rintro e w' ⟨gN, gE, rfl, hS, h1, h2, h3⟩
      exact ⟨gN, gE, rfl, by rw [← cyc_nodes hv]; exact hS.1, h1, h3⟩
    have hnl := sqL_length es m
    have h64 : m ≤ 64 := by have := hv.2.1; omega
    unfold quadN
    dsimp only
    obtain ⟨X, hX⟩ : ∃ X, wedS es m = X := ⟨_, rfl⟩
    obtain ⟨Y, hY⟩ : ∃ Y, sqT es m m / 4 = Y := ⟨_, rfl⟩
    obtain ⟨Z, hZ⟩ : ∃ Z, sqL es m = Z := ⟨_, rfl⟩
    rw [hX] at hwx ⊢
    rw [hY] at hsq ⊢
    rw [hZ] at hsq hnl ⊢
    clear hX hY hZ
    have HNL := Lib.hid hnl
    clear hnl
    have g0 := cell_blk (j := 0) h0.g
    have g1 := cell_blk (j := 1) h0.g
    go_enter Tryd.func38, Tryd.ntmps38
    go_wp2_with fail
    refine (hwx _ (he.below h0.be)).mono ?_
    rintro e w1 ⟨rfl, hb1⟩
    have h1 := h0.next hb1
    clear hb1 h0 g0 g1
    have g0 := cell_blk (j := 0) h1.g
    have g1 := cell_blk (j := 1) h1.g
    go_wp2_with fail
    refine (hsq _ (he.below h1.be)).mono ?_
    rintro e w2 ⟨gN, gE, rfl, hS, hN, hb2⟩
    have h2 := h1.next hb2
    have hgN : w.heap.size + 2 ≤ gN := Nat.le_trans h1.base hN
    clear hb2 h1 g0 g1
    have g0 := cell_blk (j := 0) h2.g
    have g1 := cell_blk (j := 1) h2.g
    obtain ⟨o0, o1, o2, o3, o4⟩ := cells5 h2.o
    obtain ⟨f0, f1, f2, f3, f4⟩ := frees5 h2.o
    have hbe := h2.be
    have HF := Lib.hid (set5_at h2.o (.int .i64 m) (.slice a es.length cap) (.int .i64 X) (.int .i64 Y) (.slice (some ⟨gN, 0, none⟩) m m))
    have hgr := set5_grown w2 (w.heap.size + 1) (.int .i64 m) (.slice a es.length cap) (.int .i64 X) (.int .i64 Y) (.slice (some ⟨gN, 0, none⟩) m m)
    have hI : IntsAt w2 (.slice (some ⟨gN, 0, none⟩) Z.length m) Z := by have := NumAt.ints hS (by rw [HNL.out]; omega); rw [HNL.out] at this ⊢; exact this
    have HI := Lib.hid (hI.grown hgr (fun k e n' c' p ep => by cases e; have h := (Value.slice.inj ep).1; cases h; show gN ≠ w.heap.size + 1; omega))
    have HB := Lib.hid (hbe.grown hgr hbe.size (fun k e => by cases e; omega))
    have HE := Lib.hid (he.below HB.out)
    clear h2 hwx hsq hS hI hgr
    go_wp2_with fail
    obtain ⟨t0, t1, t2, t3, t4⟩ := cells5 HF.out
    unfold set5 at t0 t1 t2 t3 t4
    exact bodyPost_ret (v := .tuple #[.agg #[.int .i64 m, .slice a es.length cap, .int .i64 X, .int .i64 Y, .slice (some ⟨gN, 0, none⟩) m m], .int .i64 0]) (by simp [results, Tryd.results38, go_sem, t0, t1, t2, t3, t4]) rfl
      ⟨a, cap, some ⟨gN, 0, none⟩, m, by rw [HNL.out], HE.out, HI.out, (fun p h => h), (fun p h => by cases h; show w.heap.size ≤ gN; omega), HB.out⟩
def sameQ (w1 c1 : Int) (n1 : List Int) (w2 c2 : Int) (n2 : List Int) : Bool := (w1 == w2) && ((c1 == c2) && decide (n1 = n2))
set_option maxRecDepth 100000 in
set_option maxHeartbeats 6400000 in
theorem rsameQ_any (n w1 c1 w2 c2 : Int) (a a' b b' : Option Addr) (cap cap' d d' : Nat) (es : List E2) (xs ys : List Int) (w : World) (h1 : EdgesAt w (.slice a es.length cap) es) (h2 : EdgesAt w (.slice a' es.length cap') es) (i1 : IntsAt w (.slice b xs.length d) xs) (i2 : IntsAt w (.slice b' ys.length d') ys) :
    Calls Tryd.prog 42 #[.agg #[.int .i64 n, .slice a es.length cap, .int .i64 w1, .int .i64 c1, .slice b xs.length d], .agg #[.int .i64 n, .slice a' es.length cap', .int .i64 w2, .int .i64 c2, .slice b' ys.length d']] w fun e w' => e = .returned (.bool (sameQ w1 c1 xs w2 c2 ys)) ∧ Below w.heap.size w w' := by
  have hl1 : xs.length ≤ 70368744177664 := by obtain ⟨_, _, _, _, _, h, _⟩ := i1; exact h
  have hl2 : ys.length ≤ 70368744177664 := by obtain ⟨_, _, _, _, _, h, _⟩ := i2; exact h
  have h0 := Bx2.start w (.cells #[.int .i64 n, .slice a es.length cap, .int .i64 w1, .int .i64 c1, .slice b xs.length d] 46) (.int .i64 n) (.slice a' es.length cap') (.int .i64 w2) (.int .i64 c2) (.slice b' ys.length d') 46
  have hle : es.length ≤ 70368744177664 := by obtain ⟨_, _, _, _, _, h, _⟩ := h1; exact h
  have hgs := fun W h h' => gsame_same n a a' cap cap' es W h h' hle
  unfold sameQ
  obtain ⟨D1, hD1⟩ : ∃ D, (w1 != w2) = D := ⟨_, rfl⟩
  obtain ⟨D2, hD2⟩ : ∃ D, (c1 != c2) = D := ⟨_, rfl⟩
  have e1 : (w1 == w2) = !D1 := by rw [← hD1]; unfold bne; rw [Bool.not_not]
  have e2 : (c1 == c2) = !D2 := by rw [← hD2]; unfold bne; rw [Bool.not_not]
  rw [e1, e2]
  clear e1 e2
  obtain ⟨g0, g1, g2, g3, g4⟩ := cells5 h0.g
  obtain ⟨o0, o1, o2, o3, o4⟩ := cells5 h0.o
  by_cases hl : xs.length = ys.length
  case neg =>
    have d3 : ((xs.length : Int) != (ys.length : Int)) = true := by simp; omega
    have hr : decide (xs = ys) = false := decide_eq_false fun h => hl (by rw [h])
    rw [hr]
    clear hl hr
    cases D1
    case' false => cases D2
    all_goals
      go_enter Tryd.func42, Tryd.ntmps42
      go_wp2_with fail
      refine (hgs _ (h1.below h0.be) (h2.below h0.be)).mono ?_
      rintro e w3 ⟨rfl, hb3⟩
      have h3 := h0.next hb3
      have hbe := h3.be
      obtain ⟨p0, p1, p2, p3, p4⟩ := cells5 h3.g
      obtain ⟨q0, q1, q2, q3, q4⟩ := cells5 h3.o
      clear h3 hb3
      go_wp2_with fail
      go_ret
      exact ⟨rfl, hbe⟩
  have d3 : ((xs.length : Int) != (ys.length : Int)) = false := by simp; omega
  cases D1
  case true =>
    clear hl
    go_enter Tryd.func42, Tryd.ntmps42
    go_wp2_with fail
    refine (hgs _ (h1.below h0.be) (h2.below h0.be)).mono ?_
    rintro e w3 ⟨rfl, hb3⟩
    have h3 := h0.next hb3
    have hbe := h3.be
    obtain ⟨p0, p1, p2, p3, p4⟩ := cells5 h3.g
    obtain ⟨q0, q1, q2, q3, q4⟩ := cells5 h3.o
    clear h3 hb3
    go_wp2_with fail
    go_ret
    exact ⟨rfl, hbe⟩
  cases D2
  case true =>
    clear hl
    go_enter Tryd.func42, Tryd.ntmps42
    go_wp2_with fail
    refine (hgs _ (h1.below h0.be) (h2.below h0.be)).mono ?_
    rintro e w3 ⟨rfl, hb3⟩
    have h3 := h0.next hb3
    have hbe := h3.be
    obtain ⟨p0, p1, p2, p3, p4⟩ := cells5 h3.g
    obtain ⟨q0, q1, q2, q3, q4⟩ := cells5 h3.o
    clear h3 hb3
    go_wp2_with fail
    go_ret
    exact ⟨rfl, hbe⟩
  obtain ⟨R, hR⟩ : ∃ R, decide (xs = ys) = R := ⟨_, rfl⟩
  rw [hR]
  have HR := Lib.hid hR
  have HLN := Lib.hid hl
  have hlen : ys.length ≤ xs.length ∧ xs.length ≤ ys.length := by omega
  clear hR hl
  go_enter Tryd.func42, Tryd.ntmps42
  go_wp2_with fail
  refine (hgs _ (h1.below h0.be) (h2.below h0.be)).mono ?_
  rintro e w3 ⟨rfl, hb3⟩
  have h3 := h0.next hb3
  clear g0 g1 g2 g3 g4 o0 o1 o2 o3 o4 hb3 h0 hgs
  obtain ⟨p0, p1, p2, p3, p4⟩ := cells5 h3.g
  obtain ⟨q0, q1, q2, q3, q4⟩ := cells5 h3.o
  go_wp2_with fail
  clear p0 p1 p2 p3 p4 q0 q1 q2 q3 q4
  go_loopw [5] (fun i wr => ∃ k : Nat, k ≤ xs.length ∧ i = .int .i64 k ∧ Hid (xs.take k = ys.take k) ∧ Bx2 w (.cells #[.int .i64 n, .slice a es.length cap, .int .i64 w1, .int .i64 c1, .slice b xs.length d] 46) (.int .i64 n) (.slice a' es.length cap') (.int .i64 w2) (.int .i64 c2) (.slice b' ys.length d') 46 wr) (fun i _ => xs.length - (intOf i).toNat)
  case atStart => exact ⟨0, Nat.zero_le _, rfl, rfl, h3⟩
  case round =>
    clear h3
    obtain ⟨k, hk, rfl, HT, hB⟩ := hrel
    obtain ⟨p0, p1, p2, p3, p4⟩ := cells5 hB.g
    obtain ⟨q0, q1, q2, q3, q4⟩ := cells5 hB.o
    by_cases hlt : k < xs.length
    · have hlt2 : k < ys.length := by omega
      obtain ⟨bb, off, x, rfl, hx, hd1, ht1, m0⟩ := (i1.below hB.be).at k hlt
      obtain ⟨bb2, off2, y, rfl, hy, hd2, ht2, m1⟩ := (i2.below hB.be).at k hlt2
      have hi1 : (k : Int) < xs.length := by omega
      have hi2 : (k : Int) < ys.length := by omega
      by_cases hxy : x = y
      · have dxy : (x != y) = false := by simpa using hxy
        have HT2 : Hid (xs.take (k + 1) = ys.take (k + 1)) := by show _ = _; rw [ht1, ht2, HT.out, hxy]
        clear hx hy hd1 hd2 ht1 ht2 HT hxy
        go_wp2_with fail
        go_quiet (fail)
        go_wp2_with fail
        go_roundw
        case rel => exact ⟨k + 1, by omega, by go_num, HT2, hB.next ((Below.refl _ wr).drewN _)⟩
        case measure => simp [intOf]; omega
      · have dxy : (x != y) = true := by simpa using hxy
        have hRf : R = false := by
          rw [← HR.out]
          refine decide_eq_false fun h => hxy ?_
          rw [h, hy] at hx
          exact (Option.some.inj hx).symm
        subst hRf
        have hbe := hB.be
        clear hx hy hd1 hd2 ht1 ht2 HT hxy hB
        go_wp2_with fail
        go_quiet (fail)
        go_wp2_with fail
        go_ret
        exact ⟨rfl, hbe.trans (((Below.refl _ wr).drewN _).mono hbe.size)⟩
    · obtain rfl : k = xs.length := by omega
      have hRt : R = true := by
        rw [← HR.out]
        refine decide_eq_true ?_
        have h := HT.out
        rw [List.take_length, HLN.out, List.take_length] at h
        exact h
      subst hRt
      go_wp2_with fail
      go_ret
      exact ⟨rfl, hB.be⟩
set_option maxRecDepth 100000 in
set_option maxHeartbeats 3200000 in
theorem rvalidQ_any (n wd ct : Int) (a a2 : Option Addr) (cap c2 : Nat) (es : List E2) (ns : List Int) (w : World) (he : EdgesAt w (.slice a es.length cap) es) (hi : IntsAt w (.slice a2 ns.length c2) ns) :
    Calls Tryd.prog 43 #[.agg #[.int .i64 n, .slice a es.length cap, .int .i64 wd, .int .i64 ct, .slice a2 ns.length c2]] w fun e w' => e = .returned (.bool (sqOk ⟨n, es, wd, ct, ns⟩)) ∧ Below w.heap.size w w' := by
  have hb0 : Below w.heap.size w (w.alloc (.cells #[.int .i64 n, .slice a es.length cap, .int .i64 wd, .int .i64 ct, .slice a2 ns.length c2] 46)) := (Below.refl _ _).alloc (Nat.le_refl _) _
  have hG0 := heap_alloc_new w (.cells #[.int .i64 n, .slice a es.length cap, .int .i64 wd, .int .i64 ct, .slice a2 ns.length c2] 46)
  have hop := fun W h => ropen_any n a cap es W h
  unfold sqOk
  dsimp only
  unfold openX RPost at hop
  obtain ⟨g0, g1, g2, g3, g4⟩ := cells5 hG0
  by_cases hC : checkS n es ≠ 0
  · rw [if_pos hC] at hop
    obtain ⟨C, hCC⟩ : ∃ C, checkS n es = C := ⟨_, rfl⟩
    rw [hCC] at hop hC ⊢
    have d2 : (C == 0) = false := by simpa using hC
    rw [d2, Bool.false_and]
    unfold Qd.zero at hop
    dsimp only at hop
    simp only [List.length_nil] at hop
    clear hCC hC
    go_enter Tryd.func43, Tryd.ntmps43
    go_wp2_with fail
    refine (hop _ (he.below hb0)).mono ?_
    rintro e w1 ⟨a1, k1, b1, k2, rfl, -, -, -, -, hb1⟩
    have hbe := (hb0.trans (hb1.mono hb0.size)).alloc (hb0.trans (hb1.mono hb0.size)).size (.cells #[.int .i64 0, .slice a1 0 k1, .int .i64 0, .int .i64 0, .slice b1 0 k2] 46)
    clear hop
    go_wp2_with fail
    go_ret
    exact ⟨rfl, hbe⟩
  · rw [if_neg hC] at hop
    obtain ⟨m, rfl, hv⟩ := valid_nat hC
    rw [Int.toNat_natCast] at hop ⊢
    rw [(valid_iff _ _).2 hv, show ((0 : Int) == 0) = true from rfl, Bool.true_and]
    unfold quadN at hop
    dsimp only at hop
    clear hC
    have hsm : ((wd == wedS es m) && ((ct == sqT es m m / 4) && decide (ns = sqL es m))) = sameQ (wedS es m) (sqT es m m / 4) (sqL es m) wd ct ns := by
      unfold sameQ
      rw [Bool.eq_iff_iff]
      simp only [Bool.and_eq_true, beq_iff_eq, decide_eq_true_eq]
      constructor
      · rintro ⟨h1, h2, h3⟩; exact ⟨h1.symm, h2.symm, h3.symm⟩
      · rintro ⟨h1, h2, h3⟩; exact ⟨h1.symm, h2.symm, h3.symm⟩
    rw [hsm]
    have hsa := fun a1 k1 b1 k2 W h h' i i' => rsameQ_any (m : Int) (wedS es m) (sqT es m m / 4) wd ct a1 a b1 a2 k1 cap k2 c2 es (sqL es m) ns W h h' i i'
    obtain ⟨S, hS⟩ : ∃ S, sameQ (wedS es m) (sqT es m m / 4) (sqL es m) wd ct ns = S := ⟨_, rfl⟩
    rw [hS] at hsa ⊢
    clear hS hsm
    obtain ⟨X, hX⟩ : ∃ X, wedS es m = X := ⟨_, rfl⟩
    obtain ⟨Y, hY⟩ : ∃ Y, sqT es m m / 4 = Y := ⟨_, rfl⟩
    obtain ⟨Z, hZ⟩ : ∃ Z, sqL es m = Z := ⟨_, rfl⟩
    rw [hX, hY, hZ] at hop hsa
    clear hX hY hZ
    go_enter Tryd.func43, Tryd.ntmps43
    go_wp2_with fail
    refine (hop _ (he.below hb0)).mono ?_
    rintro e w1 ⟨a1, k1, b1, k2, rfl, he1, hi1, -, -, hb1⟩
    have hb01 := hb0.trans (hb1.mono hb0.size)
    have hbe := hb01.alloc hb01.size (.cells #[.int .i64 m, .slice a1 es.length k1, .int .i64 X, .int .i64 Y, .slice b1 Z.length k2] 46)
    have hbA := (Below.refl w1.heap.size w1).alloc (Nat.le_refl _) (.cells #[.int .i64 m, .slice a1 es.length k1, .int .i64 X, .int .i64 Y, .slice b1 Z.length k2] 46)
    have hX := heap_alloc_new w1 (.cells #[.int .i64 m, .slice a1 es.length k1, .int .i64 X, .int .i64 Y, .slice b1 Z.length k2] 46)
    have hG1 := lit_next' hbA (lit_next' hb1 hG0)
    clear g0 g1 g2 g3 g4 hG0 hop
    obtain ⟨g0, g1, g2, g3, g4⟩ := cells5 hG1
    obtain ⟨x0, x1, x2, x3, x4⟩ := cells5 hX
    go_wp2_with fail
    refine (hsa a1 k1 b1 k2 _ (he1.below hbA) (he.below hbe) (hi1.below hbA) (hi.below hbe)).mono ?_
    rintro e w2 ⟨rfl, hb2⟩
    go_wp2_with fail
    go_ret
    exact ⟨rfl, hbe.trans (hb2.mono hbe.size)⟩
end Go.Proofs.YtekbpoppajbljaaDoor

namespace Go.Proofs.YtekbpoppajbljaaDoor
open Go.RowKit Go.BigFrame

theorem sub_up {Y Y' : Int} {L : Nat} (h : Y' = Y + (L : Int)) (h1 : 0 ≤ Y ∧ Y ≤ 1125899906842624) (h2 : 0 ≤ Y' ∧ Y' ≤ 1125899906842624) : IntKind.i64.wrap (Y' - Y) = (L : Int) := by
  rw [IntWalk.i64_in _ (by omega)]; omega
set_option maxRecDepth 100000 in
set_option maxHeartbeats 6400000 in
theorem rinsertQ_any (n wd ct : Int) (a a2 : Option Addr) (cap c2 : Nat) (es : List E2) (ns : List Int) (u v : Int) (w : World) (he : EdgesAt w (.slice a es.length cap) es) (hi : IntsAt w (.slice a2 ns.length c2) ns) :
    Calls Tryd.prog 44 #[.agg #[.int .i64 n, .slice a es.length cap, .int .i64 wd, .int .i64 ct, .slice a2 ns.length c2], .int .i64 u, .int .i64 v] w (QPost w (insX ⟨n, es, wd, ct, ns⟩ u v).1 [.int .i64 (insX ⟨n, es, wd, ct, ns⟩ u v).2.1, .int .i64 (insX ⟨n, es, wd, ct, ns⟩ u v).2.2]) := by
  have h0 := Bx2.start w (.cells #[.int .i64 n, .slice a es.length cap, .int .i64 wd, .int .i64 ct, .slice a2 ns.length c2] 46) (.int .i64 0) (.slice none 0 0) (.int .i64 0) (.int .i64 0) (.slice none 0 0) 46
  have hvl := fun W h h2 => rvalidQ_any n wd ct a a2 cap c2 es ns W h h2
  unfold insX
  dsimp only
  obtain ⟨B, hB⟩ : ∃ B, sqOk ⟨n, es, wd, ct, ns⟩ = B := ⟨_, rfl⟩
  rw [hB] at hvl ⊢
  cases B with
  | false =>
    rw [if_neg (by simp)]
    clear hB
    obtain ⟨g0, g1, g2, g3, g4⟩ := cells5 h0.g
    go_enter Tryd.func44, Tryd.ntmps44
    go_wp2_with fail
    refine (hvl _ (he.below h0.be) (hi.below h0.be)).mono ?_
    rintro e w1 ⟨rfl, hb1⟩
    have h1 := h0.next hb1
    clear hb1 h0 g0 g1 g2 g3 g4
    obtain ⟨o0, o1, o2, o3, o4⟩ := cells5 h1.o
    obtain ⟨f0, f1, f2, f3, f4⟩ := frees5 h1.o
    have hbe := h1.be
    have HF := Lib.hid (set5_at h1.o (.int .i64 0) (.slice none 0 0) (.int .i64 0) (.int .i64 0) (.slice none 0 0))
    clear h1 hvl
    go_wp2_with fail
    obtain ⟨t0, t1, t2, t3, t4⟩ := cells5 HF.out
    unfold set5 at t0 t1 t2 t3 t4
    exact bodyPost_ret (v := .tuple #[.agg #[.int .i64 0, .slice none 0 0, .int .i64 0, .int .i64 0, .slice none 0 0], .int .i64 0, .int .i64 35]) (by simp [results, Tryd.results44, go_sem, t0, t1, t2, t3, t4]) rfl
      ⟨none, 0, none, 0, rfl, QIn.void _ _, hbe.grown (set5_grown w1 (w.heap.size + 1) (.int .i64 0) (.slice none 0 0) (.int .i64 0) (.int .i64 0) (.slice none 0 0)) hbe.size (fun k e => by cases e; omega)⟩
  | true =>
    rw [if_pos rfl]
    obtain ⟨m, hv, hq⟩ := (sqOk_iff _).1 hB
    dsimp only [quadN] at hv hq
    obtain ⟨rfl, -, rfl, rfl, rfl⟩ := Qd.mk.inj hq
    clear hB hq
    rw [Int.toNat_natCast]
    have hm64 : m ≤ 64 := by have := hv.2.1; omega
    have had := fun W h => radd_any m a cap es u v W h
    obtain ⟨A, hA⟩ : ∃ A, addX m es u v = A := ⟨_, rfl⟩
    have hAo : A.2.2 = 0 → _ := fun h => addX_ok (by rw [hA]; exact h)
    rw [hA] at had hAo ⊢
    clear hA
    obtain ⟨N, fs, E⟩ := A
    dsimp only at hAo ⊢
    unfold GrPost at had
    dsimp only at had
    by_cases hE : E = 0
    case neg =>
      rw [if_pos hE]
      have d1 : (E != 0) = true := by simpa using hE
      clear hAo hE
      obtain ⟨X, hX⟩ : ∃ X, wedS es m = X := ⟨_, rfl⟩
      obtain ⟨Y, hY⟩ : ∃ Y, sqT es m m / 4 = Y := ⟨_, rfl⟩
      obtain ⟨Z, hZ⟩ : ∃ Z, sqL es m = Z := ⟨_, rfl⟩
      rw [hZ] at hi
      rw [hX, hY, hZ] at hvl h0 ⊢
      clear hX hY hZ
      obtain ⟨g0, g1, g2, g3, g4⟩ := cells5 h0.g
      go_enter Tryd.func44, Tryd.ntmps44
      go_wp2_with fail
      refine (hvl _ (he.below h0.be) (hi.below h0.be)).mono ?_
      rintro e w1 ⟨rfl, hb1⟩
      have h1 := h0.next hb1
      clear hb1 h0 g0 g1 g2 g3 g4
      obtain ⟨g0, g1, g2, g3, g4⟩ := cells5 h1.g
      go_wp2_with fail
      refine (had _ (he.below h1.be)).mono ?_
      rintro e w2 ⟨af, cf, rfl, hef, haf, hb2⟩
      have h2 := (h1.next hb2).alloc (.cells #[.int .i64 N, .slice af fs.length cf] 27)
      clear hb2 h1 g0 g1 g2 g3 g4
      obtain ⟨o0, o1, o2, o3, o4⟩ := cells5 h2.o
      obtain ⟨f0, f1, f2, f3, f4⟩ := frees5 h2.o
      have hbe := h2.be
      have HF := Lib.hid (set5_at h2.o (.int .i64 0) (.slice none 0 0) (.int .i64 0) (.int .i64 0) (.slice none 0 0))
      clear h2 hvl
      go_wp2_with fail
      obtain ⟨t0, t1, t2, t3, t4⟩ := cells5 HF.out
      unfold set5 at t0 t1 t2 t3 t4
      exact bodyPost_ret (v := .tuple #[.agg #[.int .i64 0, .slice none 0 0, .int .i64 0, .int .i64 0, .slice none 0 0], .int .i64 0, .int .i64 E]) (by simp [results, Tryd.results44, go_sem, t0, t1, t2, t3, t4]) rfl
        ⟨none, 0, none, 0, rfl, QIn.void _ _, hbe.grown (set5_grown _ (w.heap.size + 1) (.int .i64 0) (.slice none 0 0) (.int .i64 0) (.int .i64 0) (.slice none 0 0)) hbe.size (fun k e => by cases e; omega)⟩
    subst hE
    rw [if_neg (by simp)]
    obtain ⟨-, hen, hmem, heq⟩ := hAo rfl
    obtain ⟨hN, hfs, -⟩ := Prod.mk.inj heq |>.imp id Prod.mk.inj
    obtain ⟨hvf, hK⟩ := kept_ins hv hen hmem
    rw [← hfs] at hvf hK
    subst hN
    clear heq hfs hAo hmem
    obtain ⟨p, rfl⟩ := Int.eq_ofNat_of_zero_le (show 0 ≤ u by omega)
    obtain ⟨q, rfl⟩ := Int.eq_ofNat_of_zero_le (show 0 ≤ v by omega)
    rw [Int.toNat_natCast, Int.toNat_natCast] at hK ⊢
    have hpn : p < m := by omega
    have hqn : q < m := by omega
    have hop := fun af cf W h => ropen_any (m : Int) af cf fs W h
    have hox : openX (m : Int) fs = (quadN m fs, 0) := by unfold openX; rw [(valid_iff _ _).2 hvf, if_neg (by simp)]; rfl
    rw [hox] at hop
    unfold RPost quadN at hop
    dsimp only at hop
    obtain ⟨hw1, hw2⟩ := num_bd (es := es) hm64
    obtain ⟨hw3, hw4⟩ := num_bd (es := fs) hm64
    have hsub := sub_up hK.cnt hw2 hw4
    clear hw1 hw2 hw3 hw4 hox
    have hnl := sqL_length es m
    have hnf := sqL_length fs m
    unfold quadN
    dsimp only
    obtain ⟨X, hX⟩ : ∃ X, wedS es m = X := ⟨_, rfl⟩
    obtain ⟨Y, hY⟩ : ∃ Y, sqT es m m / 4 = Y := ⟨_, rfl⟩
    obtain ⟨Z, hZ⟩ : ∃ Z, sqL es m = Z := ⟨_, rfl⟩
    obtain ⟨X', hX'⟩ : ∃ X, wedS fs m = X := ⟨_, rfl⟩
    obtain ⟨Y', hY'⟩ : ∃ Y, sqT fs m m / 4 = Y := ⟨_, rfl⟩
    obtain ⟨Z', hZ'⟩ : ∃ Z, sqL fs m = Z := ⟨_, rfl⟩
    obtain ⟨O, hO⟩ : ∃ O, ovN es p q = O := ⟨_, rfl⟩
    rw [hZ] at hi hnl
    rw [hX, hY, hZ] at hvl h0 ⊢
    rw [hY, hY'] at hsub
    rw [hX', hY', hZ'] at hop ⊢
    rw [hZ'] at hnf
    rw [hO] at hsub ⊢
    clear hX hY hZ hX' hY' hZ' hO hK hen hvf
    have HNL := Lib.hid hnl
    have HNF := Lib.hid hnf
    clear hnl hnf
    obtain ⟨g0, g1, g2, g3, g4⟩ := cells5 h0.g
    go_enter Tryd.func44, Tryd.ntmps44
    go_wp2_with fail
    refine (hvl _ (he.below h0.be) (hi.below h0.be)).mono ?_
    rintro e w1 ⟨rfl, hb1⟩
    have h1 := h0.next hb1
    clear hb1 h0 g0 g1 g2 g3 g4
    obtain ⟨g0, g1, g2, g3, g4⟩ := cells5 h1.g
    go_wp2_with fail
    refine (had _ (he.below h1.be)).mono ?_
    rintro e w2 ⟨af, cf, rfl, hef, haf, hb2⟩
    have h2n := h1.next hb2
    have h2 := h2n.alloc (.cells #[.int .i64 m, .slice af fs.length cf] 27)
    have hGb := heap_alloc_new w2 (.cells #[.int .i64 m, .slice af fs.length cf] 27)
    have hbA := (Below.refl w2.heap.size w2).alloc (Nat.le_refl _) (.cells #[.int .i64 m, .slice af fs.length cf] 27)
    have hefA := hef.below hbA
    have haf2 : ∀ p, af = some p → w.heap.size + 2 ≤ p.block := fun p hp => by have := haf p hp; have := h1.base; omega
    clear hb2 h1 g0 g1 g2 g3 g4 h2n hbA haf hef had hvl
    obtain ⟨g0, g1, g2, g3, g4⟩ := cells5 h2.g
    obtain ⟨k0, k1⟩ := cell_two hGb
    go_wp2_with fail
    refine (hop af cf _ hefA).mono ?_
    rintro e w3n ⟨a8, cz8, a9, cz, rfl, hef3n, hI3n, ha8, ha9, hb3⟩
    have h3n := h2.next hb3
    have h3 := h3n.alloc (.cells #[.int .i64 m, .slice a8 fs.length cz8, .int .i64 X', .int .i64 Y', .slice a9 Z'.length cz] 46)
    have hQb := heap_alloc_new w3n (.cells #[.int .i64 m, .slice a8 fs.length cz8, .int .i64 X', .int .i64 Y', .slice a9 Z'.length cz] 46)
    have hbQ := (Below.refl w3n.heap.size w3n).alloc (Nat.le_refl _) (.cells #[.int .i64 m, .slice a8 fs.length cz8, .int .i64 X', .int .i64 Y', .slice a9 Z'.length cz] 46)
    have hef3 := hef3n.below hbQ
    have hI3 := hI3n.below hbQ
    have hg8 : ∀ p, a8 = some p → w.heap.size + 2 ≤ p.block := fun p hp => haf2 p (ha8 p hp)
    have hg9 : ∀ p, a9 = some p → w.heap.size + 2 ≤ p.block := fun p hp => Nat.le_trans h2.base (ha9 p hp)
    have hj0 := h3n.base
    clear hb3 g0 g1 g2 g3 g4 k0 k1 hGb h2 hop hefA h3n hef3n hI3n hbQ ha8 ha9
    have hj1 : ¬ (w3n.heap.size = w.heap.size + 1) := by omega
    have hj2 : ¬ (w.heap.size + 1 = w3n.heap.size) := fun e => hj1 e.symm
    obtain ⟨w3, hw3⟩ : ∃ W : World, W = w3n.alloc (.cells #[.int .i64 m, .slice a8 fs.length cz8, .int .i64 X', .int .i64 Y', .slice a9 Z'.length cz] 46) := ⟨_, rfl⟩
    rw [← hw3] at h3 hQb hef3 hI3
    obtain ⟨x0, x1, x2, x3, x4⟩ := cells5 hQb
    obtain ⟨g0, g1, g2, g3, g4⟩ := cells5 h3.g
    obtain ⟨o0, o1, o2, o3, o4⟩ := cells5 h3.o
    obtain ⟨f0, f1, f2, f3, f4⟩ := frees5 h3.o
    have hbe := h3.be
    have HF := Lib.hid (set5_at h3.o (.int .i64 m) (.slice a8 fs.length cz8) (.int .i64 X') (.int .i64 Y') (.slice a9 Z'.length cz))
    have q : QIn w3 (w.heap.size + 2) a8 cz8 fs a9 cz Z' := ⟨hef3, hI3, hg8, hg9⟩
    have HQ := Lib.hid ((q.grown (set5_grown w3 (w.heap.size + 1) (.int .i64 m) (.slice a8 fs.length cz8) (.int .i64 X') (.int .i64 Y') (.slice a9 Z'.length cz)) (fun k e => by cases e; omega)).mono (show w.heap.size ≤ w.heap.size + 2 by omega))
    have HB := Lib.hid (hbe.grown (set5_grown w3 (w.heap.size + 1) (.int .i64 m) (.slice a8 fs.length cz8) (.int .i64 X') (.int .i64 Y') (.slice a9 Z'.length cz)) hbe.size (fun k e => by cases e; omega))
    clear h3 hI3 q hef3 hbe hQb
    go_wp2_with fail
    rw [← hw3]
    clear hw3
    go_region
    go_wp2_with fail
    obtain ⟨t0, t1, t2, t3, t4⟩ := cells5 HF.out
    unfold set5 at t0 t1 t2 t3 t4
    exact bodyPost_ret (v := .tuple #[.agg #[.int .i64 m, .slice a8 fs.length cz8, .int .i64 X', .int .i64 Y', .slice a9 Z'.length cz], .int .i64 (O.length : Int), .int .i64 0]) (by simp [results, Tryd.results44, go_sem, t0, t1, t2, t3, t4]) rfl
      ⟨a8, cz8, a9, cz, rfl, HQ.out.below (Below.refl _ _).drew, HB.out.drew⟩
set_option maxRecDepth 100000 in
set_option maxHeartbeats 6400000 in
theorem rdeleteQ_any (n wd ct : Int) (a a2 : Option Addr) (cap c2 : Nat) (es : List E2) (ns : List Int) (u v : Int) (w : World) (he : EdgesAt w (.slice a es.length cap) es) (hi : IntsAt w (.slice a2 ns.length c2) ns) :
    Calls Tryd.prog 45 #[.agg #[.int .i64 n, .slice a es.length cap, .int .i64 wd, .int .i64 ct, .slice a2 ns.length c2], .int .i64 u, .int .i64 v] w (QPost w (delX ⟨n, es, wd, ct, ns⟩ u v).1 [.int .i64 (delX ⟨n, es, wd, ct, ns⟩ u v).2.1, .int .i64 (delX ⟨n, es, wd, ct, ns⟩ u v).2.2]) := by
  have h0 := Bx2.start w (.cells #[.int .i64 n, .slice a es.length cap, .int .i64 wd, .int .i64 ct, .slice a2 ns.length c2] 46) (.int .i64 0) (.slice none 0 0) (.int .i64 0) (.int .i64 0) (.slice none 0 0) 46
  have hvl := fun W h h2 => rvalidQ_any n wd ct a a2 cap c2 es ns W h h2
  unfold delX
  dsimp only
  obtain ⟨B, hB⟩ : ∃ B, sqOk ⟨n, es, wd, ct, ns⟩ = B := ⟨_, rfl⟩
  rw [hB] at hvl ⊢
  cases B with
  | false =>
    rw [if_neg (by simp)]
    clear hB
    obtain ⟨g0, g1, g2, g3, g4⟩ := cells5 h0.g
    go_enter Tryd.func45, Tryd.ntmps45
    go_wp2_with fail
    refine (hvl _ (he.below h0.be) (hi.below h0.be)).mono ?_
    rintro e w1 ⟨rfl, hb1⟩
    have h1 := h0.next hb1
    clear hb1 h0 g0 g1 g2 g3 g4
    obtain ⟨o0, o1, o2, o3, o4⟩ := cells5 h1.o
    obtain ⟨f0, f1, f2, f3, f4⟩ := frees5 h1.o
    have hbe := h1.be
    have HF := Lib.hid (set5_at h1.o (.int .i64 0) (.slice none 0 0) (.int .i64 0) (.int .i64 0) (.slice none 0 0))
    clear h1 hvl
    go_wp2_with fail
    obtain ⟨t0, t1, t2, t3, t4⟩ := cells5 HF.out
    unfold set5 at t0 t1 t2 t3 t4
    exact bodyPost_ret (v := .tuple #[.agg #[.int .i64 0, .slice none 0 0, .int .i64 0, .int .i64 0, .slice none 0 0], .int .i64 0, .int .i64 35]) (by simp [results, Tryd.results45, go_sem, t0, t1, t2, t3, t4]) rfl
      ⟨none, 0, none, 0, rfl, QIn.void _ _, hbe.grown (set5_grown w1 (w.heap.size + 1) (.int .i64 0) (.slice none 0 0) (.int .i64 0) (.int .i64 0) (.slice none 0 0)) hbe.size (fun k e => by cases e; omega)⟩
  | true =>
    rw [if_pos rfl]
    obtain ⟨m, hv, hq⟩ := (sqOk_iff _).1 hB
    dsimp only [quadN] at hv hq
    obtain ⟨rfl, -, rfl, rfl, rfl⟩ := Qd.mk.inj hq
    clear hB hq
    rw [Int.toNat_natCast]
    have hm64 : m ≤ 64 := by have := hv.2.1; omega
    have had := fun W h => rremove_any m a cap es u v W h
    obtain ⟨A, hA⟩ : ∃ A, remX m es u v = A := ⟨_, rfl⟩
    have hAo : A.2.2 = 0 → _ := fun h => remX_ok (by rw [hA]; exact h)
    rw [hA] at had hAo ⊢
    clear hA
    obtain ⟨N, fs, E⟩ := A
    dsimp only at hAo ⊢
    unfold GrPost at had
    dsimp only at had
    by_cases hE : E = 0
    case neg =>
      rw [if_pos hE]
      have d1 : (E != 0) = true := by simpa using hE
      clear hAo hE
      obtain ⟨X, hX⟩ : ∃ X, wedS es m = X := ⟨_, rfl⟩
      obtain ⟨Y, hY⟩ : ∃ Y, sqT es m m / 4 = Y := ⟨_, rfl⟩
      obtain ⟨Z, hZ⟩ : ∃ Z, sqL es m = Z := ⟨_, rfl⟩
      rw [hZ] at hi
      rw [hX, hY, hZ] at hvl h0 ⊢
      clear hX hY hZ
      obtain ⟨g0, g1, g2, g3, g4⟩ := cells5 h0.g
      go_enter Tryd.func45, Tryd.ntmps45
      go_wp2_with fail
      refine (hvl _ (he.below h0.be) (hi.below h0.be)).mono ?_
      rintro e w1 ⟨rfl, hb1⟩
      have h1 := h0.next hb1
      clear hb1 h0 g0 g1 g2 g3 g4
      obtain ⟨g0, g1, g2, g3, g4⟩ := cells5 h1.g
      go_wp2_with fail
      refine (had _ (he.below h1.be)).mono ?_
      rintro e w2 ⟨af, cf, rfl, hef, haf, hb2⟩
      have h2 := (h1.next hb2).alloc (.cells #[.int .i64 N, .slice af fs.length cf] 27)
      clear hb2 h1 g0 g1 g2 g3 g4
      obtain ⟨o0, o1, o2, o3, o4⟩ := cells5 h2.o
      obtain ⟨f0, f1, f2, f3, f4⟩ := frees5 h2.o
      have hbe := h2.be
      have HF := Lib.hid (set5_at h2.o (.int .i64 0) (.slice none 0 0) (.int .i64 0) (.int .i64 0) (.slice none 0 0))
      clear h2 hvl
      go_wp2_with fail
      obtain ⟨t0, t1, t2, t3, t4⟩ := cells5 HF.out
      unfold set5 at t0 t1 t2 t3 t4
      exact bodyPost_ret (v := .tuple #[.agg #[.int .i64 0, .slice none 0 0, .int .i64 0, .int .i64 0, .slice none 0 0], .int .i64 0, .int .i64 E]) (by simp [results, Tryd.results45, go_sem, t0, t1, t2, t3, t4]) rfl
        ⟨none, 0, none, 0, rfl, QIn.void _ _, hbe.grown (set5_grown _ (w.heap.size + 1) (.int .i64 0) (.slice none 0 0) (.int .i64 0) (.int .i64 0) (.slice none 0 0)) hbe.size (fun k e => by cases e; omega)⟩
    subst hE
    rw [if_neg (by simp)]
    obtain ⟨-, hen, hmem, heq⟩ := hAo rfl
    obtain ⟨hN, hfs, -⟩ := Prod.mk.inj heq |>.imp id Prod.mk.inj
    obtain ⟨hvf, hK⟩ := kept_del hv hen hmem
    rw [← hfs] at hvf hK
    subst hN
    clear heq hfs hAo hmem
    obtain ⟨p, rfl⟩ := Int.eq_ofNat_of_zero_le (show 0 ≤ u by omega)
    obtain ⟨q, rfl⟩ := Int.eq_ofNat_of_zero_le (show 0 ≤ v by omega)
    rw [Int.toNat_natCast, Int.toNat_natCast] at hK ⊢
    have hpn : p < m := by omega
    have hqn : q < m := by omega
    have hop := fun af cf W h => ropen_any (m : Int) af cf fs W h
    have hox : openX (m : Int) fs = (quadN m fs, 0) := by unfold openX; rw [(valid_iff _ _).2 hvf, if_neg (by simp)]; rfl
    rw [hox] at hop
    unfold RPost quadN at hop
    dsimp only at hop
    obtain ⟨hw1, hw2⟩ := num_bd (es := es) hm64
    obtain ⟨hw3, hw4⟩ := num_bd (es := fs) hm64
    have hsub := sub_up hK.cnt hw4 hw2
    clear hw1 hw2 hw3 hw4 hox
    have hnl := sqL_length es m
    have hnf := sqL_length fs m
    unfold quadN
    dsimp only
    obtain ⟨X, hX⟩ : ∃ X, wedS es m = X := ⟨_, rfl⟩
    obtain ⟨Y, hY⟩ : ∃ Y, sqT es m m / 4 = Y := ⟨_, rfl⟩
    obtain ⟨Z, hZ⟩ : ∃ Z, sqL es m = Z := ⟨_, rfl⟩
    obtain ⟨X', hX'⟩ : ∃ X, wedS fs m = X := ⟨_, rfl⟩
    obtain ⟨Y', hY'⟩ : ∃ Y, sqT fs m m / 4 = Y := ⟨_, rfl⟩
    obtain ⟨Z', hZ'⟩ : ∃ Z, sqL fs m = Z := ⟨_, rfl⟩
    obtain ⟨O, hO⟩ : ∃ O, ovN fs p q = O := ⟨_, rfl⟩
    rw [hZ] at hi hnl
    rw [hX, hY, hZ] at hvl h0 ⊢
    rw [hY, hY'] at hsub
    rw [hX', hY', hZ'] at hop ⊢
    rw [hZ'] at hnf
    rw [hO] at hsub ⊢
    clear hX hY hZ hX' hY' hZ' hO hK hen hvf
    have HNL := Lib.hid hnl
    have HNF := Lib.hid hnf
    clear hnl hnf
    obtain ⟨g0, g1, g2, g3, g4⟩ := cells5 h0.g
    go_enter Tryd.func45, Tryd.ntmps45
    go_wp2_with fail
    refine (hvl _ (he.below h0.be) (hi.below h0.be)).mono ?_
    rintro e w1 ⟨rfl, hb1⟩
    have h1 := h0.next hb1
    clear hb1 h0 g0 g1 g2 g3 g4
    obtain ⟨g0, g1, g2, g3, g4⟩ := cells5 h1.g
    go_wp2_with fail
    refine (had _ (he.below h1.be)).mono ?_
    rintro e w2 ⟨af, cf, rfl, hef, haf, hb2⟩
    have h2n := h1.next hb2
    have h2 := h2n.alloc (.cells #[.int .i64 m, .slice af fs.length cf] 27)
    have hGb := heap_alloc_new w2 (.cells #[.int .i64 m, .slice af fs.length cf] 27)
    have hbA := (Below.refl w2.heap.size w2).alloc (Nat.le_refl _) (.cells #[.int .i64 m, .slice af fs.length cf] 27)
    have hefA := hef.below hbA
    have haf2 : ∀ p, af = some p → w.heap.size + 2 ≤ p.block := fun p hp => by have := haf p hp; have := h1.base; omega
    clear hb2 h1 g0 g1 g2 g3 g4 h2n hbA haf hef had hvl
    obtain ⟨g0, g1, g2, g3, g4⟩ := cells5 h2.g
    obtain ⟨k0, k1⟩ := cell_two hGb
    go_wp2_with fail
    refine (hop af cf _ hefA).mono ?_
    rintro e w3n ⟨a8, cz8, a9, cz, rfl, hef3n, hI3n, ha8, ha9, hb3⟩
    have h3n := h2.next hb3
    have h3 := h3n.alloc (.cells #[.int .i64 m, .slice a8 fs.length cz8, .int .i64 X', .int .i64 Y', .slice a9 Z'.length cz] 46)
    have hQb := heap_alloc_new w3n (.cells #[.int .i64 m, .slice a8 fs.length cz8, .int .i64 X', .int .i64 Y', .slice a9 Z'.length cz] 46)
    have hbQ := (Below.refl w3n.heap.size w3n).alloc (Nat.le_refl _) (.cells #[.int .i64 m, .slice a8 fs.length cz8, .int .i64 X', .int .i64 Y', .slice a9 Z'.length cz] 46)
    have hef3 := hef3n.below hbQ
    have hI3 := hI3n.below hbQ
    have hg8 : ∀ p, a8 = some p → w.heap.size + 2 ≤ p.block := fun p hp => haf2 p (ha8 p hp)
    have hg9 : ∀ p, a9 = some p → w.heap.size + 2 ≤ p.block := fun p hp => Nat.le_trans h2.base (ha9 p hp)
    have hj0 := h3n.base
    clear hb3 g0 g1 g2 g3 g4 k0 k1 hGb h2 hop hefA h3n hef3n hI3n hbQ ha8 ha9
    have hj1 : ¬ (w3n.heap.size = w.heap.size + 1) := by omega
    have hj2 : ¬ (w.heap.size + 1 = w3n.heap.size) := fun e => hj1 e.symm
    obtain ⟨w3, hw3⟩ : ∃ W : World, W = w3n.alloc (.cells #[.int .i64 m, .slice a8 fs.length cz8, .int .i64 X', .int .i64 Y', .slice a9 Z'.length cz] 46) := ⟨_, rfl⟩
    rw [← hw3] at h3 hQb hef3 hI3
    obtain ⟨x0, x1, x2, x3, x4⟩ := cells5 hQb
    obtain ⟨g0, g1, g2, g3, g4⟩ := cells5 h3.g
    obtain ⟨o0, o1, o2, o3, o4⟩ := cells5 h3.o
    obtain ⟨f0, f1, f2, f3, f4⟩ := frees5 h3.o
    have hbe := h3.be
    have HF := Lib.hid (set5_at h3.o (.int .i64 m) (.slice a8 fs.length cz8) (.int .i64 X') (.int .i64 Y') (.slice a9 Z'.length cz))
    have q : QIn w3 (w.heap.size + 2) a8 cz8 fs a9 cz Z' := ⟨hef3, hI3, hg8, hg9⟩
    have HQ := Lib.hid ((q.grown (set5_grown w3 (w.heap.size + 1) (.int .i64 m) (.slice a8 fs.length cz8) (.int .i64 X') (.int .i64 Y') (.slice a9 Z'.length cz)) (fun k e => by cases e; omega)).mono (show w.heap.size ≤ w.heap.size + 2 by omega))
    have HB := Lib.hid (hbe.grown (set5_grown w3 (w.heap.size + 1) (.int .i64 m) (.slice a8 fs.length cz8) (.int .i64 X') (.int .i64 Y') (.slice a9 Z'.length cz)) hbe.size (fun k e => by cases e; omega))
    clear h3 hI3 q hef3 hbe hQb
    go_wp2_with fail
    rw [← hw3]
    clear hw3
    go_region
    go_wp2_with fail
    obtain ⟨t0, t1, t2, t3, t4⟩ := cells5 HF.out
    unfold set5 at t0 t1 t2 t3 t4
    exact bodyPost_ret (v := .tuple #[.agg #[.int .i64 m, .slice a8 fs.length cz8, .int .i64 X', .int .i64 Y', .slice a9 Z'.length cz], .int .i64 (O.length : Int), .int .i64 0]) (by simp [results, Tryd.results45, go_sem, t0, t1, t2, t3, t4]) rfl
      ⟨a8, cz8, a9, cz, rfl, HQ.out.below (Below.refl _ _).drew, HB.out.drew⟩
end Go.Proofs.YtekbpoppajbljaaDoor

namespace Go.Proofs.YtekbpoppajbljaaDoor
open Go.RowKit Go.BigFrame

end Go.Proofs.YtekbpoppajbljaaDoor
