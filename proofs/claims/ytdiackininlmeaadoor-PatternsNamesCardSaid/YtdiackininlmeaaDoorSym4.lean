/- Plain: sums over all tuples of different nodes are sums over sets, each set in all its orders. -/
import Derived.Test.YtdiackininlmeaaDoorPatSolvesPlain
namespace Go.Proofs.YtdiackininlmeaaDoor
open Go.RowKit Go.BigFrame

def all2 (n : Nat) (G : Nat → Nat → Int) : Int := sumN (fun a => sumN (fun b => G a b) n) n
def all3 (n : Nat) (G : Nat → Nat → Nat → Int) : Int := sumN (fun a => all2 n (G a)) n
def all4 (n : Nat) (G : Nat → Nat → Nat → Nat → Int) : Int := sumN (fun a => all3 n (G a)) n
def sort2 (n : Nat) (G : Nat → Nat → Int) : Int := sumN (fun a => sumN (fun b => G a b) a) n
def sort3 (n : Nat) (G : Nat → Nat → Nat → Int) : Int := sumN (fun a => sort2 a (G a)) n
def sort4 (n : Nat) (G : Nat → Nat → Nat → Nat → Int) : Int := sumN (fun a => sort3 a (G a)) n
def P2 (G : Nat → Nat → Int) (a b : Nat) : Int := G a b + G b a
def P3 (G : Nat → Nat → Nat → Int) (a b c : Nat) : Int := P2 (G a) b c + P2 (fun x y => G x a y) b c + P2 (fun x y => G x y a) b c
def P4 (G : Nat → Nat → Nat → Nat → Int) (a b c d : Nat) : Int := P3 (G a) b c d + P3 (fun x y z => G x a y z) b c d + P3 (fun x y z => G x y a z) b c d + P3 (fun x y z => G x y z a) b c d

theorem all2_add (n : Nat) (F G : Nat → Nat → Int) : all2 n (fun a b => F a b + G a b) = all2 n F + all2 n G := by simp only [all2, sumN_add]
theorem all3_add (n : Nat) (F G : Nat → Nat → Nat → Int) : all3 n (fun a b c => F a b c + G a b c) = all3 n F + all3 n G := by simp only [all3, all2_add, sumN_add]
theorem sort2_add (n : Nat) (F G : Nat → Nat → Int) : sort2 n (fun a b => F a b + G a b) = sort2 n F + sort2 n G := by simp only [sort2, sumN_add]
theorem sort3_add (n : Nat) (F G : Nat → Nat → Nat → Int) : sort3 n (fun a b c => F a b c + G a b c) = sort3 n F + sort3 n G := by simp only [sort3, sort2_add, sumN_add]
theorem sort4_add (n : Nat) (F G : Nat → Nat → Nat → Nat → Int) : sort4 n (fun a b c d => F a b c d + G a b c d) = sort4 n F + sort4 n G := by simp only [sort4, sort3_add, sumN_add]

theorem all2_succ (n : Nat) (G : Nat → Nat → Int) : all2 (n + 1) G = all2 n G + sumN (fun a => G a n) n + sumN (fun b => G n b) n + G n n := by
  simp only [all2, sumN, sumN_add]; omega
theorem all3_succ (n : Nat) (G : Nat → Nat → Nat → Int) (h1 : ∀ a c, G a a c = 0) (h2 : ∀ a b, G a b a = 0) (h3 : ∀ a b, G a b b = 0) : all3 (n + 1) G = all3 n G + all2 n (G n) + all2 n (fun x y => G x n y) + all2 n (fun x y => G x y n) := by
  have e : ∀ a, all2 (n + 1) (G a) = all2 n (G a) + sumN (fun b => G a b n) n + sumN (fun c => G a n c) n := by
    intro a; rw [all2_succ, h3]; omega
  have e2 : all2 (n + 1) (G n) = all2 n (G n) := by
    rw [all2_succ, h3, sumN_congr (fun b => G n b n) (fun _ => 0) n (fun b _ => h2 n b), sumN_congr (fun c => G n n c) (fun _ => 0) n (fun c _ => h1 n c), sumN_zero]; omega
  unfold all3
  rw [show sumN (fun a => all2 (n + 1) (G a)) (n + 1) = sumN (fun a => all2 (n + 1) (G a)) n + all2 (n + 1) (G n) from rfl, e2]
  rw [sumN_congr _ _ n (fun a _ => e a)]
  simp only [sumN_add, all2]
  omega
theorem sym2 (G : Nat → Nat → Int) (h : ∀ a, G a a = 0) : ∀ n, all2 n G = sort2 n (P2 G) := by
  intro n
  induction n with
  | zero => rfl
  | succ n ih =>
    rw [all2_succ, ih, h]
    show _ = sort2 n (P2 G) + sumN (fun b => G n b + G b n) n
    rw [sumN_add]
    have e : sumN (fun b => G n b) n = sumN (G n) n := rfl
    omega
theorem sym3 (G : Nat → Nat → Nat → Int) (h1 : ∀ a c, G a a c = 0) (h2 : ∀ a b, G a b a = 0) (h3 : ∀ a b, G a b b = 0) : ∀ n, all3 n G = sort3 n (P3 G) := by
  intro n
  induction n with
  | zero => rfl
  | succ n ih =>
    rw [all3_succ n G h1 h2 h3, ih, sym2 (G n) (h3 n), sym2 (fun x y => G x n y) (fun a => h2 a n), sym2 (fun x y => G x y n) (fun a => h1 a n)]
    show _ = sort3 n (P3 G) + sort2 n (fun b c => P2 (G n) b c + P2 (fun x y => G x n y) b c + P2 (fun x y => G x y n) b c)
    rw [sort2_add, sort2_add]
    omega
/-- no value where two of the four are the same -/
structure Apart4 (G : Nat → Nat → Nat → Nat → Int) : Prop where
  ab : ∀ a c d, G a a c d = 0
  ac : ∀ a b d, G a b a d = 0
  ad : ∀ a b c, G a b c a = 0
  bc : ∀ a b d, G a b b d = 0
  bd : ∀ a b c, G a b c b = 0
  cd : ∀ a b c, G a b c c = 0
theorem all4_succ (n : Nat) (G : Nat → Nat → Nat → Nat → Int) (h : Apart4 G) : all4 (n + 1) G = all4 n G + all3 n (G n) + all3 n (fun x y z => G x n y z) + all3 n (fun x y z => G x y n z) + all3 n (fun x y z => G x y z n) := by
  have e : ∀ a, all3 (n + 1) (G a) = all3 n (G a) + all2 n (G a n) + all2 n (fun x y => G a x n y) + all2 n (fun x y => G a x y n) := fun a => all3_succ n (G a) (fun b d => h.bc a b d) (fun b c => h.bd a b c) (fun b c => h.cd a b c)
  have z2 : ∀ (F : Nat → Nat → Int), (∀ x y, F x y = 0) → all2 n F = 0 := by
    intro F hF
    unfold all2
    rw [sumN_congr _ (fun _ => 0) n (fun a _ => by rw [sumN_congr _ (fun _ => 0) n (fun b _ => hF a b), sumN_zero]), sumN_zero]
  have e2 : all3 (n + 1) (G n) = all3 n (G n) := by
    rw [e, z2 _ (fun x y => h.ab n x y), z2 _ (fun x y => h.ac n x y), z2 _ (fun x y => h.ad n x y)]; omega
  unfold all4
  rw [show sumN (fun a => all3 (n + 1) (G a)) (n + 1) = sumN (fun a => all3 (n + 1) (G a)) n + all3 (n + 1) (G n) from rfl, e2]
  rw [sumN_congr _ _ n (fun a _ => e a)]
  simp only [sumN_add, all3]
  have e3 : sumN (fun a => all2 n (fun y z => G a n y z)) n = sumN (fun v => all2 n (G v n)) n := rfl
  omega
/-- ALL TUPLES ARE ALL SETS IN ALL ORDERS. -/
theorem sym4 (G : Nat → Nat → Nat → Nat → Int) (h : Apart4 G) : ∀ n, all4 n G = sort4 n (P4 G) := by
  intro n
  induction n with
  | zero => rfl
  | succ n ih =>
    rw [all4_succ n G h, ih, sym3 (G n) (fun a c => h.bc n a c) (fun a b => h.bd n a b) (fun a b => h.cd n a b), sym3 (fun x y z => G x n y z) (fun a c => h.ac a n c) (fun a b => h.ad a n b) (fun a b => h.cd a n b),
      sym3 (fun x y z => G x y n z) (fun a c => h.ab a n c) (fun a b => h.ad a b n) (fun a b => h.bd a b n), sym3 (fun x y z => G x y z n) (fun a c => h.ab a c n) (fun a b => h.ac a b n) (fun a b => h.bc a b n)]
    show _ = sort4 n (P4 G) + sort3 n (fun b c d => P3 (G n) b c d + P3 (fun x y z => G x n y z) b c d + P3 (fun x y z => G x y n z) b c d + P3 (fun x y z => G x y z n) b c d)
    rw [sort3_add, sort3_add, sort3_add]
    omega
theorem P3_same (G : Nat → Nat → Nat → Int) (s1 : ∀ a b c, G b a c = G a b c) (s2 : ∀ a b c, G a c b = G a b c) (a b c : Nat) : P3 G a b c = 6 * G a b c := by
  show G a b c + G a c b + (G b a c + G c a b) + (G b c a + G c b a) = _
  have e1 := s2 a b c
  have e2 := s1 a b c
  have e3 := s1 a c b
  have e4 : G b c a = G b a c := s2 b a c
  have e5 : G c b a = G c a b := s2 c a b
  omega
theorem P4_same (G : Nat → Nat → Nat → Nat → Int) (s1 : ∀ a b c d, G b a c d = G a b c d) (s2 : ∀ a b c d, G a c b d = G a b c d) (s3 : ∀ a b c d, G a b d c = G a b c d) (a b c d : Nat) : P4 G a b c d = 24 * G a b c d := by
  unfold P4
  have f1 : (fun x y z => G x a y z) = G a := by funext x y z; exact s1 a x y z
  have f2 : (fun x y z => G x y a z) = G a := by funext x y z; rw [s2 x a y z, s1 a x y z]
  have f3 : (fun x y z => G x y z a) = G a := by funext x y z; rw [s3 x y a z, s2 x a y z, s1 a x y z]
  rw [f1, f2, f3, P3_same (G a) (s2 a) (s3 a)]
  omega

/-- the sum over a list -/
def lsum (f : Nat → Int) : List Nat → Int
  | [] => 0
  | x :: l => f x + lsum f l
theorem lsum_append (f : Nat → Int) (l m : List Nat) : lsum f (l ++ m) = lsum f l + lsum f m := by
  induction l with
  | nil => simp [lsum]
  | cons x l ih => simp only [List.cons_append, lsum, ih]; omega
theorem lsum_perm (f : Nat → Int) {l m : List Nat} (h : l.Perm m) : lsum f l = lsum f m := by
  induction h with
  | nil => rfl
  | cons x _ ih => simp only [lsum, ih]
  | swap x y l => simp only [lsum]; omega
  | trans _ _ ih1 ih2 => exact ih1.trans ih2
theorem lsum_range (f : Nat → Int) : ∀ n, lsum f (List.range n) = sumN f n := by
  intro n
  induction n with
  | zero => rfl
  | succ n ih => rw [List.range_succ, lsum_append, ih]; simp [lsum, sumN]
theorem sumN_head (f : Nat → Int) : ∀ n, sumN f (n + 1) = f 0 + sumN (fun i => f (i + 1)) n := by
  intro n
  induction n with
  | zero => simp [sumN]
  | succ n ih => rw [show sumN f (n + 1 + 1) = sumN f (n + 1) + f (n + 1) from rfl, ih]; simp only [sumN]; omega
theorem lsum_get (f : Nat → Int) : ∀ l : List Nat, lsum f l = sumN (fun i => f (l.getD i 0)) l.length := by
  intro l
  induction l with
  | nil => rfl
  | cons x l ih => rw [List.length_cons, sumN_head, lsum, ih]; rfl
/-- A SUM IN ANOTHER ORDER. -/
theorem sumN_names (f : Nat → Int) (n : Nat) (l : List Nat) (h : l.Perm (List.range n)) : sumN (fun i => f (l.getD i 0)) n = sumN f n := by
  have hl : l.length = n := by rw [h.length_eq]; simp
  have := lsum_get f l
  rw [hl] at this
  rw [← this, lsum_perm f h, lsum_range]
theorem all4_names (G : Nat → Nat → Nat → Nat → Int) (n : Nat) (l : List Nat) (h : l.Perm (List.range n)) : all4 n (fun a b c d => G (l.getD a 0) (l.getD b 0) (l.getD c 0) (l.getD d 0)) = all4 n G := by
  unfold all4 all3 all2
  have e1 : ∀ a b c, sumN (fun d => G a b c (l.getD d 0)) n = sumN (fun d => G a b c d) n := fun a b c => sumN_names (G a b c) n l h
  have e2 : ∀ a b, sumN (fun c => sumN (fun d => G a b (l.getD c 0) (l.getD d 0)) n) n = sumN (fun c => sumN (fun d => G a b c d) n) n := by
    intro a b
    rw [sumN_congr _ _ n (fun c _ => e1 a b (l.getD c 0))]
    exact sumN_names (fun c => sumN (fun d => G a b c d) n) n l h
  have e3 : ∀ a, sumN (fun b => sumN (fun c => sumN (fun d => G a (l.getD b 0) (l.getD c 0) (l.getD d 0)) n) n) n = sumN (fun b => sumN (fun c => sumN (fun d => G a b c d) n) n) n := by
    intro a
    rw [sumN_congr _ _ n (fun b _ => e2 a (l.getD b 0))]
    exact sumN_names (fun b => sumN (fun c => sumN (fun d => G a b c d) n) n) n l h
  rw [sumN_congr _ _ n (fun a _ => e3 (l.getD a 0))]
  exact sumN_names (fun a => sumN (fun b => sumN (fun c => sumN (fun d => G a b c d) n) n) n) n l h
end Go.Proofs.YtdiackininlmeaaDoor
