/- Plain: sums over ranges and lists of natural numbers. Plain: workers that know values of nodes, settle, and tell each other: what they know leads to the core numbers. Plain: every schedule ends: how many messages there can be. Plain: valid worlds of workers; which channels have messages; schedules. -/
import Derived.Test.YtdkmdcdoiaelfaaGreatExtP
namespace Go.Proofs.YtdkmdcdoiaelfaaGreat
theorem countP_sum {α : Type} (p : α → Bool) (l : List α) : l.countP p = (l.map fun x => if p x = true then 1 else 0).sum := by
  induction l with
  | nil => rfl
  | cons x l ih => rw [List.countP_cons, ih, List.map_cons, List.sum_cons, Nat.add_comm]
theorem sumR_congr {f g : Nat → Nat} : ∀ n, (∀ v, v < n → f v = g v) → sumR n f = sumR n g
  | 0, _ => rfl
  | n + 1, h => by unfold sumR; rw [sumR_congr n (fun v hv => h v (by omega)), h n (by omega)]
theorem sumR_add (f g : Nat → Nat) : ∀ n, sumR n (fun v => f v + g v) = sumR n f + sumR n g
  | 0 => rfl
  | n + 1 => by simp only [sumR, sumR_add f g n]; omega
theorem sumR_zero (n : Nat) : sumR n (fun _ => 0) = 0 := by rw [sumR_const, Nat.mul_zero]
theorem sumR_comm (f : Nat → Nat → Nat) (m : Nat) : ∀ n, sumR n (fun i => sumR m (f i)) = sumR m (fun j => sumR n (fun i => f i j))
  | 0 => (sumR_zero m).symm
  | n + 1 => by
    show sumR n (fun i => sumR m (f i)) + sumR m (f n) = sumR m (fun j => sumR n (fun i => f i j) + f n j)
    rw [sumR_comm f m n, ← sumR_add]
theorem sum_range (f : Nat → Nat) : ∀ n, ((List.range n).map f).sum = sumR n f
  | 0 => rfl
  | n + 1 => by rw [List.range_succ, List.map_append, List.sum_append, sum_range f n]; simp [sumR]
theorem sumR_ind (f : Nat → Nat) (d : Nat) : ∀ n, sumR n (fun v => if v = d then f v else 0) = if d < n then f d else 0
  | 0 => rfl
  | n + 1 => by
    show sumR n _ + (if n = d then f n else 0) = _
    rw [sumR_ind f d n]
    by_cases h : n = d
    · subst h; rw [if_neg (Nat.lt_irrefl _), if_pos rfl, if_pos (by omega)]; omega
    · by_cases h2 : d < n
      · rw [if_pos h2, if_neg h, if_pos (by omega)]; rfl
      · rw [if_neg h2, if_neg h, if_neg (by omega)]
theorem len_filter_sum (p : Nat → Bool) (n : Nat) : ((List.range n).filter p).length = sumR n fun v => if p v = true then 1 else 0 := by
  rw [← sum_range, ← countP_sum, List.countP_eq_length_filter]
end Go.Proofs.YtdkmdcdoiaelfaaGreat

namespace Go.Proofs.YtdkmdcdoiaelfaaGreat
open Go.RowKit Go.BigFrame

/-- a node, a value, and whether it is a marker -/
abbrev Msg := Int × Int × Bool
/-- the h-index of what the list says of the neighbours -/
def nbH (es : List E2) (n v : Nat) (x : List Int) : Int := hX ((nbL es n v).map fun y => x.getD y 0)
/-- a worker looks at one node -/
def swpV (es : List E2) (n : Nat) (ow : Nat → Nat) (w : Nat) (x : List Int) (v : Nat) : List Int := if ow v = w ∧ nbH es n v x < x.getD v 0 then x.set v (nbH es n v x) else x
def swpK (es : List E2) (n : Nat) (ow : Nat → Nat) (w : Nat) (x : List Int) : Nat → List Int
  | 0 => x
  | k + 1 => swpV es n ow w (swpK es n ow w x k) k
def swpL (es : List E2) (n : Nat) (ow : Nat → Nat) (w : Nat) (x : List Int) : List Int := swpK es n ow w x n
def posS (x : List Int) : Nat := sumR x.length fun v => (x.getD v 0).toNat
def setF (es : List E2) (n : Nat) (ow : Nat → Nat) (w : Nat) : Nat → List Int → List Int
  | 0, x => x
  | f + 1, x => if swpL es n ow w x = x then x else setF es n ow w f (swpL es n ow w x)
/-- a worker settles -/
def setX (es : List E2) (n : Nat) (ow : Nat → Nat) (w : Nat) (x : List Int) : List Int := setF es n ow w (posS x + 1) x
theorem getD_set (x : List Int) (v y : Nat) (a : Int) : (x.set v a).getD y 0 = if y = v ∧ v < x.length then a else x.getD y 0 := by
  rw [List.getD_eq_getElem?_getD, List.getElem?_set, List.getD_eq_getElem?_getD]
  by_cases h : v = y
  · subst h
    by_cases h2 : v < x.length
    · rw [if_pos rfl, if_pos h2, if_pos ⟨rfl, h2⟩]; rfl
    · rw [if_pos rfl, if_neg h2, if_neg (fun q => h2 q.2), List.getElem?_eq_none (by omega)]
  · rw [if_neg h, if_neg (fun q => h q.1.symm)]
/-- values fall, or stay -/
def Dn (x y : List Int) : Prop := y.length = x.length ∧ ∀ v, y.getD v 0 = x.getD v 0 ∨ (0 ≤ y.getD v 0 ∧ y.getD v 0 < x.getD v 0)
theorem Dn.refl (x : List Int) : Dn x x := ⟨rfl, fun _ => .inl rfl⟩
theorem Dn.trans {x y z : List Int} (h : Dn x y) (g : Dn y z) : Dn x z := ⟨g.1.trans h.1, fun v => by
  rcases h.2 v with a | a <;> rcases g.2 v with b | b <;> omega⟩
theorem Dn.le {x y : List Int} (h : Dn x y) (v : Nat) : y.getD v 0 ≤ x.getD v 0 := by rcases h.2 v with a | a <;> omega
section
variable {es : List E2} {n : Nat} {ow : Nat → Nat} {w : Nat}
theorem swpV_dn (x : List Int) (v : Nat) : Dn x (swpV es n ow w x v) := by
  unfold swpV
  split
  · rename_i h
    refine ⟨List.length_set, fun y => ?_⟩
    rw [getD_set]
    by_cases e : y = v ∧ v < x.length
    · rw [if_pos e, e.1]
      exact .inr ⟨by unfold nbH; omega, h.2⟩
    · rw [if_neg e]; exact .inl rfl
  · exact Dn.refl x
theorem swpK_step (x : List Int) (k : Nat) : swpK es n ow w x (k + 1) = swpV es n ow w (swpK es n ow w x k) k := rfl
theorem swpK_dn (x : List Int) : ∀ k, Dn x (swpK es n ow w x k)
  | 0 => Dn.refl x
  | k + 1 => (swpK_dn x k).trans (swpV_dn _ _)
theorem swpL_dn (x : List Int) : Dn x (swpL es n ow w x) := swpK_dn x n
theorem posS_lt {x y : List Int} (h : Dn x y) (hne : y ≠ x) : posS y < posS x := by
  obtain ⟨v, hv, hlt⟩ : ∃ v, v < x.length ∧ y.getD v 0 < x.getD v 0 := by
    refine Classical.byContradiction fun hc => hne (list_ext_D (n := x.length) h.1 rfl fun v hv => ?_)
    have := h.le v
    refine Classical.byContradiction fun h2 => hc ⟨v, hv, by omega⟩
  unfold posS
  rw [h.1]
  refine sumR_lt _ hv (fun u _ => ?_) ?_
  · have := h.le u; omega
  · rcases h.2 v with a | a <;> omega
theorem setF_fuel : ∀ (f g : Nat) (x : List Int), posS x < f → posS x < g → setF es n ow w f x = setF es n ow w g x := by
  intro f
  induction f with
  | zero => intro g x h; omega
  | succ f ih =>
    intro g x hf hg
    cases g with
    | zero => omega
    | succ g =>
      unfold setF
      by_cases h : swpL es n ow w x = x
      · rw [if_pos h, if_pos h]
      · rw [if_neg h, if_neg h]
        have := posS_lt (swpL_dn (es := es) (n := n) (ow := ow) (w := w) x) h
        exact ih g _ (by omega) (by omega)
theorem setX_eq (x : List Int) : setX es n ow w x = if swpL es n ow w x = x then x else setX es n ow w (swpL es n ow w x) := by
  by_cases h : swpL es n ow w x = x
  · rw [if_pos h]
    unfold setX setF
    rw [if_pos h]
  · rw [if_neg h]
    have hp := posS_lt (swpL_dn (es := es) (n := n) (ow := ow) (w := w) x) h
    have e : setX es n ow w x = setF es n ow w (posS x) (swpL es n ow w x) := by
      show setF es n ow w (posS x + 1) x = _
      show (if swpL es n ow w x = x then x else setF es n ow w (posS x) (swpL es n ow w x)) = _
      rw [if_neg h]
    rw [e]
    exact setF_fuel _ _ _ hp (by omega)
theorem setX_fixed {x : List Int} (h : swpL es n ow w x = x) : setX es n ow w x = x := by rw [setX_eq, if_pos h]
/-- whatever holds at the beginning and is kept by each look holds when it has settled -/
theorem setX_ind {p : List Int → Prop} (hs : ∀ x v, v < n → p x → p (swpV es n ow w x v)) : ∀ x, p x → p (setX es n ow w x) := by
  have hk : ∀ x, p x → ∀ k, k ≤ n → p (swpK es n ow w x k) := by
    intro x hx k
    induction k with
    | zero => intro _; exact hx
    | succ k ih => intro h; exact hs _ k (by omega) (ih (by omega))
  have key : ∀ f x, p x → p (setF es n ow w f x) := by
    intro f
    induction f with
    | zero => intro x hx; exact hx
    | succ f ih =>
      intro x hx
      unfold setF
      split
      · exact hx
      · exact ih _ (hk x hx n (Nat.le_refl _))
  exact fun x hx => key _ x hx
theorem setX_dn (x : List Int) : Dn x (setX es n ow w x) := setX_ind (p := fun y => Dn x y) (fun y v _ h => h.trans (swpV_dn y v)) x (Dn.refl x)
theorem setX_fix (x : List Int) : swpL es n ow w (setX es n ow w x) = setX es n ow w x := by
  have key : ∀ f x, posS x < f → swpL es n ow w (setF es n ow w f x) = setF es n ow w f x := by
    intro f
    induction f with
    | zero => intro x h; omega
    | succ f ih =>
      intro x h
      unfold setF
      by_cases e : swpL es n ow w x = x
      · rw [if_pos e]; exact e
      · rw [if_neg e]
        have := posS_lt (swpL_dn (es := es) (n := n) (ow := ow) (w := w) x) e
        exact ih _ (by omega)
  exact key _ x (by omega)
theorem setX_other (x : List Int) (v : Nat) (h : ow v ≠ w) : (setX es n ow w x).getD v 0 = x.getD v 0 :=
  setX_ind (p := fun y => y.getD v 0 = x.getD v 0) (fun y u _ hy => by
    unfold swpV
    split
    · rename_i hc
      rw [getD_set, if_neg (fun q => h (by rw [q.1]; exact hc.1))]; exact hy
    · exact hy) x rfl
theorem hX_mono (es : List E2) (n v : Nat) (a b : Nat → Int) (h : ∀ y, y < n → a y ≤ b y) : hX ((nbL es n v).map a) ≤ hX ((nbL es n v).map b) := by
  rw [hX_iff, cnt_nb]
  have h1 := (hX_iff ((nbL es n v).map a) _).1 (Nat.le_refl _)
  rw [cnt_nb] at h1
  exact Nat.le_trans h1 (dgS_mono fun y hy hs => decide_eq_true (by have := h y hy; have := of_decide_eq_true hs; omega))
theorem setX_low (c : Nat → Int) (hc : ∀ v, v < n → ow v = w → c v ≤ (hX ((nbL es n v).map c) : Int)) (x : List Int) (h : ∀ v, v < n → c v ≤ x.getD v 0) : ∀ v, v < n → c v ≤ (setX es n ow w x).getD v 0 :=
  setX_ind (p := fun y => ∀ v, v < n → c v ≤ y.getD v 0) (fun y u hu hy v hvn => by
    unfold swpV
    split
    · rename_i hq
      rw [getD_set]
      split
      · rename_i e
        have h1 := hX_mono es n u c (fun z => y.getD z 0) hy
        have h2 := hc u hu hq.1
        rw [e.1]
        unfold nbH
        omega
      · exact hy v hvn
    · exact hy v hvn) x h
end
theorem cor_nbH {n : Nat} {es : List E2} (hv : Valid n es) (v : Nat) (hvn : v < n) : corF es n v ≤ (hX ((nbL es n v).map (corF es n)) : Int) := by
  obtain ⟨k, hk⟩ := cor_nat es n v hvn
  obtain ⟨S, h1, h2, h3⟩ := (cor_core hv v k hvn).2 (by omega)
  have h4 : k ≤ hX ((nbL es n v).map (corF es n)) := by
    rw [hX_iff, cnt_nb]
    refine Nat.le_trans (h1 v h3) (dgS_mono fun w hw hs => decide_eq_true ?_)
    exact (cor_core hv w k hw).1 ⟨S, h1, h2, hs⟩
  omega
/-- the other workers that own neighbours of a node -/
def ownL (es : List E2) (n P : Nat) (ow : Nat → Nat) (v : Nat) : List Nat := (List.range P).filter fun t => t != ow v && (nbL es n v).any fun y => ow y == t
theorem ownL_mem {es : List E2} {n P : Nat} {ow : Nat → Nat} {v t : Nat} : t ∈ ownL es n P ow v ↔ t < P ∧ t ≠ ow v ∧ ∃ y, y < n ∧ adjB es v y = true ∧ ow y = t := by
  unfold ownL
  rw [List.mem_filter, List.mem_range, Bool.and_eq_true, bne_iff_ne, List.any_eq_true]
  constructor
  · rintro ⟨h1, h2, y, hy, h3⟩
    obtain ⟨h4, h5⟩ := List.mem_filter.1 hy
    exact ⟨h1, h2, y, List.mem_range.1 h4, h5, by simpa using h3⟩
  · rintro ⟨h1, h2, y, h3, h4, h5⟩
    exact ⟨h1, h2, y, List.mem_filter.2 ⟨List.mem_range.2 h3, h4⟩, by simpa using h5⟩
/-- what a worker tells another one of those own nodes of which a test says so -/
def telL (es : List E2) (n P : Nat) (ow : Nat → Nat) (w : Nat) (x : List Int) (wh : Nat → Bool) (t : Nat) : List Msg :=
  ((List.range n).filter fun v => (ow v == w && wh v) && decide (t ∈ ownL es n P ow v)).map fun (v : Nat) => ((v : Int), x.getD v 0, false)
theorem telL_mem {es : List E2} {n P : Nat} {ow : Nat → Nat} {w : Nat} {x : List Int} {wh : Nat → Bool} {t : Nat} {m : Msg} : m ∈ telL es n P ow w x wh t ↔ ∃ v, v < n ∧ ow v = w ∧ wh v = true ∧ t ∈ ownL es n P ow v ∧ m = ((v : Int), x.getD v 0, false) := by
  unfold telL
  rw [List.mem_map]
  constructor
  · rintro ⟨v, h, rfl⟩
    obtain ⟨h1, h2⟩ := List.mem_filter.1 h
    simp only [Bool.and_eq_true, beq_iff_eq, decide_eq_true_eq] at h2
    exact ⟨v, List.mem_range.1 h1, h2.1.1, h2.1.2, h2.2, rfl⟩
  · rintro ⟨v, h1, h2, h3, h4, rfl⟩
    exact ⟨v, List.mem_filter.2 ⟨List.mem_range.2 h1, by simp [h2, h3, h4]⟩, rfl⟩
/-- what all workers know, and what is under way -/
structure WdP where
  kn : Nat → List Int
  bx : Nat → Nat → List Msg
/-- what a worker knows at the beginning, unsettled -/
def beg (es : List E2) (n : Nat) (ow : Nat → Nat) (w : Nat) : List Int := fnL n fun v => if ow v = w then ((nbL es n v).length : Int) else (n : Int)
def staP (es : List E2) (n P : Nat) (ow : Nat → Nat) : WdP where
  kn := fun w => setX es n ow w (beg es n ow w)
  bx := fun w t => telL es n P ow w (setX es n ow w (beg es n ow w)) (fun _ => true) t
/-- what a worker knows behind a message -/
def lrnL (es : List E2) (n : Nat) (ow : Nat → Nat) (j : Nat) (x : List Int) (m : Msg) : List Int := setX es n ow j (x.set m.1.toNat (min (x.getD m.1.toNat 0) m.2.1))
/-- the first message of a channel is delivered -/
def dlvP (es : List E2) (n P : Nat) (ow : Nat → Nat) (W : WdP) (i j : Nat) : WdP :=
  match W.bx i j with
  | [] => W
  | m :: r =>
    { kn := fun w => if w = j then lrnL es n ow j (W.kn j) m else W.kn w
      bx := fun a b => (if a = i ∧ b = j then r else W.bx a b) ++ (if a = j then telL es n P ow j (lrnL es n ow j (W.kn j) m) (fun v => decide ((lrnL es n ow j (W.kn j) m).getD v 0 < (W.kn j).getD v 0)) b else []) }
/-- what holds of all worlds that there are -/
structure RInv (es : List E2) (n P : Nat) (ow : Nat → Nat) (W : WdP) : Prop where
  len : ∀ w, w < P → (W.kn w).length = n
  ge : ∀ w, w < P → ∀ v, v < n → corF es n v ≤ (W.kn w).getD v 0
  le : ∀ w, w < P → ∀ v, v < n → (W.kn w).getD v 0 ≤ n
  fix : ∀ w, w < P → swpL es n ow w (W.kn w) = W.kn w
  hi : ∀ w, w < P → ∀ v, v < n → (W.kn (ow v)).getD v 0 ≤ (W.kn w).getD v 0
  msg : ∀ i j, i < P → j < P → ∀ m ∈ W.bx i j, ∃ v, v < n ∧ ow v = i ∧ i ≠ j ∧ m.1 = v ∧ m.2.2 = false ∧ (W.kn i).getD v 0 ≤ m.2.1 ∧ m.2.1 ≤ n
  tell : ∀ v, v < n → ∀ t, t ∈ ownL es n P ow v → (W.kn t).getD v 0 ≤ (W.kn (ow v)).getD v 0 ∨ ∃ m ∈ W.bx (ow v) t, m.1 = v ∧ m.2.1 ≤ (W.kn (ow v)).getD v 0
theorem beg_getD (es : List E2) (n : Nat) (ow : Nat → Nat) (w v : Nat) (h : v < n) : (beg es n ow w).getD v 0 = if ow v = w then ((nbL es n v).length : Int) else (n : Int) := getD_of (fnL_get n _ v h)
theorem sta_inv {n P : Nat} {es : List E2} {ow : Nat → Nat} (hv : Valid n es) (how : ∀ v, v < n → ow v < P) : RInv es n P ow (staP es n P ow) := by
  have hge : ∀ w, w < P → ∀ v, v < n → corF es n v ≤ ((staP es n P ow).kn w).getD v 0 := fun w _ => setX_low (corF es n) (fun v h _ => cor_nbH hv v h) _ (fun v hvn => by
    rw [beg_getD es n ow w v hvn]
    have h1 := degL_ge hv v hvn
    rw [degL_getD es n v hvn] at h1
    have h2 := nb_lt hv v hvn
    split <;> omega)
  have hle : ∀ w, w < P → ∀ v, v < n → ((staP es n P ow).kn w).getD v 0 ≤ n := fun w _ v hvn => by
    refine Int.le_trans ((setX_dn (beg es n ow w)).le v) ?_
    rw [beg_getD es n ow w v hvn]
    have h2 := nb_lt hv v hvn
    split <;> omega
  refine ⟨fun w _ => (setX_dn _).1.trans (fnL_length _ _), hge, hle, fun w _ => setX_fix _, fun w hw v hvn => ?_, fun i j hi hj m hm => ?_, fun v hvn t ht => ?_⟩
  · by_cases e : ow v = w
    · rw [e]; exact Int.le_refl _
    · have h1 : ((staP es n P ow).kn w).getD v 0 = n := by
        show (setX es n ow w (beg es n ow w)).getD v 0 = n
        rw [setX_other _ v e, beg_getD es n ow w v hvn, if_neg e]
      rw [h1]
      exact hle _ (how v hvn) v hvn
  · obtain ⟨v, h1, h2, -, h4, rfl⟩ := telL_mem.1 hm
    have h5 := ownL_mem.1 h4
    refine ⟨v, h1, h2, by rw [← h2]; exact fun e => h5.2.1 e.symm, rfl, rfl, Int.le_refl _, ?_⟩
    have := hle i hi v h1
    exact this
  · right
    refine ⟨((v : Int), ((staP es n P ow).kn (ow v)).getD v 0, false), telL_mem.2 ⟨v, hvn, rfl, rfl, ht, rfl⟩, rfl, Int.le_refl _⟩
section
variable {n P : Nat} {es : List E2} {ow : Nat → Nat} {W : WdP} {i j : Nat} {m : Msg} {r : List Msg}
theorem dlv_kn (hb : W.bx i j = m :: r) (w : Nat) : (dlvP es n P ow W i j).kn w = if w = j then lrnL es n ow j (W.kn j) m else W.kn w := by unfold dlvP; rw [hb]
theorem dlv_bx (hb : W.bx i j = m :: r) (a b : Nat) : (dlvP es n P ow W i j).bx a b = (if a = i ∧ b = j then r else W.bx a b) ++ (if a = j then telL es n P ow j (lrnL es n ow j (W.kn j) m) (fun v => decide ((lrnL es n ow j (W.kn j) m).getD v 0 < (W.kn j).getD v 0)) b else []) := by unfold dlvP; rw [hb]
/-- values fall, or stay; of others' nodes only that of the message -/
theorem lrn_le (x : List Int) (m : Msg) (v : Nat) : (lrnL es n ow j x m).getD v 0 ≤ x.getD v 0 := by
  unfold lrnL
  refine Int.le_trans ((setX_dn _).le v) ?_
  rw [getD_set]
  split
  · rename_i h; rw [h.1]; omega
  · exact Int.le_refl _
theorem lrn_len (x : List Int) (m : Msg) : (lrnL es n ow j x m).length = x.length := (setX_dn _).1.trans List.length_set
end
end Go.Proofs.YtdkmdcdoiaelfaaGreat

namespace Go.Proofs.YtdkmdcdoiaelfaaGreat
open Go.RowKit Go.BigFrame

/-- how many messages are under way -/
def bxN (P : Nat) (W : WdP) : Nat := sumR P fun i => sumR P fun j => (W.bx i j).length
/-- and how many there may still be -/
def potN (n P : Nat) (ow : Nat → Nat) (W : WdP) : Nat := bxN P W + sumR n fun v => ((W.kn (ow v)).getD v 0).toNat * (P - 1)
theorem tel_len (es : List E2) (n P : Nat) (ow : Nat → Nat) (w : Nat) (x : List Int) (wh : Nat → Bool) (t : Nat) : (telL es n P ow w x wh t).length = sumR n fun v => if ((ow v == w && wh v) && decide (t ∈ ownL es n P ow v)) = true then 1 else 0 := by
  unfold telL
  rw [List.length_map, len_filter_sum]
theorem ownL_len (es : List E2) (n P : Nat) (ow : Nat → Nat) (v : Nat) : (ownL es n P ow v).length = sumR P fun t => if t ∈ ownL es n P ow v then 1 else 0 := by
  have h : ownL es n P ow v = (List.range P).filter fun t => decide (t ∈ ownL es n P ow v) := by
    unfold ownL
    refine List.filter_congr fun t ht => ?_
    rw [Bool.eq_iff_iff, decide_eq_true_eq, List.mem_filter]
    exact ⟨fun h => ⟨ht, h⟩, fun h => h.2⟩
  have h2 : (ownL es n P ow v).length = ((List.range P).filter fun t => decide (t ∈ ownL es n P ow v)).length := congrArg _ h
  rw [h2, len_filter_sum]
  refine sumR_congr P fun t _ => ?_
  simp only [decide_eq_true_eq]
theorem ownL_le {es : List E2} {n P : Nat} {ow : Nat → Nat} {v : Nat} (h : ow v < P) : (ownL es n P ow v).length ≤ P - 1 := by
  rw [ownL_len]
  have h1 : (sumR P fun t => if t ∈ ownL es n P ow v then 1 else 0) + (sumR P fun t => if t = ow v then 1 else 0) ≤ sumR P fun _ => 1 := by
    rw [← sumR_add]
    refine sumR_le P fun t _ => ?_
    by_cases e : t = ow v
    · rw [if_neg (fun q => (ownL_mem.1 q).2.1 e), if_pos e]; exact Nat.le_refl _
    · rw [if_neg e]; split <;> omega
  rw [sumR_ind (fun _ => 1), if_pos h, sumR_const] at h1
  omega
/-- all that a worker tells -/
theorem tel_all (es : List E2) (n P : Nat) (ow : Nat → Nat) (w : Nat) (x : List Int) (wh : Nat → Bool) : (sumR P fun t => (telL es n P ow w x wh t).length) = sumR n fun v => if (ow v == w && wh v) = true then (ownL es n P ow v).length else 0 := by
  rw [sumR_congr P (fun t _ => tel_len es n P ow w x wh t), sumR_comm]
  refine sumR_congr n fun v _ => ?_
  by_cases h : (ow v == w && wh v) = true
  · rw [if_pos h, ownL_len]
    refine sumR_congr P fun t _ => ?_
    rw [h, Bool.true_and]
    simp only [decide_eq_true_eq]
  · rw [if_neg h]
    have h2 : (ow v == w && wh v) = false := by simpa using h
    have h3 : ∀ t, t < P → (if ((ow v == w && wh v) && decide (t ∈ ownL es n P ow v)) = true then 1 else 0) = 0 := fun t _ => by rw [h2, Bool.false_and, if_neg (by simp)]
    rw [sumR_congr P h3, sumR_zero]
theorem sta_bxN (es : List E2) (n P : Nat) (ow : Nat → Nat) (how : ∀ v, v < n → ow v < P) : bxN P (staP es n P ow) = sumR n fun v => (ownL es n P ow v).length := by
  have e0 : bxN P (staP es n P ow) = sumR P fun i => sumR P fun t => (telL es n P ow i ((staP es n P ow).kn i) (fun _ => true) t).length := rfl
  rw [e0, sumR_congr P (fun i _ => tel_all es n P ow i ((staP es n P ow).kn i) (fun _ => true)), sumR_comm]
  refine sumR_congr n fun v hvn => ?_
  rw [sumR_congr P (fun i _ => show (if (ow v == i && true) = true then (ownL es n P ow v).length else 0) = if i = ow v then (ownL es n P ow v).length else 0 by
    rw [Bool.and_true]
    by_cases e : i = ow v
    · rw [if_pos e, if_pos (by simp [e])]
    · rw [if_neg e, if_neg (by simpa using fun q => e q.symm)]), sumR_ind (fun _ => (ownL es n P ow v).length), if_pos (how v hvn)]
section
variable {n P : Nat} {es : List E2} {ow : Nat → Nat} {W : WdP} {i j : Nat} {m : Msg} {r : List Msg}
theorem dlv_bxN (hi : i < P) (hj : j < P) (hb : W.bx i j = m :: r) : bxN P (dlvP es n P ow W i j) + 1 = bxN P W + sumR n fun v => if (ow v == j && decide ((lrnL es n ow j (W.kn j) m).getD v 0 < (W.kn j).getD v 0)) = true then (ownL es n P ow v).length else 0 := by
  obtain ⟨L, hL⟩ : ∃ L : Nat → List Msg, (fun b => telL es n P ow j (lrnL es n ow j (W.kn j) m) (fun v => decide ((lrnL es n ow j (W.kn j) m).getD v 0 < (W.kn j).getD v 0)) b) = L := ⟨_, rfl⟩
  have h1 : ∀ a b, ((dlvP es n P ow W i j).bx a b).length + (if a = i then (if b = j then 1 else 0) else 0) = (W.bx a b).length + (if a = j then (L b).length else 0) := fun a b => by
    have e2 : telL es n P ow j (lrnL es n ow j (W.kn j) m) (fun v => decide ((lrnL es n ow j (W.kn j) m).getD v 0 < (W.kn j).getD v 0)) b = L b := by rw [← hL]
    rw [dlv_bx hb, List.length_append, e2]
    have e1 : (if a = j then L b else []).length = if a = j then (L b).length else 0 := by split <;> rfl
    rw [e1]
    by_cases e : a = i ∧ b = j
    · rw [if_pos e, if_pos e.1, if_pos e.2, e.1, e.2, hb, List.length_cons]
      generalize (if i = j then (L j).length else 0) = z
      omega
    · rw [if_neg e]
      have : (if a = i then (if b = j then 1 else 0) else 0) = 0 := by
        by_cases e1 : a = i
        · rw [if_pos e1, if_neg (fun q => e ⟨e1, q⟩)]
        · rw [if_neg e1]
      rw [this]; rfl
  have h2 : (sumR P fun a => sumR P fun b => ((dlvP es n P ow W i j).bx a b).length + (if a = i then (if b = j then 1 else 0) else 0)) = sumR P fun a => sumR P fun b => (W.bx a b).length + (if a = j then (L b).length else 0) := sumR_congr P fun a _ => sumR_congr P fun b _ => h1 a b
  simp only [sumR_add] at h2
  have h3 : (sumR P fun a => sumR P fun b => if a = i then (if b = j then 1 else 0) else 0) = 1 := by
    rw [sumR_congr P (fun a _ => show (sumR P fun b => if a = i then (if b = j then 1 else 0) else 0) = if a = i then 1 else 0 by
      by_cases e : a = i
      · simp only [if_pos e]; rw [sumR_ind (fun _ => 1), if_pos hj]
      · simp only [if_neg e]; exact sumR_zero P), sumR_ind (fun _ => 1), if_pos hi]
  have h4 : (sumR P fun a => sumR P fun b => if a = j then (L b).length else 0) = (sumR P fun b => (L b).length) := by
    rw [sumR_congr P (fun a _ => show (sumR P fun b => if a = j then (L b).length else 0) = if a = j then (sumR P fun b => (L b).length) else 0 by
      by_cases e : a = j
      · simp only [if_pos e]
      · simp only [if_neg e]; exact sumR_zero P), sumR_ind (fun _ => (sumR P fun b => (L b).length)), if_pos hj]
  rw [h3, h4, ← hL, tel_all] at h2
  exact h2
theorem sta_pot (how : ∀ v, v < n → ow v < P) : potN n P ow (staP es n P ow) ≤ sumR n fun v => ((nbL es n v).length + 1) * (P - 1) := by
  unfold potN
  rw [sta_bxN es n P ow how, ← sumR_add]
  refine sumR_le n fun v hvn => ?_
  have h1 := ownL_le (es := es) (n := n) (how v hvn)
  have h2 : ((staP es n P ow).kn (ow v)).getD v 0 ≤ ((nbL es n v).length : Int) := by
    refine Int.le_trans ((setX_dn (beg es n ow (ow v))).le v) ?_
    rw [beg_getD es n ow (ow v) v hvn, if_pos rfl]; exact Int.le_refl _
  have h3 : (((staP es n P ow).kn (ow v)).getD v 0).toNat * (P - 1) ≤ (nbL es n v).length * (P - 1) := Nat.mul_le_mul_right _ (by omega)
  rw [Nat.add_mul, Nat.one_mul]
  omega
end
end Go.Proofs.YtdkmdcdoiaelfaaGreat

namespace Go.Proofs.YtdkmdcdoiaelfaaGreat
open Go.RowKit Go.BigFrame

structure VldP (n P : Nat) (W : WdP) : Prop where
  len : ∀ w, w < P → (W.kn w).length = n
  ge : ∀ w, w < P → ∀ v, 0 ≤ (W.kn w).getD v 0
  le : ∀ w, w < P → ∀ v, (W.kn w).getD v 0 ≤ n
  msg : ∀ i j, i < P → j < P → ∀ m ∈ W.bx i j, i ≠ j ∧ 0 ≤ m.1 ∧ m.1 < n ∧ m.2.2 = false ∧ 0 ≤ m.2.1 ∧ m.2.1 ≤ n
theorem getD_over {x : List Int} {v : Nat} (h : x.length ≤ v) : x.getD v 0 = 0 := by rw [List.getD_eq_getElem?_getD, List.getElem?_eq_none h]; rfl
section
variable {n P : Nat} {es : List E2} {ow : Nat → Nat} {W : WdP} {i j : Nat} {m : Msg} {r : List Msg}
theorem RInv.vld (hI : RInv es n P ow W) : VldP n P W := by
  have hge : ∀ w, w < P → ∀ v, 0 ≤ (W.kn w).getD v 0 := fun w hw v => by
    by_cases h : v < n
    · have h1 := hI.ge w hw v h
      obtain ⟨k, hk⟩ := cor_nat es n v h
      omega
    · rw [getD_over (by rw [hI.len w hw]; omega)]; exact Int.le_refl _
  refine ⟨hI.len, hge, fun w hw v => ?_, fun i j hi hj m hm => ?_⟩
  · by_cases h : v < n
    · exact hI.le w hw v h
    · rw [getD_over (by rw [hI.len w hw]; omega)]; omega
  · obtain ⟨v, h1, h2, h3, h4, h5, h6, h7⟩ := hI.msg i j hi hj m hm
    have := hge i hi v
    exact ⟨h3, by omega, by omega, h5, by omega, h7⟩
theorem lrn_nn (x : List Int) (m : Msg) (hx : ∀ v, 0 ≤ x.getD v 0) (hm : 0 ≤ m.2.1) (v : Nat) : 0 ≤ (lrnL es n ow j x m).getD v 0 := by
  have h0 : 0 ≤ (x.set m.1.toNat (min (x.getD m.1.toNat 0) m.2.1)).getD v 0 := by
    rw [getD_set]
    split
    · have := hx m.1.toNat; omega
    · exact hx v
  rcases (setX_dn (es := es) (n := n) (ow := ow) (w := j) (x.set m.1.toNat (min (x.getD m.1.toNat 0) m.2.1))).2 v with h | h
  · unfold lrnL; rw [h]; exact h0
  · exact h.1
theorem dlv_vld (_how : ∀ v, v < n → ow v < P) (hV : VldP n P W) (hi : i < P) (hj : j < P) (hb : W.bx i j = m :: r) : VldP n P (dlvP es n P ow W i j) := by
  obtain ⟨-, -, -, -, hm0, -⟩ := hV.msg i j hi hj m (by rw [hb]; exact List.mem_cons_self)
  have hge : ∀ v, 0 ≤ (lrnL es n ow j (W.kn j) m).getD v 0 := lrn_nn _ _ (hV.ge j hj) hm0
  have hle : ∀ v, (lrnL es n ow j (W.kn j) m).getD v 0 ≤ n := fun v => Int.le_trans (lrn_le _ _ v) (hV.le j hj v)
  refine ⟨fun w hw => ?_, fun w hw v => ?_, fun w hw v => ?_, fun a b ha hb' q hq => ?_⟩
  · rw [dlv_kn hb]; split
    · rw [lrn_len]; exact hV.len j hj
    · exact hV.len w hw
  · rw [dlv_kn hb]; split
    · exact hge v
    · exact hV.ge w hw v
  · rw [dlv_kn hb]; split
    · exact hle v
    · exact hV.le w hw v
  · rw [dlv_bx hb, List.mem_append] at hq
    rcases hq with hq | hq
    · have hq' : q ∈ W.bx a b := by
        split at hq
        · rename_i e; rw [e.1, e.2, hb]; exact List.mem_cons_of_mem _ hq
        · exact hq
      exact hV.msg a b ha hb' q hq'
    · split at hq
      · rename_i e
        obtain ⟨v, h1, h2, -, h4, rfl⟩ := telL_mem.1 hq
        have h5 := ownL_mem.1 h4
        exact ⟨by rw [e, ← h2]; exact fun z => h5.2.1 z.symm, by show (0 : Int) ≤ (v : Int); omega, by show (v : Int) < (n : Int); omega, rfl, hge v, hle v⟩
      · cases hq
theorem dlv_potV (how : ∀ v, v < n → ow v < P) (hV : VldP n P W) (hi : i < P) (hj : j < P) (hb : W.bx i j = m :: r) : potN n P ow (dlvP es n P ow W i j) + 1 ≤ potN n P ow W := by
  have h1 := dlv_bxN (es := es) (n := n) (ow := ow) hi hj hb
  have hV2 := dlv_vld (es := es) (ow := ow) how hV hi hj hb
  have h2 : (sumR n fun v => (((dlvP es n P ow W i j).kn (ow v)).getD v 0).toNat * (P - 1)) + (sumR n fun v => if (ow v == j && decide ((lrnL es n ow j (W.kn j) m).getD v 0 < (W.kn j).getD v 0)) = true then (ownL es n P ow v).length else 0) ≤ sumR n fun v => ((W.kn (ow v)).getD v 0).toNat * (P - 1) := by
    rw [← sumR_add]
    refine sumR_le n fun v hvn => ?_
    have hg := hV2.ge (ow v) (how v hvn) v
    by_cases e : (ow v == j && decide ((lrnL es n ow j (W.kn j) m).getD v 0 < (W.kn j).getD v 0)) = true
    · rw [if_pos e]
      simp only [Bool.and_eq_true, beq_iff_eq, decide_eq_true_eq] at e
      rw [dlv_kn hb, if_pos e.1] at hg ⊢
      have h3 := ownL_le (es := es) (n := n) (how v hvn)
      have h4 : (((lrnL es n ow j (W.kn j) m).getD v 0).toNat + 1) * (P - 1) ≤ ((W.kn (ow v)).getD v 0).toNat * (P - 1) := Nat.mul_le_mul_right _ (by rw [e.1]; omega)
      rw [Nat.add_mul, Nat.one_mul] at h4
      omega
    · rw [if_neg e, Nat.add_zero]
      refine Nat.mul_le_mul_right _ ?_
      rw [dlv_kn hb]
      split
      · rename_i e2
        have := lrn_le (es := es) (n := n) (ow := ow) (j := j) (W.kn j) m v
        rw [e2]; omega
      · exact Nat.le_refl _
  unfold potN
  omega
end
theorem le_sumR (f : Nat → Nat) {i : Nat} : ∀ {n : Nat}, i < n → f i ≤ sumR n f
  | n + 1, h => by
    rw [sumR]
    by_cases e : i = n
    · rw [e]; omega
    · have := le_sumR f (show i < n by omega); omega
theorem bx_le {P : Nat} {W : WdP} {i j : Nat} (hi : i < P) (hj : j < P) : (W.bx i j).length ≤ bxN P W := by
  unfold bxN
  exact Nat.le_trans (le_sumR (fun j => (W.bx i j).length) hj) (le_sumR (fun i => sumR P fun j => (W.bx i j).length) hi)
theorem bx_pot {n P : Nat} {ow : Nat → Nat} {W : WdP} {i j : Nat} (hi : i < P) (hj : j < P) : (W.bx i j).length ≤ potN n P ow W := by
  have := bx_le (W := W) hi hj
  unfold potN; omega
/-- the channels of a row with messages; of all rows -/
def rdrow (i : Nat) (row : List (List Msg)) : Nat → List E2
  | 0 => []
  | k + 1 => rdrow i row k ++ if (row.getD k []).length = 0 then [] else [((i : Int), (k : Int))]
def rdyR (bx : List (List (List Msg))) : Nat → List E2
  | 0 => []
  | i + 1 => rdyR bx i ++ rdrow i (bx.getD i []) (bx.getD i []).length
def rdyL (bx : List (List (List Msg))) : List E2 := rdyR bx bx.length
theorem rdrow_mem {i : Nat} {row : List (List Msg)} {e : E2} : ∀ {k : Nat}, e ∈ rdrow i row k ↔ ∃ t, t < k ∧ (row.getD t []).length ≠ 0 ∧ e = ((i : Int), (t : Int))
  | 0 => by simp [rdrow]
  | k + 1 => by
    rw [rdrow, List.mem_append, rdrow_mem]
    constructor
    · rintro (⟨t, h1, h2, h3⟩ | h)
      · exact ⟨t, by omega, h2, h3⟩
      · split at h
        · cases h
        · rename_i h1
          exact ⟨k, by omega, h1, List.mem_singleton.1 h⟩
    · rintro ⟨t, h1, h2, h3⟩
      by_cases e2 : t = k
      · subst e2
        rw [if_neg h2]
        exact .inr (List.mem_singleton.2 h3)
      · exact .inl ⟨t, by omega, h2, h3⟩
theorem rdyR_mem {bx : List (List (List Msg))} {e : E2} : ∀ {k : Nat}, e ∈ rdyR bx k ↔ ∃ i t, i < k ∧ t < (bx.getD i []).length ∧ ((bx.getD i []).getD t []).length ≠ 0 ∧ e = ((i : Int), (t : Int))
  | 0 => by simp [rdyR]
  | k + 1 => by
    rw [rdyR, List.mem_append, rdyR_mem, rdrow_mem]
    constructor
    · rintro (⟨i, t, h1, h2, h3, h4⟩ | ⟨t, h1, h2, h3⟩)
      · exact ⟨i, t, by omega, h2, h3, h4⟩
      · exact ⟨k, t, by omega, h1, h2, h3⟩
    · rintro ⟨i, t, h1, h2, h3, h4⟩
      by_cases e2 : i = k
      · subst e2; exact .inr ⟨t, h2, h3, h4⟩
      · exact .inl ⟨i, t, by omega, h2, h3, h4⟩
/-- the boxes of a world -/
def bxL (P : Nat) (W : WdP) : List (List (List Msg)) := (List.range P).map fun r => (List.range P).map (W.bx r)
theorem bxL_len (P : Nat) (W : WdP) : (bxL P W).length = P := by simp [bxL]
theorem bxL_row (P : Nat) (W : WdP) (i : Nat) (h : i < P) : (bxL P W)[i]? = some ((List.range P).map (W.bx i)) := by
  unfold bxL; rw [List.getElem?_map, List.getElem?_range h]; rfl
theorem bxL_rowD (P : Nat) (W : WdP) (i : Nat) (h : i < P) : (bxL P W).getD i [] = (List.range P).map (W.bx i) := by
  rw [List.getD_eq_getElem?_getD, bxL_row P W i h]; rfl
theorem bxL_box (P : Nat) (W : WdP) (i j : Nat) (hi : i < P) (hj : j < P) : ((bxL P W).getD i []).getD j [] = W.bx i j := by
  rw [bxL_rowD P W i hi, List.getD_eq_getElem?_getD, List.getElem?_map, List.getElem?_range hj]; rfl
def rdyW (P : Nat) (W : WdP) : List E2 := rdyL (bxL P W)
theorem rdyW_mem {P : Nat} {W : WdP} {e : E2} : e ∈ rdyW P W ↔ ∃ i t, i < P ∧ t < P ∧ W.bx i t ≠ [] ∧ e = ((i : Int), (t : Int)) := by
  unfold rdyW rdyL
  rw [rdyR_mem, bxL_len]
  constructor
  · rintro ⟨i, t, h1, h2, h3, h4⟩
    rw [bxL_rowD P W i h1, List.length_map, List.length_range] at h2
    rw [bxL_box P W i t h1 h2] at h3
    exact ⟨i, t, h1, h2, fun e => h3 (by rw [e]; rfl), h4⟩
  · rintro ⟨i, t, h1, h2, h3, h4⟩
    refine ⟨i, t, h1, by rw [bxL_rowD P W i h1, List.length_map, List.length_range]; exact h2, ?_, h4⟩
    rw [bxL_box P W i t h1 h2]
    exact fun e => h3 (List.eq_nil_of_length_eq_zero e)
/-- which of some a number chooses -/
def pickN (s : Int) (k : Nat) : Nat := (((s.tmod k) + k).tmod k).toNat
/-- the world behind a step of a schedule -/
def stpP (es : List E2) (n P : Nat) (ow : Nat → Nat) (W : WdP) (s : Int) : WdP :=
  match (rdyW P W)[pickN s (rdyW P W).length]? with
  | none => W
  | some c => dlvP es n P ow W c.1.toNat c.2.toNat
/-- the world behind some steps -/
def plyK (es : List E2) (n P : Nat) (ow : Nat → Nat) (W : WdP) (sc : Nat → Int) : Nat → WdP
  | 0 => W
  | k + 1 => stpP es n P ow (plyK es n P ow W sc k) (sc k)
theorem pickN_lt (s : Int) {k : Nat} (h : 0 < k) : pickN s k < k := by
  unfold pickN
  have h1 : -(k : Int) < s.tmod k := by have := Int.lt_tmod_of_pos s (show (0 : Int) < (k : Int) by omega); omega
  have h2 : 0 ≤ s.tmod k + k := by omega
  have h3 : (s.tmod k + k).tmod k < k := Int.tmod_lt_of_pos _ (by omega)
  have h4 : 0 ≤ (s.tmod k + k).tmod k := Int.tmod_nonneg _ h2
  omega
section
variable {n P : Nat} {es : List E2} {ow : Nat → Nat} {W : WdP}
/-- what a step delivers -/
theorem stp_ex (W : WdP) (s : Int) (h : rdyW P W ≠ []) : ∃ i j m r, i < P ∧ j < P ∧ W.bx i j = m :: r ∧ (rdyW P W)[pickN s (rdyW P W).length]? = some ((i : Int), (j : Int)) ∧ stpP es n P ow W s = dlvP es n P ow W i j := by
  have hl : 0 < (rdyW P W).length := List.length_pos_iff.2 h
  have hp := pickN_lt s hl
  have hm := List.getElem_mem hp
  obtain ⟨i, j, h1, h2, h3, h4⟩ := rdyW_mem.1 hm
  have hg : (rdyW P W)[pickN s (rdyW P W).length]? = some ((i : Int), (j : Int)) := by rw [List.getElem?_eq_getElem hp, h4]
  cases hb : W.bx i j with
  | nil => exact absurd hb h3
  | cons m r =>
    refine ⟨i, j, m, r, h1, h2, hb, hg, ?_⟩
    unfold stpP
    rw [hg]
    simp
/-- what is kept by each delivery holds behind a schedule -/
theorem ply_ind {p : WdP → Prop} (hs : ∀ W i j m r, i < P → j < P → W.bx i j = m :: r → p W → p (dlvP es n P ow W i j)) (h0 : p W) (sc : Nat → Int) : ∀ k, p (plyK es n P ow W sc k)
  | 0 => h0
  | k + 1 => by
    have ih := ply_ind hs h0 sc k
    by_cases e : rdyW P (plyK es n P ow W sc k) = []
    · have : plyK es n P ow W sc (k + 1) = plyK es n P ow W sc k := by
        show stpP es n P ow (plyK es n P ow W sc k) (sc k) = _
        unfold stpP
        rw [e]; rfl
      rw [this]; exact ih
    · obtain ⟨i, j, m, r, h1, h2, h3, -, h5⟩ := stp_ex (es := es) (n := n) (ow := ow) _ (sc k) e
      show p (stpP es n P ow (plyK es n P ow W sc k) (sc k))
      rw [h5]
      exact hs _ _ _ _ _ h1 h2 h3 ih
theorem ply_vld (how : ∀ v, v < n → ow v < P) (h0 : VldP n P W) (sc : Nat → Int) (k : Nat) : VldP n P (plyK es n P ow W sc k) := ply_ind (fun _ _ _ _ _ hi hj hb hp => dlv_vld how hp hi hj hb) h0 sc k
theorem ply_pot (how : ∀ v, v < n → ow v < P) (h0 : VldP n P W) (sc : Nat → Int) : ∀ k, (∀ i, i < k → rdyW P (plyK es n P ow W sc i) ≠ []) → potN n P ow (plyK es n P ow W sc k) + k ≤ potN n P ow W
  | 0, _ => Nat.le_refl _
  | k + 1, h => by
    have ih := ply_pot how h0 sc k (fun i hi => h i (by omega))
    obtain ⟨i, j, m, r, h1, h2, h3, -, h5⟩ := stp_ex (es := es) (n := n) (ow := ow) _ (sc k) (h k (by omega))
    have h6 := dlv_potV (es := es) how (ply_vld how h0 sc k) h1 h2 h3
    show potN n P ow (stpP es n P ow (plyK es n P ow W sc k) (sc k)) + (k + 1) ≤ _
    rw [h5]; omega
theorem ply_potle (how : ∀ v, v < n → ow v < P) (h0 : VldP n P W) (sc : Nat → Int) (k : Nat) : potN n P ow (plyK es n P ow W sc k) ≤ potN n P ow W := by
  have key : VldP n P (plyK es n P ow W sc k) ∧ potN n P ow (plyK es n P ow W sc k) ≤ potN n P ow W := ply_ind (p := fun V => VldP n P V ∧ potN n P ow V ≤ potN n P ow W) (fun _ _ _ _ _ hi hj hb hp => ⟨dlv_vld how hp.1 hi hj hb, by have := dlv_potV (es := es) how hp.1 hi hj hb; omega⟩) ⟨h0, Nat.le_refl _⟩ sc k
  exact key.2
end
end Go.Proofs.YtdkmdcdoiaelfaaGreat
