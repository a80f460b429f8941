/- The plain law of what stands between two times of changes, and of the events up to a time. -/
import Derived.Test.YtpblaoeaeljmhaaHisLivesP
import Derived.Test.YtpblaoeaeljmhaaLkAll
namespace Go.Proofs.Ytpblaoeaeljmhaa
open Go.RowKit

/-- the state of the last of some versions, from a state on -/
def lastD (d : List Lk) : List (Int × List Lk × Bool) → List Lk
  | [] => d
  | x :: xs => lastD x.2.1 xs
theorem lastD_eq : ∀ (xs : List (Int × List Lk × Bool)) (d : List Lk), lastD d xs = ((xs.getLast?).map fun x => x.2.1).getD d := by
  intro xs
  induction xs with
  | nil => intro d; rfl
  | cons x xs ih =>
    intro d
    show lastD x.2.1 xs = _
    rw [ih]
    cases xs with
    | nil => rfl
    | cons y ys => rw [List.getLast?_cons_cons]; cases h : (y :: ys).getLast? with
      | none => simp at h
      | some z => rfl
def atD (d : List Lk) (t : Int) (xs : List (Int × List Lk × Bool)) : List Lk := lastD d (xs.takeWhile fun x => decide (x.1 ≤ t))
theorem atV_atD (t : Int) (xs : List (Int × List Lk × Bool)) : atV t xs = atD [] t xs := by unfold atV atD lastL; rw [lastD_eq]
theorem atD_cons (d : List Lk) (t : Int) (x : Int × List Lk × Bool) (xs : List (Int × List Lk × Bool)) : atD d t (x :: xs) = if x.1 ≤ t then atD x.2.1 t xs else d := by
  unfold atD
  rw [List.takeWhile_cons]
  by_cases h : x.1 ≤ t
  · rw [if_pos (by simpa using h), if_pos h]; rfl
  · rw [if_neg (by simpa using h), if_neg h]; rfl
/-- a version that changed nothing has the state of the one ahead of it -/
def Chn (d : List Lk) : List (Int × List Lk × Bool) → Prop
  | [] => True
  | x :: xs => (x.2.2 = false → x.2.1 = d) ∧ Chn x.2.1 xs
/-- the last time of a change that is not after t -/
def lastT (t l : Int) (ts : List Int) : Int := ts.foldl (fun l x => if x ≤ t then x else l) l
theorem lastT_in (t : Int) : ∀ (ts : List Int) (l : Int), lastT t l ts = l ∨ (lastT t l ts ∈ ts ∧ lastT t l ts ≤ t) := by
  intro ts
  induction ts with
  | nil => intro l; exact .inl rfl
  | cons x ts ih =>
    intro l
    have e : lastT t l (x :: ts) = lastT t (if x ≤ t then x else l) ts := rfl
    rw [e]
    rcases ih (if x ≤ t then x else l) with h | ⟨h, h2⟩
    · rw [h]
      by_cases hx : x ≤ t
      · rw [if_pos hx]; exact .inr ⟨List.mem_cons_self, hx⟩
      · rw [if_neg hx]; exact .inl rfl
    · exact .inr ⟨List.mem_cons_of_mem _ h, h2⟩
theorem timesF_cons (x : Int × List Lk × Bool) (xs : List (Int × List Lk × Bool)) : timesF (x :: xs) = if x.2.2 = true then x.1 :: timesF xs else timesF xs := by
  unfold timesF
  rw [List.filter_cons]
  split <;> simp
theorem timesF_mem {t : Int} {xs : List (Int × List Lk × Bool)} (h : t ∈ timesF xs) : ∃ x ∈ xs, x.1 = t := by
  unfold timesF at h
  obtain ⟨x, hx, rfl⟩ := List.mem_map.1 h
  exact ⟨x, (List.mem_filter.1 hx).1, rfl⟩
theorem atD_none {d : List Lk} {t : Int} {xs : List (Int × List Lk × Bool)} (h : ∀ x ∈ xs, t < x.1) : atD d t xs = d := by
  cases xs with
  | nil => rfl
  | cons x xs => rw [atD_cons, if_neg (by have := h x List.mem_cons_self; omega)]
theorem stands_at (t : Int) : ∀ (xs : List (Int × List Lk × Bool)) (d : List Lk) (l : Int), Chn d xs → xs.Pairwise (fun a b => a.1 < b.1) → (∀ x ∈ xs, l < x.1) → atD d t xs = atD d (lastT t l (timesF xs)) xs := by
  intro xs
  induction xs with
  | nil => intro d l _ _ _; rfl
  | cons x xs ih =>
    intro d l hc hp hl
    obtain ⟨p1, p2⟩ := List.pairwise_cons.1 hp
    obtain ⟨c1, c2⟩ := hc
    have hlx := hl x List.mem_cons_self
    by_cases hx : x.1 ≤ t
    · rw [atD_cons, if_pos hx, timesF_cons]
      cases hch : x.2.2 with
      | true =>
        rw [if_pos rfl]
        have e : lastT t l (x.1 :: timesF xs) = lastT t x.1 (timesF xs) := by show lastT t (if x.1 ≤ t then x.1 else l) _ = _; rw [if_pos hx]
        rw [e, ih x.2.1 x.1 c2 p2 p1, atD_cons]
        rcases lastT_in t (timesF xs) x.1 with h | ⟨h, -⟩
        · rw [h, if_pos (Int.le_refl _)]
        · obtain ⟨y, hy, he⟩ := timesF_mem h
          have := p1 y hy
          rw [if_pos (by omega)]
      | false =>
        rw [if_neg (by simp)]
        have hd := c1 hch
        have hl2 : ∀ y ∈ xs, l < y.1 := fun y hy => hl y (List.mem_cons_of_mem _ hy)
        rw [ih x.2.1 l c2 p2 hl2, atD_cons]
        rcases lastT_in t (timesF xs) l with h | ⟨h, -⟩
        · rw [h, if_neg (by omega), atD_none hl2, hd]
        · obtain ⟨y, hy, he⟩ := timesF_mem h
          have := p1 y hy
          rw [if_pos (by omega)]
    · rw [atD_cons, if_neg hx]
      have hall : ∀ y ∈ x :: xs, t < y.1 := fun y hy => by
        rcases List.mem_cons.1 hy with rfl | hy
        · omega
        · have := p1 y hy; omega
      rcases lastT_in t (timesF (x :: xs)) l with h | ⟨h, h2⟩
      · rw [h, atD_none hl]
      · obtain ⟨y, hy, he⟩ := timesF_mem h
        have := hall y hy
        omega
theorem verF_chn {n : Int} : ∀ (es : List Ev) (ls : List Lk) (ch : Bool) (d : List Lk), VSt n ls → (∀ e ∈ es, fitS n e = 0) → (ch = false → ls = d) → Chn d (verF ls ch es) := by
  intro es
  induction es with
  | nil => intro ls ch d _ _ _; trivial
  | cons e es ih =>
    intro ls ch d hv hf hd
    have hfe := hf e List.mem_cons_self
    have hv2 := stepL_valid hv hfe
    have hf2 : ∀ x ∈ es, fitS n x = 0 := fun x hx => hf x (List.mem_cons_of_mem _ hx)
    have hnew : (ch || decide (0 < (stepC e ls).length)) = false → stepL e ls = d := fun h => by
      rw [Bool.or_eq_false_iff] at h
      have h0 : (stepC e ls).length = 0 := by simpa using h.2
      rw [← (chg_none hv).1 h0]
      exact hd h.1
    cases es with
    | nil => exact ⟨hnew, trivial⟩
    | cons e2 es =>
      unfold verF
      dsimp only
      split
      · exact ih _ _ _ hv2 hf2 hnew
      · exact ⟨hnew, ih _ _ _ hv2 hf2 (fun _ => rfl)⟩
/-- the state behind events -/
def foldS (ls : List Lk) (es : List Ev) : List Lk := es.foldl (fun l e => stepL e l) ls
theorem verF_head : ∀ (es : List Ev) (ls : List Lk) (ch : Bool) (e : Ev), ∃ L c r, verF ls ch (e :: es) = (e.time, L, c) :: r := by
  intro es
  induction es with
  | nil => intro ls ch e; exact ⟨_, _, _, rfl⟩
  | cons e2 es ih =>
    intro ls ch e
    unfold verF
    dsimp only
    split
    · rename_i h
      obtain ⟨L, c, r, h2⟩ := ih (stepL e ls) (ch || decide (0 < (stepC e ls).length)) e2
      have h3 : e2.time = e.time := by simpa using h
      exact ⟨L, c, r, by rw [h2, h3]⟩
    · exact ⟨_, _, _, rfl⟩
theorem at_fold (t : Int) : ∀ (es : List Ev) (ls : List Lk) (ch : Bool), es.Pairwise (fun a b => a.time ≤ b.time) → atD ls t (verF ls ch es) = foldS ls (es.filter fun e => decide (e.time ≤ t)) := by
  intro es
  induction es with
  | nil => intro ls ch _; rfl
  | cons e es ih =>
    intro ls ch hp
    obtain ⟨p1, p2⟩ := List.pairwise_cons.1 hp
    by_cases he : e.time ≤ t
    · rw [List.filter_cons_of_pos (by simpa using he)]
      show _ = foldS (stepL e ls) _
      cases es with
      | nil =>
        show atD ls t [(e.time, stepL e ls, _)] = _
        rw [atD_cons, if_pos he]
        rfl
      | cons e2 es =>
        unfold verF
        dsimp only
        split
        · rename_i h
          rw [← ih (stepL e ls) (ch || decide (0 < (stepC e ls).length)) p2]
          obtain ⟨L, c, r, h2⟩ := verF_head es (stepL e ls) (ch || decide (0 < (stepC e ls).length)) e2
          have h3 : e2.time = e.time := by simpa using h
          rw [h2, atD_cons, atD_cons, h3, if_pos he, if_pos he]
        · rw [atD_cons, if_pos he]
          exact ih _ _ p2
    · have hall : ∀ x ∈ verF ls ch (e :: es), t < x.1 := fun x hx => by
        obtain ⟨y, hy, h2⟩ := (verF_up (e :: es) ls ch hp).2 x hx
        rcases List.mem_cons.1 hy with rfl | hy
        · omega
        · have := p1 y hy; omega
      rw [atD_none hall]
      have hnil : ((e :: es).filter fun e => decide (e.time ≤ t)) = [] := by
        rw [List.filter_eq_nil_iff]
        intro y hy
        simp only [decide_eq_true_eq]
        rcases List.mem_cons.1 hy with rfl | hy
        · exact he
        · have := p1 y hy; omega
      rw [hnil]
      rfl
theorem all_fold {n : Int} : ∀ (es : List Ev) (ls : List Lk) (i c : Nat), VSt n ls → (∀ e ∈ es, fitS n e = 0) → ∃ k : Int, allF n ls es i c = ((n, foldS ls es), k, 0) := by
  intro es
  induction es with
  | nil => intro ls i c _ _; exact ⟨c, rfl⟩
  | cons e es ih =>
    intro ls i c hv hf
    have hfe := hf e List.mem_cons_self
    unfold allF
    rw [if_neg (by simp [hfe])]
    exact ih _ _ _ (stepL_valid hv hfe) (fun x hx => hf x (List.mem_cons_of_mem _ hx))
/-- the law of what stands, in plain words -/
theorem stands_plain {n t0 : Int} {es : List Ev} (h : EvsOk n es t0) (hn : 2 ≤ n) (hn2 : n ≤ 64) (t : Int) :
    atV (lastT t (-1) (timesF (verF [] false es))) (verF [] false es) = atV t (verF [] false es) ∧ ∃ k : Int, allX n [] (es.filter fun e => decide (e.time ≤ t)) = ((n, atV t (verF [] false es)), k, 0) := by
  have hv0 : VSt n ([] : List Lk) := ⟨by omega, hn2, by simp, List.Pairwise.nil⟩
  have hf : ∀ e ∈ es, fitS n e = 0 := fun e he => by
    obtain ⟨h1, h2, h3, h4, h5, h6, h7⟩ := h.ok e he
    exact fit_of h1 h3 h5
  obtain ⟨u1, u2⟩ := verF_up es [] false h.up
  refine ⟨?_, ?_⟩
  · rw [atV_atD, atV_atD]
    refine (stands_at t _ [] (-1) (verF_chn es [] false [] hv0 hf fun _ => rfl) u1 fun x hx => ?_).symm
    obtain ⟨e, he, ht⟩ := u2 x hx
    have := (h.ok e he).2.2.2.2.2.1
    omega
  · unfold allX
    rw [if_neg (by rw [(stS_iff n []).2 hv0]; simp), atV_atD, at_fold t es [] false h.up]
    exact all_fold _ _ _ _ hv0 (fun e he => hf e (List.mem_filter.1 he).1)
end Go.Proofs.Ytpblaoeaeljmhaa
