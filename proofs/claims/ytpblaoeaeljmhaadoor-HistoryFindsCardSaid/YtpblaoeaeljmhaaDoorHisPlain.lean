/- The plain law of histories: the spans, the state at a time and the times of changes. The plain law of what stands between two times of changes, and of the events up to a time. The times of changes as the reference reckons them: the plain law. -/
import Derived.Test.YtpblaoeaeljmhaaDoorHisTimes
import Derived.Test.YtpblaoeaeljmhaaDoorMkEvents
import Derived.Test.YtpblaoeaeljmhaaDoorLkAll
namespace Go.Proofs.YtpblaoeaeljmhaaDoor
open Go.RowKit

/-- what makes a history right -/
theorem hisL_zero {n : Int} : ∀ (es : List Ev) (last : Int), (∀ e ∈ es, fitS n e = 0 ∧ last ≤ e.time) → es.Pairwise (fun a b => a.time ≤ b.time) → hisL n last es = 0 := by
  intro es
  induction es with
  | nil => intro _ _ _; rfl
  | cons e es ih =>
    intro last h hp
    obtain ⟨h1, h2⟩ := List.pairwise_cons.1 hp
    have h3 := h e List.mem_cons_self
    unfold hisL
    rw [if_neg (by simp [h3.1]), if_neg (by omega)]
    exact ih _ (fun x hx => ⟨(h x (List.mem_cons_of_mem _ hx)).1, h1 x hx⟩) h2
theorem EvsOk.his {n t : Int} {l : List Ev} (h : EvsOk n l t) (hn : 2 ≤ n) (hn2 : n ≤ 64) (hl : l.length ≤ 65536) : hisS n l = 0 := by
  unfold hisS
  rw [if_neg (by omega), if_neg (by omega)]
  refine hisL_zero l 0 (fun e he => ?_) h.up
  obtain ⟨h1, h2, h3, h4, h5, h6, h7⟩ := h.ok e he
  exact ⟨fit_of h1 h3 h5, h6⟩
/-- versions come in the order of their times -/
theorem verF_up : ∀ (es : List Ev) (ls : List Lk) (ch : Bool), es.Pairwise (fun a b => a.time ≤ b.time) →
    (verF ls ch es).Pairwise (fun a b => a.1 < b.1) ∧ ∀ x ∈ verF ls ch es, ∃ e ∈ es, x.1 = e.time := by
  intro es
  induction es with
  | nil => intro ls ch _; simp [verF]
  | cons e es ih =>
    intro ls ch hp
    obtain ⟨h1, h2⟩ := List.pairwise_cons.1 hp
    cases es with
    | nil => simp [verF]
    | cons e2 es =>
      obtain ⟨i1, i2⟩ := ih (stepL e ls) (ch || decide (0 < (stepC e ls).length)) h2
      obtain ⟨j1, j2⟩ := ih (stepL e ls) false h2
      unfold verF
      dsimp only
      split
      · exact ⟨i1, fun x hx => by obtain ⟨y, hy, he⟩ := i2 x hx; exact ⟨y, List.mem_cons_of_mem _ hy, he⟩⟩
      · rename_i hne
        refine ⟨List.pairwise_cons.2 ⟨fun x hx => ?_, j1⟩, fun x hx => ?_⟩
        · obtain ⟨y, hy, he⟩ := j2 x hx
          have h3 := h1 e2 List.mem_cons_self
          have h4 : e2.time ≤ y.time := by
            rcases List.mem_cons.1 hy with rfl | hy
            · exact Int.le_refl _
            · exact (List.pairwise_cons.1 h2).1 y hy
          have h5 : ¬ e2.time = e.time := by simpa using hne
          show e.time < x.1
          omega
        · rcases List.mem_cons.1 hx with rfl | hx
          · exact ⟨e, List.mem_cons_self, rfl⟩
          · obtain ⟨y, hy, he⟩ := j2 x hx; exact ⟨y, List.mem_cons_of_mem _ hy, he⟩
/-- a time lies in one of the spans -/
def inB (t : Int) (os : List (Int × Int)) : Bool := os.any fun x => decide (x.1 ≤ t ∧ (x.2 < 0 ∨ t < x.2))
/-- closed spans up to a time, and perhaps one that is open -/
structure Clo (cl : List (Int × Int)) (T : Int) : Prop where
  ok : ∀ x ∈ cl, 0 ≤ x.1 ∧ x.1 < x.2 ∧ x.2 ≤ T
  up : cl.Pairwise (fun a b => a.2 < b.1)
def opn (th : Bool) (a : Int) : List (Int × Int) := if th = true then [(a, -1)] else []
theorem atV_snoc {t : Int} {xs : List (Int × List Lk × Bool)} {x : Int × List Lk × Bool} (h : ∀ y ∈ xs, y.1 < x.1) : atV t (xs ++ [x]) = if x.1 ≤ t then x.2.1 else atV t xs := by
  unfold atV
  by_cases hx : x.1 ≤ t
  · rw [if_pos hx]
    have hall : ∀ y ∈ xs ++ [x], y.1 ≤ t := fun y hy => by
      rcases List.mem_append.1 hy with hy | hy
      · have := h y hy; omega
      · rw [List.mem_singleton.1 hy]; exact hx
    have := atV_all hall
    unfold atV at this
    rw [this, lastL_snoc]
  · rw [if_neg hx]
    congr 1
    rw [List.takeWhile_append]
    split
    · rename_i he
      rw [List.takeWhile_cons, if_neg (by simpa using hx), List.append_nil]
      have hp := List.takeWhile_prefix (l := xs) (fun x => decide (x.1 ≤ t))
      exact (hp.eq_of_length he).symm
    · rfl
/-- what holds of the spans behind some versions -/
structure LifeI (n u v : Int) (xs : List (Int × List Lk × Bool)) (T : Int) : Prop where
  sp : ∃ cl a, (lifeF n u v xs).1 = cl ++ opn (lifeF n u v xs).2 a ∧ Clo cl T ∧ ((lifeF n u v xs).2 = true → 0 ≤ a ∧ a ≤ T ∧ ∀ x ∈ cl, x.2 < a)
  is : (lifeF n u v xs).2 = decide (0 ≤ lfS n (lastL xs) u v)
  at' : ∀ t, inB t (lifeF n u v xs).1 = decide (0 ≤ lfS n (atV t xs) u v)
theorem lfS_nil (n u v : Int) : lfS n [] u v = -1 := by
  unfold lfS
  split
  · rfl
  · rfl
theorem inB_append (t : Int) (a b : List (Int × Int)) : inB t (a ++ b) = (inB t a || inB t b) := by unfold inB; rw [List.any_append]
theorem Clo.late {cl : List (Int × Int)} {T t : Int} (h : Clo cl T) (ht : T ≤ t) : inB t cl = false := by
  unfold inB
  rw [List.any_eq_false]
  intro x hx
  have := h.ok x hx
  simp only [decide_eq_true_eq]
  omega
theorem setLast_snoc (cl : List (Int × Int)) (a b t : Int) : setLast (cl ++ [(a, b)]) t = cl ++ [(a, t)] := by
  unfold setLast
  simp
theorem life_inv (n u v : Int) : ∀ (xs ys : List (Int × List Lk × Bool)) (T : Int), LifeI n u v xs T → ys.Pairwise (fun a b => a.1 < b.1) → (∀ y ∈ ys, T < y.1 ∧ ∀ x ∈ xs, x.1 < y.1) → -1 ≤ T → ∃ T2, LifeI n u v (xs ++ ys) T2 := by
  intro xs ys
  induction ys generalizing xs with
  | nil => intro T h _ _ _; exact ⟨T, by rw [List.append_nil]; exact h⟩
  | cons y ys ih =>
    intro T h hp hy hT
    obtain ⟨p1, p2⟩ := List.pairwise_cons.1 hp
    have hyT := (hy y List.mem_cons_self).1
    have hyx := (hy y List.mem_cons_self).2
    have hstep : LifeI n u v (xs ++ [y]) y.1 := by
      obtain ⟨⟨cl, a, hos, hcl, hop⟩, his, hat⟩ := h
      have hlf := lifeF_snoc n u v xs y
      have hll := lastL_snoc xs y
      have hav := fun t => atV_snoc (t := t) hyx
      obtain ⟨⟨os, th⟩, hs⟩ : ∃ s, lifeF n u v xs = s := ⟨_, rfl⟩
      rw [hs] at hos hop his hat hlf
      dsimp only at hos hop his hat
      have hcl2 : Clo cl y.1 := ⟨fun x hx => by have := hcl.ok x hx; omega, hcl.up⟩
      by_cases hpr : 0 ≤ lfS n y.2.1 u v
      · cases th with
        | true =>
          have e : lifeF n u v (xs ++ [y]) = (os, true) := by rw [hlf]; unfold lifeStep; rw [if_pos hpr, if_pos rfl]
          obtain ⟨h1, h2, h3⟩ := hop rfl
          refine ⟨⟨cl, a, by rw [e]; exact hos, hcl2, fun _ => ⟨h1, by omega, h3⟩⟩, by rw [e, hll]; simp [hpr], fun t => ?_⟩
          rw [e, hav]
          split
          · rename_i ht
            rw [decide_eq_true hpr, hos, inB_append]
            have : inB t (opn true a) = true := by unfold opn inB; simp; omega
            rw [this, Bool.or_true]
          · exact hat t
        | false =>
          have e : lifeF n u v (xs ++ [y]) = (os ++ [(y.1, -1)], true) := by rw [hlf]; unfold lifeStep; rw [if_pos hpr, if_neg (by simp)]
          have hos2 : os = cl := by rw [hos]; unfold opn; simp
          refine ⟨⟨cl, y.1, by rw [e, hos2]; rfl, hcl2, fun _ => ⟨by omega, Int.le_refl _, fun x hx => by have := hcl.ok x hx; omega⟩⟩, by rw [e, hll]; simp [hpr], fun t => ?_⟩
          rw [e, hav]
          dsimp only
          rw [inB_append]
          split
          · rename_i ht
            rw [decide_eq_true hpr]
            have : inB t [(y.1, (-1 : Int))] = true := by unfold inB; simp; omega
            rw [this, Bool.or_true]
          · rename_i ht
            have : inB t [(y.1, (-1 : Int))] = false := by unfold inB; simp; omega
            rw [this, Bool.or_false]
            exact hat t
      · cases th with
        | true =>
          obtain ⟨h1, h2, h3⟩ := hop rfl
          have hos2 : os = cl ++ [(a, -1)] := by rw [hos]; rfl
          have e : lifeF n u v (xs ++ [y]) = (cl ++ [(a, y.1)], false) := by rw [hlf]; unfold lifeStep; rw [if_neg hpr, if_pos rfl]; rw [hos2, setLast_snoc]
          have hcl3 : Clo (cl ++ [(a, y.1)]) y.1 := by
            refine ⟨fun x hx => ?_, ?_⟩
            · rcases List.mem_append.1 hx with hx | hx
              · exact hcl2.ok x hx
              · rw [List.mem_singleton.1 hx]; exact ⟨h1, by omega, Int.le_refl _⟩
            · rw [List.pairwise_append]
              exact ⟨hcl.up, List.pairwise_singleton _ _, fun x hx z hz => by rw [List.mem_singleton.1 hz]; exact h3 x hx⟩
          refine ⟨⟨cl ++ [(a, y.1)], 0, by rw [e]; unfold opn; simp, hcl3, fun h => by rw [e] at h; cases h⟩, by rw [e, hll]; simp [hpr], fun t => ?_⟩
          rw [e, hav]
          dsimp only
          split
          · rename_i ht
            rw [hcl3.late ht]
            simp [hpr]
          · rename_i ht
            rw [← hat t, hos2, inB_append, inB_append]
            have : inB t [(a, y.1)] = inB t [(a, (-1 : Int))] := by
              unfold inB
              simp only [List.any_cons, List.any_nil, Bool.or_false]
              congr 1
              simp only [eq_iff_iff]
              omega
            rw [this]
        | false =>
          have e : lifeF n u v (xs ++ [y]) = (os, false) := by rw [hlf]; unfold lifeStep; rw [if_neg hpr, if_neg (by simp)]
          have hos2 : os = cl := by rw [hos]; unfold opn; simp
          refine ⟨⟨cl, 0, by rw [e]; unfold opn; simp [hos2], hcl2, fun h => by rw [e] at h; cases h⟩, by rw [e, hll]; simp [hpr], fun t => ?_⟩
          rw [e, hav]
          split
          · rename_i ht
            dsimp only
            rw [hos2, hcl2.late ht]
            simp [hpr]
          · exact hat t
    obtain ⟨T2, h2⟩ := ih (xs ++ [y]) y.1 hstep p2 (fun z hz => ⟨p1 z hz, fun x hx => by
      rcases List.mem_append.1 hx with hx | hx
      · have := hyx x hx; have := p1 z hz; omega
      · rw [List.mem_singleton.1 hx]; exact p1 z hz⟩) (by omega)
    exact ⟨T2, by rw [List.append_assoc] at h2; exact h2⟩
/-- the spans are right -/
structure SpOk (os : List (Int × Int)) : Prop where
  cl : ∀ (i : Nat) (x : Int × Int), os[i]? = some x → 0 ≤ x.2 → x.1 < x.2
  op : ∀ (i : Nat) (x : Int × Int), os[i]? = some x → x.2 < 0 → i + 1 = os.length
  up : ∀ (i : Nat) (x y : Int × Int), os[i + 1]? = some x → os[i]? = some y → y.2 < x.1
theorem LifeI.sps {n u v : Int} {xs : List (Int × List Lk × Bool)} {T : Int} (h : LifeI n u v xs T) : SpOk (lifeF n u v xs).1 := by
  obtain ⟨cl, a, hos, hcl, hop⟩ := h.sp
  rw [hos]
  cases hth : (lifeF n u v xs).2 with
  | false =>
    have e : cl ++ opn false a = cl := by unfold opn; simp
    rw [e]
    refine ⟨fun i x hx _ => (hcl.ok x (List.mem_of_getElem? hx)).2.1, fun i x hx h0 => by have := hcl.ok x (List.mem_of_getElem? hx); omega, fun i x y hx hy => ?_⟩
    have := List.pairwise_iff_getElem.1 hcl.up i (i + 1) (List.getElem?_eq_some_iff.1 hy).1 (List.getElem?_eq_some_iff.1 hx).1 (by omega)
    rw [(List.getElem?_eq_some_iff.1 hy).2, (List.getElem?_eq_some_iff.1 hx).2] at this
    exact this
  | true =>
    obtain ⟨h1, h2, h3⟩ := hop hth
    have e : cl ++ opn true a = cl ++ [(a, -1)] := rfl
    rw [e]
    refine ⟨fun i x hx h0 => ?_, fun i x hx h0 => ?_, fun i x y hx hy => ?_⟩
    · rcases List.mem_append.1 (List.mem_of_getElem? hx) with hm | hm
      · exact (hcl.ok x hm).2.1
      · rw [List.mem_singleton.1 hm] at h0; simp at h0
    · rcases Nat.lt_or_ge i cl.length with hi | hi
      · rw [List.getElem?_append_left hi] at hx
        have := hcl.ok x (List.mem_of_getElem? hx)
        omega
      · have := (List.getElem?_eq_some_iff.1 hx).1
        simp at this ⊢
        omega
    · have hl := (List.getElem?_eq_some_iff.1 hx).1
      simp at hl
      rw [List.getElem?_append_left (by omega)] at hy
      rcases Nat.lt_or_ge (i + 1) cl.length with hi | hi
      · rw [List.getElem?_append_left hi] at hx
        have := List.pairwise_iff_getElem.1 hcl.up i (i + 1) (List.getElem?_eq_some_iff.1 hy).1 (List.getElem?_eq_some_iff.1 hx).1 (by omega)
        rw [(List.getElem?_eq_some_iff.1 hy).2, (List.getElem?_eq_some_iff.1 hx).2] at this
        exact this
      · have hic : i + 1 = cl.length := by omega
        rw [hic, List.getElem?_append_right (Nat.le_refl _), Nat.sub_self] at hx
        obtain rfl : (a, -1) = x := by simpa using hx
        exact h3 y (List.mem_of_getElem? hy)
/-- the law of lives, in plain words -/
theorem lives_plain {n u v t0 : Int} {es : List Ev} (h : EvsOk n es t0) : SpOk (lifeF n u v (verF [] false es)).1 ∧ ∀ t, inB t (lifeF n u v (verF [] false es)).1 = decide (0 ≤ lfS n (atV t (verF [] false es)) u v) := by
  obtain ⟨h1, h2⟩ := verF_up es [] false h.up
  have hI0 : LifeI n u v [] (-1) := by
    refine ⟨⟨[], 0, rfl, ⟨by simp, List.Pairwise.nil⟩, fun h => by cases h⟩, ?_, fun t => ?_⟩
    · show false = _
      rw [show lastL [] = ([] : List Lk) from rfl, lfS_nil]; rfl
    · show inB t [] = _
      rw [show atV t [] = ([] : List Lk) from rfl, lfS_nil]; rfl
  obtain ⟨T2, hI⟩ := life_inv n u v [] (verF [] false es) (-1) hI0 h1 (fun y hy => ⟨by
    obtain ⟨e, he, ht⟩ := h2 y hy
    have := (h.ok e he).2.2.2.2.2.1
    omega, fun x hx => by cases hx⟩) (by omega)
  rw [List.nil_append] at hI
  exact ⟨hI.sps, hI.at'⟩
end Go.Proofs.YtpblaoeaeljmhaaDoor

namespace Go.Proofs.YtpblaoeaeljmhaaDoor
open Go.RowKit

/-- the state of the last of some versions, from a state on -/
def lastD (d : List Lk) : List (Int × List Lk × Bool) → List Lk
  | [] => d
  | x :: xs => lastD x.2.1 xs
theorem lastD_eq : ∀ (xs : List (Int × List Lk × Bool)) (d : List Lk), lastD d xs = ((xs.getLast?).map fun x => x.2.1).getD d := by
  intro xs
  induction xs with
  | nil => intro d; rfl
  | cons x xs ih =>
    intro d
    show lastD x.2.1 xs = _
    rw [ih]
    cases xs with
    | nil => rfl
    | cons y ys => rw [List.getLast?_cons_cons]; cases h : (y :: ys).getLast? with
      | none => simp at h
      | some z => rfl
def atD (d : List Lk) (t : Int) (xs : List (Int × List Lk × Bool)) : List Lk := lastD d (xs.takeWhile fun x => decide (x.1 ≤ t))
theorem atV_atD (t : Int) (xs : List (Int × List Lk × Bool)) : atV t xs = atD [] t xs := by unfold atV atD lastL; rw [lastD_eq]
theorem atD_cons (d : List Lk) (t : Int) (x : Int × List Lk × Bool) (xs : List (Int × List Lk × Bool)) : atD d t (x :: xs) = if x.1 ≤ t then atD x.2.1 t xs else d := by
  unfold atD
  rw [List.takeWhile_cons]
  by_cases h : x.1 ≤ t
  · rw [if_pos (by simpa using h), if_pos h]; rfl
  · rw [if_neg (by simpa using h), if_neg h]; rfl
/-- a version that changed nothing has the state of the one ahead of it -/
def Chn (d : List Lk) : List (Int × List Lk × Bool) → Prop
  | [] => True
  | x :: xs => (x.2.2 = false → x.2.1 = d) ∧ Chn x.2.1 xs
/-- the last time of a change that is not after t -/
def lastT (t l : Int) (ts : List Int) : Int := ts.foldl (fun l x => if x ≤ t then x else l) l
theorem lastT_in (t : Int) : ∀ (ts : List Int) (l : Int), lastT t l ts = l ∨ (lastT t l ts ∈ ts ∧ lastT t l ts ≤ t) := by
  intro ts
  induction ts with
  | nil => intro l; exact .inl rfl
  | cons x ts ih =>
    intro l
    have e : lastT t l (x :: ts) = lastT t (if x ≤ t then x else l) ts := rfl
    rw [e]
    rcases ih (if x ≤ t then x else l) with h | ⟨h, h2⟩
    · rw [h]
      by_cases hx : x ≤ t
      · rw [if_pos hx]; exact .inr ⟨List.mem_cons_self, hx⟩
      · rw [if_neg hx]; exact .inl rfl
    · exact .inr ⟨List.mem_cons_of_mem _ h, h2⟩
theorem timesF_cons (x : Int × List Lk × Bool) (xs : List (Int × List Lk × Bool)) : timesF (x :: xs) = if x.2.2 = true then x.1 :: timesF xs else timesF xs := by
  unfold timesF
  rw [List.filter_cons]
  split <;> simp
theorem timesF_mem {t : Int} {xs : List (Int × List Lk × Bool)} (h : t ∈ timesF xs) : ∃ x ∈ xs, x.1 = t := by
  unfold timesF at h
  obtain ⟨x, hx, rfl⟩ := List.mem_map.1 h
  exact ⟨x, (List.mem_filter.1 hx).1, rfl⟩
theorem atD_none {d : List Lk} {t : Int} {xs : List (Int × List Lk × Bool)} (h : ∀ x ∈ xs, t < x.1) : atD d t xs = d := by
  cases xs with
  | nil => rfl
  | cons x xs => rw [atD_cons, if_neg (by have := h x List.mem_cons_self; omega)]
theorem stands_at (t : Int) : ∀ (xs : List (Int × List Lk × Bool)) (d : List Lk) (l : Int), Chn d xs → xs.Pairwise (fun a b => a.1 < b.1) → (∀ x ∈ xs, l < x.1) → atD d t xs = atD d (lastT t l (timesF xs)) xs := by
  intro xs
  induction xs with
  | nil => intro d l _ _ _; rfl
  | cons x xs ih =>
    intro d l hc hp hl
    obtain ⟨p1, p2⟩ := List.pairwise_cons.1 hp
    obtain ⟨c1, c2⟩ := hc
    have hlx := hl x List.mem_cons_self
    by_cases hx : x.1 ≤ t
    · rw [atD_cons, if_pos hx, timesF_cons]
      cases hch : x.2.2 with
      | true =>
        rw [if_pos rfl]
        have e : lastT t l (x.1 :: timesF xs) = lastT t x.1 (timesF xs) := by show lastT t (if x.1 ≤ t then x.1 else l) _ = _; rw [if_pos hx]
        rw [e, ih x.2.1 x.1 c2 p2 p1, atD_cons]
        rcases lastT_in t (timesF xs) x.1 with h | ⟨h, -⟩
        · rw [h, if_pos (Int.le_refl _)]
        · obtain ⟨y, hy, he⟩ := timesF_mem h
          have := p1 y hy
          rw [if_pos (by omega)]
      | false =>
        rw [if_neg (by simp)]
        have hd := c1 hch
        have hl2 : ∀ y ∈ xs, l < y.1 := fun y hy => hl y (List.mem_cons_of_mem _ hy)
        rw [ih x.2.1 l c2 p2 hl2, atD_cons]
        rcases lastT_in t (timesF xs) l with h | ⟨h, -⟩
        · rw [h, if_neg (by omega), atD_none hl2, hd]
        · obtain ⟨y, hy, he⟩ := timesF_mem h
          have := p1 y hy
          rw [if_pos (by omega)]
    · rw [atD_cons, if_neg hx]
      have hall : ∀ y ∈ x :: xs, t < y.1 := fun y hy => by
        rcases List.mem_cons.1 hy with rfl | hy
        · omega
        · have := p1 y hy; omega
      rcases lastT_in t (timesF (x :: xs)) l with h | ⟨h, h2⟩
      · rw [h, atD_none hl]
      · obtain ⟨y, hy, he⟩ := timesF_mem h
        have := hall y hy
        omega
theorem verF_chn {n : Int} : ∀ (es : List Ev) (ls : List Lk) (ch : Bool) (d : List Lk), VSt n ls → (∀ e ∈ es, fitS n e = 0) → (ch = false → ls = d) → Chn d (verF ls ch es) := by
  intro es
  induction es with
  | nil => intro ls ch d _ _ _; trivial
  | cons e es ih =>
    intro ls ch d hv hf hd
    have hfe := hf e List.mem_cons_self
    have hv2 := stepL_valid hv hfe
    have hf2 : ∀ x ∈ es, fitS n x = 0 := fun x hx => hf x (List.mem_cons_of_mem _ hx)
    have hnew : (ch || decide (0 < (stepC e ls).length)) = false → stepL e ls = d := fun h => by
      rw [Bool.or_eq_false_iff] at h
      have h0 : (stepC e ls).length = 0 := by simpa using h.2
      rw [← (chg_none hv).1 h0]
      exact hd h.1
    cases es with
    | nil => exact ⟨hnew, trivial⟩
    | cons e2 es =>
      unfold verF
      dsimp only
      split
      · exact ih _ _ _ hv2 hf2 hnew
      · exact ⟨hnew, ih _ _ _ hv2 hf2 (fun _ => rfl)⟩
/-- the state behind events -/
def foldS (ls : List Lk) (es : List Ev) : List Lk := es.foldl (fun l e => stepL e l) ls
theorem verF_head : ∀ (es : List Ev) (ls : List Lk) (ch : Bool) (e : Ev), ∃ L c r, verF ls ch (e :: es) = (e.time, L, c) :: r := by
  intro es
  induction es with
  | nil => intro ls ch e; exact ⟨_, _, _, rfl⟩
  | cons e2 es ih =>
    intro ls ch e
    unfold verF
    dsimp only
    split
    · rename_i h
      obtain ⟨L, c, r, h2⟩ := ih (stepL e ls) (ch || decide (0 < (stepC e ls).length)) e2
      have h3 : e2.time = e.time := by simpa using h
      exact ⟨L, c, r, by rw [h2, h3]⟩
    · exact ⟨_, _, _, rfl⟩
theorem at_fold (t : Int) : ∀ (es : List Ev) (ls : List Lk) (ch : Bool), es.Pairwise (fun a b => a.time ≤ b.time) → atD ls t (verF ls ch es) = foldS ls (es.filter fun e => decide (e.time ≤ t)) := by
  intro es
  induction es with
  | nil => intro ls ch _; rfl
  | cons e es ih =>
    intro ls ch hp
    obtain ⟨p1, p2⟩ := List.pairwise_cons.1 hp
    by_cases he : e.time ≤ t
    · rw [List.filter_cons_of_pos (by simpa using he)]
      show _ = foldS (stepL e ls) _
      cases es with
      | nil =>
        show atD ls t [(e.time, stepL e ls, _)] = _
        rw [atD_cons, if_pos he]
        rfl
      | cons e2 es =>
        unfold verF
        dsimp only
        split
        · rename_i h
          rw [← ih (stepL e ls) (ch || decide (0 < (stepC e ls).length)) p2]
          obtain ⟨L, c, r, h2⟩ := verF_head es (stepL e ls) (ch || decide (0 < (stepC e ls).length)) e2
          have h3 : e2.time = e.time := by simpa using h
          rw [h2, atD_cons, atD_cons, h3, if_pos he, if_pos he]
        · rw [atD_cons, if_pos he]
          exact ih _ _ p2
    · have hall : ∀ x ∈ verF ls ch (e :: es), t < x.1 := fun x hx => by
        obtain ⟨y, hy, h2⟩ := (verF_up (e :: es) ls ch hp).2 x hx
        rcases List.mem_cons.1 hy with rfl | hy
        · omega
        · have := p1 y hy; omega
      rw [atD_none hall]
      have hnil : ((e :: es).filter fun e => decide (e.time ≤ t)) = [] := by
        rw [List.filter_eq_nil_iff]
        intro y hy
        simp only [decide_eq_true_eq]
        rcases List.mem_cons.1 hy with rfl | hy
        · exact he
        · have := p1 y hy; omega
      rw [hnil]
      rfl
theorem all_fold {n : Int} : ∀ (es : List Ev) (ls : List Lk) (i c : Nat), VSt n ls → (∀ e ∈ es, fitS n e = 0) → ∃ k : Int, allF n ls es i c = ((n, foldS ls es), k, 0) := by
  intro es
  induction es with
  | nil => intro ls i c _ _; exact ⟨c, rfl⟩
  | cons e es ih =>
    intro ls i c hv hf
    have hfe := hf e List.mem_cons_self
    unfold allF
    rw [if_neg (by simp [hfe])]
    exact ih _ _ _ (stepL_valid hv hfe) (fun x hx => hf x (List.mem_cons_of_mem _ hx))
/-- the law of what stands, in plain words -/
theorem stands_plain {n t0 : Int} {es : List Ev} (h : EvsOk n es t0) (hn : 2 ≤ n) (hn2 : n ≤ 64) (t : Int) :
    atV (lastT t (-1) (timesF (verF [] false es))) (verF [] false es) = atV t (verF [] false es) ∧ ∃ k : Int, allX n [] (es.filter fun e => decide (e.time ≤ t)) = ((n, atV t (verF [] false es)), k, 0) := by
  have hv0 : VSt n ([] : List Lk) := ⟨by omega, hn2, by simp, List.Pairwise.nil⟩
  have hf : ∀ e ∈ es, fitS n e = 0 := fun e he => by
    obtain ⟨h1, h2, h3, h4, h5, h6, h7⟩ := h.ok e he
    exact fit_of h1 h3 h5
  obtain ⟨u1, u2⟩ := verF_up es [] false h.up
  refine ⟨?_, ?_⟩
  · rw [atV_atD, atV_atD]
    refine (stands_at t _ [] (-1) (verF_chn es [] false [] hv0 hf fun _ => rfl) u1 fun x hx => ?_).symm
    obtain ⟨e, he, ht⟩ := u2 x hx
    have := (h.ok e he).2.2.2.2.2.1
    omega
  · unfold allX
    rw [if_neg (by rw [(stS_iff n []).2 hv0]; simp), atV_atD, at_fold t es [] false h.up]
    exact all_fold _ _ _ _ hv0 (fun e he => hf e (List.mem_filter.1 he).1)
end Go.Proofs.YtpblaoeaeljmhaaDoor

namespace Go.Proofs.YtpblaoeaeljmhaaDoor
open Go.RowKit

theorem putS_above {l : List Int} {t : Int} (h : ∀ x ∈ l, x < t) : putS l t = l ++ [t] := by
  induction l with
  | nil => rfl
  | cons x l ih => unfold putS; rw [if_pos (h x List.mem_cons_self), ih fun y hy => h y (List.mem_cons_of_mem _ hy)]; rfl
theorem putS_last {l : List Int} {t : Int} (h : ∀ x ∈ l, x < t) : putS (l ++ [t]) t = l ++ [t] := by
  induction l with
  | nil => rw [List.nil_append]; simp [putS]
  | cons x l ih => rw [List.cons_append]; unfold putS; rw [if_pos (h x List.mem_cons_self), ih fun y hy => h y (List.mem_cons_of_mem _ hy)]
theorem fold_up : ∀ (l acc : List Int), (acc ++ l).Pairwise (· < ·) → l.foldl putS acc = acc ++ l := by
  intro l
  induction l with
  | nil => intro acc _; simp
  | cons x l ih =>
    intro acc h
    have h1 := (List.pairwise_append.1 h).2.2
    rw [List.foldl_cons, putS_above fun y hy => h1 y hy x List.mem_cons_self, ih _ (by rw [List.append_assoc]; exact h), List.append_assoc]
    rfl
theorem ofS_snoc {l : List Int} (h : l.Pairwise (· < ·)) (t : Int) : ofS (l ++ [t]) = putS l t := by
  unfold ofS
  rw [List.foldl_append, fold_up l [] (by simpa using h)]
  rfl
/-- the times of changes, as the reference reckons them -/
def rtF : List Lk → List Int → List Ev → List Int
  | _, out, [] => out
  | ls, out, e :: es => rtF (stepL e ls) (if 0 < (stepC e ls).length then ofS (out ++ [e.time]) else out) es
theorem rtF_eq : ∀ (es : List Ev) (ls : List Lk) (ch : Bool) (pre : List Int) (e : Ev), (e :: es).Pairwise (fun a b => a.time ≤ b.time) → pre.Pairwise (· < ·) → (∀ x ∈ pre, x < e.time) →
    rtF ls (if ch = true then pre ++ [e.time] else pre) (e :: es) = pre ++ timesF (verF ls ch (e :: es)) := by
  intro es
  induction es with
  | nil =>
    intro ls ch pre e hp hs hl
    have hv : verF ls ch [e] = [(e.time, stepL e ls, ch || decide (0 < (stepC e ls).length))] := rfl
    have hr : ∀ out, rtF ls out [e] = if 0 < (stepC e ls).length then ofS (out ++ [e.time]) else out := fun _ => rfl
    have hs2 : (pre ++ [e.time]).Pairwise (· < ·) := List.pairwise_append.2 ⟨hs, List.pairwise_singleton _ _, fun a ha b hb => by rw [List.mem_singleton.1 hb]; exact hl a ha⟩
    rw [hv, hr, timesF_cons]
    cases ch with
    | true =>
      simp only [Bool.true_or, ↓reduceIte]
      split
      · rw [ofS_snoc hs2, putS_last hl]; rfl
      · rfl
    | false =>
      rw [show (if (false : Bool) = true then pre ++ [e.time] else pre) = pre from if_neg (by simp)]
      by_cases hc : 0 < (stepC e ls).length
      · rw [if_pos hc, if_pos (by simpa using hc), ofS_snoc hs, putS_above hl]; rfl
      · rw [if_neg hc, if_neg (by simpa using hc)]; simp [timesF]
  | cons e2 es ih =>
    intro ls ch pre e hp hs hl
    obtain ⟨p1, p2⟩ := List.pairwise_cons.1 hp
    have h12 := p1 e2 List.mem_cons_self
    have hs2 : (pre ++ [e.time]).Pairwise (· < ·) := List.pairwise_append.2 ⟨hs, List.pairwise_singleton _ _, fun a ha b hb => by rw [List.mem_singleton.1 hb]; exact hl a ha⟩
    have hr : ∀ out, rtF ls out (e :: e2 :: es) = rtF (stepL e ls) (if 0 < (stepC e ls).length then ofS (out ++ [e.time]) else out) (e2 :: es) := fun _ => rfl
    have hout : (if 0 < (stepC e ls).length then ofS ((if ch = true then pre ++ [e.time] else pre) ++ [e.time]) else (if ch = true then pre ++ [e.time] else pre)) = if (ch || decide (0 < (stepC e ls).length)) = true then pre ++ [e.time] else pre := by
      cases ch with
      | true =>
        simp only [Bool.true_or, ↓reduceIte]
        split
        · rw [ofS_snoc hs2, putS_last hl]
        · rfl
      | false =>
        rw [show (if (false : Bool) = true then pre ++ [e.time] else pre) = pre from if_neg (by simp)]
        by_cases hc : 0 < (stepC e ls).length
        · rw [if_pos hc, if_pos (by simpa using hc), ofS_snoc hs, putS_above hl]
        · rw [if_neg hc, if_neg (by simpa using hc)]
    rw [hr, hout]
    by_cases ht : e2.time = e.time
    · have hv : verF ls ch (e :: e2 :: es) = verF (stepL e ls) (ch || decide (0 < (stepC e ls).length)) (e2 :: es) := by
        rw [verF, if_pos (by simpa using ht)]
      rw [hv, ← ht]
      exact ih _ _ pre e2 p2 hs fun x hx => by rw [ht]; exact hl x hx
    · have hv : verF ls ch (e :: e2 :: es) = (e.time, stepL e ls, ch || decide (0 < (stepC e ls).length)) :: verF (stepL e ls) false (e2 :: es) := by
        rw [verF, if_neg (by simpa using ht)]
      rw [hv, timesF_cons]
      have h := fun pr h1 h2 => ih (stepL e ls) false pr e2 p2 h1 h2
      cases hc : (ch || decide (0 < (stepC e ls).length)) with
      | true =>
        rw [if_pos rfl, if_pos (by rfl)]
        have h2 := h (pre ++ [e.time]) hs2 (fun x hx => by
          rcases List.mem_append.1 hx with hx | hx
          · have := hl x hx; omega
          · rw [List.mem_singleton.1 hx]; omega)
        rw [if_neg (by simp)] at h2
        rw [h2, List.append_assoc]; rfl
      | false =>
        rw [if_neg (by simp), if_neg (by simp)]
        have h2 := h pre hs (fun x hx => by have := hl x hx; omega)
        rw [if_neg (by simp)] at h2
        exact h2
theorem rtF_all (es : List Ev) (h : es.Pairwise fun a b => a.time ≤ b.time) : rtF [] [] es = timesF (verF [] false es) := by
  cases es with
  | nil => rfl
  | cons e es => have := rtF_eq es [] false [] e h List.Pairwise.nil (by simp); rw [if_neg (by simp)] at this; exact this
theorem rtF_len : ∀ (es : List Ev) (ls : List Lk) (out : List Int), (rtF ls out es).length ≤ out.length + es.length := by
  intro es
  induction es with
  | nil => intro ls out; exact Nat.le_refl _
  | cons e es ih =>
    intro ls out
    have h := ih (stepL e ls) (if 0 < (stepC e ls).length then ofS (out ++ [e.time]) else out)
    have h2 := ofS_length (out ++ [e.time])
    rw [List.length_append] at h2
    rw [show rtF ls out (e :: es) = rtF (stepL e ls) (if 0 < (stepC e ls).length then ofS (out ++ [e.time]) else out) es from rfl, List.length_cons]
    simp only [List.length_cons, List.length_nil] at h2
    by_cases hc : 0 < (stepC e ls).length
    · rw [if_pos hc] at h ⊢; omega
    · rw [if_neg hc] at h ⊢; omega
theorem his_up {n : Int} : ∀ (es : List Ev) (last : Int), hisL n last es = 0 → (∀ e ∈ es, last ≤ e.time ∧ fitS n e = 0) ∧ es.Pairwise (fun a b => a.time ≤ b.time) := by
  intro es
  induction es with
  | nil => intro last _; exact ⟨by simp, List.Pairwise.nil⟩
  | cons e es ih =>
    intro last h
    unfold hisL at h
    split at h
    · rename_i h1; exact absurd h h1
    · rename_i h1
      split at h
      · simp at h
      · rename_i h2
        obtain ⟨h3, h4⟩ := ih e.time h
        refine ⟨fun x hx => ?_, List.pairwise_cons.2 ⟨fun x hx => (h3 x hx).1, h4⟩⟩
        rcases List.mem_cons.1 hx with rfl | hx
        · exact ⟨by omega, by simpa using h1⟩
        · have := h3 x hx; exact ⟨by omega, this.2⟩
theorem his_valid {n : Int} {es : List Ev} (h : hisS n es = 0) : 0 ≤ n ∧ n ≤ 64 ∧ es.length ≤ 65536 ∧ (∀ e ∈ es, fitS n e = 0) ∧ es.Pairwise (fun a b => a.time ≤ b.time) := by
  unfold hisS at h
  split at h
  · simp at h
  · split at h
    · simp at h
    · obtain ⟨h1, h2⟩ := his_up es 0 h
      exact ⟨by omega, by omega, by omega, fun e he => (h1 e he).2, h2⟩
end Go.Proofs.YtpblaoeaeljmhaaDoor
