/- The plain law of histories: the spans, the state at a time and the times of changes. -/
import Derived.Test.YtpblaoeaeljmhaaHisTimes
import Derived.Test.YtpblaoeaeljmhaaHisAt
import Derived.Test.YtpblaoeaeljmhaaMkEvents
namespace Go.Proofs.Ytpblaoeaeljmhaa
open Go.RowKit

/-- what makes a history right -/
theorem hisL_zero {n : Int} : ∀ (es : List Ev) (last : Int), (∀ e ∈ es, fitS n e = 0 ∧ last ≤ e.time) → es.Pairwise (fun a b => a.time ≤ b.time) → hisL n last es = 0 := by
  intro es
  induction es with
  | nil => intro _ _ _; rfl
  | cons e es ih =>
    intro last h hp
    obtain ⟨h1, h2⟩ := List.pairwise_cons.1 hp
    have h3 := h e List.mem_cons_self
    unfold hisL
    rw [if_neg (by simp [h3.1]), if_neg (by omega)]
    exact ih _ (fun x hx => ⟨(h x (List.mem_cons_of_mem _ hx)).1, h1 x hx⟩) h2
theorem EvsOk.his {n t : Int} {l : List Ev} (h : EvsOk n l t) (hn : 2 ≤ n) (hn2 : n ≤ 64) (hl : l.length ≤ 65536) : hisS n l = 0 := by
  unfold hisS
  rw [if_neg (by omega), if_neg (by omega)]
  refine hisL_zero l 0 (fun e he => ?_) h.up
  obtain ⟨h1, h2, h3, h4, h5, h6, h7⟩ := h.ok e he
  exact ⟨fit_of h1 h3 h5, h6⟩
/-- versions come in the order of their times -/
theorem verF_up : ∀ (es : List Ev) (ls : List Lk) (ch : Bool), es.Pairwise (fun a b => a.time ≤ b.time) →
    (verF ls ch es).Pairwise (fun a b => a.1 < b.1) ∧ ∀ x ∈ verF ls ch es, ∃ e ∈ es, x.1 = e.time := by
  intro es
  induction es with
  | nil => intro ls ch _; simp [verF]
  | cons e es ih =>
    intro ls ch hp
    obtain ⟨h1, h2⟩ := List.pairwise_cons.1 hp
    cases es with
    | nil => simp [verF]
    | cons e2 es =>
      obtain ⟨i1, i2⟩ := ih (stepL e ls) (ch || decide (0 < (stepC e ls).length)) h2
      obtain ⟨j1, j2⟩ := ih (stepL e ls) false h2
      unfold verF
      dsimp only
      split
      · exact ⟨i1, fun x hx => by obtain ⟨y, hy, he⟩ := i2 x hx; exact ⟨y, List.mem_cons_of_mem _ hy, he⟩⟩
      · rename_i hne
        refine ⟨List.pairwise_cons.2 ⟨fun x hx => ?_, j1⟩, fun x hx => ?_⟩
        · obtain ⟨y, hy, he⟩ := j2 x hx
          have h3 := h1 e2 List.mem_cons_self
          have h4 : e2.time ≤ y.time := by
            rcases List.mem_cons.1 hy with rfl | hy
            · exact Int.le_refl _
            · exact (List.pairwise_cons.1 h2).1 y hy
          have h5 : ¬ e2.time = e.time := by simpa using hne
          show e.time < x.1
          omega
        · rcases List.mem_cons.1 hx with rfl | hx
          · exact ⟨e, List.mem_cons_self, rfl⟩
          · obtain ⟨y, hy, he⟩ := j2 x hx; exact ⟨y, List.mem_cons_of_mem _ hy, he⟩
/-- a time lies in one of the spans -/
def inB (t : Int) (os : List (Int × Int)) : Bool := os.any fun x => decide (x.1 ≤ t ∧ (x.2 < 0 ∨ t < x.2))
/-- closed spans up to a time, and perhaps one that is open -/
structure Clo (cl : List (Int × Int)) (T : Int) : Prop where
  ok : ∀ x ∈ cl, 0 ≤ x.1 ∧ x.1 < x.2 ∧ x.2 ≤ T
  up : cl.Pairwise (fun a b => a.2 < b.1)
def opn (th : Bool) (a : Int) : List (Int × Int) := if th = true then [(a, -1)] else []
theorem atV_snoc {t : Int} {xs : List (Int × List Lk × Bool)} {x : Int × List Lk × Bool} (h : ∀ y ∈ xs, y.1 < x.1) : atV t (xs ++ [x]) = if x.1 ≤ t then x.2.1 else atV t xs := by
  unfold atV
  by_cases hx : x.1 ≤ t
  · rw [if_pos hx]
    have hall : ∀ y ∈ xs ++ [x], y.1 ≤ t := fun y hy => by
      rcases List.mem_append.1 hy with hy | hy
      · have := h y hy; omega
      · rw [List.mem_singleton.1 hy]; exact hx
    have := atV_all hall
    unfold atV at this
    rw [this, lastL_snoc]
  · rw [if_neg hx]
    congr 1
    rw [List.takeWhile_append]
    split
    · rename_i he
      rw [List.takeWhile_cons, if_neg (by simpa using hx), List.append_nil]
      have hp := List.takeWhile_prefix (l := xs) (fun x => decide (x.1 ≤ t))
      exact (hp.eq_of_length he).symm
    · rfl
/-- what holds of the spans behind some versions -/
structure LifeI (n u v : Int) (xs : List (Int × List Lk × Bool)) (T : Int) : Prop where
  sp : ∃ cl a, (lifeF n u v xs).1 = cl ++ opn (lifeF n u v xs).2 a ∧ Clo cl T ∧ ((lifeF n u v xs).2 = true → 0 ≤ a ∧ a ≤ T ∧ ∀ x ∈ cl, x.2 < a)
  is : (lifeF n u v xs).2 = decide (0 ≤ lfS n (lastL xs) u v)
  at' : ∀ t, inB t (lifeF n u v xs).1 = decide (0 ≤ lfS n (atV t xs) u v)
theorem lfS_nil (n u v : Int) : lfS n [] u v = -1 := by
  unfold lfS
  split
  · rfl
  · rfl
theorem inB_append (t : Int) (a b : List (Int × Int)) : inB t (a ++ b) = (inB t a || inB t b) := by unfold inB; rw [List.any_append]
theorem Clo.late {cl : List (Int × Int)} {T t : Int} (h : Clo cl T) (ht : T ≤ t) : inB t cl = false := by
  unfold inB
  rw [List.any_eq_false]
  intro x hx
  have := h.ok x hx
  simp only [decide_eq_true_eq]
  omega
theorem setLast_snoc (cl : List (Int × Int)) (a b t : Int) : setLast (cl ++ [(a, b)]) t = cl ++ [(a, t)] := by
  unfold setLast
  simp
theorem life_inv (n u v : Int) : ∀ (xs ys : List (Int × List Lk × Bool)) (T : Int), LifeI n u v xs T → ys.Pairwise (fun a b => a.1 < b.1) → (∀ y ∈ ys, T < y.1 ∧ ∀ x ∈ xs, x.1 < y.1) → -1 ≤ T → ∃ T2, LifeI n u v (xs ++ ys) T2 := by
  intro xs ys
  induction ys generalizing xs with
  | nil => intro T h _ _ _; exact ⟨T, by rw [List.append_nil]; exact h⟩
  | cons y ys ih =>
    intro T h hp hy hT
    obtain ⟨p1, p2⟩ := List.pairwise_cons.1 hp
    have hyT := (hy y List.mem_cons_self).1
    have hyx := (hy y List.mem_cons_self).2
    have hstep : LifeI n u v (xs ++ [y]) y.1 := by
      obtain ⟨⟨cl, a, hos, hcl, hop⟩, his, hat⟩ := h
      have hlf := lifeF_snoc n u v xs y
      have hll := lastL_snoc xs y
      have hav := fun t => atV_snoc (t := t) hyx
      obtain ⟨⟨os, th⟩, hs⟩ : ∃ s, lifeF n u v xs = s := ⟨_, rfl⟩
      rw [hs] at hos hop his hat hlf
      dsimp only at hos hop his hat
      have hcl2 : Clo cl y.1 := ⟨fun x hx => by have := hcl.ok x hx; omega, hcl.up⟩
      by_cases hpr : 0 ≤ lfS n y.2.1 u v
      · cases th with
        | true =>
          have e : lifeF n u v (xs ++ [y]) = (os, true) := by rw [hlf]; unfold lifeStep; rw [if_pos hpr, if_pos rfl]
          obtain ⟨h1, h2, h3⟩ := hop rfl
          refine ⟨⟨cl, a, by rw [e]; exact hos, hcl2, fun _ => ⟨h1, by omega, h3⟩⟩, by rw [e, hll]; simp [hpr], fun t => ?_⟩
          rw [e, hav]
          split
          · rename_i ht
            rw [decide_eq_true hpr, hos, inB_append]
            have : inB t (opn true a) = true := by unfold opn inB; simp; omega
            rw [this, Bool.or_true]
          · exact hat t
        | false =>
          have e : lifeF n u v (xs ++ [y]) = (os ++ [(y.1, -1)], true) := by rw [hlf]; unfold lifeStep; rw [if_pos hpr, if_neg (by simp)]
          have hos2 : os = cl := by rw [hos]; unfold opn; simp
          refine ⟨⟨cl, y.1, by rw [e, hos2]; rfl, hcl2, fun _ => ⟨by omega, Int.le_refl _, fun x hx => by have := hcl.ok x hx; omega⟩⟩, by rw [e, hll]; simp [hpr], fun t => ?_⟩
          rw [e, hav]
          dsimp only
          rw [inB_append]
          split
          · rename_i ht
            rw [decide_eq_true hpr]
            have : inB t [(y.1, (-1 : Int))] = true := by unfold inB; simp; omega
            rw [this, Bool.or_true]
          · rename_i ht
            have : inB t [(y.1, (-1 : Int))] = false := by unfold inB; simp; omega
            rw [this, Bool.or_false]
            exact hat t
      · cases th with
        | true =>
          obtain ⟨h1, h2, h3⟩ := hop rfl
          have hos2 : os = cl ++ [(a, -1)] := by rw [hos]; rfl
          have e : lifeF n u v (xs ++ [y]) = (cl ++ [(a, y.1)], false) := by rw [hlf]; unfold lifeStep; rw [if_neg hpr, if_pos rfl]; rw [hos2, setLast_snoc]
          have hcl3 : Clo (cl ++ [(a, y.1)]) y.1 := by
            refine ⟨fun x hx => ?_, ?_⟩
            · rcases List.mem_append.1 hx with hx | hx
              · exact hcl2.ok x hx
              · rw [List.mem_singleton.1 hx]; exact ⟨h1, by omega, Int.le_refl _⟩
            · rw [List.pairwise_append]
              exact ⟨hcl.up, List.pairwise_singleton _ _, fun x hx z hz => by rw [List.mem_singleton.1 hz]; exact h3 x hx⟩
          refine ⟨⟨cl ++ [(a, y.1)], 0, by rw [e]; unfold opn; simp, hcl3, fun h => by rw [e] at h; cases h⟩, by rw [e, hll]; simp [hpr], fun t => ?_⟩
          rw [e, hav]
          dsimp only
          split
          · rename_i ht
            rw [hcl3.late ht]
            simp [hpr]
          · rename_i ht
            rw [← hat t, hos2, inB_append, inB_append]
            have : inB t [(a, y.1)] = inB t [(a, (-1 : Int))] := by
              unfold inB
              simp only [List.any_cons, List.any_nil, Bool.or_false]
              congr 1
              simp only [eq_iff_iff]
              omega
            rw [this]
        | false =>
          have e : lifeF n u v (xs ++ [y]) = (os, false) := by rw [hlf]; unfold lifeStep; rw [if_neg hpr, if_neg (by simp)]
          have hos2 : os = cl := by rw [hos]; unfold opn; simp
          refine ⟨⟨cl, 0, by rw [e]; unfold opn; simp [hos2], hcl2, fun h => by rw [e] at h; cases h⟩, by rw [e, hll]; simp [hpr], fun t => ?_⟩
          rw [e, hav]
          split
          · rename_i ht
            dsimp only
            rw [hos2, hcl2.late ht]
            simp [hpr]
          · exact hat t
    obtain ⟨T2, h2⟩ := ih (xs ++ [y]) y.1 hstep p2 (fun z hz => ⟨p1 z hz, fun x hx => by
      rcases List.mem_append.1 hx with hx | hx
      · have := hyx x hx; have := p1 z hz; omega
      · rw [List.mem_singleton.1 hx]; exact p1 z hz⟩) (by omega)
    exact ⟨T2, by rw [List.append_assoc] at h2; exact h2⟩
/-- the spans are right -/
structure SpOk (os : List (Int × Int)) : Prop where
  cl : ∀ (i : Nat) (x : Int × Int), os[i]? = some x → 0 ≤ x.2 → x.1 < x.2
  op : ∀ (i : Nat) (x : Int × Int), os[i]? = some x → x.2 < 0 → i + 1 = os.length
  up : ∀ (i : Nat) (x y : Int × Int), os[i + 1]? = some x → os[i]? = some y → y.2 < x.1
theorem LifeI.sps {n u v : Int} {xs : List (Int × List Lk × Bool)} {T : Int} (h : LifeI n u v xs T) : SpOk (lifeF n u v xs).1 := by
  obtain ⟨cl, a, hos, hcl, hop⟩ := h.sp
  rw [hos]
  cases hth : (lifeF n u v xs).2 with
  | false =>
    have e : cl ++ opn false a = cl := by unfold opn; simp
    rw [e]
    refine ⟨fun i x hx _ => (hcl.ok x (List.mem_of_getElem? hx)).2.1, fun i x hx h0 => by have := hcl.ok x (List.mem_of_getElem? hx); omega, fun i x y hx hy => ?_⟩
    have := List.pairwise_iff_getElem.1 hcl.up i (i + 1) (List.getElem?_eq_some_iff.1 hy).1 (List.getElem?_eq_some_iff.1 hx).1 (by omega)
    rw [(List.getElem?_eq_some_iff.1 hy).2, (List.getElem?_eq_some_iff.1 hx).2] at this
    exact this
  | true =>
    obtain ⟨h1, h2, h3⟩ := hop hth
    have e : cl ++ opn true a = cl ++ [(a, -1)] := rfl
    rw [e]
    refine ⟨fun i x hx h0 => ?_, fun i x hx h0 => ?_, fun i x y hx hy => ?_⟩
    · rcases List.mem_append.1 (List.mem_of_getElem? hx) with hm | hm
      · exact (hcl.ok x hm).2.1
      · rw [List.mem_singleton.1 hm] at h0; simp at h0
    · rcases Nat.lt_or_ge i cl.length with hi | hi
      · rw [List.getElem?_append_left hi] at hx
        have := hcl.ok x (List.mem_of_getElem? hx)
        omega
      · have := (List.getElem?_eq_some_iff.1 hx).1
        simp at this ⊢
        omega
    · have hl := (List.getElem?_eq_some_iff.1 hx).1
      simp at hl
      rw [List.getElem?_append_left (by omega)] at hy
      rcases Nat.lt_or_ge (i + 1) cl.length with hi | hi
      · rw [List.getElem?_append_left hi] at hx
        have := List.pairwise_iff_getElem.1 hcl.up i (i + 1) (List.getElem?_eq_some_iff.1 hy).1 (List.getElem?_eq_some_iff.1 hx).1 (by omega)
        rw [(List.getElem?_eq_some_iff.1 hy).2, (List.getElem?_eq_some_iff.1 hx).2] at this
        exact this
      · have hic : i + 1 = cl.length := by omega
        rw [hic, List.getElem?_append_right (Nat.le_refl _), Nat.sub_self] at hx
        obtain rfl : (a, -1) = x := by simpa using hx
        exact h3 y (List.mem_of_getElem? hy)
/-- the law of lives, in plain words -/
theorem lives_plain {n u v t0 : Int} {es : List Ev} (h : EvsOk n es t0) : SpOk (lifeF n u v (verF [] false es)).1 ∧ ∀ t, inB t (lifeF n u v (verF [] false es)).1 = decide (0 ≤ lfS n (atV t (verF [] false es)) u v) := by
  obtain ⟨h1, h2⟩ := verF_up es [] false h.up
  have hI0 : LifeI n u v [] (-1) := by
    refine ⟨⟨[], 0, rfl, ⟨by simp, List.Pairwise.nil⟩, fun h => by cases h⟩, ?_, fun t => ?_⟩
    · show false = _
      rw [show lastL [] = ([] : List Lk) from rfl, lfS_nil]; rfl
    · show inB t [] = _
      rw [show atV t [] = ([] : List Lk) from rfl, lfS_nil]; rfl
  obtain ⟨T2, hI⟩ := life_inv n u v [] (verF [] false es) (-1) hI0 h1 (fun y hy => ⟨by
    obtain ⟨e, he, ht⟩ := h2 y hy
    have := (h.ok e he).2.2.2.2.2.1
    omega, fun x hx => by cases hx⟩) (by omega)
  rw [List.nil_append] at hI
  exact ⟨hI.sps, hI.at'⟩
end Go.Proofs.Ytpblaoeaeljmhaa
