/- Plain: what the functions on kept core numbers answer: the region, an edge more, an edge less, and events. -/
import Derived.Test.YtkknknehchnccaaDoorRepC
import Derived.Test.YtkknknehchnccaaDoorPeelK
import Derived.Test.YtkknknehchnccaaDoorGrAdd
namespace Go.Proofs.YtkknknehchnccaaDoor
open Go.RowKit Go.BigFrame

/-- the graph and a pair -/
def adjP (es : List E2) (p q i j : Nat) : Bool := adjB es i j || decide ((i = p ∧ j = q) ∨ (i = q ∧ j = p))
theorem adjP_there {es : List E2} {p q : Nat} (h : adjB es p q = true) : adjP es p q = adjB es := by
  funext i j
  unfold adjP
  by_cases e : (i = p ∧ j = q) ∨ (i = q ∧ j = p)
  · rcases e with ⟨rfl, rfl⟩ | ⟨rfl, rfl⟩
    · rw [h]; rfl
    · rw [adjB_symm, h]; rfl
  · simp [e]
theorem adjP_more {A B : Nat → Nat → Bool} {n p q : Nat} (h : MoreE A B n p q) (hB : B p q = true) (i j : Nat) : B i j = (A i j || decide ((i = p ∧ j = q) ∨ (i = q ∧ j = p))) := by
  rw [Bool.eq_iff_iff]
  simp only [Bool.or_eq_true, decide_eq_true_eq]
  constructor
  · intro hb; exact h.add i j hb
  · rintro (h1 | ⟨rfl, rfl⟩ | ⟨rfl, rfl⟩)
    · exact h.sub i j h1
    · exact hB
    · exact h.sym _ _ hB
/-- numbers as a function -/
def nfN (l : List Int) (v : Nat) : Nat := (l[v]?.getD 0).toNat
open Classical in
/-- the region of two nodes -/
noncomputable def regB (es : List E2) (n : Nat) (l : List Int) (p q x : Nat) : Bool := decide (∀ T, RegI (adjP es p q) n (nfN l) (min (nfN l p) (nfN l q)) p q T → T x = true)
open Classical in
theorem regB_iff (es : List E2) (n : Nat) (l : List Int) (p q x : Nat) : regB es n l p q x = true ↔ ∀ T, RegI (adjP es p q) n (nfN l) (min (nfN l p) (nfN l q)) p q T → T x = true := by
  unfold regB; exact decide_eq_true_iff
theorem regB_of {es : List E2} {n p q : Nat} {l : List Int} {R : Nat → Bool} (h : RegM (adjP es p q) n (nfN l) (min (nfN l p) (nfN l q)) p q R) (x : Nat) : R x = regB es n l p q x := by
  rw [Bool.eq_iff_iff, regB_iff]
  exact ⟨fun hx T hT => h.least T hT x hx, fun hx => hx R h.reg⟩
theorem regB_is (es : List E2) (n p q : Nat) (l : List Int) (hp : p < n) (hq : q < n) : RegM (adjP es p q) n (nfN l) (min (nfN l p) (nfN l q)) p q (regB es n l p q) := by
  have all : RegI (adjP es p q) n (nfN l) (min (nfN l p) (nfN l q)) p q (fun x => decide (x < n ∧ nfN l x = min (nfN l p) (nfN l q))) :=
    ⟨fun x hx => of_decide_eq_true hx, fun e => decide_eq_true ⟨hp, e⟩, fun e => decide_eq_true ⟨hq, e⟩, fun x y _ _ hy hc => decide_eq_true ⟨hy, hc⟩⟩
  refine ⟨⟨fun x hx => ?_, fun e => ?_, fun e => ?_, fun x y hx hb hy hc => ?_⟩, fun T hT x hx => ?_⟩
  · rw [regB_iff] at hx
    exact of_decide_eq_true (hx _ all)
  · rw [regB_iff]
    exact fun T hT => hT.p0 e
  · rw [regB_iff]
    exact fun T hT => hT.q0 e
  · rw [regB_iff] at hx ⊢
    exact fun T hT => hT.cl x y (hx T hT) hb hy hc
  · rw [regB_iff] at hx
    exact hx T hT
open Classical in
/-- the settled part of a set -/
noncomputable def setB (B : Nat → Nat → Bool) (n : Nat) (R U : Nat → Bool) (k x : Nat) : Bool := decide (∃ T : Nat → Bool, (∀ x, T x = true → R x = true) ∧ (∀ x, T x = true → k ≤ dgA B n (fun y => T y || U y) x) ∧ T x = true)
open Classical in
theorem setB_iff (B : Nat → Nat → Bool) (n : Nat) (R U : Nat → Bool) (k x : Nat) : setB B n R U k x = true ↔ ∃ T : Nat → Bool, (∀ x, T x = true → R x = true) ∧ (∀ x, T x = true → k ≤ dgA B n (fun y => T y || U y) x) ∧ T x = true := by
  unfold setB; exact decide_eq_true_iff
theorem setB_is (B : Nat → Nat → Bool) (n : Nat) (R U : Nat → Bool) (k : Nat) : Settle B n R U k (setB B n R U k) := by
  refine ⟨fun x hx => ?_, fun x hx => ?_, fun T h1 h2 x hx => ?_⟩
  · rw [setB_iff] at hx
    obtain ⟨T, h1, _, h3⟩ := hx
    exact h1 x h3
  · rw [setB_iff] at hx
    obtain ⟨T, h1, h2, h3⟩ := hx
    refine Nat.le_trans (h2 x h3) (dgA_mono fun y _ hb hy => ⟨hb, ?_⟩)
    rcases Bool.or_eq_true_iff.1 hy with h4 | h4
    · have : setB B n R U k y = true := by
        rw [setB_iff]
        exact ⟨T, h1, h2, h4⟩
      rw [this]; rfl
    · rw [h4]; simp
  · rw [setB_iff]
    exact ⟨T, h1, h2, hx⟩
/-- the nodes whose numbers differ -/
def chgL (n : Nat) (l m : List Int) : List Int := castL (selL n fun v => decide (l[v]?.getD 0 ≠ m[v]?.getD 0))
theorem chgL_symm (n : Nat) (l m : List Int) : chgL n l m = chgL n m l := by
  unfold chgL
  congr 2
  funext v
  rw [decide_eq_decide]
  exact ne_comm
theorem chgL_upL {n : Nat} (l : List Int) (S : Nat → Bool) {d : Int} (hd : d ≠ 0) : chgL n l (upL n l S d) = castL (selL n S) := by
  unfold chgL selL
  rw [upL_changed l S hd]
/-- a graph with its core numbers -/
structure Cr where
  n : Int
  es : List E2
  l : List Int
def Cr.zero : Cr := ⟨0, [], []⟩
def crOk (c : Cr) : Bool := (checkS c.n c.es == 0) && decide (corT c.es c.n.toNat = c.l)
theorem crOk_iff (c : Cr) : crOk c = true ↔ ∃ n : Nat, Valid n c.es ∧ c = ⟨n, c.es, corT c.es n⟩ := by
  obtain ⟨n, es, l⟩ := c
  unfold crOk
  dsimp only
  simp only [Bool.and_eq_true, beq_iff_eq, decide_eq_true_eq]
  constructor
  · rintro ⟨h0, h1⟩
    have hv := (valid_iff n es).1 h0
    obtain ⟨m, rfl⟩ := Int.eq_ofNat_of_zero_le hv.1
    rw [Int.toNat_natCast] at h1
    exact ⟨m, hv, by rw [← h1]⟩
  · rintro ⟨m, hv, h⟩
    obtain ⟨rfl, -, rfl⟩ := Cr.mk.inj h
    rw [Int.toNat_natCast]
    exact ⟨(valid_iff _ _).2 hv, rfl⟩
def crN (n : Nat) (es : List E2) : Cr := ⟨n, es, corT es n⟩
/-- the first error of a state and two nodes -/
def crE (c : Cr) (u v : Int) : Int := if crOk c = false then 12 else if endsB c.n u v = true then 0 else 6
def copX (n : Int) (es : List E2) : Cr × Int := if checkS n es ≠ 0 then (Cr.zero, checkS n es) else (crN n.toNat es, 0)
noncomputable def cregX (c : Cr) (u v : Int) : List Int × Int := if crE c u v ≠ 0 then ([], crE c u v) else (castL (selL c.n.toNat (regB c.es c.n.toNat c.l u.toNat v.toNat)), 0)
def cinsX (c : Cr) (u v : Int) : Cr × List Int × Int :=
  if crE c u v ≠ 0 then (Cr.zero, [], crE c u v) else if (min u v, max u v) ∈ c.es then (Cr.zero, [], 15) else
    (crN c.n.toNat (insE c.es (min u v, max u v)), chgL c.n.toNat c.l (corT (insE c.es (min u v, max u v)) c.n.toNat), 0)
def cdelX (c : Cr) (u v : Int) : Cr × List Int × Int :=
  if crE c u v ≠ 0 then (Cr.zero, [], crE c u v) else if (min u v, max u v) ∈ c.es then
    (crN c.n.toNat (delE c.es (min u v, max u v)), chgL c.n.toNat c.l (corT (delE c.es (min u v, max u v)) c.n.toNat), 0) else (Cr.zero, [], 7)
theorem crE_zero {c : Cr} {u v : Int} (h : crE c u v = 0) : ∃ (n p q : Nat), Valid n c.es ∧ c = crN n c.es ∧ u = p ∧ v = q ∧ p < n ∧ q < n ∧ p ≠ q := by
  unfold crE at h
  split at h
  · cases h
  · rename_i h1
    have h2 := (crOk_iff c).1 (by simpa using h1)
    obtain ⟨n, hv, hc⟩ := h2
    split at h
    · rename_i h3
      rw [endsB_iff, show c.n = n from by rw [hc]] at h3
      obtain ⟨p, rfl⟩ := Int.eq_ofNat_of_zero_le (show 0 ≤ u by omega)
      obtain ⟨q, rfl⟩ := Int.eq_ofNat_of_zero_le (show 0 ≤ v by omega)
      exact ⟨n, p, q, hv, hc, rfl, rfl, by omega, by omega, by omega⟩
    · cases h
theorem nfN_cor {n : Nat} (es : List E2) {v : Nat} (hv : v < n) : ((corT es n)[v]?.getD 0) = (nfN (corT es n) v : Int) := by
  have h1 : (corT es n)[v]? = some (corF es n v) := fnL_get n _ v hv
  unfold nfN
  rw [h1]
  obtain ⟨c, hc⟩ := cor_nat es n v hv
  show corF es n v = ((corF es n v).toNat : Int)
  rw [hc]; omega
theorem coreOf_cor {n : Nat} {es : List E2} (hv : Valid n es) : CoreOf (adjB es) n (nfN (corT es n)) := by
  intro v hvn k
  have h := cor_core hv v k hvn
  show InCore (dgS es n) n k v ↔ _
  rw [h]
  have h1 : (corT es n)[v]? = some (corF es n v) := fnL_get n _ v hvn
  have h2 := nfN_cor (n := n) es hvn
  rw [h1] at h2
  have h3 : corF es n v = (nfN (corT es n) v : Int) := h2
  omega
theorem coreOf_up {n : Nat} {es : List E2} {d : Nat → Nat} (hv : Valid n es) (h : CoreOf (adjB es) n d) : corT es n = (List.range n).map fun v => (d v : Int) :=
  (coreL_is hv ⟨d, h, rfl⟩).symm
theorem ends_pair {n p q : Nat} (hp : p < n) (hq : q < n) (hne : p ≠ q) : Ins n (min (p : Int) q, max (p : Int) q) := by unfold Ins; dsimp only; omega
theorem moreE_ins {n p q : Nat} {es : List E2} (hp : p < n) (hq : q < n) (hne : p ≠ q) : MoreE (adjB es) (adjB (insE es (min (p : Int) q, max (p : Int) q))) n p q :=
  moreE_of hp hq hne fun x => insE_mem es _ x
theorem moreE_del {n p q : Nat} {es : List E2} (hp : p < n) (hq : q < n) (hne : p ≠ q) (hm : (min (p : Int) q, max (p : Int) q) ∈ es) : MoreE (adjB (delE es (min (p : Int) q, max (p : Int) q))) (adjB es) n p q :=
  moreE_of hp hq hne fun x => by
    rw [delE_mem]
    constructor
    · intro h
      by_cases e : x = (min (p : Int) q, max (p : Int) q)
      · exact .inr e
      · exact .inl ⟨h, e⟩
    · rintro (h | h)
      · exact h.1
      · rw [h]; exact hm
theorem adj_pair {es : List E2} {p q : Nat} (hm : (min (p : Int) q, max (p : Int) q) ∈ es) : adjB es p q = true := by
  rw [adjB_iff]
  by_cases h : p ≤ q
  · left
    rw [show min (p : Int) q = p by omega, show max (p : Int) q = q by omega] at hm; exact hm
  · right
    rw [show min (p : Int) q = q by omega, show max (p : Int) q = p by omega] at hm; exact hm
/-- AN EDGE MORE: whatever is the least region and settled in it tells the new numbers. -/
theorem cor_more {n p q : Nat} {es : List E2} (hv : Valid n es) (hp : p < n) (hq : q < n) (hne : p ≠ q) {R S : Nat → Bool}
    (hR : RegM (adjP es p q) n (nfN (corT es n)) (min (nfN (corT es n) p) (nfN (corT es n) q)) p q R)
    (hS : Settle (adjB (insE es (min (p : Int) q, max (p : Int) q))) n R (fun y => decide (y < n ∧ min (nfN (corT es n) p) (nfN (corT es n) q) < nfN (corT es n) y)) (min (nfN (corT es n) p) (nfN (corT es n) q) + 1) S) :
    corT (insE es (min (p : Int) q, max (p : Int) q)) n = upL n (corT es n) S 1 ∧ chgL n (corT es n) (corT (insE es (min (p : Int) q, max (p : Int) q)) n) = castL (selL n S) := by
  have hm := moreE_ins (es := es) hp hq hne
  have hB : adjB (insE es (min (p : Int) q, max (p : Int) q)) p q = true := adj_pair ((insE_mem es _ _).2 (.inr rfl))
  have heq : adjP es p q = adjB (insE es (min (p : Int) q, max (p : Int) q)) := by
    funext i j; exact (adjP_more hm hB i j).symm
  rw [heq] at hR
  have hc := core_more hm (coreOf_cor hv) rfl hR.reg hS
  have hv2 := hv.ins _ (ends_pair hp hq hne)
  have h1 := coreOf_up hv2 hc
  have h2 : corT (insE es (min (p : Int) q, max (p : Int) q)) n = upL n (corT es n) S 1 := by
    rw [h1]
    refine List.map_congr_left fun v hvm => ?_
    have hvn := List.mem_range.1 hvm
    rw [nfN_cor es hvn]
    by_cases hs : S v = true
    · rw [if_pos hs, if_pos hs, (hR.reg.lev v (hS.sub v hs)).2]; omega
    · rw [if_neg hs, if_neg hs]
  exact ⟨h2, by rw [h2]; exact chgL_upL _ _ (by decide)⟩
theorem cor_pos {n p q : Nat} {es : List E2} (hv : Valid n es) (hp : p < n) (hq : q < n) (hj : adjB es p q = true) : 1 ≤ min (nfN (corT es n) p) (nfN (corT es n) q) := by
  have h1 := coreOf_cor hv
  have e1 : 1 ≤ nfN (corT es n) p := (h1 p hp 1).1 ⟨fun x => decide (x = p ∨ x = q), fun x hx => ?_, fun x hx => ?_, by simp⟩
  have e2 : 1 ≤ nfN (corT es n) q := (h1 q hq 1).1 ⟨fun x => decide (x = p ∨ x = q), fun x hx => ?_, fun x hx => ?_, by simp⟩
  · omega
  all_goals
    have hx2 := of_decide_eq_true hx
    first
    | (rcases hx2 with e | e
       · rw [e]; exact hp
       · rw [e]; exact hq)
    | (rcases hx2 with e | e
       · exact List.length_pos_of_mem (List.mem_filter.2 ⟨List.mem_range.2 hq, by rw [e, hj]; simp⟩)
       · exact List.length_pos_of_mem (List.mem_filter.2 ⟨List.mem_range.2 hp, by rw [e, adjB_symm, hj]; simp⟩))
/-- AN EDGE LESS. -/
theorem cor_less {n p q : Nat} {es : List E2} (hv : Valid n es) (hp : p < n) (hq : q < n) (hne : p ≠ q) (hin : (min (p : Int) q, max (p : Int) q) ∈ es) {R S : Nat → Bool}
    (hR : RegM (adjP es p q) n (nfN (corT es n)) (min (nfN (corT es n) p) (nfN (corT es n) q)) p q R)
    (hS : Settle (adjB (delE es (min (p : Int) q, max (p : Int) q))) n R (fun y => decide (y < n ∧ min (nfN (corT es n) p) (nfN (corT es n) q) ≤ nfN (corT es n) y ∧ R y = false)) (min (nfN (corT es n) p) (nfN (corT es n) q)) S) :
    corT (delE es (min (p : Int) q, max (p : Int) q)) n = upL n (corT es n) (fun v => R v && !S v) (-1) ∧ chgL n (corT es n) (corT (delE es (min (p : Int) q, max (p : Int) q)) n) = castL (selL n fun v => R v && !S v) := by
  have hm := moreE_del hp hq hne hin
  have hA := adj_pair hin
  rw [adjP_there hA] at hR
  have hc := core_less hm (coreOf_cor hv) rfl hR.reg hS
  have hv2 := hv.del (min (p : Int) q, max (p : Int) q)
  have h1 := coreOf_up hv2 hc
  have hpos := cor_pos hv hp hq hA
  have h2 : corT (delE es (min (p : Int) q, max (p : Int) q)) n = upL n (corT es n) (fun v => R v && !S v) (-1) := by
    rw [h1]
    refine List.map_congr_left fun v hvm => ?_
    have hvn := List.mem_range.1 hvm
    rw [nfN_cor es hvn]
    by_cases hs : R v = true ∧ S v = false
    · rw [if_pos hs, if_pos (by simp [hs.1, hs.2])]
      have := (hR.reg.lev v hs.1).2
      omega
    · rw [if_neg hs, if_neg]
      simp only [Bool.and_eq_true, Bool.not_eq_true']
      exact hs
  exact ⟨h2, by rw [h2]; exact chgL_upL _ _ (by decide)⟩
/-- only nodes of the region change, each by one -/
theorem more_in {n p q : Nat} {es : List E2} (hv : Valid n es) (hp : p < n) (hq : q < n) (hne : p ≠ q) : ∃ S : Nat → Bool, (∀ x, S x = true → regB es n (corT es n) p q x = true) ∧
    corT (insE es (min (p : Int) q, max (p : Int) q)) n = upL n (corT es n) S 1 ∧ chgL n (corT es n) (corT (insE es (min (p : Int) q, max (p : Int) q)) n) = castL (selL n S) := by
  have hS := setB_is (adjB (insE es (min (p : Int) q, max (p : Int) q))) n (regB es n (corT es n) p q) (fun y => decide (y < n ∧ min (nfN (corT es n) p) (nfN (corT es n) q) < nfN (corT es n) y)) (min (nfN (corT es n) p) (nfN (corT es n) q) + 1)
  exact ⟨_, hS.sub, cor_more hv hp hq hne (regB_is es n p q _ hp hq) hS⟩
theorem less_in {n p q : Nat} {es : List E2} (hv : Valid n es) (hp : p < n) (hq : q < n) (hne : p ≠ q) (hin : (min (p : Int) q, max (p : Int) q) ∈ es) : ∃ S : Nat → Bool, (∀ x, S x = true → regB es n (corT es n) p q x = true) ∧
    corT (delE es (min (p : Int) q, max (p : Int) q)) n = upL n (corT es n) S (-1) ∧ chgL n (corT es n) (corT (delE es (min (p : Int) q, max (p : Int) q)) n) = castL (selL n S) := by
  have hS := setB_is (adjB (delE es (min (p : Int) q, max (p : Int) q))) n (regB es n (corT es n) p q) (fun y => decide (y < n ∧ min (nfN (corT es n) p) (nfN (corT es n) q) ≤ nfN (corT es n) y ∧ regB es n (corT es n) p q y = false)) (min (nfN (corT es n) p) (nfN (corT es n) q))
  refine ⟨_, fun x hx => ?_, cor_less hv hp hq hne hin (regB_is es n p q _ hp hq) hS⟩
  simp only [Bool.and_eq_true] at hx
  exact hx.1
/-- an edge that goes and comes again -/
theorem ins_del {n : Int} {es : List E2} (hv : Valid n es) (t : E2) (ht : t ∈ es) : insE (delE es t) t = es := by
  have h1 := insE_sorted (delE es t) t (hv.2.2.2.sublist (delE_sub es t))
  have hm : ∀ x, x ∈ insE (delE es t) t ↔ x ∈ es := fun x => by
    rw [insE_mem, delE_mem]
    constructor
    · rintro (h | h)
      · exact h.1
      · rw [h]; exact ht
    · intro h
      by_cases e : x = t
      · exact .inr e
      · exact .inl ⟨h, e⟩
  exact sorted_one _ _ h1 hv.2.2.2 hm
where
  sorted_one : ∀ (l m : List E2), l.Pairwise (fun a b => beforeB a b = true) → m.Pairwise (fun a b => beforeB a b = true) → (∀ x, x ∈ l ↔ x ∈ m) → l = m := by
    intro l
    induction l with
    | nil =>
      intro m _ _ h
      cases m with
      | nil => rfl
      | cons y m => have := (h y).2 List.mem_cons_self; cases this
    | cons x l ih =>
      intro m hl hm h
      cases m with
      | nil => have := (h x).1 List.mem_cons_self; cases this
      | cons y m =>
        obtain ⟨l1, l2⟩ := List.pairwise_cons.1 hl
        obtain ⟨m1, m2⟩ := List.pairwise_cons.1 hm
        have hxy : x = y := by
          rcases List.mem_cons.1 ((h x).1 List.mem_cons_self) with e | e
          · exact e
          · rcases List.mem_cons.1 ((h y).2 List.mem_cons_self) with e2 | e2
            · exact e2.symm
            · have h1 := m1 x e
              have h2 := l1 y e2
              have := before_trans h1 h2
              rw [before_irrefl] at this; cases this
        subst hxy
        congr 1
        refine ih m l2 m2 fun z => ?_
        constructor
        · intro hz
          rcases List.mem_cons.1 ((h z).1 (List.mem_cons_of_mem _ hz)) with e | e
          · have := l1 z hz
            rw [e, before_irrefl] at this; cases this
          · exact e
        · intro hz
          rcases List.mem_cons.1 ((h z).2 (List.mem_cons_of_mem _ hz)) with e | e
          · have := m1 z hz
            rw [e, before_irrefl] at this; cases this
          · exact e
/-- THERE AND BACK. -/
theorem back_ins {n p q : Nat} {es : List E2} (hv : Valid n es) (hp : p < n) (hq : q < n) (hne : p ≠ q) (hno : (min (p : Int) q, max (p : Int) q) ∉ es) :
    cdelX (crN n (insE es (min (p : Int) q, max (p : Int) q))) q p = (crN n es, chgL n (corT es n) (corT (insE es (min (p : Int) q, max (p : Int) q)) n), 0) := by
  have hv2 := hv.ins _ (ends_pair hp hq hne)
  have hok : crE (crN n (insE es (min (p : Int) q, max (p : Int) q))) q p = 0 := by
    unfold crE
    rw [(crOk_iff _).2 ⟨n, hv2, rfl⟩, if_neg (by simp), if_pos]
    rw [endsB_iff]
    show (q : Int) ≠ p ∧ _ ∧ max (q : Int) p < (n : Int)
    omega
  unfold cdelX
  rw [if_neg (by rw [hok]; simp)]
  have e1 : (min (q : Int) p, max (q : Int) p) = (min (p : Int) q, max (p : Int) q) := by rw [Int.min_comm, Int.max_comm]
  rw [e1]
  show (if (min (p : Int) q, max (p : Int) q) ∈ insE es _ then _ else _) = _
  rw [if_pos ((insE_mem es _ _).2 (.inr rfl))]
  show (crN (n : Int).toNat (delE (insE es _) _), chgL (n : Int).toNat (corT (insE es _) n) (corT (delE (insE es _) _) (n : Int).toNat), (0 : Int)) = _
  rw [Int.toNat_natCast, del_ins es _ hno, chgL_symm]
theorem back_del {n p q : Nat} {es : List E2} (hv : Valid n es) (hp : p < n) (hq : q < n) (hne : p ≠ q) (hin : (min (p : Int) q, max (p : Int) q) ∈ es) :
    cinsX (crN n (delE es (min (p : Int) q, max (p : Int) q))) q p = (crN n es, chgL n (corT es n) (corT (delE es (min (p : Int) q, max (p : Int) q)) n), 0) := by
  have hv2 := hv.del (min (p : Int) q, max (p : Int) q)
  have hok : crE (crN n (delE es (min (p : Int) q, max (p : Int) q))) q p = 0 := by
    unfold crE
    rw [(crOk_iff _).2 ⟨n, hv2, rfl⟩, if_neg (by simp), if_pos]
    rw [endsB_iff]
    show (q : Int) ≠ p ∧ _ ∧ max (q : Int) p < (n : Int)
    omega
  unfold cinsX
  rw [if_neg (by rw [hok]; simp)]
  have e1 : (min (q : Int) p, max (q : Int) p) = (min (p : Int) q, max (p : Int) q) := by rw [Int.min_comm, Int.max_comm]
  rw [e1]
  show (if (min (p : Int) q, max (p : Int) q) ∈ delE es _ then _ else _) = _
  rw [if_neg (fun h => (delE_mem.1 h).2 rfl)]
  show (crN (n : Int).toNat (insE (delE es _) _), chgL (n : Int).toNat (corT (delE es _) n) (corT (insE (delE es _) _) (n : Int).toNat), (0 : Int)) = _
  rw [Int.toNat_natCast, ins_del hv _ hin, chgL_symm]
end Go.Proofs.YtkknknehchnccaaDoor
