/- The plain law of the changes between two states. -/
import Derived.Test.YtpblaoeaeljmhaaLkChgP
import Derived.Test.YtpblaoeaeljmhaaLkFnd
import Derived.Test.YtpblaoeaeljmhaaHisStandsP
namespace Go.Proofs.Ytpblaoeaeljmhaa
open Go.RowKit

/-- whether two links agree but for their times -/
def sameA (x y : Lk) : Bool := decide (x.weight = y.weight) && decide (x.label = y.label) && decide (x.sign = y.sign)
def mrg (t : Int) : List Lk → List Lk → List Ev
  | [], [] => []
  | x :: xs, [] => cutEv x t :: mrg t xs []
  | [], y :: ys => setEv y t :: mrg t [] ys
  | x :: xs, y :: ys => if lkB x y = true then cutEv x t :: mrg t xs (y :: ys) else if sameE x y = true then (if sameA x y = true then mrg t xs ys else setEv y t :: mrg t xs ys) else setEv y t :: mrg t (x :: xs) ys
termination_by xs ys => xs.length + ys.length
def fnd (A : List Lk) (u v : Int) : Option Lk := A.find? fun l => decide (l.u = u) && decide (l.v = v)
/-- what the pair u, v gives -/
def bet1 (t : Int) (A B : List Lk) (u v : Int) : List Ev :=
  match fnd A u v, fnd B u v with
  | some x, none => [cutEv x t]
  | some x, some y => if setEv x t = setEv y t then [] else [setEv y t]
  | none, some y => [setEv y t]
  | none, none => []
def betV (t : Int) (A B : List Lk) (u : Int) : Int → Nat → List Ev
  | _, 0 => []
  | v, k + 1 => bet1 t A B u v ++ betV t A B u (v + 1) k
def betU (t n : Int) (A B : List Lk) : Int → Nat → List Ev
  | _, 0 => []
  | u, k + 1 => betV t A B u (u + 1) (n - u - 1).toNat ++ betU t n A B (u + 1) k
/-- pairs in order -/
def prV (u : Int) : Int → Nat → List (Int × Int)
  | _, 0 => []
  | v, k + 1 => (u, v) :: prV u (v + 1) k
def prU (n : Int) : Int → Nat → List (Int × Int)
  | _, 0 => []
  | u, k + 1 => prV u (u + 1) (n - u - 1).toNat ++ prU n (u + 1) k
def prB (p q : Int × Int) : Prop := p.1 < q.1 ∨ (p.1 = q.1 ∧ p.2 < q.2)
theorem betV_pr (t : Int) (A B : List Lk) (u : Int) : ∀ (k : Nat) (v : Int), betV t A B u v k = (prV u v k).flatMap fun p => bet1 t A B p.1 p.2 := by
  intro k
  induction k with
  | zero => intro v; rfl
  | succ k ih => intro v; unfold betV prV; rw [ih, List.flatMap_cons]
theorem betU_pr (t n : Int) (A B : List Lk) : ∀ (k : Nat) (u : Int), betU t n A B u k = (prU n u k).flatMap fun p => bet1 t A B p.1 p.2 := by
  intro k
  induction k with
  | zero => intro u; rfl
  | succ k ih => intro u; unfold betU prU; rw [ih, betV_pr, List.flatMap_append]
theorem prV_mem (u : Int) : ∀ (k : Nat) (v : Int) (p : Int × Int), p ∈ prV u v k ↔ p.1 = u ∧ v ≤ p.2 ∧ p.2 < v + k := by
  intro k
  induction k with
  | zero => intro v p; unfold prV; simp <;> omega
  | succ k ih =>
    intro v p
    unfold prV
    rw [List.mem_cons, ih]
    constructor
    · rintro (h | h)
      · rw [h]; exact ⟨rfl, Int.le_refl _, by push_cast; omega⟩
      · push_cast; omega
    · rintro ⟨h1, h2, h3⟩
      push_cast at h3
      by_cases he : p.2 = v
      · left; exact Prod.ext h1 he
      · right; omega
theorem prU_mem (n : Int) : ∀ (k : Nat) (u : Int) (p : Int × Int), u + k = n → (p ∈ prU n u k ↔ u ≤ p.1 ∧ p.1 < p.2 ∧ p.2 < n) := by
  intro k
  induction k with
  | zero => intro u p h; unfold prU; simp at h ⊢; omega
  | succ k ih =>
    intro u p h
    push_cast at h
    unfold prU
    rw [List.mem_append, prV_mem, ih (u + 1) p (by omega)]
    omega
theorem prV_up (u : Int) : ∀ (k : Nat) (v : Int), (prV u v k).Pairwise prB := by
  intro k
  induction k with
  | zero => intro v; exact List.Pairwise.nil
  | succ k ih =>
    intro v
    unfold prV
    refine List.pairwise_cons.2 ⟨fun q hq => ?_, ih _⟩
    rw [prV_mem] at hq
    exact .inr ⟨hq.1.symm, by omega⟩
theorem prU_up (n : Int) : ∀ (k : Nat) (u : Int), u + k = n → (prU n u k).Pairwise prB := by
  intro k
  induction k with
  | zero => intro u _; exact List.Pairwise.nil
  | succ k ih =>
    intro u h
    push_cast at h
    unfold prU
    refine List.pairwise_append.2 ⟨prV_up _ _ _, ih _ (by omega), fun p hp q hq => ?_⟩
    rw [prV_mem] at hp
    rw [prU_mem n k (u + 1) q (by omega)] at hq
    exact .inl (by omega)
theorem fnd_nil (u v : Int) : fnd [] u v = none := rfl
theorem fnd_head (x : Lk) (A : List Lk) : fnd (x :: A) x.u x.v = some x := by unfold fnd; rw [List.find?_cons_of_pos (by simp)]
theorem fnd_skip {x : Lk} {A : List Lk} {u v : Int} (h : ¬ (x.u = u ∧ x.v = v)) : fnd (x :: A) u v = fnd A u v := by
  unfold fnd; rw [List.find?_cons_of_neg (by simpa using h)]
theorem fnd_none {A : List Lk} {u v : Int} (h : ∀ x ∈ A, ¬ (x.u = u ∧ x.v = v)) : fnd A u v = none := by
  unfold fnd; rw [List.find?_eq_none]; intro x hx; simpa using h x hx
theorem bet1_congr {t : Int} {A B A' B' : List Lk} {u v : Int} (h1 : fnd A u v = fnd A' u v) (h2 : fnd B u v = fnd B' u v) : bet1 t A B u v = bet1 t A' B' u v := by unfold bet1; rw [h1, h2]
/-- the links of some pairs -/
def InP (P : List (Int × Int)) (A : List Lk) : Prop := A.Pairwise (fun a b => lkB a b = true) ∧ ∀ x ∈ A, (x.u, x.v) ∈ P
/-- the first of sorted links is that of the first pair, or none is -/
theorem inP_cons {p : Int × Int} {P : List (Int × Int)} {A : List Lk} (hP : (p :: P).Pairwise prB) (h : InP (p :: P) A) :
    (∃ x A', A = x :: A' ∧ (x.u, x.v) = p ∧ InP P A' ∧ (∀ y ∈ A', ¬ (y.u = p.1 ∧ y.v = p.2)) ∧ fnd A p.1 p.2 = some x ∧ ∀ q ∈ P, fnd A q.1 q.2 = fnd A' q.1 q.2) ∨ (InP P A ∧ fnd A p.1 p.2 = none ∧ ∀ x ∈ A, prB p (x.u, x.v)) := by
  obtain ⟨h1, h2⟩ := h
  obtain ⟨p1, p2⟩ := List.pairwise_cons.1 hP
  cases A with
  | nil => exact .inr ⟨⟨List.Pairwise.nil, by simp⟩, rfl, by simp⟩
  | cons x A =>
    obtain ⟨a1, a2⟩ := List.pairwise_cons.1 h1
    rcases List.mem_cons.1 (h2 x List.mem_cons_self) with he | hx
    · left
      have hne : ∀ y ∈ A, ¬ (y.u = p.1 ∧ y.v = p.2) := fun y hy hh => by
        have := a1 y hy
        rw [lkB_iff] at this
        rw [← he] at hh
        dsimp only at hh
        omega
      refine ⟨x, A, rfl, he, ⟨a2, fun y hy => ?_⟩, hne, ?_, fun q hq => ?_⟩
      · rcases List.mem_cons.1 (h2 y (List.mem_cons_of_mem _ hy)) with e | hy2
        · exact absurd ⟨by rw [← e], by rw [← e]⟩ (hne y hy)
        · exact hy2
      · rw [← he]; exact fnd_head _ _
      · refine fnd_skip fun hh => ?_
        have := p1 q hq
        rw [← he] at this
        unfold prB at this
        dsimp only at this
        omega
    · right
      have hb : ∀ y ∈ x :: A, prB p (y.u, y.v) := fun y hy => by
        have hx2 := p1 _ hx
        rcases List.mem_cons.1 hy with rfl | hy
        · exact hx2
        · have := a1 y hy
          rw [lkB_iff] at this
          unfold prB at hx2 ⊢
          dsimp only at hx2 ⊢
          omega
      refine ⟨⟨h1, fun y hy => ?_⟩, fnd_none fun y hy hh => ?_, hb⟩
      · rcases List.mem_cons.1 (h2 y hy) with e | hy2
        · have := hb y hy
          rw [e] at this
          unfold prB at this
          omega
        · exact hy2
      · have := hb y hy
        unfold prB at this
        dsimp only at this
        omega
theorem setEv_same {x y : Lk} {t : Int} (h : sameE x y = true) : setEv x t = setEv y t ↔ sameA x y = true := by
  rw [sameE_iff] at h
  unfold setEv sameA
  simp [h.1, h.2, and_assoc]
/-- both ways of going through the links give the same changes -/
theorem mrg_pairs (t : Int) : ∀ (P : List (Int × Int)) (A B : List Lk), P.Pairwise prB → InP P A → InP P B → mrg t A B = P.flatMap fun p => bet1 t A B p.1 p.2 := by
  intro P
  induction P with
  | nil =>
    intro A B _ hA hB
    have e1 : A = [] := List.eq_nil_iff_forall_not_mem.2 fun x hx => by simpa using hA.2 x hx
    have e2 : B = [] := List.eq_nil_iff_forall_not_mem.2 fun x hx => by simpa using hB.2 x hx
    rw [e1, e2, mrg]
    rfl
  | cons p P ih =>
    intro A B hP hA hB
    have hP2 := (List.pairwise_cons.1 hP).2
    rw [List.flatMap_cons]
    have go : ∀ (A' B' : List Lk), InP P A' → InP P B' → (∀ q ∈ P, fnd A q.1 q.2 = fnd A' q.1 q.2) → (∀ q ∈ P, fnd B q.1 q.2 = fnd B' q.1 q.2) → P.flatMap (fun p => bet1 t A B p.1 p.2) = mrg t A' B' := fun A' B' hA' hB' h1 h2 => by
      rw [ih A' B' hP2 hA' hB']
      rw [List.flatMap_def, List.flatMap_def]
      congr 1
      exact List.map_congr_left fun q hq => bet1_congr (h1 q hq) (h2 q hq)
    rcases inP_cons hP hA with ⟨x, A', eA, ex, hA', -, hfA, hqA⟩ | ⟨hA', hfA, hbA⟩ <;> rcases inP_cons hP hB with ⟨y, B', eB, ey, hB', -, hfB, hqB⟩ | ⟨hB', hfB, hbB⟩
    · have hs : sameE x y = true := by rw [sameE_iff]; rw [← ey] at ex; exact ⟨congrArg Prod.fst ex, congrArg Prod.snd ex⟩
      have hnb : ¬ lkB x y = true := by rw [lkB_iff]; rw [sameE_iff] at hs; omega
      rw [go A' B' hA' hB' hqA hqB]
      unfold bet1
      rw [hfA, hfB, eA, eB, mrg, if_neg hnb, if_pos hs]
      dsimp only
      by_cases ha : sameA x y = true
      · rw [if_pos ha, if_pos ((setEv_same hs).2 ha)]; rfl
      · rw [if_neg ha, if_neg fun h => ha ((setEv_same hs).1 h)]; rfl
    · rw [go A' B hA' hB' hqA (fun _ _ => rfl)]
      unfold bet1
      rw [hfA, hfB, eA]
      dsimp only
      cases B with
      | nil => rw [mrg]; rfl
      | cons y B =>
        have hb := hbB y List.mem_cons_self
        rw [← ex] at hb
        rw [mrg, if_pos (by rw [lkB_iff]; exact hb)]
        rfl
    · rw [go A B' hA' hB' (fun _ _ => rfl) hqB]
      unfold bet1
      rw [hfA, hfB, eB]
      dsimp only
      cases A with
      | nil => rw [mrg]; rfl
      | cons x A =>
        have hb := hbA x List.mem_cons_self
        rw [← ey] at hb
        unfold prB at hb
        dsimp only at hb
        rw [mrg, if_neg (by rw [lkB_iff]; omega), if_neg (by rw [sameE_iff]; omega)]
        rfl
    · rw [go A B hA' hB' (fun _ _ => rfl) (fun _ _ => rfl)]
      unfold bet1
      rw [hfA, hfB]
      rfl
theorem vst_inP {n : Int} {A : List Lk} (h : VSt n A) : InP (prU n 0 n.toNat) A := by
  obtain ⟨h0, h1, h2, h3⟩ := h
  refine ⟨h3, fun x hx => ?_⟩
  rw [prU_mem n n.toNat 0 _ (by omega)]
  obtain ⟨a, b, c, -⟩ := h2 x hx
  exact ⟨a, b, c⟩
/-- the changes between two valid states -/
theorem mrg_bet {n t : Int} {A B : List Lk} (hA : VSt n A) (hB : VSt n B) : mrg t A B = betU t n A B 0 n.toNat := by
  rw [betU_pr]
  have := hA.1
  exact mrg_pairs t _ A B (prU_up n n.toNat 0 (by omega)) (vst_inP hA) (vst_inP hB)
/-- the same links but for times -/
def noT (l : Lk) : Lk := { l with time := 0 }
theorem setL_mid {D R : List Lk} {y : Lk} (hD : ∀ d ∈ D, lkB d y = true) : setL y (D ++ R) = D ++ setL y R := by
  induction D with
  | nil => rfl
  | cons d D ih =>
    have := hD d List.mem_cons_self
    rw [lkB_iff] at this
    rw [List.cons_append, List.cons_append, ← ih fun x hx => hD x (List.mem_cons_of_mem _ hx)]
    conv => lhs; unfold setL
    rw [if_neg (by rw [lkB_iff]; omega), if_neg (by rw [sameE_iff]; omega)]
theorem ofEv_set {n : Int} {y : Lk} (h : LkOk n y) (t : Int) : ofEv (setEv y t) = { y with time := t } := by
  have := h.2.1
  unfold ofEv setEv
  dsimp only
  rw [Int.min_eq_left (by omega), Int.max_eq_right (by omega)]
theorem foldS_cons (ls : List Lk) (e : Ev) (es : List Ev) : foldS ls (e :: es) = foldS (stepL e ls) es := rfl
theorem step_cut {n t : Int} {D A : List Lk} {x : Lk} (hx : LkOk n x) (h : (D ++ x :: A).Pairwise fun a b => lkB a b = true) : stepL (cutEv x t) (D ++ x :: A) = D ++ A := by
  unfold stepL
  rw [if_neg (by simp [cutEv]), List.filter_append, List.filter_cons]
  obtain ⟨h1, h2, h3⟩ := List.pairwise_append.1 h
  obtain ⟨h4, h5⟩ := List.pairwise_cons.1 h2
  rw [if_neg (by simp [(gone_cut (t := t) hx).2 ⟨rfl, rfl⟩])]
  rw [List.filter_eq_self.2, List.filter_eq_self.2]
  · intro y hy
    have := h4 y hy
    rw [lkB_iff] at this
    cases hg : goneB (cutEv x t) y with
    | false => rfl
    | true => have := (gone_cut hx).1 hg; omega
  · intro y hy
    have := h3 y hy x List.mem_cons_self
    rw [lkB_iff] at this
    cases hg : goneB (cutEv x t) y with
    | false => rfl
    | true => have := (gone_cut hx).1 hg; omega
theorem mrg_leads (n t : Int) : ∀ (k : Nat) (A B D : List Lk), A.length + B.length = k → (D ++ A).Pairwise (fun a b => lkB a b = true) → (∀ d ∈ D, ∀ b ∈ B, lkB d b = true) → B.Pairwise (fun a b => lkB a b = true) → (∀ x ∈ A, LkOk n x) → (∀ x ∈ B, LkOk n x) →
    ∃ R, foldS (D ++ A) (mrg t A B) = D ++ R ∧ R.map noT = B.map noT := by
  intro k
  induction k using Nat.strongRecOn with
  | _ k ih =>
    intro A B D hk hs hD hB hoA hoB
    have set1 : ∀ (A' ys : List Lk) (y : Lk), B = y :: ys → stepL (setEv y t) (D ++ A) = D ++ { y with time := t } :: A' → (∀ a ∈ A', lkB y a = true) → A'.Sublist A → (∃ R, foldS (D ++ A) (setEv y t :: mrg t A' ys) = D ++ R ∧ R.map noT = B.map noT) := by
      intro A' ys y eB hst hya hsub
      obtain ⟨b1, b2⟩ := List.pairwise_cons.1 (eB ▸ hB)
      obtain ⟨d1, d2, d3⟩ := List.pairwise_append.1 hs
      have hup : ∀ a b : Lk, lkB a b = true → lkB a { b with time := t } = true := fun a b h => by rw [lkB_iff] at h ⊢; exact h
      have hup2 : ∀ a b : Lk, lkB a b = true → lkB { a with time := t } b = true := fun a b h => by rw [lkB_iff] at h ⊢; exact h
      have hlen := hsub.length_le
      obtain ⟨R, hR1, hR2⟩ := ih (A'.length + ys.length) (by rw [← hk, eB, List.length_cons]; omega) A' ys (D ++ [{ y with time := t }]) rfl (by
        rw [List.append_assoc]
        refine List.pairwise_append.2 ⟨d1, List.pairwise_cons.2 ⟨fun a ha => hup2 _ _ (hya a ha), d2.sublist hsub⟩, fun d hd a ha => ?_⟩
        rcases List.mem_cons.1 ha with e | ha
        · rw [e]; exact hup _ _ (hD d hd y (by rw [eB]; exact List.mem_cons_self))
        · exact d3 d hd a (hsub.subset ha)) (fun d hd b hb => by
          rcases List.mem_append.1 hd with hd | hd
          · exact hD d hd b (by rw [eB]; exact List.mem_cons_of_mem _ hb)
          · rw [List.mem_singleton.1 hd]; exact hup2 _ _ (b1 b hb)) b2 (fun x hx => hoA x (hsub.subset hx)) (fun x hx => hoB x (by rw [eB]; exact List.mem_cons_of_mem _ hx))
      refine ⟨{ y with time := t } :: R, ?_, by rw [eB, List.map_cons, List.map_cons, hR2]; rfl⟩
      rw [foldS_cons, hst]
      rw [List.append_assoc] at hR1
      rw [List.append_assoc] at hR1
      exact hR1
    have cut1 : ∀ (xs : List Lk) (x : Lk), A = x :: xs → ∃ R, foldS (D ++ A) (cutEv x t :: mrg t xs B) = D ++ R ∧ R.map noT = B.map noT := by
      intro xs x eA
      obtain ⟨d1, d2, d3⟩ := List.pairwise_append.1 hs
      obtain ⟨R, hR1, hR2⟩ := ih (xs.length + B.length) (by rw [← hk, eA, List.length_cons]; omega) xs B D rfl (by
        refine List.pairwise_append.2 ⟨d1, (List.pairwise_cons.1 (eA ▸ d2)).2, fun d hd a ha => d3 d hd a (by rw [eA]; exact List.mem_cons_of_mem _ ha)⟩) hD hB (fun y hy => hoA y (by rw [eA]; exact List.mem_cons_of_mem _ hy)) hoB
      refine ⟨R, ?_, hR2⟩
      rw [foldS_cons, eA, step_cut (hoA x (by rw [eA]; exact List.mem_cons_self)) (eA ▸ hs)]
      exact hR1
    match hA2 : A, hB2 : B with
    | [], [] => exact ⟨[], by rw [mrg]; rfl, rfl⟩
    | x :: xs, [] => rw [mrg]; exact cut1 xs x rfl
    | [], y :: ys =>
      rw [mrg]
      have hy := hoB y List.mem_cons_self
      refine set1 [] ys y rfl ?_ (by simp) (List.Sublist.refl _)
      unfold stepL
      rw [if_pos (by rfl), ofEv_set hy, setL_mid fun d hd => by have := hD d hd y List.mem_cons_self; rw [lkB_iff] at this ⊢; exact this]
      rfl
    | x :: xs, y :: ys =>
      have hy := hoB y List.mem_cons_self
      rw [mrg]
      obtain ⟨d1, d2, d3⟩ := List.pairwise_append.1 hs
      obtain ⟨x1, x2⟩ := List.pairwise_cons.1 d2
      have hset : stepL (setEv y t) (D ++ x :: xs) = D ++ setL { y with time := t } (x :: xs) := by
        unfold stepL
        rw [if_pos (by rfl), ofEv_set hy, setL_mid fun d hd => by have := hD d hd y List.mem_cons_self; rw [lkB_iff] at this ⊢; exact this]
      by_cases h1 : lkB x y = true
      · rw [if_pos h1]; exact cut1 xs x rfl
      · rw [if_neg h1]
        by_cases h2 : sameE x y = true
        · rw [if_pos h2]
          rw [sameE_iff] at h2
          have hyx : ∀ a ∈ xs, lkB y a = true := fun a ha => by have := x1 a ha; rw [lkB_iff] at this ⊢; omega
          by_cases h3 : sameA x y = true
          · rw [if_pos h3]
            obtain ⟨b1, b2⟩ := List.pairwise_cons.1 hB
            obtain ⟨R, hR1, hR2⟩ := ih (xs.length + ys.length) (by rw [← hk, List.length_cons, List.length_cons]; omega) xs ys (D ++ [x]) rfl (by rw [List.append_assoc]; exact hs) (fun d hd b hb => by
              rcases List.mem_append.1 hd with hd | hd
              · exact hD d hd b (List.mem_cons_of_mem _ hb)
              · rw [List.mem_singleton.1 hd]; have := b1 b hb; rw [lkB_iff] at this ⊢; omega) b2 (fun a ha => hoA a (List.mem_cons_of_mem _ ha)) (fun a ha => hoB a (List.mem_cons_of_mem _ ha))
            refine ⟨x :: R, ?_, ?_⟩
            · rw [List.append_assoc, List.append_assoc] at hR1; exact hR1
            · rw [List.map_cons, List.map_cons, hR2]
              congr 1
              unfold sameA at h3
              simp only [Bool.and_eq_true, decide_eq_true_eq] at h3
              unfold noT
              rw [h2.1, h2.2, h3.1.1, h3.1.2, h3.2]
          · rw [if_neg h3]
            refine set1 xs ys y rfl ?_ hyx (List.sublist_cons_self _ _)
            rw [hset]
            unfold setL
            rw [if_neg (by rw [lkB_iff]; dsimp only; omega), if_pos (by rw [sameE_iff]; exact h2)]
        · rw [if_neg h2]
          have hyx : lkB y x = true := by rw [sameE_iff] at h2; rw [lkB_iff] at h1 ⊢; omega
          refine set1 (x :: xs) ys y rfl ?_ (fun a ha => ?_) (List.Sublist.refl _)
          · rw [hset]
            unfold setL
            rw [if_pos (by rw [lkB_iff] at hyx ⊢; exact hyx)]
          · rcases List.mem_cons.1 ha with e | ha
            · rw [e]; exact hyx
            · exact lkB_trans hyx (x1 a ha)
/-- the changes fit -/
theorem fit_setL {n t : Int} {l : Lk} (hn : n ≤ 64) (h : LkOk n l) (ht : 0 ≤ t) (ht2 : t ≤ 1048576) : fitS n (setEv l t) = 0 := by
  obtain ⟨h1, h2, h3, h4, -⟩ := h
  have e1 : evS (setEv l t) = 0 := by
    have a1 := node_in (n := n) (by omega : 0 ≤ l.u) (by omega) hn
    have a2 := node_in (n := n) (by omega : 0 ≤ l.v) (by omega) hn
    have a3 : l.u ≠ l.v := by omega
    have a4 : ¬(t < 0 ∨ 1048576 < t) := by omega
    unfold evS setEv
    dsimp only
    rw [if_neg (by omega), if_neg a4, if_neg (by simp [evEnds, a1, a2, a3]), if_pos rfl, if_pos h4]
  unfold fitS
  rw [if_neg (by simp [e1]), if_neg (by unfold setEv; dsimp only; omega)]
theorem mrg_fit {n t : Int} (hn : n ≤ 64) (ht : 0 ≤ t) (ht2 : t ≤ 1048576) : ∀ (k : Nat) (A B : List Lk), A.length + B.length = k → (∀ x ∈ A, LkOk n x) → (∀ x ∈ B, LkOk n x) → (∀ e ∈ mrg t A B, fitS n e = 0) ∧ (mrg t A B).length ≤ k := by
  intro k
  induction k using Nat.strongRecOn with
  | _ k ih =>
    intro A B hk hA hB
    have one : ∀ (e : Ev) (A' B' : List Lk), fitS n e = 0 → A'.length + B'.length < k → A' ⊆ A → B' ⊆ B → (∀ e' ∈ e :: mrg t A' B', fitS n e' = 0) ∧ (e :: mrg t A' B').length ≤ k := fun e A' B' he hl sA sB => by
      obtain ⟨h1, h2⟩ := ih (A'.length + B'.length) hl A' B' rfl (fun x hx => hA x (sA hx)) (fun x hx => hB x (sB hx))
      refine ⟨fun e' he' => ?_, by rw [List.length_cons]; omega⟩
      rcases List.mem_cons.1 he' with rfl | h
      · exact he
      · exact h1 e' h
    match hA2 : A, hB2 : B with
    | [], [] => rw [mrg]; exact ⟨by simp, by simp⟩
    | x :: xs, [] => rw [mrg]; exact one _ _ _ (fit_cutL hn (hA x List.mem_cons_self) ht ht2) (by simp at hk; simp; omega) (List.subset_cons_self _ _) (fun _ h => h)
    | [], y :: ys => rw [mrg]; exact one _ _ _ (fit_setL hn (hB y List.mem_cons_self) ht ht2) (by simp at hk; simp; omega) (fun _ h => h) (List.subset_cons_self _ _)
    | x :: xs, y :: ys =>
      rw [mrg]
      simp only [List.length_cons] at hk
      split
      · exact one _ _ _ (fit_cutL hn (hA x List.mem_cons_self) ht ht2) (by simp; omega) (List.subset_cons_self _ _) (fun _ h => h)
      · split
        · split
          · obtain ⟨h1, h2⟩ := ih (xs.length + ys.length) (by omega) xs ys rfl (fun x hx => hA x (List.mem_cons_of_mem _ hx)) (fun x hx => hB x (List.mem_cons_of_mem _ hx))
            exact ⟨h1, by omega⟩
          · exact one _ _ _ (fit_setL hn (hB y List.mem_cons_self) ht ht2) (by omega) (List.subset_cons_self _ _) (List.subset_cons_self _ _)
        · exact one _ _ _ (fit_setL hn (hB y List.mem_cons_self) ht ht2) (by simp; omega) (fun _ h => h) (List.subset_cons_self _ _)
/-- the changes lead from one state to the other one, but for times -/
theorem bet_leads {n t : Int} {A B : List Lk} (hA : VSt n A) (hB : VSt n B) (ht : 0 ≤ t) (ht2 : t ≤ 1048576) :
    ∃ (R : List Lk) (k : Int), allX n A (mrg t A B) = ((n, R), k, 0) ∧ R.map noT = B.map noT := by
  obtain ⟨h1, h2⟩ := mrg_fit hA.2.1 ht ht2 _ A B rfl hA.2.2.1 hB.2.2.1
  obtain ⟨R, hR, hR2⟩ := mrg_leads n t _ A B [] rfl hA.2.2.2 (by simp) hB.2.2.2 hA.2.2.1 hB.2.2.1
  obtain ⟨k, hk⟩ := all_fold (n := n) (mrg t A B) A 0 0 hA h1
  refine ⟨R, k, ?_, hR2⟩
  unfold allX
  rw [if_neg (by rw [(stS_iff n A).2 hA]; simp), hk]
  rw [List.nil_append, List.nil_append] at hR
  rw [hR]
end Go.Proofs.Ytpblaoeaeljmhaa
