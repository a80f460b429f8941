/- The times of changes as the reference reckons them: the plain law. -/
import Derived.Test.YtpblaoeaeljmhaaHisStandsP
namespace Go.Proofs.Ytpblaoeaeljmhaa
open Go.RowKit

theorem putS_above {l : List Int} {t : Int} (h : ∀ x ∈ l, x < t) : putS l t = l ++ [t] := by
  induction l with
  | nil => rfl
  | cons x l ih => unfold putS; rw [if_pos (h x List.mem_cons_self), ih fun y hy => h y (List.mem_cons_of_mem _ hy)]; rfl
theorem putS_last {l : List Int} {t : Int} (h : ∀ x ∈ l, x < t) : putS (l ++ [t]) t = l ++ [t] := by
  induction l with
  | nil => rw [List.nil_append]; simp [putS]
  | cons x l ih => rw [List.cons_append]; unfold putS; rw [if_pos (h x List.mem_cons_self), ih fun y hy => h y (List.mem_cons_of_mem _ hy)]
theorem fold_up : ∀ (l acc : List Int), (acc ++ l).Pairwise (· < ·) → l.foldl putS acc = acc ++ l := by
  intro l
  induction l with
  | nil => intro acc _; simp
  | cons x l ih =>
    intro acc h
    have h1 := (List.pairwise_append.1 h).2.2
    rw [List.foldl_cons, putS_above fun y hy => h1 y hy x List.mem_cons_self, ih _ (by rw [List.append_assoc]; exact h), List.append_assoc]
    rfl
theorem ofS_snoc {l : List Int} (h : l.Pairwise (· < ·)) (t : Int) : ofS (l ++ [t]) = putS l t := by
  unfold ofS
  rw [List.foldl_append, fold_up l [] (by simpa using h)]
  rfl
/-- the times of changes, as the reference reckons them -/
def rtF : List Lk → List Int → List Ev → List Int
  | _, out, [] => out
  | ls, out, e :: es => rtF (stepL e ls) (if 0 < (stepC e ls).length then ofS (out ++ [e.time]) else out) es
theorem rtF_eq : ∀ (es : List Ev) (ls : List Lk) (ch : Bool) (pre : List Int) (e : Ev), (e :: es).Pairwise (fun a b => a.time ≤ b.time) → pre.Pairwise (· < ·) → (∀ x ∈ pre, x < e.time) →
    rtF ls (if ch = true then pre ++ [e.time] else pre) (e :: es) = pre ++ timesF (verF ls ch (e :: es)) := by
  intro es
  induction es with
  | nil =>
    intro ls ch pre e hp hs hl
    have hv : verF ls ch [e] = [(e.time, stepL e ls, ch || decide (0 < (stepC e ls).length))] := rfl
    have hr : ∀ out, rtF ls out [e] = if 0 < (stepC e ls).length then ofS (out ++ [e.time]) else out := fun _ => rfl
    have hs2 : (pre ++ [e.time]).Pairwise (· < ·) := List.pairwise_append.2 ⟨hs, List.pairwise_singleton _ _, fun a ha b hb => by rw [List.mem_singleton.1 hb]; exact hl a ha⟩
    rw [hv, hr, timesF_cons]
    cases ch with
    | true =>
      simp only [Bool.true_or, ↓reduceIte]
      split
      · rw [ofS_snoc hs2, putS_last hl]; rfl
      · rfl
    | false =>
      rw [show (if (false : Bool) = true then pre ++ [e.time] else pre) = pre from if_neg (by simp)]
      by_cases hc : 0 < (stepC e ls).length
      · rw [if_pos hc, if_pos (by simpa using hc), ofS_snoc hs, putS_above hl]; rfl
      · rw [if_neg hc, if_neg (by simpa using hc)]; simp [timesF]
  | cons e2 es ih =>
    intro ls ch pre e hp hs hl
    obtain ⟨p1, p2⟩ := List.pairwise_cons.1 hp
    have h12 := p1 e2 List.mem_cons_self
    have hs2 : (pre ++ [e.time]).Pairwise (· < ·) := List.pairwise_append.2 ⟨hs, List.pairwise_singleton _ _, fun a ha b hb => by rw [List.mem_singleton.1 hb]; exact hl a ha⟩
    have hr : ∀ out, rtF ls out (e :: e2 :: es) = rtF (stepL e ls) (if 0 < (stepC e ls).length then ofS (out ++ [e.time]) else out) (e2 :: es) := fun _ => rfl
    have hout : (if 0 < (stepC e ls).length then ofS ((if ch = true then pre ++ [e.time] else pre) ++ [e.time]) else (if ch = true then pre ++ [e.time] else pre)) = if (ch || decide (0 < (stepC e ls).length)) = true then pre ++ [e.time] else pre := by
      cases ch with
      | true =>
        simp only [Bool.true_or, ↓reduceIte]
        split
        · rw [ofS_snoc hs2, putS_last hl]
        · rfl
      | false =>
        rw [show (if (false : Bool) = true then pre ++ [e.time] else pre) = pre from if_neg (by simp)]
        by_cases hc : 0 < (stepC e ls).length
        · rw [if_pos hc, if_pos (by simpa using hc), ofS_snoc hs, putS_above hl]
        · rw [if_neg hc, if_neg (by simpa using hc)]
    rw [hr, hout]
    by_cases ht : e2.time = e.time
    · have hv : verF ls ch (e :: e2 :: es) = verF (stepL e ls) (ch || decide (0 < (stepC e ls).length)) (e2 :: es) := by
        rw [verF, if_pos (by simpa using ht)]
      rw [hv, ← ht]
      exact ih _ _ pre e2 p2 hs fun x hx => by rw [ht]; exact hl x hx
    · have hv : verF ls ch (e :: e2 :: es) = (e.time, stepL e ls, ch || decide (0 < (stepC e ls).length)) :: verF (stepL e ls) false (e2 :: es) := by
        rw [verF, if_neg (by simpa using ht)]
      rw [hv, timesF_cons]
      have h := fun pr h1 h2 => ih (stepL e ls) false pr e2 p2 h1 h2
      cases hc : (ch || decide (0 < (stepC e ls).length)) with
      | true =>
        rw [if_pos rfl, if_pos (by rfl)]
        have h2 := h (pre ++ [e.time]) hs2 (fun x hx => by
          rcases List.mem_append.1 hx with hx | hx
          · have := hl x hx; omega
          · rw [List.mem_singleton.1 hx]; omega)
        rw [if_neg (by simp)] at h2
        rw [h2, List.append_assoc]; rfl
      | false =>
        rw [if_neg (by simp), if_neg (by simp)]
        have h2 := h pre hs (fun x hx => by have := hl x hx; omega)
        rw [if_neg (by simp)] at h2
        exact h2
theorem rtF_all (es : List Ev) (h : es.Pairwise fun a b => a.time ≤ b.time) : rtF [] [] es = timesF (verF [] false es) := by
  cases es with
  | nil => rfl
  | cons e es => have := rtF_eq es [] false [] e h List.Pairwise.nil (by simp); rw [if_neg (by simp)] at this; exact this
theorem rtF_len : ∀ (es : List Ev) (ls : List Lk) (out : List Int), (rtF ls out es).length ≤ out.length + es.length := by
  intro es
  induction es with
  | nil => intro ls out; exact Nat.le_refl _
  | cons e es ih =>
    intro ls out
    have h := ih (stepL e ls) (if 0 < (stepC e ls).length then ofS (out ++ [e.time]) else out)
    have h2 := ofS_length (out ++ [e.time])
    rw [List.length_append] at h2
    rw [show rtF ls out (e :: es) = rtF (stepL e ls) (if 0 < (stepC e ls).length then ofS (out ++ [e.time]) else out) es from rfl, List.length_cons]
    simp only [List.length_cons, List.length_nil] at h2
    by_cases hc : 0 < (stepC e ls).length
    · rw [if_pos hc] at h ⊢; omega
    · rw [if_neg hc] at h ⊢; omega
theorem his_up {n : Int} : ∀ (es : List Ev) (last : Int), hisL n last es = 0 → (∀ e ∈ es, last ≤ e.time ∧ fitS n e = 0) ∧ es.Pairwise (fun a b => a.time ≤ b.time) := by
  intro es
  induction es with
  | nil => intro last _; exact ⟨by simp, List.Pairwise.nil⟩
  | cons e es ih =>
    intro last h
    unfold hisL at h
    split at h
    · rename_i h1; exact absurd h h1
    · rename_i h1
      split at h
      · simp at h
      · rename_i h2
        obtain ⟨h3, h4⟩ := ih e.time h
        refine ⟨fun x hx => ?_, List.pairwise_cons.2 ⟨fun x hx => (h3 x hx).1, h4⟩⟩
        rcases List.mem_cons.1 hx with rfl | hx
        · exact ⟨by omega, by simpa using h1⟩
        · have := h3 x hx; exact ⟨by omega, this.2⟩
theorem his_valid {n : Int} {es : List Ev} (h : hisS n es = 0) : 0 ≤ n ∧ n ≤ 64 ∧ es.length ≤ 65536 ∧ (∀ e ∈ es, fitS n e = 0) ∧ es.Pairwise (fun a b => a.time ≤ b.time) := by
  unfold hisS at h
  split at h
  · simp at h
  · split at h
    · simp at h
    · obtain ⟨h1, h2⟩ := his_up es 0 h
      exact ⟨by omega, by omega, by omega, fun e he => (h1 e he).2, h2⟩
end Go.Proofs.Ytpblaoeaeljmhaa
