/- What ref05.Apply reckons, in plain words, and that it is the step of the program. -/
import Derived.Test.YtpblaoeaeljmhaaDoorLkChgP
namespace Go.Proofs.YtpblaoeaeljmhaaDoor
open Go.RowKit

/-- the loop of ref05.Apply, from a state on -/
def rapp (e : Ev) (n : Lk) : List Lk → List Lk → List Ev → Bool → List Lk × List Ev
  | [], K, C, d => if d = true then (K, C) else (K ++ [n], C ++ [setEv n e.time])
  | l :: ls, K, C, d =>
    if e.kind = 1 ∧ sameE l n = true then
      rapp e n ls ((if (!d && lkB n l) = true then K ++ [n] else K) ++ [n]) (if l = n then (if (!d && lkB n l) = true then C ++ [setEv n e.time] else C) else (if (!d && lkB n l) = true then C ++ [setEv n e.time] else C) ++ [setEv n e.time]) true
    else if (e.kind = 2 ∧ sameE l n = true) ∨ (e.kind = 3 ∧ (l.u = e.u ∨ l.v = e.u)) then
      rapp e n ls (if (!d && lkB n l) = true then K ++ [n] else K) ((if (!d && lkB n l) = true then C ++ [setEv n e.time] else C) ++ [cutEv l e.time]) (d || lkB n l)
    else
      rapp e n ls ((if (!d && lkB n l) = true then K ++ [n] else K) ++ [l]) (if (!d && lkB n l) = true then C ++ [setEv n e.time] else C) (d || lkB n l)
theorem rapp_cut {e : Ev} (hk : 1 ≤ e.kind ∧ e.kind ≤ 3) (h1 : e.kind ≠ 1) : ∀ (ls K : List Lk) (C : List Ev), rapp e (ofEv e) ls K C true = (K ++ ls.filter (fun l => !goneB e l), C ++ (ls.filter (goneB e)).map fun l => cutEv l e.time) := by
  intro ls
  induction ls with
  | nil => intro K C; simp [rapp]
  | cons l ls ih =>
    intro K C
    unfold rapp
    rw [if_neg (fun h => h1 h.1)]
    simp only [Bool.not_true, Bool.false_and, Bool.true_or, if_neg (show ¬ (false = true) by decide)]
    have hg : ((e.kind = 2 ∧ sameE l (ofEv e) = true) ∨ (e.kind = 3 ∧ (l.u = e.u ∨ l.v = e.u))) ↔ goneB e l = true := by
      unfold goneB
      rw [sameE_iff]
      by_cases h2 : e.kind = 2
      · rw [if_pos h2]; simp [h2, ofEv]
      · rw [if_neg h2]
        have h3 : e.kind = 3 := by omega
        simp [h3]
    by_cases hgb : goneB e l = true
    · rw [if_pos (hg.2 hgb), ih, List.filter_cons_of_neg (by simp [hgb]), List.filter_cons_of_pos hgb]
      simp
    · rw [if_neg (fun h => hgb (hg.1 h)), ih, List.filter_cons_of_pos (by simpa using hgb), List.filter_cons_of_neg hgb]
      simp
theorem rapp_done {e : Ev} (h1 : e.kind = 1) : ∀ (ls K : List Lk) (C : List Ev), (∀ l ∈ ls, lkB (ofEv e) l = true) → rapp e (ofEv e) ls K C true = (K ++ ls, C) := by
  intro ls
  induction ls with
  | nil => intro K C _; simp [rapp]
  | cons l ls ih =>
    intro K C h
    have hl := (lkB_not (h l List.mem_cons_self)).2.2
    unfold rapp
    rw [if_neg (fun h => by rw [hl] at h; exact absurd h.2 (by decide)), if_neg (fun h => by omega)]
    simp only [Bool.not_true, Bool.false_and, Bool.true_or, if_neg (show ¬ (false = true) by decide)]
    rw [ih _ _ fun x hx => h x (List.mem_cons_of_mem _ hx)]
    simp
theorem rapp_set {e : Ev} (h1 : e.kind = 1) : ∀ (ls K : List Lk) (C : List Ev), ls.Pairwise (fun a b => lkB a b = true) →
    rapp e (ofEv e) ls K C false = (K ++ setL (ofEv e) ls, C ++ if ofEv e ∈ ls then [] else [setEv (ofEv e) e.time]) := by
  intro ls
  induction ls with
  | nil => intro K C _; simp [rapp, setL]
  | cons l ls ih =>
    intro K C hs
    obtain ⟨hl, hs2⟩ := List.pairwise_cons.1 hs
    unfold rapp setL
    by_cases hb : lkB (ofEv e) l = true
    · have hn := lkB_not hb
      have hbt : (!false && lkB (ofEv e) l) = true := by simp [hb]
      rw [if_neg (fun h => by rw [hn.2.2] at h; exact absurd h.2 (by decide)), if_neg (fun h => by omega), if_pos hbt, if_pos hbt, if_pos hb]
      rw [show (false || lkB (ofEv e) l) = true by simp [hb], rapp_done h1 _ _ _ fun x hx => lkB_trans hb (hl x hx)]
      have hm : ofEv e ∉ l :: ls := fun h => by
        rcases List.mem_cons.1 h with h | h
        · rw [← h, lkB_irrefl] at hb; cases hb
        · have := lkB_trans hb (hl _ h); rw [lkB_irrefl] at this; cases this
      rw [if_neg hm]
      simp
    · have hb' : lkB (ofEv e) l = false := by simpa using hb
      have hbf : ¬ (!false && lkB (ofEv e) l) = true := by simp [hb']
      rw [if_neg hb]
      by_cases hsm : sameE l (ofEv e) = true
      · rw [if_pos ⟨h1, hsm⟩, if_pos hsm, if_neg hbf, if_neg hbf]
        have hlt : ∀ x ∈ ls, lkB (ofEv e) x = true := fun x hx => by
          have h2 := hl x hx
          have h3 := (sameE_iff _ _).1 hsm
          rw [lkB_iff] at h2 ⊢
          omega
        rw [rapp_done h1 _ _ _ hlt]
        by_cases he : l = ofEv e
        · rw [if_pos he, if_pos (by rw [he]; exact List.mem_cons_self)]
          simp
        · have hm : ofEv e ∉ l :: ls := fun h => by
            rcases List.mem_cons.1 h with h | h
            · exact he h.symm
            · have := hlt _ h; rw [lkB_irrefl] at this; cases this
          rw [if_neg he, if_neg hm]
          simp
      · rw [if_neg (fun h => hsm h.2), if_neg (fun h => by omega), if_neg hsm, if_neg hbf, if_neg hbf, hb', Bool.or_self, ih _ _ hs2]
        have hne : ofEv e ≠ l := fun h => hsm (by rw [sameE_iff, h]; exact ⟨rfl, rfl⟩)
        by_cases hm : ofEv e ∈ ls
        · rw [if_pos hm, if_pos (List.mem_cons_of_mem _ hm)]; simp
        · rw [if_neg hm, if_neg (fun h => (List.mem_cons.1 h).elim hne hm)]; simp
theorem rapp_drop {e : Ev} {nk y : Lk} {ls K K' : List Lk} {C C' : List Ev} {i : Nat} {d D2 : Bool} (h : ls[i]? = some y) (hD : (!d && lkB nk y) = D2) (hK : K' = if D2 = true then K ++ [nk] else K) (hC : C' = if D2 = true then C ++ [setEv nk e.time] else C) :
    rapp e nk (ls.drop i) K C d = if e.kind = 1 ∧ sameE y nk = true then rapp e nk (ls.drop (i + 1)) (K' ++ [nk]) (if y = nk then C' else C' ++ [setEv nk e.time]) true
      else if (e.kind = 2 ∧ sameE y nk = true) ∨ (e.kind = 3 ∧ (y.u = e.u ∨ y.v = e.u)) then rapp e nk (ls.drop (i + 1)) K' (C' ++ [cutEv y e.time]) (d || D2)
      else rapp e nk (ls.drop (i + 1)) (K' ++ [y]) C' (d || D2) := by
  have hd : (d || lkB nk y) = (d || D2) := by rw [← hD]; cases d <;> simp
  rw [drop_at ls i y h, hK, hC, ← hd, ← hD]
  rfl
/-- the whole loop -/
theorem rapp_all {n : Int} {e : Ev} {ls : List Lk} (hv : VSt n ls) (he : fitS n e = 0) : rapp e (ofEv e) ls [] [] (e.kind != 1) = (stepL e ls, stepC e ls) := by
  have hk := ev_kind (fit_zero he).1
  unfold stepL stepC
  by_cases h1 : e.kind = 1
  · rw [show (e.kind != 1) = false by simp [h1], rapp_set h1 _ _ _ hv.2.2.2, if_pos h1, if_pos h1]
    simp
  · rw [show (e.kind != 1) = true by simp [h1], rapp_cut hk h1, if_neg h1, if_neg h1]
    simp
end Go.Proofs.YtpblaoeaeljmhaaDoor
