/- A drawn region whose last operation waits for all others: that operation is put behind the rest. -/
import Derived.StillTail
import Derived.Deep.RegionHeld3
namespace Go.Proofs.YtpblaoeaeljmhaaDoor
open Go
section
variable {P : Program} {md : Region.Mode} {Q : Exit → Act → World → Prop}
/-- what is asked behind all operations but the last -/
def lastQ (P : Program) (L : List Oper) (Q : Exit → Act → World → Prop) (n : Nat) : Exit → Act → World → Prop
  | .normal, a, w => wpOp P L.toArray Q n (Q .normal) a w
  | e, a, w => Q e a w
def backB (L : List Oper) (n : Nat) : Bool :=
  (List.range (n + 1)).all fun i => match L[i]? with | some o => o.after.all (fun e => decide (e.on < i)) && o.guard.isNone | none => false
theorem backB_at {L : List Oper} {n i : Nat} (h : backB L n = true) (hi : i ≤ n) : ∃ o, L[i]? = some o ∧ o.guard = none ∧ ∀ e ∈ o.after, e.on < i := by
  have h1 := List.all_eq_true.1 h i (List.mem_range.2 (by omega))
  cases ho : L[i]? with
  | none => rw [ho] at h1; cases h1
  | some o =>
    rw [ho] at h1
    simp only [Bool.and_eq_true] at h1
    refine ⟨o, rfl, by simpa using h1.2, fun e he => ?_⟩
    have := Array.all_eq_true'.1 h1.1 e he
    simpa using this
theorem wpOp_peel {L : List Oper} {n i : Nat} {K K' : Act → World → Prop} {a : Act} {w : World} (hi : i < n) (hb : backB L n = true) (hK : ∀ a w, K a w → K' a w)
    (h : wpOp P (L.take n).toArray (lastQ P L Q n) i K a w) : wpOp P L.toArray Q i K' a w := by
  obtain ⟨o, ho, hgo, _⟩ := backB_at hb (Nat.le_of_lt hi)
  have e1 : L.toArray[i]? = some o := by rw [List.getElem?_toArray]; exact ho
  have e2 : (L.take n).toArray[i]? = some o := by rw [List.getElem?_toArray, List.getElem?_take, if_pos hi]; exact ho
  have wn : ∀ f, Region.wanted o f = true := by intro f; simp [Region.wanted, hgo]
  unfold wpOp at *
  simp only [e1, e2, wn, if_true] at h ⊢
  rcases h with h | ⟨h1, a2, w2, h2⟩
  · left
    unfold Oper.wp at *
    generalize (execOp a.eval o).run P w = r at *
    cases r with
    | ok nx w' =>
      cases nx <;> simp only [Oper.upon] at h ⊢ <;>
        first
          | exact hK _ _ h
          | exact Calls.mono h (fun e w'' he => by
              cases e <;>
                first
                  | exact hK _ _ he
                  | exact he)
          | exact Rows.mono h (fun _ _ he => hK _ _ he)
    | halt x w' => cases x <;> simp only [Oper.upon] at h ⊢ <;> exact h
  · exact .inr ⟨h1, a2, w2, h2⟩
theorem getD_push {l : Array Bool} {j : Nat} {d : Bool} (h : j < l.size) : (l.push false).getD j d = l.getD j d := by
  simp only [Array.getD_eq_getD_getElem?]
  rw [Array.getElem?_push_lt h, Array.getElem?_eq_getElem h]
theorem getD_push_false (l : Array Bool) (j : Nat) : (l.push false).getD j false = l.getD j false := by
  simp only [Array.getD_eq_getD_getElem?, Array.getElem?_push]
  split
  · rename_i h; subst h; simp
  · rfl
theorem set_push {l : Array Bool} {i : Nat} (h : i < l.size) : (l.push false).setIfInBounds i true = (l.setIfInBounds i true).push false := by
  apply Array.ext_getElem?
  intro j
  simp only [Array.getElem?_setIfInBounds, Array.getElem?_push, Array.size_push, Array.size_setIfInBounds]
  by_cases hij : i = j
  · subst hij
    simp [show i ≠ l.size by omega, show i < l.size + 1 by omega, h]
  · simp [hij]
theorem ready_take {L : List Oper} {n j : Nat} {listed : Array Bool} (hs : listed.size = n) (hj : j < n) :
    j ∈ Region.ready md L.toArray (listed.push false) ↔ j ∈ Region.ready md (L.take n).toArray listed := by
  rw [mem_ready, mem_ready, getD_push (by omega)]
  have e : (L.take n).toArray[j]? = L.toArray[j]? := by rw [List.getElem?_toArray, List.getElem?_toArray, List.getElem?_take, if_pos hj]
  rw [e]
  simp only [getD_push_false]
theorem some_ready {L : List Oper} {n : Nat} {listed : Array Bool} (hb : backB L n = true) (hs : listed.size = n) : ∀ i, i < n → listed.getD i true = false → ∃ j, j < n ∧ j ∈ Region.ready md (L.take n).toArray listed := by
  intro i
  induction i using Nat.strongRecOn with
  | _ i ih =>
    intro hi hu
    obtain ⟨o, ho, _, hbk⟩ := backB_at hb (Nat.le_of_lt hi)
    by_cases hall : ∀ e ∈ o.after, Region.binds md e = true → listed.getD e.on false = true
    · exact ⟨i, hi, mem_ready.2 ⟨hu, o, by rw [List.getElem?_toArray, List.getElem?_take, if_pos hi]; exact ho, hall⟩⟩
    · simp only [Classical.not_forall] at hall
      obtain ⟨e, he, _, hl⟩ := hall
      have hlt := hbk e he
      have hlt2 : e.on < listed.size := by omega
      refine ih e.on hlt (by omega) ?_
      simp only [Array.getD_eq_getD_getElem?, Array.getElem?_eq_getElem hlt2, Option.getD_some] at hl ⊢
      simpa using hl
theorem wpAny_last {L : List Oper} {n : Nat} (hn : n + 1 = L.length) (hb : backB L n = true) (fuel : Nat) (listed : Array Bool) (a : Act) (w : World) (hs : listed.size = n)
    (hall : ∀ i, i < n → listed.getD i true = true) (hq : wpOp P L.toArray Q n (Q .normal) a w) : wpAny P md L.toArray Q (fuel + 1) (listed.push false) a w := by
  obtain ⟨o, ho, _, hbk⟩ := backB_at hb (Nat.le_refl n)
  have hlf : ∀ j, j < n → listed.getD j false = true := fun j hj => by
    have := hall j hj
    have h2 : j < listed.size := by omega
    simp only [Array.getD_eq_getD_getElem?, Array.getElem?_eq_getElem h2, Option.getD_some] at this ⊢
    exact this
  have hun : (listed.push false).getD n true = false := by
    rw [Array.getD_eq_getD_getElem?, Array.getElem?_push, if_pos hs.symm]; rfl
  have hrn : n ∈ Region.ready md L.toArray (listed.push false) := mem_ready.2 ⟨hun, o, by rw [List.getElem?_toArray]; exact ho, fun e he _ => by rw [getD_push_false]; exact hlf _ (hbk e he)⟩
  refine ⟨fun h0 => (by rw [h0] at hrn; cases hrn), fun i hi => ?_⟩
  have hin : i = n := by
    obtain ⟨hui, oi, hoi, _⟩ := mem_ready.1 hi
    rw [List.getElem?_toArray] at hoi
    have hlt := (List.getElem?_eq_some_iff.1 hoi).1
    rcases Nat.lt_or_ge i n with h | h
    · rw [getD_push (by omega), hall i h] at hui; cases hui
    · omega
  subst hin
  refine wpOp_mono (fun a' w' hq' => ?_) hq
  have hr : Region.ready md L.toArray ((listed.push false).setIfInBounds i true) = [] := by
    rw [List.eq_nil_iff_forall_not_mem]
    intro j hj
    obtain ⟨hui, oi, hoi, _⟩ := mem_ready.1 hj
    rw [List.getElem?_toArray] at hoi
    have hlt := (List.getElem?_eq_some_iff.1 hoi).1
    rcases Nat.lt_or_ge j i with h | h
    · rw [getD_set_ne true (by omega), getD_push (by omega), hall j h] at hui; cases hui
    · obtain rfl : j = i := by omega
      have h3 : j < listed.size + 1 := by omega
      simp [Array.getD_eq_getD_getElem?, h3] at hui
  cases fuel with
  | zero => exact ⟨hr, hq'⟩
  | succ f => exact ⟨fun _ => hq', by rw [hr]; simp⟩
theorem wpAny_peel {L : List Oper} {n : Nat} (hn : n + 1 = L.length) (hb : backB L n = true) (hsk : Region.sinkB md L.toArray n = true) (hc : Region.chainB md L.toArray n = true) :
    ∀ (fuel : Nat) (listed : Array Bool) (a : Act) (w : World), listed.size = n → HeadInv md L.toArray n (listed.push false) →
      wpAny P md (L.take n).toArray (lastQ P L Q n) fuel listed a w → wpAny P md L.toArray Q (fuel + 1) (listed.push false) a w := by
  intro fuel
  induction fuel with
  | zero =>
    intro listed a w hs inv h
    refine wpAny_last hn hb 0 listed a w hs (fun i hi => ?_) h.2
    cases hu : listed.getD i true with
    | true => rfl
    | false =>
      obtain ⟨j, _, hj⟩ := some_ready (md := md) hb hs i hi hu
      rw [h.1] at hj; cases hj
  | succ fuel ih =>
    intro listed a w hs inv h
    by_cases hex : ∃ i, i < n ∧ listed.getD i true = false
    · obtain ⟨i0, hi0, hu0⟩ := hex
      obtain ⟨j0, hj0, hr0⟩ := some_ready (md := md) hb hs i0 hi0 hu0
      have hnot := tail_waits hsk hc (by simp; omega) inv (n - i0) i0 rfl hi0 (by rw [getD_push (by omega)]; exact hu0)
      refine ⟨fun h0 => (by have := (ready_take hs hj0).2 hr0; rw [h0] at this; cases this), fun i hi => ?_⟩
      have hin : i < n := by
        rcases Nat.lt_or_ge i n with h' | h'
        · exact h'
        · exact absurd hi (hnot i h')
      refine wpOp_peel hin hb (fun a' w' h' => ?_) (h.2 i ((ready_take hs hin).1 hi))
      rw [set_push (by omega)]
      refine ih _ a' w' (by rw [Array.size_setIfInBounds]; exact hs) ?_ h'
      rw [← set_push (by omega)]
      exact inv.set hi hin
    · refine wpAny_last hn hb _ listed a w hs (fun i hi => ?_) (h.1 ?_)
      · cases hu : listed.getD i true with
        | true => rfl
        | false => exact absurd ⟨i, hi, hu⟩ hex
      · rw [List.eq_nil_iff_forall_not_mem]
        intro j hj
        obtain ⟨hui, oi, hoi, _⟩ := mem_ready.1 hj
        rw [List.getElem?_toArray] at hoi
        have hlt := (List.getElem?_eq_some_iff.1 hoi).1
        rw [List.length_take] at hlt
        exact hex ⟨j, by omega, hui⟩
/-- THE LAW: all but the last operation under the condition S; the last one behind them, freely. -/
theorem wp_region_peel {S : World → Prop} {id : Nat} {L : List Oper} {a : Act} {w : World} (n : Nat) (hm : P.follows .mixedOrders = true) (hn : n + 1 = L.length) (hb : backB L n = true) (hsk : Region.sinkB .any L.toArray n = true) (hc : Region.chainB .any L.toArray n = true)
    (hS : S w.drew) (h : S w.drew → wpAnyH P .any (L.take n).toArray (lastQ P L Q n) S n (Array.replicate n false) a w.drew) : (Code.region id L.toArray true).wp P Q a w := by
  refine wp_region_any hm ?_
  have e : Array.replicate L.toArray.size false = (Array.replicate n false).push false := by
    rw [show L.toArray.size = n + 1 by simp; omega, Array.replicate_succ]
  rw [e, show L.toArray.size = n + 1 by simp; omega]
  refine wpAny_peel hn hb hsk hc n _ a _ (by simp) ?_ (wpAny_of_held _ _ _ _ (h hS))
  rw [← e]
  exact ⟨by simp, fun j oj _ hl => (by rw [getD_replicate_false] at hl; cases hl), fun t _ ht => getD_in (by simpa using ht) (getD_replicate_false _ _)⟩
/-- one operation is peeled, at the region's beginning -/
theorem peel_step {L : List Oper} {n : Nat} {a : Act} {w : World} (hn : n + 1 = L.length) (hb : backB L n = true) (hsk : Region.sinkB md L.toArray n = true) (hc : Region.chainB md L.toArray n = true)
    (h : wpAny P md (L.take n).toArray (lastQ P L Q n) n (Array.replicate n false) a w) : wpAny P md L.toArray Q (n + 1) (Array.replicate (n + 1) false) a w := by
  have e : Array.replicate (n + 1) false = (Array.replicate n false).push false := Array.replicate_succ
  rw [e]
  refine wpAny_peel hn hb hsk hc n _ a _ (by simp) ?_ h
  rw [← e]
  exact ⟨by simp; omega, fun j oj _ hl => (by rw [getD_replicate_false] at hl; cases hl), fun t _ ht => getD_in (by simpa [← hn] using ht) (getD_replicate_false _ _)⟩
theorem wp_region_peel2 {S : World → Prop} {id : Nat} {L : List Oper} {a : Act} {w : World} (n : Nat) (hm : P.follows .mixedOrders = true) (hn : n + 2 = L.length)
    (hb : backB L (n + 1) = true) (hsk : Region.sinkB .any L.toArray (n + 1) = true) (hc : Region.chainB .any L.toArray (n + 1) = true)
    (hb2 : backB (L.take (n + 1)) n = true) (hsk2 : Region.sinkB .any (L.take (n + 1)).toArray n = true) (hc2 : Region.chainB .any (L.take (n + 1)).toArray n = true)
    (hS : S w.drew) (h : S w.drew → wpAnyH P .any ((L.take (n + 1)).take n).toArray (lastQ P (L.take (n + 1)) (lastQ P L Q (n + 1)) n) S n (Array.replicate n false) a w.drew) : (Code.region id L.toArray true).wp P Q a w := by
  refine wp_region_any hm ?_
  rw [show L.toArray.size = n + 1 + 1 by simp; omega]
  refine peel_step (by omega) hb hsk hc ?_
  exact peel_step (by rw [List.length_take]; omega) hb2 hsk2 hc2 (wpAny_of_held _ _ _ _ (h hS))
theorem wp_region_peel3 {S : World → Prop} {id : Nat} {L : List Oper} {a : Act} {w : World} (n : Nat) (hm : P.follows .mixedOrders = true) (hn : n + 3 = L.length)
    (hb : backB L (n + 2) = true) (hsk : Region.sinkB .any L.toArray (n + 2) = true) (hc : Region.chainB .any L.toArray (n + 2) = true)
    (hb2 : backB (L.take (n + 2)) (n + 1) = true) (hsk2 : Region.sinkB .any (L.take (n + 2)).toArray (n + 1) = true) (hc2 : Region.chainB .any (L.take (n + 2)).toArray (n + 1) = true)
    (hb3 : backB ((L.take (n + 2)).take (n + 1)) n = true) (hsk3 : Region.sinkB .any ((L.take (n + 2)).take (n + 1)).toArray n = true) (hc3 : Region.chainB .any ((L.take (n + 2)).take (n + 1)).toArray n = true)
    (hS : S w.drew) (h : S w.drew → wpAnyH P .any (((L.take (n + 2)).take (n + 1)).take n).toArray (lastQ P ((L.take (n + 2)).take (n + 1)) (lastQ P (L.take (n + 2)) (lastQ P L Q (n + 2)) (n + 1)) n) S n (Array.replicate n false) a w.drew) : (Code.region id L.toArray true).wp P Q a w := by
  refine wp_region_any hm ?_
  rw [show L.toArray.size = n + 1 + 1 + 1 by simp; omega]
  refine peel_step (by omega) hb hsk hc ?_
  refine peel_step (by rw [List.length_take]; omega) hb2 hsk2 hc2 ?_
  exact peel_step (by rw [List.length_take, List.length_take]; omega) hb3 hsk3 hc3 (wpAny_of_held _ _ _ _ (h hS))
theorem lastQ_normal {L : List Oper} {n : Nat} {a : Act} {w : World} {o : Oper} (ho : L[n]? = some o) (h : ∀ K' : Act → World → Prop, Shut (∀ a w, Q .normal a w → K' a w) → if Region.wanted o (yielded L.toArray a.tmps) = true then Oper.wp P o a w K' Q else K' (a.put o.dst undef) w) :
    lastQ P L Q n .normal a w := wpOp_step (by rw [List.getElem?_toArray]; exact ho) (fun K' hK => h K' hK)
end
end Go.Proofs.YtpblaoeaeljmhaaDoor
