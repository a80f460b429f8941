/- A region that draws its order, whose last operations write what its first ones read: loads may be taken first as long as the first writing operation (number k) has not come up. -/
import Derived.Test.YtdkmdcdoiaelfaaGreatBase
import Derived.OrdersHeld
import Derived.Deep.RegionHeld
namespace Go.Proofs.YtdkmdcdoiaelfaaGreat
open Go.RowKit

section
variable {P : Program} {ops : Array Oper} {Q : Exit → Act → World → Prop} {md : Region.Mode} {S : Bool → World → Prop} {k : Nat}
/-- whatever order is picked from here on; S false holds till k comes up, S true behind it -/
def wpAnyK (P : Program) (md : Region.Mode) (ops : Array Oper) (Q : Exit → Act → World → Prop) (k : Nat) (S : Bool → World → Prop) : Nat → Array Bool → Act → World → Prop
  | 0, listed, a, w => Region.ready md ops listed = [] ∧ Q .normal a w
  | fuel + 1, listed, a, w =>
    (Region.ready md ops listed = [] → Q .normal a w) ∧
    ∀ i ∈ Region.ready md ops listed, wpOp P ops Q i (fun a' w' => S ((listed.setIfInBounds i true).getD k true) w' ∧ wpAnyK P md ops Q k S fuel (listed.setIfInBounds i true) a' w') a w
theorem wpAny_of_K : ∀ (fuel : Nat) (listed : Array Bool) (a : Act) (w : World), wpAnyK P md ops Q k S fuel listed a w → wpAny P md ops Q fuel listed a w
  | 0, _, _, _, h => h
  | fuel + 1, _, _, _, h => ⟨h.1, fun i hi => wpOp_mono (fun a' w' h' => wpAny_of_K fuel _ a' w' h'.2) (h.2 i hi)⟩
/-- k waits for i -/
def waitsB (md : Region.Mode) (ops : Array Oper) (k i : Nat) : Bool := match ops[k]? with
  | some o => o.after.any fun e => Region.binds md e && e.on == i
  | none => false
theorem waits_not {i : Nat} {listed : Array Bool} (h : waitsB md ops k i = true) (hl : listed.getD i true = false) : k ∉ Region.ready md ops listed := fun hk => by
  obtain ⟨_, o, ho, hall⟩ := mem_ready.1 hk
  unfold waitsB at h
  rw [ho] at h
  obtain ⟨e, he, hb⟩ := Array.any_eq_true'.1 h
  simp only [Bool.and_eq_true, beq_iff_eq] at hb
  have h1 := hall e he hb.1
  rw [hb.2] at h1
  rcases Nat.lt_or_ge i listed.size with h' | h'
  · simp [h'] at hl h1; rw [hl] at h1; cases h1
  · simp [Array.getElem?_eq_none h'] at h1
theorem wpAnyK_first {i : Nat} {oi : Oper} {v : Value} (f : Bool) (hi : ops[i]? = some oi) (hsel : ∀ (j : Nat) (o : Oper) cs b, ops[j]? = some o → o.op ≠ .select cs b)
    (hQ : ∀ c a w, Q (.panic c) (a.put oi.dst v) w → Q (.panic c) a w) (hm : ∀ w, S false w → S true w) (hk : f = false → waitsB md ops k i = true) (hik : i ≠ k) :
    ∀ (fuel : Nat) (listed : Array Bool) (a : Act) (w : World),
      (∀ j oj, ops[j]? = some oj → j ≠ i → listed.getD j true = false → (∀ e ∈ oj.after, Region.binds md e = true → e.on ≠ i) → oi.apart ops oj = true) →
      i ∈ Region.ready md ops listed → YieldsIf P ops (S f) oi v a → S (listed.getD k true) w → (f = false → listed.getD k true = false) →
      wpAnyK P md ops Q k S fuel (listed.setIfInBounds i true) (a.put oi.dst v) w → wpAnyK P md ops Q k S (fuel + 1) listed a w := by
  have hSf : ∀ (listed : Array Bool) (w : World), S (listed.getD k true) w → (f = false → listed.getD k true = false) → S f w := fun listed w hS hf => by
    cases f with
    | false => rw [hf rfl] at hS; exact hS
    | true =>
      cases e : listed.getD k true with
      | false => rw [e] at hS; exact hm w hS
      | true => rw [e] at hS; exact hS
  have hkeep : ∀ listed : Array Bool, (listed.setIfInBounds i true).getD k true = listed.getD k true := fun listed => getD_set_ne true hik
  intro fuel
  induction fuel with
  | zero =>
    intro listed a w _ hr hy hS hf H
    refine ⟨fun h => (by rw [h] at hr; cases hr), fun j hj => ?_⟩
    by_cases hji : j = i
    · subst hji; exact hy.wpOp hi (hSf listed w hS hf) ⟨by rw [hkeep]; exact hS, H⟩
    · have := ready_mono hj hji
      rw [H.1] at this
      cases this
  | succ fuel ih =>
    intro listed a w hfree hr hy hS hf H
    refine ⟨fun h => (by rw [h] at hr; cases hr), fun j hj => ?_⟩
    by_cases hji : j = i
    · subst hji; exact hy.wpOp hi (hSf listed w hS hf) ⟨by rw [hkeep]; exact hS, H⟩
    · have h1 := H.2 j (ready_mono hj hji)
      obtain ⟨hjun, oj, hoj, hall⟩ := mem_ready.1 hj
      have hnot : ∀ e ∈ oj.after, Region.binds md e = true → e.on ≠ i := fun e he hb heq => by
        have h1 := hall e he hb
        have h0 := (mem_ready.1 hr).1
        rw [heq] at h1
        rcases Nat.lt_or_ge i listed.size with h' | h'
        · simp [h'] at h0 h1; rw [h0] at h1; cases h1
        · simp [Array.getElem?_eq_none h'] at h1
      have h2 := wpOp_putIf hoj (hfree j oj hoj hji hjun hnot) (fun cs b => hsel i oi cs b hi) (fun cs b => hsel j oj cs b hoj) hQ hy h1
      have hfree' : ∀ l ol, ops[l]? = some ol → l ≠ i → (listed.setIfInBounds j true).getD l true = false →
          (∀ e ∈ ol.after, Region.binds md e = true → e.on ≠ i) → oi.apart ops ol = true := fun l ol hl hli hun hno => by
        refine hfree l ol hl hli ?_ hno
        by_cases hjl : j = l
        · subst hjl; exact hjun
        · rw [getD_set_ne true hjl] at hun; exact hun
      have hc : (listed.setIfInBounds i true).setIfInBounds j true = (listed.setIfInBounds j true).setIfInBounds i true := Array.setIfInBounds_comm _ _ (fun e => hji e.symm)
      have hsj : ((listed.setIfInBounds i true).setIfInBounds j true).getD k true = (listed.setIfInBounds j true).getD k true := by rw [hc, hkeep]
      have hjk : f = false → j ≠ k := fun e e2 => waits_not (hk e) (mem_ready.1 hr).1 (e2 ▸ hj)
      have hf' : f = false → (listed.setIfInBounds j true).getD k true = false := fun e => by rw [getD_set_ne true (hjk e)]; exact hf e
      refine wpOp_mono (fun a' w' h3 => ⟨by rw [← hsj]; exact h3.2.1, ih (listed.setIfInBounds j true) a' w' hfree' (ready_mono hr (Ne.symm hji)) h3.1 (by rw [← hsj]; exact h3.2.1) hf' ?_⟩) h2
      rw [← hc]
      exact h3.2.2
/-- take number i first -/
theorem wpAnyK_take {i : Nat} {oi : Oper} {v : Value} {fuel : Nat} {listed : Array Bool} {a : Act} {w : World} (f : Bool) (hi : ops[i]? = some oi)
    (hs : Region.noSelect ops = true) (hf : Region.free md ops listed i = true) (hr : (Region.ready md ops listed).contains i = true) (hb : (f || (waitsB md ops k i && !listed.getD k true)) = true) (hik : Nat.beq i k = false)
    (hQ : ∀ c a w, Q (.panic c) (a.put oi.dst v) w → Q (.panic c) a w) (hm : ∀ w, S false w → S true w) (hy : YieldsIf P ops (S f) oi v a) {b : Bool} (hl : listed.getD k true = b) (hS : S b w)
    (h : wpAnyK P md ops Q k S fuel (listed.setIfInBounds i true) (a.put oi.dst v) w) : wpAnyK P md ops Q k S (fuel + 1) listed a w := by
  have hik' : i ≠ k := fun e => by subst e; simp at hik
  refine wpAnyK_first f hi (Region.noSelect_spec hs) hQ hm (fun e => ?_) hik' fuel listed a w (Region.free_spec hi hf) (by simpa using hr) hy (by rw [hl]; exact hS) (fun e => ?_) h
  · subst e; simp only [Bool.false_or, Bool.and_eq_true] at hb; exact hb.1
  · subst e; simp only [Bool.false_or, Bool.and_eq_true, Bool.not_eq_true'] at hb; exact hb.2
theorem tkA (i : Nat) (v : Value) {oi : Oper} {fuel : Nat} {listed : Array Bool} {a : Act} {w : World} (f : Bool) (hi : ops[i]? = some oi) (hm : ∀ w, S false w → S true w) (b : Bool) (hS : S b w)
    (h : wpAnyK P md ops Q k S fuel (listed.setIfInBounds i true) (a.put oi.dst v) w) (hs : Region.noSelect ops = true := by kernel_rfl) (hf : Region.free md ops listed i = true := by kernel_rfl) (hr : (Region.ready md ops listed).contains i = true := by kernel_rfl) (hb : (f || (waitsB md ops k i && !listed.getD k true)) = true := by kernel_rfl) (hik : Nat.beq i k = false := by kernel_rfl)
    (hQ : ∀ c a w, Q (.panic c) (a.put oi.dst v) w → Q (.panic c) a w := by exact fun _ _ _ h => h) (hy : YieldsIf P ops (S f) oi v a := by exact Or.inl ⟨by rfl, by intro w hSw; (try dsimp only at hSw); go_simp⟩) (hl : listed.getD k true = b := by kernel_rfl) : wpAnyK P md ops Q k S (fuel + 1) listed a w :=
  wpAnyK_take f hi hs hf hr hb hik hQ hm hy hl hS h
theorem tkB (i : Nat) (v : Value) {oi : Oper} {fuel : Nat} {listed : Array Bool} {a : Act} {w : World} (f : Bool) (hi : ops[i]? = some oi) (hm : ∀ w, S false w → S true w) (b : Bool) (hS : S b w)
    (h : wpAnyK P md ops Q k S fuel (listed.setIfInBounds i true) (a.put oi.dst v) w) (hs : Region.noSelect ops = true := by kernel_rfl) (hf : Region.free md ops listed i = true := by kernel_rfl) (hr : (Region.ready md ops listed).contains i = true := by kernel_rfl) (hb : (f || (waitsB md ops k i && !listed.getD k true)) = true := by kernel_rfl) (hik : Nat.beq i k = false := by kernel_rfl)
    (hQ : ∀ c a w, Q (.panic c) (a.put oi.dst v) w → Q (.panic c) a w := by exact fun _ _ _ h => h) (hy : YieldsIf P ops (S f) oi v a := by exact Or.inl ⟨by kernel_rfl, by intro w hSw; (try dsimp only at hSw); go_simp⟩) (hl : listed.getD k true = b := by kernel_rfl) : wpAnyK P md ops Q k S (fuel + 1) listed a w :=
  wpAnyK_take f hi hs hf hr hb hik hQ hm hy hl hS h
/-- whichever of those that may come up comes up -/
theorem wpAnyK_all {rs : List Nat} {fuel : Nat} {listed : Array Bool} {a : Act} {w : World} (hr : Region.ready md ops listed = rs) (hne : rs ≠ [])
    (h : ∀ i ∈ rs, wpOp P ops Q i (fun a' w' => S ((listed.setIfInBounds i true).getD k true) w' ∧ wpAnyK P md ops Q k S fuel (listed.setIfInBounds i true) a' w') a w) : wpAnyK P md ops Q k S (fuel + 1) listed a w :=
  ⟨fun h0 => absurd (hr ▸ h0) hne, hr ▸ h⟩
theorem wpAnyK_done {listed : Array Bool} {a : Act} {w : World} (hr : Region.ready md ops listed = []) (h : Q .normal a w) : ∀ fuel, wpAnyK P md ops Q k S fuel listed a w
  | 0 => ⟨hr, h⟩
  | _ + 1 => ⟨fun _ => h, by rw [hr]; simp⟩
/-- one operation is carried out -/
theorem wpOp_want {i : Nat} {o : Oper} {K : Act → World → Prop} {a : Act} {w : World} (ho : ops[i]? = some o) (hw : Region.wanted o (yielded ops a.tmps) = true) (h : Oper.wp P o a w K Q) : wpOp P ops Q i K a w := by
  unfold wpOp
  simp only [ho, hw, if_true]
  exact .inl h
/-- one may come up -/
theorem wpAnyK_one {i : Nat} {o : Oper} {fuel : Nat} {listed : Array Bool} {a : Act} {w : World} (hr : Region.ready md ops listed = [i]) (ho : ops[i]? = some o) (hw : Region.wanted o (yielded ops a.tmps) = true) {b : Bool} (hb : (listed.setIfInBounds i true).getD k true = b)
    (h : ∀ K' : Act → World → Prop, Shut (∀ a w, S b w → wpAnyK P md ops Q k S fuel (listed.setIfInBounds i true) a w → K' a w) → Oper.wp P o a w K' Q) : wpAnyK P md ops Q k S (fuel + 1) listed a w := by
  refine wpAnyK_all hr (by simp) fun j hj => ?_
  rw [List.mem_singleton] at hj
  subst hj
  exact wpOp_want ho hw (h _ fun a w hS hW => ⟨by rw [hb]; exact hS, hW⟩)
/-- two may come up -/
theorem wpAnyK_two {i j : Nat} {o o2 : Oper} {fuel : Nat} {listed : Array Bool} {a : Act} {w : World} (hr : Region.ready md ops listed = [i, j]) (ho : ops[i]? = some o) (ho2 : ops[j]? = some o2) (hw : Region.wanted o (yielded ops a.tmps) = true) (hw2 : Region.wanted o2 (yielded ops a.tmps) = true) {b b2 : Bool} (hb : (listed.setIfInBounds i true).getD k true = b) (hb2 : (listed.setIfInBounds j true).getD k true = b2)
    (h : ∀ K' : Act → World → Prop, Shut (∀ a w, S b w → wpAnyK P md ops Q k S fuel (listed.setIfInBounds i true) a w → K' a w) → Oper.wp P o a w K' Q)
    (h2 : ∀ K' : Act → World → Prop, Shut (∀ a w, S b2 w → wpAnyK P md ops Q k S fuel (listed.setIfInBounds j true) a w → K' a w) → Oper.wp P o2 a w K' Q) : wpAnyK P md ops Q k S (fuel + 1) listed a w := by
  refine wpAnyK_all hr (by simp) fun l hl => ?_
  rcases List.mem_cons.1 hl with hl | hl
  · subst hl
    exact wpOp_want ho hw (h _ fun a w hS hW => ⟨by rw [hb]; exact hS, hW⟩)
  · rw [List.mem_singleton] at hl
    subst hl
    exact wpOp_want ho2 hw2 (h2 _ fun a w hS hW => ⟨by rw [hb2]; exact hS, hW⟩)
theorem wp_region_heldK {id : Nat} {a : Act} {w : World} (hm : P.follows .mixedOrders = true)
    (h : wpAnyK P .any ops Q k S ops.size (Array.replicate ops.size false) a w.drew) : (Code.region id ops true).wp P Q a w :=
  wp_region_any hm (wpAny_of_K _ _ _ _ h)
end
end Go.Proofs.YtdkmdcdoiaelfaaGreat
