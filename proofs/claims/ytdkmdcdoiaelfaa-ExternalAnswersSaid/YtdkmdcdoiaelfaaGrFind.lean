/- The contracts of the program's search for an edge. -/
import Derived.Test.YtdkmdcdoiaelfaaGraphCheck
import Derived.Test.YtdkmdcdoiaelfaaBase
import Derived.BigQuiet
import Derived.Lib.Hide
namespace Go.Proofs.Ytdkmdcdoiaelfaa
open Go.RowKit Go.BigFrame

theorem lit_next' {w w' : World} {g : Nat} {o : Obj} (hb : Below w.heap.size w w') (h : w.heap[g]? = some o) : w'.heap[g]? = some o := (hb.block g (blk_lt h)).trans h
/-- all ahead of i lie before t, none from j on -/
def BsI (es : List E2) (t : E2) (i j : Nat) : Prop := (∀ k e, k < i → es[k]? = some e → beforeB e t = true) ∧ ∀ k e, j ≤ k → es[k]? = some e → beforeB e t = false
theorem BsI.up {es : List E2} {t : E2} {i j m : Nat} (h : BsI es t i j) (hs : es.Pairwise fun a b => beforeB a b = true) {e : E2} (he : es[m]? = some e) (hb : beforeB e t = true) : BsI es t (m + 1) j := by
  refine ⟨fun k x hk hx => ?_, h.2⟩
  by_cases hkm : k = m
  · subst hkm; rw [he] at hx; cases hx; exact hb
  · obtain ⟨h1, rfl⟩ := List.getElem?_eq_some_iff.1 hx
    obtain ⟨h2, rfl⟩ := List.getElem?_eq_some_iff.1 he
    exact before_trans (List.pairwise_iff_getElem.1 hs k m h1 h2 (by omega)) hb
theorem BsI.down {es : List E2} {t : E2} {i j m : Nat} (h : BsI es t i j) (hs : es.Pairwise fun a b => beforeB a b = true) {e : E2} (he : es[m]? = some e) (hb : beforeB e t = false) : BsI es t i m := by
  refine ⟨h.1, fun k x hk hx => ?_⟩
  by_cases hkm : k = m
  · subst hkm; rw [he] at hx; cases hx; exact hb
  · obtain ⟨h1, rfl⟩ := List.getElem?_eq_some_iff.1 hx
    obtain ⟨h2, rfl⟩ := List.getElem?_eq_some_iff.1 he
    cases hbx : beforeB es[k] t with
    | false => rfl
    | true =>
      have := before_trans (List.pairwise_iff_getElem.1 hs m k h2 h1 (by omega)) hbx
      rw [hb] at this; cases this
theorem BsI.mem {es : List E2} {t : E2} {i : Nat} (h : BsI es t i i) (hs : es.Pairwise fun a b => beforeB a b = true) : t ∈ es ↔ es[i]? = some t := by
  constructor
  · intro hm
    obtain ⟨k, hk⟩ := List.mem_iff_getElem?.1 hm
    have h1 : ¬ k < i := fun hki => by have := h.1 k t hki hk; rw [before_irrefl] at this; cases this
    by_cases hki : k = i
    · rw [← hki]; exact hk
    · obtain ⟨h2, hk2⟩ := List.getElem?_eq_some_iff.1 hk
      have h3 : i < es.length := by omega
      have h4 := List.pairwise_iff_getElem.1 hs i k h3 h2 (by omega)
      rw [hk2] at h4
      have h5 := h.2 i es[i] (Nat.le_refl _) (List.getElem?_eq_getElem h3)
      rw [h4] at h5; cases h5
  · intro hi; exact List.mem_of_getElem? hi
end Go.Proofs.Ytdkmdcdoiaelfaa
