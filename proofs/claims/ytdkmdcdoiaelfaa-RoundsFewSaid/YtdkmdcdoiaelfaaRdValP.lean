/- Plain: which worlds of workers are valid, in words of lists. -/
import Derived.Test.YtdkmdcdoiaelfaaRdWld
import Derived.Test.YtdkmdcdoiaelfaaRndP
import Derived.Test.YtdkmdcdoiaelfaaSets
namespace Go.Proofs.Ytdkmdcdoiaelfaa
open Go.RowKit Go.BigFrame

/-- what is wrong with a plan; with a graph and a plan -/
def plnS (P : Int) (ow hv : List Int) (n : Int) : Int := if P < 1 ∨ 8 < P then 1 else if (ow.length : Int) ≠ n ∨ validZ none hv n = false then 4 else if ow.any (fun w => decide (w < 0) || decide (P ≤ w)) = true then 30 else 0
def fltS (n : Int) (es : List E2) (P : Int) (ow hv : List Int) : Int := if checkS n es ≠ 0 then checkS n es else plnS P ow hv n
def okN (n x : Int) : Bool := decide (0 ≤ x) && decide (x ≤ n)
def okM (n : Int) (m : Msg) : Bool := !m.2.2 && (decide (0 ≤ m.1) && (decide (m.1 < n) && okN n m.2.1))
def okK (n : Int) (l : List Int) : Bool := decide ((l.length : Int) = n) && l.all (okN n)
def okB (n P : Int) (bx : List (List (List Msg))) (i : Nat) : Bool := decide (((bx.getD i []).length : Int) = P) && (decide (((bx.getD i []).getD i []).length = 0) && (bx.getD i []).all fun b => b.all (okM n))
def valB (W : WdL) : Bool := decide (fltS W.n W.es W.P W.ow W.hv = 0) && (decide ((W.kn.length : Int) = W.P) && (decide ((W.bx.length : Int) = W.P) && (W.kn.all (okK W.n) && (List.range W.bx.length).all (okB W.n W.P W.bx))))
theorem all_drop {α : Type} (p : α → Bool) (l : List α) (k : Nat) (e : α) (hk : l[k]? = some e) : (l.drop k).all p = (p e && (l.drop (k + 1)).all p) := by
  obtain ⟨hlt, he⟩ := List.getElem?_eq_some_iff.1 hk
  rw [List.drop_eq_getElem_cons hlt, List.all_cons, he]
theorem owI_mem {n : Nat} {ow : Nat → Nat} {x : Int} (h : x ∈ owI n ow) : ∃ v, v < n ∧ x = (ow v : Int) := by
  obtain ⟨i, hi, e⟩ := List.mem_iff_getElem.1 h
  have hi2 : i < n := by rw [owI_length] at hi; exact hi
  have h3 := owI_get n ow i hi2
  rw [List.getElem?_eq_getElem hi, e] at h3
  exact ⟨i, hi2, Option.some.inj h3⟩
theorem flt_wd {n P : Nat} {es : List E2} {ow : Nat → Nat} {hv : List Int} (hg : Valid n es) (hP : 1 ≤ P ∧ P ≤ 8) (how : ∀ v, v < n → ow v < P) (hh : validZ none hv n = true) : fltS n es P (owI n ow) hv = 0 := by
  unfold fltS plnS
  rw [if_neg (fun h => h ((valid_iff _ _).2 hg)), if_neg (by omega), if_neg, if_neg]
  · rw [Bool.not_eq_true, List.any_eq_false]
    intro x hx
    obtain ⟨v, hv, rfl⟩ := owI_mem hx
    have := how v hv
    simp; omega
  · rw [owI_length, hh]; simp
theorem val_wd {n P : Nat} {es : List E2} {ow : Nat → Nat} {hv : List Int} {W : WdP} (hg : Valid n es) (hP : 1 ≤ P ∧ P ≤ 8) (how : ∀ v, v < n → ow v < P) (hh : validZ none hv n = true) (hV : VldP n P W) : valB (wdL n P es ow hv W) = true := by
  have hx : (wdL n P es ow hv W).bx = bxL P W := rfl
  unfold valB
  rw [hx]
  simp only [Bool.and_eq_true, decide_eq_true_eq]
  refine ⟨flt_wd hg hP how hh, by simp [wdL], by rw [bxL_len]; rfl, ?_, ?_⟩
  · rw [List.all_eq_true]
    intro l hl
    obtain ⟨w, hw, rfl⟩ := List.mem_map.1 hl
    have hw2 := List.mem_range.1 hw
    unfold okK
    rw [Bool.and_eq_true, decide_eq_true_eq, List.all_eq_true]
    refine ⟨by rw [hV.len w hw2]; rfl, fun x hx => ?_⟩
    obtain ⟨i, hi, e⟩ := List.mem_iff_getElem.1 hx
    have h1 := hV.ge w hw2 i
    have h2 := hV.le w hw2 i
    have h3 : (W.kn w).getD i 0 = x := by rw [List.getD_eq_getElem?_getD, List.getElem?_eq_getElem hi, e]; rfl
    unfold okN
    rw [h3] at h1 h2
    simp only [Bool.and_eq_true, decide_eq_true_eq]
    exact ⟨h1, h2⟩
  · rw [List.all_eq_true]
    intro i hi
    rw [bxL_len] at hi
    have hi2 := List.mem_range.1 hi
    unfold okB
    rw [bxL_box P W i i hi2 hi2, bxL_rowD P W i hi2]
    simp only [Bool.and_eq_true, decide_eq_true_eq]
    refine ⟨by simp [wdL], ?_, ?_⟩
    · cases hb : W.bx i i with
      | nil => rfl
      | cons m r => exact absurd rfl (hV.msg i i hi2 hi2 m (by rw [hb]; exact List.mem_cons_self)).1
    · rw [List.all_eq_true]
      intro b hb
      obtain ⟨j, hj, rfl⟩ := List.mem_map.1 hb
      rw [List.all_eq_true]
      intro m hm
      obtain ⟨-, h2, h3, h4, h5, h6⟩ := hV.msg i j hi2 (List.mem_range.1 hj) m hm
      unfold okM okN
      rw [h4]
      simp only [Bool.and_eq_true, decide_eq_true_eq]
      exact ⟨rfl, h2, h3, h5, h6⟩
end Go.Proofs.Ytdkmdcdoiaelfaa
