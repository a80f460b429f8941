/- Numbers and truth values in a block as functions; lists of nodes; numbers and an error that are handed back. -/
import Derived.Test.YtdkmdcdoiaelfaaGreatAdj
import Derived.Test.YtdkmdcdoiaelfaaGreatPeel
import Derived.Test.YtdkmdcdoiaelfaaGreatNumAt
import Derived.Test.YtdkmdcdoiaelfaaGreatRef03New
import Derived.Test.YtdkmdcdoiaelfaaGreatSeqs
namespace Go.Proofs.YtdkmdcdoiaelfaaGreat
open Go.RowKit Go.BigFrame

theorem filter_le_of {α : Type} (P Q : α → Bool) (l : List α) (h : ∀ x ∈ l, P x = true → Q x = true) : (l.filter P).length ≤ (l.filter Q).length := by
  induction l with
  | nil => exact Nat.le_refl _
  | cons x l ih =>
    have h1 := ih fun y hy => h y (List.mem_cons_of_mem _ hy)
    have h2 := h x List.mem_cons_self
    rw [List.filter_cons, List.filter_cons]
    cases hP : P x with
    | true => rw [h2 hP]; simp; omega
    | false => cases Q x <;> simp <;> omega
/-- numbers as a function -/
def fnL (m : Nat) (F : Nat → Int) : List Int := (List.range m).map F
theorem fnL_length (m : Nat) (F : Nat → Int) : (fnL m F).length = m := by simp [fnL]
theorem fnL_get (m : Nat) (F : Nat → Int) (i : Nat) (h : i < m) : (fnL m F)[i]? = some (F i) := by simp [fnL, h]
def castL (l : List Nat) : List Int := l.map fun (i : Nat) => (i : Int)
theorem castL_length (l : List Nat) : (castL l).length = l.length := List.length_map _
theorem ints_nil (w : World) : IntsAt w (.slice none 0 0) [] := ⟨none, 0, rfl, Nat.le_refl _, fun _ => rfl, by simp, fun i x h => by simp at h⟩
end Go.Proofs.YtdkmdcdoiaelfaaGreat
