/- What the rows of the laws without laid variables give: the list that came in. -/
import Derived.Test.YtdkmdcdoiaelfaaRows
import Derived.Test.YtdkmdcdoiaelfaaChecked
import Derived.WalkKit
import Derived.ProofKit
import Derived.OpenShut
import Derived.ShutString
import Derived.ChangeOld
import Derived.Below
import Derived.LaidLaws
import Derived.Deep.DeepHandedRow
import Derived.Test.YtdkmdcdoiaelfaaMk
namespace Go.Proofs.Ytdkmdcdoiaelfaa
open Go.ChangeShapes Go.WideShapes Go.ChangeAt Go.RowKit

theorem ownG : ownKnob Try.prog.godebug = none := by kernel_rfl
theorem laidOutG : laidOutB Try.prog = true := by kernel_rfl
noncomputable def plainWorld (os : Os) : World := World.holding Try.prog os ⟨#[], #[], []⟩

/-- The list that came in. -/
theorem list_of_trod {H : Type} {enc : TypeId × Value → H} {W : World} {a : Option Addr} {len cap : Nat} {d : DataW H} {p : List MemPlace}
    (h : DataW.Trod enc Try.prog W 0 (fun _ => true) true 22 (.slice a len cap) d p) : ListAt W a len := by
  obtain ⟨fuel, hf⟩ := h
  rcases open_ints Try.underlying22 Try.underlying3 (by kernel_rfl) hf with ⟨hcs, _⟩ | ⟨x, l, c, zs, hcs, _, hl, hm, hz, _, hcell, hwz⟩
  · simp [Value.cells] at hcs
    obtain ⟨rfl, rfl, rfl⟩ := hcs
    exact ⟨by omega, fun j hj => by omega⟩
  · simp [Value.cells] at hcs
    obtain ⟨rfl, rfl, rfl⟩ := hcs
    have hz' : zs.length = cap := by simpa using hz
    have hm' : cap ≤ 9223372036854775807 := hm
    refine ⟨by omega, fun j hj => ?_⟩
    have hc := hcell j (by omega)
    obtain ⟨b, off, spot⟩ := x
    have hs : spot = none := by
      have hc := hcell 0 (by omega)
      unfold World.cell? at hc
      split at hc
      · split at hc
        · cases hc
        · rename_i hsp
          simpa [Addr.add] using hsp
      · cases hc
    subst hs
    have hwf := hwz (zs.getD j 0) (by
      rw [List.getD_eq_getElem?_getD, List.getElem?_eq_getElem (by omega)]
      exact List.getElem_mem _)
    simp only [Lit.wf, Bool.and_eq_true, decide_eq_true_eq] at hwf
    refine ⟨b, off, _, rfl, ?_, hwf.1, hwf.2⟩
    by_cases h0 : j = 0
    · subst h0
      exact hc
    · simpa [Addr.add, h0] using hc
end Go.Proofs.Ytdkmdcdoiaelfaa
