/- What an argument that is a graph, or a slice of numbers, reads as. -/
import Derived.Test.YtpblaoeaeljmhaaListTrod
import Derived.Deep.Slices
import Derived.Deep.Fields
import Derived.ChangeSame
import Derived.Lib.SmallJoins
namespace Go.Proofs.Ytpblaoeaeljmhaa
open Go.ChangeShapes Go.WideShapes Go.ChangeAt Go.RowKit Go.Deep

theorem list_two' {α : Type} {l : List α} (h : l.length = 2) : ∃ a b, l = [a, b] := by
  match l, h with
  | [a, b], _ => exact ⟨a, b, rfl⟩
section
variable {H : Type} {enc : TypeId × Value → H} {w : World}
/-- a field of one cell, read by itself -/
theorem field_one {P : Program} {base : Nat} {sp : Nat → Bool} {held : Bool} {fuel : Nat} {t : TypeId} {fs : Array Field} {cs : List Value} {x : DataW H × List MemPlace} (ht : P.underlying t = some (.struct fs)) (hone : oneCellFields P fs = true) (hC : P.cellsOf t = fs.size)
    (h : DataW.trod enc P w base sp held fuel t cs = some x) : cs.length = fs.size ∧ ∀ (i : Nat) (f : Field) (v : Value), fs[i]? = some f → cs[i]? = some v → ∃ n y, DataW.trod enc P w base sp held n f.type [v] = some y := by
  obtain ⟨xs, n, _, _, hlen, hxl, hf⟩ := DataW.trod_struct ht h
  rw [hC] at hlen
  refine ⟨hlen, fun i f v hi hv => ?_⟩
  obtain ⟨o, k⟩ := hone_of hone i f hi
  have h1 := hf i f hi
  rw [o, k] at h1
  have hlt := (List.getElem?_eq_some_iff.1 hv).1
  have e : (cs.drop i).take 1 = [v] := by
    rw [List.drop_eq_getElem_cons hlt]
    have := (List.getElem?_eq_some_iff.1 hv).2
    simp [this]
  rw [e] at h1
  have hx : i < xs.length := by rw [hxl]; exact (Array.getElem?_eq_some_iff.1 hi).1
  rw [List.getElem?_eq_getElem hx] at h1
  exact ⟨n, _, h1⟩
theorem spot_none {b off : Nat} {spot} {v : Value} (h : w.cell? ((⟨b, off, spot⟩ : Addr).add 0) = some v) : spot = none := by
  unfold World.cell? at h
  split at h
  · split at h
    · cases h
    · rename_i hsp
      simpa [Addr.add] using hsp
  · cases h
/-- a slice of numbers -/
theorem ints_of_trod {v : Value} {d : DataW H} {p : List MemPlace} {base : Nat} {sp : Nat → Bool} {held : Bool}
    {a : Option Addr} {len cap : Nat} (hv : v = .slice a len cap) (h : DataW.Trod enc Try.prog w base sp held 22 v d p) : ∃ xs : List Int, len ≤ 100000 → xs.length = len ∧ IntsAt w (.slice a xs.length cap) xs := by
  subst hv
  obtain ⟨fuel, hf⟩ := h
  rcases open_ints Try.underlying22 Try.underlying3 (by kernel_rfl) hf with ⟨hcs, _⟩ | ⟨x, l, c, zs, hcs, _, hl, hm, hz, _, hcell, hwz⟩
  · simp [Value.cells] at hcs
    obtain ⟨rfl, rfl, rfl⟩ := hcs
    exact ⟨[], fun _ => ⟨rfl, none, 0, rfl, Nat.le_refl _, fun _ => rfl, by simp, fun i e h => by simp at h⟩⟩
  · simp [Value.cells] at hcs
    obtain ⟨rfl, rfl, rfl⟩ := hcs
    have hlz : len ≤ zs.length := by rw [hz]; split <;> omega
    refine ⟨zs.take len, fun h6 => ?_⟩
    have hlen : (zs.take len).length = len := by simp; omega
    refine ⟨hlen, _, cap, rfl, by rw [hlen]; exact hl, (fun h => by cases h), by rw [hlen]; omega, fun j e hj => ?_⟩
    obtain ⟨b, off, spot⟩ := x
    have hjl := (List.getElem?_eq_some_iff.1 hj).1
    rw [hlen] at hjl
    have hc0 := hcell 0 (by omega)
    obtain rfl := spot_none hc0
    have hc := hcell j (by omega)
    have he : zs.getD j 0 = e := by
      rw [List.getElem?_take, if_pos hjl] at hj
      rw [List.getD_eq_getElem?_getD, hj]; rfl
    rw [he] at hc
    refine ⟨b, off, rfl, ?_⟩
    by_cases h0 : j = 0
    · rw [h0] at hc ⊢; exact hc
    · simpa [Addr.add, h0] using hc
end
end Go.Proofs.Ytpblaoeaeljmhaa
