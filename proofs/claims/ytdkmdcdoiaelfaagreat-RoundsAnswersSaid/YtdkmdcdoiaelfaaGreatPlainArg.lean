/- What the rows of the laws without laid variables give: the list that came in. What a list of numbers that came in reads as. What an argument that is a graph, or a slice of numbers, reads as. -/
import Derived.Test.YtdkmdcdoiaelfaaGreatRows
import Derived.Test.YtdkmdcdoiaelfaaGreatChecked
import Derived.WalkKit
import Derived.ProofKit
import Derived.OpenShut
import Derived.ShutString
import Derived.ChangeOld
import Derived.Below
import Derived.LaidLaws
import Derived.Deep.DeepHandedRow
import Derived.Test.YtdkmdcdoiaelfaaGreatMk
import Derived.Deep.Slices
import Derived.Deep.Fields
import Derived.ChangeSame
import Derived.Lib.SmallJoins
namespace Go.Proofs.YtdkmdcdoiaelfaaGreat
open Go.ChangeShapes Go.WideShapes Go.ChangeAt Go.RowKit

theorem ownG : ownKnob Tryz.prog.godebug = none := by kernel_rfl
theorem laidOutG : laidOutB Tryz.prog = true := by kernel_rfl
noncomputable def plainWorld (os : Os) : World := World.holding Tryz.prog os ⟨#[], #[], []⟩

/-- The list that came in. -/
theorem list_of_trod {H : Type} {enc : TypeId × Value → H} {W : World} {a : Option Addr} {len cap : Nat} {d : DataW H} {p : List MemPlace}
    (h : DataW.Trod enc Tryz.prog W 0 (fun _ => true) true 22 (.slice a len cap) d p) : ListAt W a len := by
  obtain ⟨fuel, hf⟩ := h
  rcases open_ints Tryz.underlying22 Tryz.underlying3 (by kernel_rfl) hf with ⟨hcs, _⟩ | ⟨x, l, c, zs, hcs, _, hl, hm, hz, _, hcell, hwz⟩
  · simp [Value.cells] at hcs
    obtain ⟨rfl, rfl, rfl⟩ := hcs
    exact ⟨by omega, fun j hj => by omega⟩
  · simp [Value.cells] at hcs
    obtain ⟨rfl, rfl, rfl⟩ := hcs
    have hz' : zs.length = cap := by simpa using hz
    have hm' : cap ≤ 9223372036854775807 := hm
    refine ⟨by omega, fun j hj => ?_⟩
    have hc := hcell j (by omega)
    obtain ⟨b, off, spot⟩ := x
    have hs : spot = none := by
      have hc := hcell 0 (by omega)
      unfold World.cell? at hc
      split at hc
      · split at hc
        · cases hc
        · rename_i hsp
          simpa [Addr.add] using hsp
      · cases hc
    subst hs
    have hwf := hwz (zs.getD j 0) (by
      rw [List.getD_eq_getElem?_getD, List.getElem?_eq_getElem (by omega)]
      exact List.getElem_mem _)
    simp only [Lit.wf, Bool.and_eq_true, decide_eq_true_eq] at hwf
    refine ⟨b, off, _, rfl, ?_, hwf.1, hwf.2⟩
    by_cases h0 : j = 0
    · subst h0
      exact hc
    · simpa [Addr.add, h0] using hc
end Go.Proofs.YtdkmdcdoiaelfaaGreat

namespace Go.Proofs.YtdkmdcdoiaelfaaGreat
open Go.ChangeShapes Go.WideShapes Go.ChangeAt Go.RowKit

end Go.Proofs.YtdkmdcdoiaelfaaGreat

namespace Go.Proofs.YtdkmdcdoiaelfaaGreat
open Go.ChangeShapes Go.WideShapes Go.ChangeAt Go.RowKit Go.Deep

theorem list_two' {α : Type} {l : List α} (h : l.length = 2) : ∃ a b, l = [a, b] := by
  match l, h with
  | [a, b], _ => exact ⟨a, b, rfl⟩
section
variable {H : Type} {enc : TypeId × Value → H} {w : World}
/-- a field of one cell, read by itself -/
theorem field_one {P : Program} {base : Nat} {sp : Nat → Bool} {held : Bool} {fuel : Nat} {t : TypeId} {fs : Array Field} {cs : List Value} {x : DataW H × List MemPlace} (ht : P.underlying t = some (.struct fs)) (hone : oneCellFields P fs = true) (hC : P.cellsOf t = fs.size)
    (h : DataW.trod enc P w base sp held fuel t cs = some x) : cs.length = fs.size ∧ ∀ (i : Nat) (f : Field) (v : Value), fs[i]? = some f → cs[i]? = some v → ∃ n y, DataW.trod enc P w base sp held n f.type [v] = some y := by
  obtain ⟨xs, n, _, _, hlen, hxl, hf⟩ := DataW.trod_struct ht h
  rw [hC] at hlen
  refine ⟨hlen, fun i f v hi hv => ?_⟩
  obtain ⟨o, k⟩ := hone_of hone i f hi
  have h1 := hf i f hi
  rw [o, k] at h1
  have hlt := (List.getElem?_eq_some_iff.1 hv).1
  have e : (cs.drop i).take 1 = [v] := by
    rw [List.drop_eq_getElem_cons hlt]
    have := (List.getElem?_eq_some_iff.1 hv).2
    simp [this]
  rw [e] at h1
  have hx : i < xs.length := by rw [hxl]; exact (Array.getElem?_eq_some_iff.1 hi).1
  rw [List.getElem?_eq_getElem hx] at h1
  exact ⟨n, _, h1⟩
theorem spot_none {b off : Nat} {spot} {v : Value} (h : w.cell? ((⟨b, off, spot⟩ : Addr).add 0) = some v) : spot = none := by
  unfold World.cell? at h
  split at h
  · split at h
    · cases h
    · rename_i hsp
      simpa [Addr.add] using hsp
  · cases h
set_option maxRecDepth 100000 in
/-- the cells of an edge -/
theorem edge_of_trod {base : Nat} {sp : Nat → Bool} {held : Bool} {fuel : Nat} {cs : List Value} {x : DataW H × List MemPlace} (h : DataW.trod enc Tryz.prog w base sp held fuel 62 cs = some x) : ∃ e : E2, cs = [.int .i64 e.1, .int .i64 e.2] := by
  obtain ⟨hl, hf⟩ := field_one Tryz.underlying62 (by kernel_rfl) (by kernel_rfl) h
  obtain ⟨v0, v1, rfl⟩ := list_two' hl
  have g : ∀ (f : Field) (v : Value), (Tryz.prog.underlying f.type = some (.int .i64)) → (∃ n y, DataW.trod enc Tryz.prog w base sp held n f.type [v] = some y) → ∃ z, v = .int .i64 z := fun f v ht ⟨n, y, hy⟩ => by
    obtain ⟨z, e, _⟩ := DataW.trod_int ht hy
    exact ⟨z, by simpa using e⟩
  obtain ⟨z0, rfl⟩ := g _ _ Tryz.underlying3 (hf 0 _ v0 rfl rfl)
  obtain ⟨z1, rfl⟩ := g _ _ Tryz.underlying3 (hf 1 _ v1 rfl rfl)
  exact ⟨(z0, z1), rfl⟩
/-- a slice of edges -/
theorem edges_of_trod {base : Nat} {sp : Nat → Bool} {held : Bool} {fuel : Nat} {v : Value} {x : DataW H × List MemPlace} (h : DataW.trod enc Tryz.prog w base sp held fuel 23 [v] = some x) : ∃ (a : Option Addr) (len cap : Nat), v = .slice a len cap ∧ (len ≤ 100000 → ∃ es : List E2, es.length = len ∧ EdgesAt w (.slice a es.length cap) es) := by
  rcases open_slice Tryz.underlying23 h with ⟨hcs, _⟩ | ⟨ad, len, cap, m, n, D, Pl, hcs, _, hl, _, hm, _, hi⟩
  · obtain rfl : v = .slice none 0 0 := by simpa using hcs
    exact ⟨none, 0, 0, rfl, fun _ => ⟨[], rfl, none, 0, rfl, Nat.le_refl _, fun _ => rfl, by simp, fun i e h => by simp at h⟩⟩
  · obtain rfl : v = .slice (some ad) len cap := by simpa using hcs
    refine ⟨some ad, len, cap, rfl, fun h60 => ?_⟩
    have hlm : len ≤ m := by rw [hm]; split <;> omega
    have hC : Tryz.prog.cellsOf 62 = 2 := by kernel_rfl
    rw [hC] at hi
    have hex : ∀ i, ∃ e : E2, i < len → w.cell? (ad.add (i * 2)) = some (.int .i64 e.1) ∧ w.cell? (ad.add (i * 2 + 1)) = some (.int .i64 e.2) := by
      intro i
      by_cases hil : i < len
      · obtain ⟨cs, hc, ht⟩ := hi i (by omega)
        obtain ⟨e, rfl⟩ := edge_of_trod ht
        obtain ⟨_, _, hat⟩ := World.cells?_some hc
        refine ⟨e, fun _ => ⟨?_, ?_⟩⟩
        · have h1 := hat 0 (by decide)
          rw [Go.Deep.add_add] at h1
          exact h1
        · have h1 := hat 1 (by decide)
          rw [Go.Deep.add_add] at h1
          exact h1
      · exact ⟨(0, 0), fun h => absurd h hil⟩
    obtain ⟨f, hf⟩ := Classical.axiomOfChoice hex
    have hlen : ((List.range len).map f).length = len := by simp
    refine ⟨(List.range len).map f, hlen, _, cap, rfl, by rw [hlen]; exact hl, (fun h => by cases h), by rw [hlen]; omega, fun j e hj => ?_⟩
    obtain ⟨b, off, spot⟩ := ad
    have hjl := (List.getElem?_eq_some_iff.1 hj).1
    rw [hlen] at hjl
    obtain rfl := spot_none (hf 0 (by omega)).1
    have he : e = f j := by simp [hjl] at hj; exact hj.symm
    subst he
    obtain ⟨c0, c1⟩ := hf j hjl
    refine ⟨b, off, rfl, ?_, ?_⟩
    · by_cases h0 : j = 0
      · rw [h0] at c0 ⊢; exact c0
      · have h2 : ¬ j * 2 = 0 := by omega
        simpa [Addr.add, h2] using c0
    · simpa [Addr.add, Nat.add_assoc] using c1
/-- a slice of numbers -/
theorem ints_of_trod {v : Value} {d : DataW H} {p : List MemPlace} {base : Nat} {sp : Nat → Bool} {held : Bool}
    {a : Option Addr} {len cap : Nat} (hv : v = .slice a len cap) (h : DataW.Trod enc Tryz.prog w base sp held 22 v d p) : ∃ xs : List Int, len ≤ 100000 → xs.length = len ∧ IntsAt w (.slice a xs.length cap) xs := by
  subst hv
  obtain ⟨fuel, hf⟩ := h
  rcases open_ints Tryz.underlying22 Tryz.underlying3 (by kernel_rfl) hf with ⟨hcs, _⟩ | ⟨x, l, c, zs, hcs, _, hl, hm, hz, _, hcell, hwz⟩
  · simp [Value.cells] at hcs
    obtain ⟨rfl, rfl, rfl⟩ := hcs
    exact ⟨[], fun _ => ⟨rfl, none, 0, rfl, Nat.le_refl _, fun _ => rfl, by simp, fun i e h => by simp at h⟩⟩
  · simp [Value.cells] at hcs
    obtain ⟨rfl, rfl, rfl⟩ := hcs
    have hlz : len ≤ zs.length := by rw [hz]; split <;> omega
    refine ⟨zs.take len, fun h6 => ?_⟩
    have hlen : (zs.take len).length = len := by simp; omega
    refine ⟨hlen, _, cap, rfl, by rw [hlen]; exact hl, (fun h => by cases h), by rw [hlen]; omega, fun j e hj => ?_⟩
    obtain ⟨b, off, spot⟩ := x
    have hjl := (List.getElem?_eq_some_iff.1 hj).1
    rw [hlen] at hjl
    have hc0 := hcell 0 (by omega)
    obtain rfl := spot_none hc0
    have hc := hcell j (by omega)
    have he : zs.getD j 0 = e := by
      rw [List.getElem?_take, if_pos hjl] at hj
      rw [List.getD_eq_getElem?_getD, hj]; rfl
    rw [he] at hc
    refine ⟨b, off, rfl, ?_⟩
    by_cases h0 : j = 0
    · rw [h0] at hc ⊢; exact hc
    · simpa [Addr.add, h0] using hc
set_option maxRecDepth 100000 in
/-- a graph by value -/
theorem graph_of_trod {base b0 : Nat} {sp : Nat → Bool} {held : Bool} {r : Reach} {v : Value} {d : DataW H} {p : List MemPlace} (hv : Value.okWide Tryz.prog w r b0 25 v) (h : DataW.Trod enc Tryz.prog w base sp held 25 v d p) :
    ∃ (n : Int) (a : Option Addr) (len cap : Nat) (es : List E2), v = .agg #[.int .i64 n, .slice a len cap] ∧ (len ≤ 100000 → es.length = len ∧ EdgesAt w (.slice a es.length cap) es) := by
  obtain ⟨cs, rfl, hsz⟩ := okWide_struct Tryz.underlying25 hv
  obtain ⟨fuel, hf⟩ := h
  obtain ⟨hl, hg⟩ := field_one Tryz.underlying25 (by kernel_rfl) (by kernel_rfl) hf
  obtain ⟨l⟩ := cs
  have hll : l.length = 2 := by simpa using hsz.trans (show Tryz.prog.cellsOf 25 = 2 by kernel_rfl)
  obtain ⟨v0, v1, rfl⟩ := list_two' hll
  have g : ∀ (f : Field) (v : Value), (Tryz.prog.underlying f.type = some (.int .i64)) → (∃ n y, DataW.trod enc Tryz.prog w base sp held n f.type [v] = some y) → ∃ z, v = .int .i64 z := fun f v ht ⟨n, y, hy⟩ => by
    obtain ⟨z, e, _⟩ := DataW.trod_int ht hy
    exact ⟨z, by simpa using e⟩
  obtain ⟨z0, rfl⟩ := g _ _ Tryz.underlying3 (hg 0 _ v0 rfl rfl)
  obtain ⟨n, y, hy⟩ := hg 1 _ v1 rfl rfl
  obtain ⟨ra, rn, rc, rfl, hrow⟩ := edges_of_trod hy
  by_cases h6 : rn ≤ 100000
  · obtain ⟨es, h1, h2⟩ := hrow h6
    exact ⟨z0, ra, rn, rc, es, rfl, fun _ => ⟨h1, h2⟩⟩
  · exact ⟨z0, ra, rn, rc, [], rfl, fun h => absurd h h6⟩
end
end Go.Proofs.YtdkmdcdoiaelfaaGreat
