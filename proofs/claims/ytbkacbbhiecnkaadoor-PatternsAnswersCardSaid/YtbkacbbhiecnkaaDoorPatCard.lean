/- What the rows of the pattern laws give: the tables hold their numbers, and the list that came in. -/
import Derived.Test.YtbkacbbhiecnkaaDoorCards
import Derived.Test.YtbkacbbhiecnkaaDoorTie
import Derived.WalkKit
import Derived.ProofKit
import Derived.OpenShut
import Derived.ShutString
import Derived.ChangeOld
import Derived.Below
import Derived.Deep.DeepHandedRow
import Derived.Lib.LaidTab
import Derived.Test.YtbkacbbhiecnkaaDoorPatTurns
namespace Go.Proofs.YtbkacbbhiecnkaaDoor
open Go.ChangeShapes Go.WideShapes Go.ChangeAt Go.RowKit

theorem ownG : ownKnob Tryd.prog.godebug = none := by kernel_rfl
theorem laidOutG : laidOutB Tryd.prog = true := by kernel_rfl

theorem cells_of_tab2 {H : Type} {enc : TypeId × Value → H} {P : Program} {w : World} {base : Nat} {sp : Nat → Bool} {held : Bool} {fuel : Nat} {t e i : TypeId} {n : Nat} {cs : List Value} {zs : List (Int × Int)} {p : List MemPlace}
    (ht : P.underlying t = some (.array n e)) (he : P.underlying e = some (.array 2 i)) (hi : P.underlying i = some (.int .i64)) (hci : P.cellsOf i = 1) (hce : P.cellsOf e = 2)
    (h : DataW.trod enc P w base sp held fuel t cs = some (.agg (zs.map fun z => Lib.tabData .i64 [z.1, z.2]), p)) :
    ∀ j z, zs[j]? = some z → cs[2 * j]? = some (.int .i64 z.1) ∧ cs[2 * j + 1]? = some (.int .i64 z.2) := by
  obtain ⟨xs, m, _, hx, hl, hn, hat⟩ := DataW.trod_array ht h
  intro j z hz
  have hx1 : xs.map (·.1) = zs.map fun z => (Lib.tabData .i64 [z.1, z.2] : DataW H) := by
    have := congrArg Prod.fst hx
    simpa using this.symm
  have hlen : xs.length = zs.length := by have := congrArg List.length hx1; simpa using this
  have hj : j < zs.length := (List.getElem?_eq_some_iff.1 hz).1
  have ha := hat j (by omega)
  obtain ⟨y, hy⟩ : ∃ y, xs[j]? = some y := ⟨xs[j], List.getElem?_eq_getElem (by omega)⟩
  have hy1 : y.1 = Lib.tabData .i64 [z.1, z.2] := by
    have := congrArg (·[j]?) hx1
    simp only [List.getElem?_map, hy, hz, Option.map_some, Option.some.injEq] at this
    exact this
  obtain ⟨y1, y2⟩ := y
  simp only at hy1
  subst hy1
  rw [hy, hce] at ha
  have hc := Lib.cells_of_tab he hi hci hce ha
  have h0 := congrArg (·[0]?) hc
  have h1 := congrArg (·[1]?) hc
  simp [List.getElem?_drop] at h0 h1
  exact ⟨by rw [Nat.mul_comm]; exact h0, by rw [Nat.mul_comm]; exact h1⟩

/-- the list of the tables, as each row has it -/
def laidL : List (String × DataW Unit) := [("cohesion/patterns.cubes", Rows.laid_cohesion_patterns_cubes), ("cohesion/patterns.examples", Rows.laid_cohesion_patterns_examples), ("cohesion/patterns.ends", Rows.laid_cohesion_patterns_ends)]
theorem gCubes : Tryd.prog.globalNamed "cohesion/patterns.cubes" = some 2 := by kernel_rfl
theorem gExamples : Tryd.prog.globalNamed "cohesion/patterns.examples" = some 0 := by kernel_rfl
theorem gEnds : Tryd.prog.globalNamed "cohesion/patterns.ends" = some 1 := by kernel_rfl
theorem gCubesT : (Tryd.prog.globals[2]?).map (·.type) = some 101 := by kernel_rfl
theorem gExamplesT : (Tryd.prog.globals[0]?).map (·.type) = some 101 := by kernel_rfl
theorem gEndsT : (Tryd.prog.globals[1]?).map (·.type) = some 125 := by kernel_rfl
theorem cells11 : Tryd.prog.cellsOf 101 = 11 := by kernel_rfl
theorem cellsP : Tryd.prog.cellsOf 77 = 2 := by kernel_rfl
theorem cellsI : Tryd.prog.cellsOf 3 = 1 := by kernel_rfl

theorem tab_at {W : World} {name : String} {g t : Nat} {cs : Array Value} {fuel : Nat} {p : List MemPlace} {zs : List Int} (hg : Tryd.prog.globalNamed name = some g) (hv : W.var? Tryd.prog name = some cs)
    (ht : Tryd.prog.underlying t = some (.array 11 3)) (hc : Tryd.prog.cellsOf t = 11)
    (h : DataW.trod (fun _ => ()) Tryd.prog W 0 (fun _ => true) false fuel t cs.toList = some (Lib.tabData .i64 zs, p)) : ∀ (i : Nat) x, zs[i]? = some x → W.cell? ⟨g, i, none⟩ = some (.int .i64 x) := by
  intro i x hx
  have hcs := Lib.cells_of_tab ht Tryd.underlying3 cellsI hc h
  rw [World.var?_cell hg hv i, ← Array.getElem?_toList, hcs, List.getElem?_map, hx]
  rfl

theorem tabs_of_laid {W : World} (h : laidMetH Tryd.prog laidL W) : TabsAt W := by
  have h' : laidMet Tryd.prog laidL W := h
  obtain ⟨ps, ⟨g1, t1, cs1, f1, p1, q1, hg1, ht1, hv1, hd1, ⟨g2, t2, cs2, f2, p2, q2, hg2, ht2, hv2, hd2, ⟨g3, t3, cs3, f3, p3, q3, hg3, ht3, hv3, hd3, _, _⟩, _⟩, _⟩, _⟩ := h'
  obtain rfl := Option.some.inj (gCubes.symm.trans hg1)
  obtain rfl := Option.some.inj (gCubesT.symm.trans ht1)
  obtain rfl := Option.some.inj (gExamples.symm.trans hg2)
  obtain rfl := Option.some.inj (gExamplesT.symm.trans ht2)
  obtain rfl := Option.some.inj (gEnds.symm.trans hg3)
  obtain rfl := Option.some.inj (gEndsT.symm.trans ht3)
  refine ⟨?_, tab_at gCubes hv1 Tryd.underlying101 cells11 (zs := cubesL) hd1, tab_at gExamples hv2 Tryd.underlying101 cells11 (zs := examplesL) hd2⟩
  have hc := cells_of_tab2 Tryd.underlying125 Tryd.underlying77 Tryd.underlying3 cellsI cellsP (zs := [(0, 1), (0, 2), (0, 3), (1, 2), (1, 3), (2, 3)]) hd3
  intro i x hx
  have hi : i < 12 := (List.getElem?_eq_some_iff.1 hx).1
  rw [World.var?_cell gEnds hv3 i, ← Array.getElem?_toList]
  have k0 := hc 0 _ rfl
  have k1 := hc 1 _ rfl
  have k2 := hc 2 _ rfl
  have k3 := hc 3 _ rfl
  have k4 := hc 4 _ rfl
  have k5 := hc 5 _ rfl
  simp only [Nat.mul_zero, Nat.zero_add] at k0 k1 k2 k3 k4 k5
  rcases (by omega : i = 0 ∨ i = 1 ∨ i = 2 ∨ i = 3 ∨ i = 4 ∨ i = 5 ∨ i = 6 ∨ i = 7 ∨ i = 8 ∨ i = 9 ∨ i = 10 ∨ i = 11) with rfl | rfl | rfl | rfl | rfl | rfl | rfl | rfl | rfl | rfl | rfl | rfl <;> cases hx
  · exact k0.1
  · exact k0.2
  · exact k1.1
  · exact k1.2
  · exact k2.1
  · exact k2.2
  · exact k3.1
  · exact k3.2
  · exact k4.1
  · exact k4.2
  · exact k5.1
  · exact k5.2

/-- cells with other content -/
def refill (c : Array Value) : Obj → Obj
  | .cells _ t frozen => .cells c t frozen
  | o => o
noncomputable def laidHeap (h : Array Obj) : Array Obj :=
  let h1 := h.modify 0 (refill #[.int .i64 0, .int .i64 1, .int .i64 3, .int .i64 33, .int .i64 11, .int .i64 7, .int .i64 41, .int .i64 15, .int .i64 45, .int .i64 61, .int .i64 63])
  let h2 := h1.modify 1 (refill #[.int .i64 0, .int .i64 1, .int .i64 0, .int .i64 2, .int .i64 0, .int .i64 3, .int .i64 1, .int .i64 2, .int .i64 1, .int .i64 3, .int .i64 2, .int .i64 3])
  h2.modify 2 (refill #[.int .i64 0, .int .i64 2, .int .i64 10, .int .i64 4, .int .i64 24, .int .i64 30, .int .i64 18, .int .i64 44, .int .i64 32, .int .i64 70, .int .i64 108])
/-- A world for the witness: the tables hold what their initialisers lay. -/
noncomputable def laidWorld (os : Os) : World :=
  { World.holding Tryd.prog os ⟨#[], #[], []⟩ with heap := laidHeap (World.holding Tryd.prog os ⟨#[], #[], []⟩).heap }

/-- The list that came in. -/
theorem list_of_trod {H : Type} {enc : TypeId × Value → H} {W : World} {a : Option Addr} {len cap : Nat} {d : DataW H} {p : List MemPlace}
    (h : DataW.Trod enc Tryd.prog W 0 (fun _ => true) true 22 (.slice a len cap) d p) : ListAt W a len := by
  obtain ⟨fuel, hf⟩ := h
  rcases open_ints Tryd.underlying22 Tryd.underlying3 (by kernel_rfl) hf with ⟨hcs, _⟩ | ⟨x, l, c, zs, hcs, _, hl, hm, hz, _, hcell, hwz⟩
  · simp [Value.cells] at hcs
    obtain ⟨rfl, rfl, rfl⟩ := hcs
    exact ⟨by omega, fun j hj => by omega⟩
  · simp [Value.cells] at hcs
    obtain ⟨rfl, rfl, rfl⟩ := hcs
    have hz' : zs.length = cap := by simpa using hz
    have hm' : cap ≤ 9223372036854775807 := hm
    refine ⟨by omega, fun j hj => ?_⟩
    have hc := hcell j (by omega)
    obtain ⟨b, off, spot⟩ := x
    have hs : spot = none := by
      have hc := hcell 0 (by omega)
      unfold World.cell? at hc
      split at hc
      · split at hc
        · cases hc
        · rename_i hsp
          simpa [Addr.add] using hsp
      · cases hc
    subst hs
    have hwf := hwz (zs.getD j 0) (by
      rw [List.getD_eq_getElem?_getD, List.getElem?_eq_getElem (by omega)]
      exact List.getElem_mem _)
    simp only [Lit.wf, Bool.and_eq_true, decide_eq_true_eq] at hwf
    refine ⟨b, off, _, rfl, ?_, hwf.1, hwf.2⟩
    by_cases h0 : j = 0
    · subst h0
      exact hc
    · simpa [Addr.add, h0] using hc
end Go.Proofs.YtbkacbbhiecnkaaDoor
