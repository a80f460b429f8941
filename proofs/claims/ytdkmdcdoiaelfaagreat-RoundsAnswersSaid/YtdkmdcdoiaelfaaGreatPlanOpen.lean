/- An argument that is a plan. -/
import Derived.Test.YtdkmdcdoiaelfaaGreatPlainArg
import Derived.Test.YtdkmdcdoiaelfaaGreatRdCopy
namespace Go.Proofs.YtdkmdcdoiaelfaaGreat
open Go.ChangeShapes Go.WideShapes Go.ChangeAt Go.RowKit Go.Deep

theorem shape_lt {w : World} {b : Nat} {x : TypeId × Nat} (h : w.shape? b = some x) : b < w.heap.size := by
  by_cases hb : b < w.heap.size
  · exact hb
  · have h1 : w.heap[b]? = none := Array.getElem?_eq_none (by omega)
    unfold World.shape? at h
    rw [h1] at h
    cases h
/-- a cell that is a slice lies in a block that is there -/
theorem cell_slice {P : Program} {w : World} {r : Reach} {base : Nat} {t e : TypeId} {v : Value} (ht : P.underlying t = some (.slice e)) (h : Cell.okWide P w r base t v) : ∃ a len cap, v = .slice a len cap ∧ ∀ p, a = some p → p.block < w.heap.size := by
  unfold Cell.okWide at h
  rw [ht] at h
  have h2 : Cell.ok P w r base t v := h
  unfold Cell.ok at h2
  rw [ht] at h2
  cases v with
  | slice a len cap =>
    refine ⟨a, len, cap, rfl, fun p hp => ?_⟩
    subst hp
    dsimp only at h2
    obtain ⟨-, -, -, -, row, cells, hsh, -⟩ := h2
    exact shape_lt hsh
  | _ => exact absurd h2 id
theorem list_three {α : Type} {l : List α} (h : l.length = 3) : ∃ a b c, l = [a, b, c] := by
  match l, h with
  | [a, b, c], _ => exact ⟨a, b, c, rfl⟩
section
variable {H : Type} {enc : TypeId × Value → H} {w : World}
set_option maxRecDepth 100000 in
/-- a plan by value -/
theorem plan_of_trod {base b0 : Nat} {sp : Nat → Bool} {held : Bool} {r : Reach} {v : Value} {d : DataW H} {p : List MemPlace} (hv : Value.okWide Tryz.prog w r b0 27 v) (h : DataW.Trod enc Tryz.prog w base sp held 27 v d p) :
    ∃ (z : Int) (a : Option Addr) (len cap : Nat) (a2 : Option Addr) (len2 cap2 : Nat) (xs ys : List Int), v = .agg #[.int .i64 z, .slice a len cap, .slice a2 len2 cap2] ∧ (len ≤ 100000 → IntsAt w (.slice a xs.length cap) xs ∧ xs.length = len) ∧ (len2 ≤ 100000 → IntsAt w (.slice a2 ys.length cap2) ys ∧ ys.length = len2) ∧ LowV w.heap.size (.slice a len cap) := by
  have hu := Tryz.underlying27
  have hv2 := hv
  simp only [Value.okWide, hu] at hv2
  obtain ⟨cs, rfl, hsz, ts, hts, -, hcell⟩ := hv2
  have hts2 : Tryz.prog.cellTypes Tryz.prog.depth 27 = some [3, 22, 22] := by kernel_rfl
  obtain rfl : [3, 22, 22] = ts := Option.some.inj (hts2.symm.trans hts)
  obtain ⟨fuel, hf⟩ := h
  obtain ⟨hl, hg⟩ := field_one hu (by kernel_rfl) (by kernel_rfl) hf
  obtain ⟨l⟩ := cs
  have hll : l.length = 3 := by simpa using hsz.trans (show Tryz.prog.cellsOf 27 = 3 by kernel_rfl)
  obtain ⟨v0, v1, v2, rfl⟩ := list_three hll
  obtain ⟨n0, y0, hy0⟩ := hg 0 _ v0 rfl rfl
  obtain ⟨z0, e0, _⟩ := DataW.trod_int Tryz.underlying3 hy0
  obtain rfl : v0 = .int .i64 z0 := by simpa using e0
  obtain ⟨u1, hu1, hc1⟩ := hcell 1 v1 rfl
  obtain rfl : 22 = u1 := Option.some.inj hu1
  obtain ⟨a1, l1, k1, rfl, hlt1⟩ := cell_slice Tryz.underlying22 hc1
  obtain ⟨u2, hu2, hc2⟩ := hcell 2 v2 rfl
  obtain rfl : 22 = u2 := Option.some.inj hu2
  obtain ⟨a2, l2, k2, rfl, -⟩ := cell_slice Tryz.underlying22 hc2
  obtain ⟨n1, y1, hy1⟩ := hg 1 _ (.slice a1 l1 k1) rfl rfl
  obtain ⟨n2, y2, hy2⟩ := hg 2 _ (.slice a2 l2 k2) rfl rfl
  obtain ⟨xs, hxs⟩ := ints_of_trod (d := y1.1) (p := y1.2) rfl ⟨n1, hy1⟩
  obtain ⟨ys, hys⟩ := ints_of_trod (d := y2.1) (p := y2.2) rfl ⟨n2, hy2⟩
  exact ⟨z0, a1, l1, k1, a2, l2, k2, xs, ys, rfl, fun h => ⟨(hxs h).2, (hxs h).1⟩, fun h => ⟨(hys h).2, (hys h).1⟩, fun n' c' q e => by
    obtain ⟨e1, -, -⟩ := Value.slice.inj e
    exact hlt1 q e1⟩
end
end Go.Proofs.YtdkmdcdoiaelfaaGreat
