/- What an argument that is an event, a buffer, or a slice of events reads as. -/
import Derived.Test.YtpblaoeaeljmhaaPlainCard
import Derived.Test.YtpblaoeaeljmhaaEvSlices
import Derived.Deep.Slices
import Derived.Deep.Fields
import Derived.ChangeSame
import Derived.Lib.SmallJoins
namespace Go.Proofs.Ytpblaoeaeljmhaa
open Go.ChangeShapes Go.WideShapes Go.ChangeAt Go.RowKit Go.Deep

abbrev Buf0 := Int × Int × Int
theorem list_seven {α : Type} {l : List α} (h : l.length = 7) : ∃ a b c d e f g, l = [a, b, c, d, e, f, g] := by
  match l, h with
  | [a, b, c, d, e, f, g], _ => exact ⟨a, b, c, d, e, f, g, rfl⟩
theorem list_four {α : Type} {l : List α} (h : l.length = 4) : ∃ a b c d, l = [a, b, c, d] := by
  match l, h with
  | [a, b, c, d], _ => exact ⟨a, b, c, d, rfl⟩
section
variable {H : Type} {enc : TypeId × Value → H} {w : World}
/-- a field of one cell, read by itself -/
theorem field_one {P : Program} {base : Nat} {sp : Nat → Bool} {held : Bool} {fuel : Nat} {t : TypeId} {fs : Array Field} {cs : List Value} {x : DataW H × List MemPlace} (ht : P.underlying t = some (.struct fs)) (hone : oneCellFields P fs = true) (hC : P.cellsOf t = fs.size)
    (h : DataW.trod enc P w base sp held fuel t cs = some x) : cs.length = fs.size ∧ ∀ (i : Nat) (f : Field) (v : Value), fs[i]? = some f → cs[i]? = some v → ∃ n y, DataW.trod enc P w base sp held n f.type [v] = some y := by
  obtain ⟨xs, n, _, _, hlen, hxl, hf⟩ := DataW.trod_struct ht h
  rw [hC] at hlen
  refine ⟨hlen, fun i f v hi hv => ?_⟩
  obtain ⟨o, k⟩ := hone_of hone i f hi
  have h1 := hf i f hi
  rw [o, k] at h1
  have hlt := (List.getElem?_eq_some_iff.1 hv).1
  have e : (cs.drop i).take 1 = [v] := by
    rw [List.drop_eq_getElem_cons hlt]
    have := (List.getElem?_eq_some_iff.1 hv).2
    simp [this]
  rw [e] at h1
  have hx : i < xs.length := by rw [hxl]; exact (Array.getElem?_eq_some_iff.1 hi).1
  rw [List.getElem?_eq_getElem hx] at h1
  exact ⟨n, _, h1⟩
set_option maxRecDepth 100000 in
/-- the cells of an event -/
theorem ev_of_trod {base : Nat} {sp : Nat → Bool} {held : Bool} {fuel : Nat} {cs : List Value} {x : DataW H × List MemPlace} (h : DataW.trod enc Try.prog w base sp held fuel 52 cs = some x) : ∃ e : Ev, cs = e.cells.toList := by
  obtain ⟨hl, hf⟩ := field_one Try.underlying52 (by kernel_rfl) (by kernel_rfl) h
  obtain ⟨v0, v1, v2, v3, v4, v5, v6, rfl⟩ := list_seven hl
  have g : ∀ (i : Nat) (f : Field) (v : Value), (Try.prog.underlying f.type = some (.int .i64)) → (∃ n y, DataW.trod enc Try.prog w base sp held n f.type [v] = some y) → ∃ z, v = .int .i64 z := fun i f v ht ⟨n, y, hy⟩ => by
    obtain ⟨z, e, _⟩ := DataW.trod_int ht hy
    exact ⟨z, by simpa using e⟩
  obtain ⟨z0, rfl⟩ := g 0 _ _ Try.underlying3 (hf 0 _ v0 rfl rfl)
  obtain ⟨z1, rfl⟩ := g 1 _ _ Try.underlying3 (hf 1 _ v1 rfl rfl)
  obtain ⟨z2, rfl⟩ := g 2 _ _ Try.underlying3 (hf 2 _ v2 rfl rfl)
  obtain ⟨z3, rfl⟩ := g 3 _ _ Try.underlying3 (hf 3 _ v3 rfl rfl)
  obtain ⟨z4, rfl⟩ := g 4 _ _ Try.underlying3 (hf 4 _ v4 rfl rfl)
  obtain ⟨z5, rfl⟩ := g 5 _ _ Try.underlying3 (hf 5 _ v5 rfl rfl)
  obtain ⟨z6, rfl⟩ := g 6 _ _ Try.underlying3 (hf 6 _ v6 rfl rfl)
  exact ⟨⟨z0, z1, z2, z3, z4, z5, z6⟩, rfl⟩
/-- a slice of events -/
theorem rows_of_trod {base : Nat} {sp : Nat → Bool} {held : Bool} {fuel : Nat} {v : Value} {x : DataW H × List MemPlace} (h : DataW.trod enc Try.prog w base sp held fuel 26 [v] = some x) : ∃ (a : Option Addr) (len cap : Nat), v = .slice a len cap ∧ (len ≤ 60 → ∃ xs : List Ev, xs.length = len ∧ RowAt encEv w (.slice a xs.length cap) xs) := by
  rcases open_slice Try.underlying26 h with ⟨hcs, _⟩ | ⟨ad, len, cap, m, n, D, Pl, hcs, _, hl, _, hm, _, hi⟩
  · obtain rfl : v = .slice none 0 0 := by simpa using hcs
    exact ⟨none, 0, 0, rfl, fun _ => ⟨[], rfl, RowAt.nil _⟩⟩
  · obtain rfl : v = .slice (some ad) len cap := by simpa using hcs
    refine ⟨some ad, len, cap, rfl, fun h60 => ?_⟩
    have hlm : len ≤ m := by rw [hm]; split <;> omega
    have hC : Try.prog.cellsOf 52 = 7 := by kernel_rfl
    rw [hC] at hi
    have hex : ∀ i, ∃ e : Ev, i < len → ∀ r u, (encEv.enc e)[r]? = some u → w.cell? (ad.add (i * 7 + r)) = some u := by
      intro i
      by_cases hil : i < len
      · obtain ⟨cs, hc, ht⟩ := hi i (by omega)
        obtain ⟨e, rfl⟩ := ev_of_trod ht
        obtain ⟨_, _, hat⟩ := World.cells?_some hc
        refine ⟨e, fun _ r u hu => ?_⟩
        have hr : r < 7 := by have := (List.getElem?_eq_some_iff.1 hu).1; rw [encEv.len] at this; exact this
        have h1 := hat r hr
        rw [Go.Deep.add_add] at h1
        rw [h1]; exact hu
      · exact ⟨⟨0, 0, 0, 0, 0, 0, 0⟩, fun h => absurd h hil⟩
    obtain ⟨f, hf⟩ := Classical.axiomOfChoice hex
    have hlen : ((List.range len).map f).length = len := by simp
    refine ⟨(List.range len).map f, hlen, _, cap, rfl, by rw [hlen]; exact hl, (fun h => by cases h), by rw [hlen]; omega, fun j u hj => ?_⟩
    obtain ⟨b, off, spot⟩ := ad
    have hjl := (List.getElem?_eq_some_iff.1 hj).1
    rw [flatR_length, hlen] at hjl
    have hjl : j < len * 7 := hjl
    have hpos : 0 < len := by omega
    have hs : spot = none := by
      have hc := hf 0 hpos 0 _ rfl
      rw [show (0 : Nat) * 7 + 0 = 0 from rfl] at hc
      unfold World.cell? at hc
      split at hc
      · split at hc
        · cases hc
        · rename_i hsp
          simpa [Addr.add] using hsp
      · cases hc
    subst hs
    have hi7 : j / 7 < len := by omega
    have hdm : j = j / 7 * encEv.k + j % 7 := by show j = j / 7 * 7 + j % 7; omega
    have hr7 : j % 7 < (encEv.enc (f (j / 7))).length := by rw [encEv.len]; exact Nat.mod_lt _ (by decide)
    have hg := flatR_get encEv ((List.range len).map f) (j / 7) (f (j / 7)) (by simp [hi7]) (j % 7) _ (List.getElem?_eq_getElem hr7)
    rw [← hdm, hj] at hg
    have hc := hf (j / 7) hi7 (j % 7) _ (List.getElem?_eq_getElem hr7)
    rw [← Option.some.inj hg] at hc
    refine ⟨b, off, rfl, ?_⟩
    rw [show j / 7 * 7 + j % 7 = j by omega] at hc
    by_cases h0 : j = 0
    · rw [h0] at hc ⊢; exact hc
    · simpa [Addr.add, h0] using hc
set_option maxRecDepth 100000 in
/-- an event by value -/
theorem ev_of_arg {base b0 : Nat} {sp : Nat → Bool} {held : Bool} {r : Reach} {v : Value} {d : DataW H} {p : List MemPlace} (hv : Value.okWide Try.prog w r b0 52 v) (h : DataW.Trod enc Try.prog w base sp held 52 v d p) : ∃ e : Ev, v = .agg e.cells := by
  obtain ⟨cs, rfl, _⟩ := okWide_struct Try.underlying52 hv
  obtain ⟨fuel, hf⟩ := h
  obtain ⟨e, he⟩ := ev_of_trod hf
  exact ⟨e, by rw [show cs = e.cells from by have h1 : cs.toList = e.cells.toList := he; exact Array.toList_inj.1 h1]⟩
set_option maxRecDepth 100000 in
/-- a slice of events as an argument -/
theorem rows_of_arg {base b0 : Nat} {sp : Nat → Bool} {held : Bool} {r : Reach} {v : Value} {d : DataW H} {p : List MemPlace} (hv : Value.okWide Try.prog w r b0 26 v) (h : DataW.Trod enc Try.prog w base sp held 26 v d p) : ∃ (a : Option Addr) (len cap : Nat) (ls : List Ev), v = .slice a len cap ∧ (len ≤ 60 → ls.length = len ∧ RowAt encEv w (.slice a ls.length cap) ls) := by
  obtain ⟨fuel, hf⟩ := h
  obtain ⟨a, len, cap, rfl⟩ := okWide_slice Try.underlying26 hv
  obtain ⟨a', len', cap', e, h2⟩ := rows_of_trod hf
  cases e
  by_cases h6 : len ≤ 60
  · obtain ⟨ls, h3, h4⟩ := h2 h6
    exact ⟨a, len, cap, ls, rfl, fun _ => ⟨h3, h4⟩⟩
  · exact ⟨a, len, cap, [], rfl, fun h => absurd h h6⟩
end
end Go.Proofs.Ytpblaoeaeljmhaa
