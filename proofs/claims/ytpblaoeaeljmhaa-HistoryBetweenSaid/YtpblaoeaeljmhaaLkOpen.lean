/- What an argument that is an event or a state reads as. -/
import Derived.Test.YtpblaoeaeljmhaaPlainCard
import Derived.Test.YtpblaoeaeljmhaaArgOpen
import Derived.Test.YtpblaoeaeljmhaaLkSlices
namespace Go.Proofs.Ytpblaoeaeljmhaa
open Go.ChangeShapes Go.WideShapes Go.ChangeAt Go.RowKit Go.Deep

theorem list_seven {α : Type} {l : List α} (h : l.length = 7) : ∃ a b c d e f g, l = [a, b, c, d, e, f, g] := by
  match l, h with
  | [a, b, c, d, e, f, g], _ => exact ⟨a, b, c, d, e, f, g, rfl⟩
theorem list_six {α : Type} {l : List α} (h : l.length = 6) : ∃ a b c d e f, l = [a, b, c, d, e, f] := by
  match l, h with
  | [a, b, c, d, e, f], _ => exact ⟨a, b, c, d, e, f, rfl⟩
section
variable {H : Type} {enc : TypeId × Value → H} {w : World}
set_option maxRecDepth 100000 in
/-- the cells of an event -/
theorem ev_of_trod {base : Nat} {sp : Nat → Bool} {held : Bool} {fuel : Nat} {cs : List Value} {x : DataW H × List MemPlace} (h : DataW.trod enc Try.prog w base sp held fuel 52 cs = some x) : ∃ e : Ev, cs = e.cells.toList := by
  obtain ⟨hl, hf⟩ := field_one Try.underlying52 (by kernel_rfl) (by kernel_rfl) h
  obtain ⟨v0, v1, v2, v3, v4, v5, v6, rfl⟩ := list_seven hl
  have g : ∀ (i : Nat) (f : Field) (v : Value), (Try.prog.underlying f.type = some (.int .i64)) → (∃ n y, DataW.trod enc Try.prog w base sp held n f.type [v] = some y) → ∃ z, v = .int .i64 z := fun i f v ht ⟨n, y, hy⟩ => by
    obtain ⟨z, e, _⟩ := DataW.trod_int ht hy
    exact ⟨z, by simpa using e⟩
  obtain ⟨z0, rfl⟩ := g 0 _ _ Try.underlying3 (hf 0 _ v0 rfl rfl)
  obtain ⟨z1, rfl⟩ := g 1 _ _ Try.underlying3 (hf 1 _ v1 rfl rfl)
  obtain ⟨z2, rfl⟩ := g 2 _ _ Try.underlying3 (hf 2 _ v2 rfl rfl)
  obtain ⟨z3, rfl⟩ := g 3 _ _ Try.underlying3 (hf 3 _ v3 rfl rfl)
  obtain ⟨z4, rfl⟩ := g 4 _ _ Try.underlying3 (hf 4 _ v4 rfl rfl)
  obtain ⟨z5, rfl⟩ := g 5 _ _ Try.underlying3 (hf 5 _ v5 rfl rfl)
  obtain ⟨z6, rfl⟩ := g 6 _ _ Try.underlying3 (hf 6 _ v6 rfl rfl)
  exact ⟨⟨z0, z1, z2, z3, z4, z5, z6⟩, rfl⟩
set_option maxRecDepth 100000 in
/-- the cells of a link -/
theorem lk_of_trod {base : Nat} {sp : Nat → Bool} {held : Bool} {fuel : Nat} {cs : List Value} {x : DataW H × List MemPlace} (h : DataW.trod enc Try.prog w base sp held fuel 62 cs = some x) : ∃ e : Lk, cs = e.cells.toList := by
  obtain ⟨hl, hf⟩ := field_one Try.underlying62 (by kernel_rfl) (by kernel_rfl) h
  obtain ⟨v0, v1, v2, v3, v4, v5, rfl⟩ := list_six hl
  have g : ∀ (i : Nat) (f : Field) (v : Value), (Try.prog.underlying f.type = some (.int .i64)) → (∃ n y, DataW.trod enc Try.prog w base sp held n f.type [v] = some y) → ∃ z, v = .int .i64 z := fun i f v ht ⟨n, y, hy⟩ => by
    obtain ⟨z, e, _⟩ := DataW.trod_int ht hy
    exact ⟨z, by simpa using e⟩
  obtain ⟨z0, rfl⟩ := g 0 _ _ Try.underlying3 (hf 0 _ v0 rfl rfl)
  obtain ⟨z1, rfl⟩ := g 1 _ _ Try.underlying3 (hf 1 _ v1 rfl rfl)
  obtain ⟨z2, rfl⟩ := g 2 _ _ Try.underlying3 (hf 2 _ v2 rfl rfl)
  obtain ⟨z3, rfl⟩ := g 3 _ _ Try.underlying3 (hf 3 _ v3 rfl rfl)
  obtain ⟨z4, rfl⟩ := g 4 _ _ Try.underlying3 (hf 4 _ v4 rfl rfl)
  obtain ⟨z5, rfl⟩ := g 5 _ _ Try.underlying3 (hf 5 _ v5 rfl rfl)
  exact ⟨⟨z0, z1, z2, z3, z4, z5⟩, rfl⟩
set_option maxRecDepth 100000 in
/-- a slice of links -/
theorem lrows_of_trod {base : Nat} {sp : Nat → Bool} {held : Bool} {fuel : Nat} {v : Value} {x : DataW H × List MemPlace} (h : DataW.trod enc Try.prog w base sp held fuel 33 [v] = some x) : ∃ (a : Option Addr) (len cap : Nat), v = .slice a len cap ∧ (len ≤ 100 → ∃ xs : List Lk, xs.length = len ∧ RowAt encLk w (.slice a xs.length cap) xs) := by
  rcases open_slice Try.underlying33 h with ⟨hcs, _⟩ | ⟨ad, len, cap, m, n, D, Pl, hcs, _, hl, _, hm, _, hi⟩
  · obtain rfl : v = .slice none 0 0 := by simpa using hcs
    exact ⟨none, 0, 0, rfl, fun _ => ⟨[], rfl, RowAt.nil _⟩⟩
  · obtain rfl : v = .slice (some ad) len cap := by simpa using hcs
    refine ⟨some ad, len, cap, rfl, fun h100 => ?_⟩
    have hlm : len ≤ m := by rw [hm]; split <;> omega
    have hC : Try.prog.cellsOf 62 = 6 := by kernel_rfl
    rw [hC] at hi
    have hex : ∀ i, ∃ e : Lk, i < len → ∀ r u, (encLk.enc e)[r]? = some u → w.cell? (ad.add (i * 6 + r)) = some u := by
      intro i
      by_cases hil : i < len
      · obtain ⟨cs, hc, ht⟩ := hi i (by omega)
        obtain ⟨e, rfl⟩ := lk_of_trod ht
        obtain ⟨_, _, hat⟩ := World.cells?_some hc
        refine ⟨e, fun _ r u hu => ?_⟩
        have hr : r < 6 := by have := (List.getElem?_eq_some_iff.1 hu).1; rw [encLk.len] at this; exact this
        have h1 := hat r hr
        rw [Go.Deep.add_add] at h1
        rw [h1]; exact hu
      · exact ⟨⟨0, 0, 0, 0, 0, 0⟩, fun h => absurd h hil⟩
    obtain ⟨f, hf⟩ := Classical.axiomOfChoice hex
    have hlen : ((List.range len).map f).length = len := by simp
    refine ⟨(List.range len).map f, hlen, _, cap, rfl, by rw [hlen]; exact hl, (fun h => by cases h), by rw [hlen]; omega, fun j u hj => ?_⟩
    obtain ⟨b, off, spot⟩ := ad
    have hjl := (List.getElem?_eq_some_iff.1 hj).1
    rw [flatR_length, hlen] at hjl
    have hjl : j < len * 6 := hjl
    have hpos : 0 < len := by omega
    have hs : spot = none := by
      have hc := hf 0 hpos 0 _ rfl
      rw [show (0 : Nat) * 6 + 0 = 0 from rfl] at hc
      unfold World.cell? at hc
      split at hc
      · split at hc
        · cases hc
        · rename_i hsp
          simpa [Addr.add] using hsp
      · cases hc
    subst hs
    have hi6 : j / 6 < len := by omega
    have hdm : j = j / 6 * encLk.k + j % 6 := by show j = j / 6 * 6 + j % 6; omega
    have hr6 : j % 6 < (encLk.enc (f (j / 6))).length := by rw [encLk.len]; exact Nat.mod_lt _ (by decide)
    have hg := flatR_get encLk ((List.range len).map f) (j / 6) (f (j / 6)) (by simp [hi6]) (j % 6) _ (List.getElem?_eq_getElem hr6)
    rw [← hdm, hj] at hg
    have hc := hf (j / 6) hi6 (j % 6) _ (List.getElem?_eq_getElem hr6)
    rw [← Option.some.inj hg] at hc
    refine ⟨b, off, rfl, ?_⟩
    rw [show j / 6 * 6 + j % 6 = j by omega] at hc
    by_cases h0 : j = 0
    · rw [h0] at hc ⊢; exact hc
    · simpa [Addr.add, h0] using hc
set_option maxRecDepth 100000 in
/-- a state by value -/
theorem state_of_trod {base b0 : Nat} {sp : Nat → Bool} {held : Bool} {r : Reach} {v : Value} {d : DataW H} {p : List MemPlace} (hv : Value.okWide Try.prog w r b0 35 v) (h : DataW.Trod enc Try.prog w base sp held 35 v d p) :
    ∃ (n : Int) (a : Option Addr) (len cap : Nat) (ls : List Lk), v = .agg #[.int .i64 n, .slice a len cap] ∧ (len ≤ 100 → ls.length = len ∧ RowAt encLk w (.slice a ls.length cap) ls) := by
  obtain ⟨cs, rfl, hsz⟩ := okWide_struct Try.underlying35 hv
  obtain ⟨fuel, hf⟩ := h
  obtain ⟨hl, hg⟩ := field_one Try.underlying35 (by kernel_rfl) (by kernel_rfl) hf
  obtain ⟨l⟩ := cs
  have hll : l.length = 2 := by simpa using hsz.trans (show Try.prog.cellsOf 35 = 2 by kernel_rfl)
  obtain ⟨v0, v1, rfl⟩ := list_two' hll
  have g : ∀ (f : Field) (v : Value), (Try.prog.underlying f.type = some (.int .i64)) → (∃ n y, DataW.trod enc Try.prog w base sp held n f.type [v] = some y) → ∃ z, v = .int .i64 z := fun f v ht ⟨n, y, hy⟩ => by
    obtain ⟨z, e, _⟩ := DataW.trod_int ht hy
    exact ⟨z, by simpa using e⟩
  obtain ⟨z0, rfl⟩ := g _ _ Try.underlying3 (hg 0 _ v0 rfl rfl)
  obtain ⟨n, y, hy⟩ := hg 1 _ v1 rfl rfl
  obtain ⟨ra, rn, rc, rfl, hrow⟩ := lrows_of_trod hy
  by_cases h6 : rn ≤ 100
  · obtain ⟨es, h1, h2⟩ := hrow h6
    exact ⟨z0, ra, rn, rc, es, rfl, fun _ => ⟨h1, h2⟩⟩
  · exact ⟨z0, ra, rn, rc, [], rfl, fun h => absurd h h6⟩
set_option maxRecDepth 100000 in
/-- an event by value -/
theorem ev_of_arg {base b0 : Nat} {sp : Nat → Bool} {held : Bool} {r : Reach} {v : Value} {d : DataW H} {p : List MemPlace} (hv : Value.okWide Try.prog w r b0 52 v) (h : DataW.Trod enc Try.prog w base sp held 52 v d p) : ∃ e : Ev, v = .agg e.cells := by
  obtain ⟨cs, rfl, _⟩ := okWide_struct Try.underlying52 hv
  obtain ⟨fuel, hf⟩ := h
  obtain ⟨e, he⟩ := ev_of_trod hf
  exact ⟨e, by rw [show cs = e.cells from by have h1 : cs.toList = e.cells.toList := he; exact Array.toList_inj.1 h1]⟩
end
end Go.Proofs.Ytpblaoeaeljmhaa
