/- Cells, wherever they lie, each of which holds a row of one's own; rows of numbers that are only read and lie in blocks of one kind. -/
import Derived.Test.YtdkmdcdoiaelfaaGrid
namespace Go.Proofs.Ytdkmdcdoiaelfaa
open Go.RowKit Go.BigFrame

/-- names of the cells: the first number says what kind of cell it is -/
abbrev Ix := Nat × Nat
theorem heap_cell {w w' : World} {b o : Nat} (h : w'.heap[b]? = w.heap[b]?) : w'.cell? ⟨b, o, none⟩ = w.cell? ⟨b, o, none⟩ ∧ w'.frozen? ⟨b, o, none⟩ = w.frozen? ⟨b, o, none⟩ := by
  constructor
  · simp only [World.cell?, h]
  · simp only [World.frozen?, h]
def updX {α : Type} (f : Ix → α) (i : Ix) (v : α) : Ix → α := fun x => if x = i then v else f x
structure GridA (w : World) (lo : Nat) (I : Ix → Prop) (ad : Ix → Nat × Nat) (vs : Ix → Value) (TE kk : Ix → Nat) (len : Ix → Nat) (cs : Ix → List Value) : Prop where
  low : ∀ i, I i → lo ≤ (ad i).1
  cell : ∀ i, I i → w.cell? ⟨(ad i).1, (ad i).2, none⟩ = some (vs i)
  free : ∀ i, I i → w.frozen? ⟨(ad i).1, (ad i).2, none⟩ = false
  own : ∀ i, I i → w.ownsRow lo (TE i) (kk i) (vs i) (len i) (cs i)
  off : ∀ i j, I i → I j → (vs i).ownBlock ≠ some (ad j).1
  apart : ∀ i j, I i → I j → i ≠ j → ∀ b, (vs i).ownBlock = some b → (vs j).ownBlock ≠ some b
  dist : ∀ i j, I i → I j → i ≠ j → ad i ≠ ad j
section
variable {w w' : World} {lo : Nat} {I : Ix → Prop} {ad : Ix → Nat × Nat} {vs : Ix → Value} {TE kk len : Ix → Nat} {cs : Ix → List Value}
theorem GridA.lt (h : GridA w lo I ad vs TE kk len cs) (i : Ix) (hi : I i) : (ad i).1 < w.heap.size := cell_lt (h.cell i hi)
theorem GridA.congr {len' : Ix → Nat} {cs' : Ix → List Value} (h : GridA w lo I ad vs TE kk len cs) (h1 : ∀ i, I i → len i = len' i) (h2 : ∀ i, I i → cs i = cs' i) : GridA w lo I ad vs TE kk len' cs' :=
  ⟨h.low, h.cell, h.free, fun i hi => by rw [← h1 i hi, ← h2 i hi]; exact h.own i hi, h.off, h.apart, h.dist⟩
theorem GridA.sub {J : Ix → Prop} (h : GridA w lo I ad vs TE kk len cs) (hs : ∀ i, J i → I i) : GridA w lo J ad vs TE kk len cs :=
  ⟨fun i hi => h.low i (hs i hi), fun i hi => h.cell i (hs i hi), fun i hi => h.free i (hs i hi), fun i hi => h.own i (hs i hi), fun i j hi hj => h.off i j (hs i hi) (hs j hj), fun i j hi hj => h.apart i j (hs i hi) (hs j hj), fun i j hi hj => h.dist i j (hs i hi) (hs j hj)⟩
/-- what happens elsewhere -/
theorem GridA.kept {r : Option Nat} (h : GridA w lo I ad vs TE kk len cs) (hg : w.grownBy w' r) (h0 : ∀ i, I i → r ≠ some (ad i).1) (h1 : ∀ i, I i → ∀ b, (vs i).ownBlock = some b → r ≠ some b) : GridA w' lo I ad vs TE kk len cs :=
  ⟨h.low, fun i hi => (heap_cell (hg.block _ (h.lt i hi) (fun e => h0 i hi e.symm))).1.trans (h.cell i hi), fun i hi => (heap_cell (hg.block _ (h.lt i hi) (fun e => h0 i hi e.symm))).2.trans (h.free i hi),
    fun i hi => (h.own i hi).kept hg (by
      cases e : (vs i).ownBlock with
      | none => exact .inl rfl
      | some b => exact .inr fun e2 => h1 i hi b e e2.symm), h.off, h.apart, h.dist⟩
theorem GridA.below (h : GridA w lo I ad vs TE kk len cs) (hb : Below w.heap.size w w') : GridA w' lo I ad vs TE kk len cs := h.kept (grown_of_below hb) (by simp) (fun _ _ _ _ => by simp)
/-- a row has turned in its place -/
theorem GridA.turn {i : Ix} {n : Nat} {c : List Value} (h : GridA w lo I ad vs TE kk len cs) (hi : I i) (hg : w.grownBy w' (vs i).ownBlock) (hown : w'.ownsRow lo (TE i) (kk i) (vs i) n c) : GridA w' lo I ad vs TE kk (updX len i n) (updX cs i c) :=
  ⟨h.low, fun j hj => (heap_cell (hg.block _ (h.lt j hj) (fun e => h.off i j hi hj e.symm))).1.trans (h.cell j hj), fun j hj => (heap_cell (hg.block _ (h.lt j hj) (fun e => h.off i j hi hj e.symm))).2.trans (h.free j hj),
    fun j hj => by
      unfold updX
      by_cases e : j = i
      · subst e; rw [if_pos rfl, if_pos rfl]; exact hown
      · rw [if_neg e, if_neg e]
        refine (h.own j hj).kept hg ?_
        cases e2 : (vs j).ownBlock with
        | none => exact .inl rfl
        | some b => exact .inr fun e3 => h.apart j i hj hi e b e2 e3.symm, h.off, h.apart, h.dist⟩
/-- a row has turned: what it became is stored -/
theorem GridA.step {i : Ix} {n : Nat} {v : Value} {c : List Value} (h : GridA w lo I ad vs TE kk len cs) (hi : I i) (hg : w.grownBy w' (vs i).ownBlock) (hown : w'.ownsRow lo (TE i) (kk i) v n c) (hat : ∀ b, v.ownBlock = some b → (vs i).ownBlock = some b ∨ w.heap.size ≤ b) :
    GridA (w'.setCell ⟨(ad i).1, (ad i).2, none⟩ v) lo I ad (updX vs i v) TE kk (updX len i n) (updX cs i c) := by
  have hvg : ∀ j, I j → v.ownBlock ≠ some (ad j).1 := fun j hj e => by
    rcases hat _ e with e2 | e2
    · exact h.off i j hi hj e2
    · have := h.lt j hj; omega
  have hvj : ∀ j, I j → j ≠ i → ∀ b, (vs j).ownBlock = some b → v.ownBlock ≠ some b := fun j hj hne b hb e => by
    rcases hat b e with e2 | e2
    · exact h.apart j i hj hi hne b hb e2
    · have := ((h.own j hj).lt b hb).2; omega
  have hst : w'.grownBy (w'.setCell ⟨(ad i).1, (ad i).2, none⟩ v) (some (ad i).1) := grown_store
  have hc : ∀ j, I j → w'.cell? ⟨(ad j).1, (ad j).2, none⟩ = some (vs j) := fun j hj => (heap_cell (hg.block _ (h.lt j hj) (fun e => h.off i j hi hj e.symm))).1.trans (h.cell j hj)
  have hf : ∀ j, I j → w'.frozen? ⟨(ad j).1, (ad j).2, none⟩ = false := fun j hj => (heap_cell (hg.block _ (h.lt j hj) (fun e => h.off i j hi hj e.symm))).2.trans (h.free j hj)
  refine ⟨h.low, fun j hj => ?_, fun j hj => ?_, fun j hj => ?_, fun j l hj hl => ?_, fun j l hj hl hne b hb => ?_, h.dist⟩
  · unfold updX
    by_cases e : j = i
    · subst e; rw [if_pos rfl]; exact World.cell?_setCell_same _ _ _ (hc j hj)
    · rw [if_neg e, World.cell?_setCell_other]
      · exact hc j hj
      · intro e2
        refine h.dist j i hj hi e ?_
        have := Addr.mk.inj e2
        exact Prod.ext this.1.symm this.2.1.symm
  · rw [World.frozen?_setCell]; exact hf j hj
  · unfold updX
    by_cases e : j = i
    · subst e
      rw [if_pos rfl, if_pos rfl, if_pos rfl]
      exact hown.kept hst (.inr (hvg j hj))
    · rw [if_neg e, if_neg e, if_neg e]
      refine ((h.own j hj).kept hg ?_).kept hst (.inr (h.off j i hj hi))
      cases e2 : (vs j).ownBlock with
      | none => exact .inl rfl
      | some b => exact .inr fun e3 => h.apart j i hj hi e b e2 e3.symm
  · unfold updX
    by_cases e : j = i
    · rw [if_pos e]; exact hvg l hl
    · rw [if_neg e]; exact h.off j l hj hl
  · unfold updX at hb ⊢
    by_cases e : j = i
    · rw [if_pos e] at hb
      rw [if_neg (fun e2 => hne (e.trans e2.symm))]
      intro e3
      exact hvj l hl (fun e2 => hne (e.trans e2.symm)) b e3 hb
    · rw [if_neg e] at hb
      by_cases e2 : l = i
      · rw [if_pos e2]; exact hvj j hj e b hb
      · rw [if_neg e2]; exact h.apart j l hj hl hne b hb
end
/-- rows of numbers that are only read, in blocks of which Q holds -/
def RowsX (Q : Nat → Prop) (w : World) (v : Value) (Ls : List (List Int)) : Prop :=
  ∃ a cap, v = .slice a Ls.length cap ∧ Ls.length ≤ cap ∧ (a = none → cap = 0) ∧ Ls.length ≤ 1000000 ∧ ∀ i L, Ls[i]? = some L → ∃ b off a2 c2, a = some ⟨b, off, none⟩ ∧ Q b ∧ w.cell? ⟨b, off + i, none⟩ = some (.slice a2 L.length c2) ∧ IntsAt w (.slice a2 L.length c2) L ∧ ∀ p, a2 = some p → Q p.block
theorem RowsX.grown {Q : Nat → Prop} {w w' : World} {v : Value} {Ls : List (List Int)} {r : Option Nat} (h : RowsX Q w v Ls) (hg : w.grownBy w' r) (hr : ∀ b, Q b → r ≠ some b) : RowsX Q w' v Ls := by
  obtain ⟨a, cap, rfl, h1, h2, h3, h4⟩ := h
  refine ⟨a, cap, rfl, h1, h2, h3, fun i L hL => ?_⟩
  obtain ⟨b, off, a2, c2, rfl, hq, hc, hi, hp⟩ := h4 i L hL
  exact ⟨b, off, a2, c2, rfl, hq, hg.cell hc (fun e => hr b hq e.symm), hi.grown hg (fun g e n c p ep => fun e2 => by
    obtain rfl : a2 = some p := by have := (Value.slice.inj ep).1; exact this
    exact hr g (e2 ▸ hp p rfl) e), hp⟩
theorem RowsX.below {Q : Nat → Prop} {w w' : World} {v : Value} {Ls : List (List Int)} (h : RowsX Q w v Ls) (hb : Below w.heap.size w w') : RowsX Q w' v Ls := h.grown (grown_of_below hb) (by simp)
theorem RowsX.imp {Q R : Nat → Prop} {w : World} {v : Value} {Ls : List (List Int)} (h : RowsX Q w v Ls) (hq : ∀ b, Q b → R b) : RowsX R w v Ls := by
  obtain ⟨a, cap, rfl, h1, h2, h3, h4⟩ := h
  refine ⟨a, cap, rfl, h1, h2, h3, fun i L hL => ?_⟩
  obtain ⟨b, off, a2, c2, rfl, hb, hc, hi, hp⟩ := h4 i L hL
  exact ⟨b, off, a2, c2, rfl, hq b hb, hc, hi, fun p hp2 => hq _ (hp p hp2)⟩
theorem RowsX.at {Q : Nat → Prop} {w : World} {a : Option Addr} {m cap : Nat} {Ls : List (List Int)} (h : RowsX Q w (.slice a m cap) Ls) (i : Nat) (L : List Int) (hL : Ls[i]? = some L) :
    m = Ls.length ∧ ∃ b off a2 c2, a = some ⟨b, off, none⟩ ∧ m ≤ cap ∧ Q b ∧ w.cell? ⟨b, off + i, none⟩ = some (.slice a2 L.length c2) ∧ IntsAt w (.slice a2 L.length c2) L ∧ ∀ p, a2 = some p → Q p.block := by
  obtain ⟨a', cap', e, h1, h2, h3, h4⟩ := h
  cases e
  obtain ⟨b, off, a2, c2, rfl, hq, hc, hi, hp⟩ := h4 i L hL
  exact ⟨rfl, b, off, a2, c2, rfl, h1, hq, hc, hi, hp⟩
theorem RowsX.len {Q : Nat → Prop} {w : World} {a : Option Addr} {m cap : Nat} {Ls : List (List Int)} (h : RowsX Q w (.slice a m cap) Ls) : m = Ls.length ∧ m ≤ cap ∧ m ≤ 1000000 := by
  obtain ⟨a', cap', e, h1, h2, h3, h4⟩ := h
  cases e
  exact ⟨rfl, h1, h3⟩
/-- a grid's rows of one kind, in cells that follow one another -/
theorem GridA.rows {w : World} {lo : Nat} {I : Ix → Prop} {ad : Ix → Nat × Nat} {vs : Ix → Value} {TE kk len : Ix → Nat} {cs : Ix → List Value} (h : GridA w lo I ad vs TE kk len cs) (t N m cap : Nat) (Ls : Nat → List Int) (Q : Nat → Prop)
    (hI : ∀ i, i < m → I (t, i)) (hA : ∀ i, i < m → ad (t, i) = (N, i)) (hT : ∀ i, i < m → TE (t, i) = 3 ∧ kk (t, i) = 1) (hl : ∀ i, i < m → len (t, i) = (Ls i).length ∧ cs (t, i) = intsV (Ls i)) (hm : m ≤ 1000000) (hc : m ≤ cap) (hb : ∀ i, i < m → (Ls i).length ≤ 70368744177664)
    (hN : Q N) (hQ : ∀ i, i < m → ∀ b, (vs (t, i)).ownBlock = some b → Q b) : RowsX Q w (.slice (some ⟨N, 0, none⟩) m cap) ((List.range m).map Ls) := by
  have hlen : ((List.range m).map Ls).length = m := by simp
  refine ⟨some ⟨N, 0, none⟩, cap, by rw [hlen], by rw [hlen]; exact hc, (fun e => by cases e), by rw [hlen]; exact hm, fun i L hL => ?_⟩
  have hi : i < m := by
    have := (List.getElem?_eq_some_iff.1 hL).1
    rw [hlen] at this; exact this
  rw [List.getElem?_map, List.getElem?_range hi] at hL
  obtain rfl := Option.some.inj hL
  have ho := h.own _ (hI i hi)
  rw [(hT i hi).1, (hT i hi).2, (hl i hi).1, (hl i hi).2] at ho
  obtain ⟨a2, c2, e, hi2, -⟩ := IntsAt.of_owns ho (hb i hi)
  have hcell := h.cell _ (hI i hi)
  rw [hA i hi, e] at hcell
  refine ⟨N, 0, a2, c2, rfl, hN, by rw [Nat.zero_add]; exact hcell, hi2, fun p hp => ?_⟩
  subst hp
  have hob := hQ i hi
  rw [e] at hob
  rcases ho.2 with ⟨e2, _⟩ | ⟨g, cp, cur, e2, _⟩
  · rw [e] at e2; cases e2
  · rw [e] at e2
    have e3 := (Value.slice.inj e2).1
    have e4 : p = (⟨g, 0, none⟩ : Addr) := Option.some.inj e3
    subst e4
    exact hob g rfl
end Go.Proofs.Ytdkmdcdoiaelfaa
