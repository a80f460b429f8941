/- Rows of rows: a block of slices, each of which is a row of one's own; and rows of numbers that are only read. Cells, wherever they lie, each of which holds a row of one's own; rows of numbers that are only read and lie in blocks of one kind. -/
import Derived.Test.YtdkmdcdoiaelfaaGreatNumFn
import Derived.Test.YtdkmdcdoiaelfaaGreatMk
namespace Go.Proofs.YtdkmdcdoiaelfaaGreat
open Go.RowKit Go.BigFrame

theorem boxG_new (w : World) (cs : Array Value) (T : TypeId) : (w.alloc (.cells cs T)).heap[w.heap.size]? = some (.cells cs T (0, 0)) ∧ Below w.heap.size w (w.alloc (.cells cs T)) := ⟨heap_alloc_new _ _, (Below.refl _ _).alloc (Nat.le_refl _) _⟩
/-- slices as a function, in a block -/
def SlsAt (w : World) (g T m : Nat) (vs : Nat → Value) : Prop := w.heap[g]? = some (.cells ((List.range m).map vs).toArray T (0, 0))
def updV (vs : Nat → Value) (i : Nat) (v : Value) : Nat → Value := fun x => if x = i then v else vs x
theorem SlsAt.cell {w : World} {g T m : Nat} {vs : Nat → Value} (h : SlsAt w g T m vs) (i : Nat) (hi : i < m) : w.cell? ⟨g, i, none⟩ = some (vs i) := by
  rw [cell_blk h]
  simp [List.getElem?_range hi]
theorem SlsAt.free {w : World} {g T m : Nat} {vs : Nat → Value} (h : SlsAt w g T m vs) (j : Nat) : w.frozen? ⟨g, j, none⟩ = false := free_blk h
theorem range_set (vs : Nat → Value) (m i : Nat) (v : Value) : ((List.range m).map vs).set i v = (List.range m).map (updV vs i v) := by
  apply List.ext_getElem?
  intro j
  rw [List.getElem?_set]
  by_cases hj : j < m
  · rw [List.getElem?_map, List.getElem?_map, List.getElem?_range hj]
    by_cases e : i = j
    · subst e; simp [updV, hj]
    · rw [if_neg e]; simp [updV, Ne.symm e]
  · rw [List.getElem?_eq_none (by simp; omega), List.getElem?_eq_none (by simp; omega)]
    simp
    intro e; omega
theorem SlsAt.set {w : World} {g T m : Nat} {vs : Nat → Value} (h : SlsAt w g T m vs) (i : Nat) (v : Value) : SlsAt (w.setCell ⟨g, i, none⟩ v) g T m (updV vs i v) := by
  unfold SlsAt
  rw [heap_setCell_same _ _ _ _ _ _ h, ← range_set]
  simp
/-- a block of slices, each a row of one's own -/
structure GridO (w : World) (s g T m TE k : Nat) (vs : Nat → Value) (len : Nat → Nat) (cs : Nat → List Value) : Prop where
  blk : SlsAt w g T m vs
  own : ∀ i, i < m → w.ownsRow s TE k (vs i) (len i) (cs i)
  off : ∀ i, i < m → (vs i).ownBlock ≠ some g
  apart : ∀ i j, i < m → j < m → i ≠ j → ∀ b, (vs i).ownBlock = some b → (vs j).ownBlock ≠ some b
def updA {α : Type} (f : Nat → α) (i : Nat) (v : α) : Nat → α := fun x => if x = i then v else f x
section
variable {w w' : World} {s g T m TE k : Nat} {vs : Nat → Value} {len : Nat → Nat} {cs : Nat → List Value}
theorem GridO.congr {len' : Nat → Nat} {cs' : Nat → List Value} (h : GridO w s g T m TE k vs len cs) (h1 : ∀ i, i < m → len i = len' i) (h2 : ∀ i, i < m → cs i = cs' i) : GridO w s g T m TE k vs len' cs' :=
  ⟨h.blk, fun i hi => by rw [← h1 i hi, ← h2 i hi]; exact h.own i hi, h.off, h.apart⟩
theorem GridO.kept {r : Option Nat} (h : GridO w s g T m TE k vs len cs) (hg : w.grownBy w' r) (h0 : r ≠ some g) (h1 : ∀ i, i < m → ∀ b, (vs i).ownBlock = some b → r ≠ some b) : GridO w' s g T m TE k vs len cs :=
  ⟨grown_blk hg h.blk (fun e => h0 e.symm), fun i hi => (h.own i hi).kept hg (by
    cases e : (vs i).ownBlock with
    | none => exact .inl rfl
    | some b => exact .inr fun e2 => h1 i hi b e e2.symm), h.off, h.apart⟩
theorem GridO.below (h : GridO w s g T m TE k vs len cs) (hb : Below w.heap.size w w') : GridO w' s g T m TE k vs len cs := h.kept (grown_of_below hb) (by simp) (fun _ _ _ _ => by simp)
theorem GridO.lt (h : GridO w s g T m TE k vs len cs) : g < w.heap.size := blk_lt h.blk
/-- a row has turned: what it became is stored -/
theorem GridO.step {i n : Nat} {v : Value} {c : List Value} (h : GridO w s g T m TE k vs len cs) (hi : i < m) (hg : w.grownBy w' (vs i).ownBlock) (hown : w'.ownsRow s TE k v n c) (hat : ∀ b, v.ownBlock = some b → (vs i).ownBlock = some b ∨ w.heap.size ≤ b) :
    GridO (w'.setCell ⟨g, i, none⟩ v) s g T m TE k (updV vs i v) (updA len i n) (updA cs i c) := by
  have hgl := h.lt
  have hvg : v.ownBlock ≠ some g := fun e => by
    rcases hat g e with e2 | e2
    · exact h.off i hi e2
    · omega
  have hbk : SlsAt w' g T m vs := grown_blk hg h.blk (fun e => h.off i hi e.symm)
  have hvj : ∀ j, j < m → j ≠ i → ∀ b, (vs j).ownBlock = some b → v.ownBlock ≠ some b := fun j hj hne b hb e => by
    rcases hat b e with e2 | e2
    · exact h.apart j i hj hi hne b hb e2
    · have := ((h.own j hj).lt b hb).2; omega
  have hst : w'.grownBy (w'.setCell ⟨g, i, none⟩ v) (some g) := grown_store
  refine ⟨hbk.set i v, fun j hj => ?_, fun j hj => ?_, fun j l hj hl hne b hb => ?_⟩
  · by_cases e : j = i
    · subst e
      unfold updV updA
      rw [if_pos rfl, if_pos rfl, if_pos rfl]
      exact hown.kept hst (.inr hvg)
    · unfold updV updA
      rw [if_neg e, if_neg e, if_neg e]
      refine ((h.own j hj).kept hg ?_).kept hst (.inr (h.off j hj))
      cases e2 : (vs j).ownBlock with
      | none => exact .inl rfl
      | some b => exact .inr fun e3 => h.apart j i hj hi e b e2 e3.symm
  · unfold updV
    by_cases e : j = i
    · rw [if_pos e]; exact hvg
    · rw [if_neg e]; exact h.off j hj
  · unfold updV at hb ⊢
    by_cases e : j = i
    · rw [if_pos e] at hb
      rw [if_neg (fun e2 => hne (e.trans e2.symm))]
      intro e3
      exact hvj l hl (fun e2 => hne (e.trans e2.symm)) b e3 hb
    · rw [if_neg e] at hb
      by_cases e2 : l = i
      · rw [if_pos e2]; exact hvj j hj e b hb
      · rw [if_neg e2]; exact h.apart j l hj hl hne b hb
end
theorem rowsT : SliceT Tryz.prog 33 22 (.slice none 0 0) 1 24 := ⟨Tryz.underlying33, by kernel_rfl, rfl, by decide⟩
/-- 'make' of a number of rows, none of which has an element -/
theorem make_rows (n : Nat) (hn : n ≤ 1000000) : ∀ w, (Instr.makeSlice 33 (.int .i64 (n : Int)) (.int .i64 (n : Int))).run Tryz.prog w = .ok (.slice (some ⟨w.heap.size, 0, none⟩) n n) (w.alloc (.cells ((List.range n).map fun _ => Value.slice none 0 0).toArray 22)) := by
  intro w
  obtain ⟨i, hi, hz, hs, hb⟩ := info_parts rowsT.info
  have h := run_make (P := Tryz.prog) w 33 22 i (.slice none 0 0) Tryz.underlying33 hi hz .i64 .i64 (n : Int) (n : Int) (by omega) (Int.le_refl _) (by rw [hb]; omega) (by omega)
  rw [h, hs]
  simp only [Int.toNat_natCast, Nat.mul_one, Value.cells]
  have hm : madeCells #[Value.slice none 0 0] n = ((List.range n).map fun _ => Value.slice none 0 0).toArray := by
    apply Array.ext_getElem?
    intro j
    simp only [madeCells]
    by_cases hj : j < n
    · simp [hj, Nat.mod_one]
    · simp [hj]
  rw [hm]
theorem GridO.made (w : World) (s T n TE k : Nat) : GridO (w.alloc (.cells ((List.range n).map fun _ => Value.slice none 0 0).toArray T)) s w.heap.size T n TE k (fun _ => .slice none 0 0) (fun _ => 0) (fun _ => []) :=
  ⟨heap_alloc_new _ _, fun i _ => World.ownsRow_nil _ _ _ _, (fun i _ e => by cases e), (fun i j _ _ _ b hb => by cases hb)⟩
end Go.Proofs.YtdkmdcdoiaelfaaGreat

namespace Go.Proofs.YtdkmdcdoiaelfaaGreat
open Go.RowKit Go.BigFrame

/-- names of the cells: the first number says what kind of cell it is -/
abbrev Ix := Nat × Nat
theorem heap_cell {w w' : World} {b o : Nat} (h : w'.heap[b]? = w.heap[b]?) : w'.cell? ⟨b, o, none⟩ = w.cell? ⟨b, o, none⟩ ∧ w'.frozen? ⟨b, o, none⟩ = w.frozen? ⟨b, o, none⟩ := by
  constructor
  · simp only [World.cell?, h]
  · simp only [World.frozen?, h]
def updX {α : Type} (f : Ix → α) (i : Ix) (v : α) : Ix → α := fun x => if x = i then v else f x
structure GridA (w : World) (lo : Nat) (I : Ix → Prop) (ad : Ix → Nat × Nat) (vs : Ix → Value) (TE kk : Ix → Nat) (len : Ix → Nat) (cs : Ix → List Value) : Prop where
  low : ∀ i, I i → lo ≤ (ad i).1
  cell : ∀ i, I i → w.cell? ⟨(ad i).1, (ad i).2, none⟩ = some (vs i)
  free : ∀ i, I i → w.frozen? ⟨(ad i).1, (ad i).2, none⟩ = false
  own : ∀ i, I i → w.ownsRow lo (TE i) (kk i) (vs i) (len i) (cs i)
  off : ∀ i j, I i → I j → (vs i).ownBlock ≠ some (ad j).1
  apart : ∀ i j, I i → I j → i ≠ j → ∀ b, (vs i).ownBlock = some b → (vs j).ownBlock ≠ some b
  dist : ∀ i j, I i → I j → i ≠ j → ad i ≠ ad j
section
variable {w w' : World} {lo : Nat} {I : Ix → Prop} {ad : Ix → Nat × Nat} {vs : Ix → Value} {TE kk len : Ix → Nat} {cs : Ix → List Value}
theorem GridA.lt (h : GridA w lo I ad vs TE kk len cs) (i : Ix) (hi : I i) : (ad i).1 < w.heap.size := cell_lt (h.cell i hi)
theorem GridA.congr {len' : Ix → Nat} {cs' : Ix → List Value} (h : GridA w lo I ad vs TE kk len cs) (h1 : ∀ i, I i → len i = len' i) (h2 : ∀ i, I i → cs i = cs' i) : GridA w lo I ad vs TE kk len' cs' :=
  ⟨h.low, h.cell, h.free, fun i hi => by rw [← h1 i hi, ← h2 i hi]; exact h.own i hi, h.off, h.apart, h.dist⟩
theorem GridA.sub {J : Ix → Prop} (h : GridA w lo I ad vs TE kk len cs) (hs : ∀ i, J i → I i) : GridA w lo J ad vs TE kk len cs :=
  ⟨fun i hi => h.low i (hs i hi), fun i hi => h.cell i (hs i hi), fun i hi => h.free i (hs i hi), fun i hi => h.own i (hs i hi), fun i j hi hj => h.off i j (hs i hi) (hs j hj), fun i j hi hj => h.apart i j (hs i hi) (hs j hj), fun i j hi hj => h.dist i j (hs i hi) (hs j hj)⟩
/-- what happens elsewhere -/
theorem GridA.kept {r : Option Nat} (h : GridA w lo I ad vs TE kk len cs) (hg : w.grownBy w' r) (h0 : ∀ i, I i → r ≠ some (ad i).1) (h1 : ∀ i, I i → ∀ b, (vs i).ownBlock = some b → r ≠ some b) : GridA w' lo I ad vs TE kk len cs :=
  ⟨h.low, fun i hi => (heap_cell (hg.block _ (h.lt i hi) (fun e => h0 i hi e.symm))).1.trans (h.cell i hi), fun i hi => (heap_cell (hg.block _ (h.lt i hi) (fun e => h0 i hi e.symm))).2.trans (h.free i hi),
    fun i hi => (h.own i hi).kept hg (by
      cases e : (vs i).ownBlock with
      | none => exact .inl rfl
      | some b => exact .inr fun e2 => h1 i hi b e e2.symm), h.off, h.apart, h.dist⟩
theorem GridA.below (h : GridA w lo I ad vs TE kk len cs) (hb : Below w.heap.size w w') : GridA w' lo I ad vs TE kk len cs := h.kept (grown_of_below hb) (by simp) (fun _ _ _ _ => by simp)
/-- a row has turned in its place -/
theorem GridA.turn {i : Ix} {n : Nat} {c : List Value} (h : GridA w lo I ad vs TE kk len cs) (hi : I i) (hg : w.grownBy w' (vs i).ownBlock) (hown : w'.ownsRow lo (TE i) (kk i) (vs i) n c) : GridA w' lo I ad vs TE kk (updX len i n) (updX cs i c) :=
  ⟨h.low, fun j hj => (heap_cell (hg.block _ (h.lt j hj) (fun e => h.off i j hi hj e.symm))).1.trans (h.cell j hj), fun j hj => (heap_cell (hg.block _ (h.lt j hj) (fun e => h.off i j hi hj e.symm))).2.trans (h.free j hj),
    fun j hj => by
      unfold updX
      by_cases e : j = i
      · subst e; rw [if_pos rfl, if_pos rfl]; exact hown
      · rw [if_neg e, if_neg e]
        refine (h.own j hj).kept hg ?_
        cases e2 : (vs j).ownBlock with
        | none => exact .inl rfl
        | some b => exact .inr fun e3 => h.apart j i hj hi e b e2 e3.symm, h.off, h.apart, h.dist⟩
/-- a row has turned: what it became is stored -/
theorem GridA.step {i : Ix} {n : Nat} {v : Value} {c : List Value} (h : GridA w lo I ad vs TE kk len cs) (hi : I i) (hg : w.grownBy w' (vs i).ownBlock) (hown : w'.ownsRow lo (TE i) (kk i) v n c) (hat : ∀ b, v.ownBlock = some b → (vs i).ownBlock = some b ∨ w.heap.size ≤ b) :
    GridA (w'.setCell ⟨(ad i).1, (ad i).2, none⟩ v) lo I ad (updX vs i v) TE kk (updX len i n) (updX cs i c) := by
  have hvg : ∀ j, I j → v.ownBlock ≠ some (ad j).1 := fun j hj e => by
    rcases hat _ e with e2 | e2
    · exact h.off i j hi hj e2
    · have := h.lt j hj; omega
  have hvj : ∀ j, I j → j ≠ i → ∀ b, (vs j).ownBlock = some b → v.ownBlock ≠ some b := fun j hj hne b hb e => by
    rcases hat b e with e2 | e2
    · exact h.apart j i hj hi hne b hb e2
    · have := ((h.own j hj).lt b hb).2; omega
  have hst : w'.grownBy (w'.setCell ⟨(ad i).1, (ad i).2, none⟩ v) (some (ad i).1) := grown_store
  have hc : ∀ j, I j → w'.cell? ⟨(ad j).1, (ad j).2, none⟩ = some (vs j) := fun j hj => (heap_cell (hg.block _ (h.lt j hj) (fun e => h.off i j hi hj e.symm))).1.trans (h.cell j hj)
  have hf : ∀ j, I j → w'.frozen? ⟨(ad j).1, (ad j).2, none⟩ = false := fun j hj => (heap_cell (hg.block _ (h.lt j hj) (fun e => h.off i j hi hj e.symm))).2.trans (h.free j hj)
  refine ⟨h.low, fun j hj => ?_, fun j hj => ?_, fun j hj => ?_, fun j l hj hl => ?_, fun j l hj hl hne b hb => ?_, h.dist⟩
  · unfold updX
    by_cases e : j = i
    · subst e; rw [if_pos rfl]; exact World.cell?_setCell_same _ _ _ (hc j hj)
    · rw [if_neg e, World.cell?_setCell_other]
      · exact hc j hj
      · intro e2
        refine h.dist j i hj hi e ?_
        have := Addr.mk.inj e2
        exact Prod.ext this.1.symm this.2.1.symm
  · rw [World.frozen?_setCell]; exact hf j hj
  · unfold updX
    by_cases e : j = i
    · subst e
      rw [if_pos rfl, if_pos rfl, if_pos rfl]
      exact hown.kept hst (.inr (hvg j hj))
    · rw [if_neg e, if_neg e, if_neg e]
      refine ((h.own j hj).kept hg ?_).kept hst (.inr (h.off j i hj hi))
      cases e2 : (vs j).ownBlock with
      | none => exact .inl rfl
      | some b => exact .inr fun e3 => h.apart j i hj hi e b e2 e3.symm
  · unfold updX
    by_cases e : j = i
    · rw [if_pos e]; exact hvg l hl
    · rw [if_neg e]; exact h.off j l hj hl
  · unfold updX at hb ⊢
    by_cases e : j = i
    · rw [if_pos e] at hb
      rw [if_neg (fun e2 => hne (e.trans e2.symm))]
      intro e3
      exact hvj l hl (fun e2 => hne (e.trans e2.symm)) b e3 hb
    · rw [if_neg e] at hb
      by_cases e2 : l = i
      · rw [if_pos e2]; exact hvj j hj e b hb
      · rw [if_neg e2]; exact h.apart j l hj hl hne b hb
end
/-- rows of numbers that are only read, in blocks of which Q holds -/
def RowsX (Q : Nat → Prop) (w : World) (v : Value) (Ls : List (List Int)) : Prop :=
  ∃ a cap, v = .slice a Ls.length cap ∧ Ls.length ≤ cap ∧ (a = none → cap = 0) ∧ Ls.length ≤ 1000000 ∧ ∀ i L, Ls[i]? = some L → ∃ b off a2 c2, a = some ⟨b, off, none⟩ ∧ Q b ∧ w.cell? ⟨b, off + i, none⟩ = some (.slice a2 L.length c2) ∧ IntsAt w (.slice a2 L.length c2) L ∧ ∀ p, a2 = some p → Q p.block
theorem RowsX.grown {Q : Nat → Prop} {w w' : World} {v : Value} {Ls : List (List Int)} {r : Option Nat} (h : RowsX Q w v Ls) (hg : w.grownBy w' r) (hr : ∀ b, Q b → r ≠ some b) : RowsX Q w' v Ls := by
  obtain ⟨a, cap, rfl, h1, h2, h3, h4⟩ := h
  refine ⟨a, cap, rfl, h1, h2, h3, fun i L hL => ?_⟩
  obtain ⟨b, off, a2, c2, rfl, hq, hc, hi, hp⟩ := h4 i L hL
  exact ⟨b, off, a2, c2, rfl, hq, hg.cell hc (fun e => hr b hq e.symm), hi.grown hg (fun g e n c p ep => fun e2 => by
    obtain rfl : a2 = some p := by have := (Value.slice.inj ep).1; exact this
    exact hr g (e2 ▸ hp p rfl) e), hp⟩
theorem RowsX.below {Q : Nat → Prop} {w w' : World} {v : Value} {Ls : List (List Int)} (h : RowsX Q w v Ls) (hb : Below w.heap.size w w') : RowsX Q w' v Ls := h.grown (grown_of_below hb) (by simp)
theorem RowsX.imp {Q R : Nat → Prop} {w : World} {v : Value} {Ls : List (List Int)} (h : RowsX Q w v Ls) (hq : ∀ b, Q b → R b) : RowsX R w v Ls := by
  obtain ⟨a, cap, rfl, h1, h2, h3, h4⟩ := h
  refine ⟨a, cap, rfl, h1, h2, h3, fun i L hL => ?_⟩
  obtain ⟨b, off, a2, c2, rfl, hb, hc, hi, hp⟩ := h4 i L hL
  exact ⟨b, off, a2, c2, rfl, hq b hb, hc, hi, fun p hp2 => hq _ (hp p hp2)⟩
theorem RowsX.at {Q : Nat → Prop} {w : World} {a : Option Addr} {m cap : Nat} {Ls : List (List Int)} (h : RowsX Q w (.slice a m cap) Ls) (i : Nat) (L : List Int) (hL : Ls[i]? = some L) :
    m = Ls.length ∧ ∃ b off a2 c2, a = some ⟨b, off, none⟩ ∧ m ≤ cap ∧ Q b ∧ w.cell? ⟨b, off + i, none⟩ = some (.slice a2 L.length c2) ∧ IntsAt w (.slice a2 L.length c2) L ∧ ∀ p, a2 = some p → Q p.block := by
  obtain ⟨a', cap', e, h1, h2, h3, h4⟩ := h
  cases e
  obtain ⟨b, off, a2, c2, rfl, hq, hc, hi, hp⟩ := h4 i L hL
  exact ⟨rfl, b, off, a2, c2, rfl, h1, hq, hc, hi, hp⟩
theorem RowsX.len {Q : Nat → Prop} {w : World} {a : Option Addr} {m cap : Nat} {Ls : List (List Int)} (h : RowsX Q w (.slice a m cap) Ls) : m = Ls.length ∧ m ≤ cap ∧ m ≤ 1000000 := by
  obtain ⟨a', cap', e, h1, h2, h3, h4⟩ := h
  cases e
  exact ⟨rfl, h1, h3⟩
end Go.Proofs.YtdkmdcdoiaelfaaGreat
