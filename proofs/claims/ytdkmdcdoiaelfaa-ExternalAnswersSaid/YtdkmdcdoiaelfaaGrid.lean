/- Rows of rows: a block of slices, each of which is a row of one's own; and rows of numbers that are only read. -/
import Derived.Test.YtdkmdcdoiaelfaaNumFn
import Derived.Test.YtdkmdcdoiaelfaaMk
namespace Go.Proofs.Ytdkmdcdoiaelfaa
open Go.RowKit Go.BigFrame

theorem boxG_new (w : World) (cs : Array Value) (T : TypeId) : (w.alloc (.cells cs T)).heap[w.heap.size]? = some (.cells cs T (0, 0)) ∧ Below w.heap.size w (w.alloc (.cells cs T)) := ⟨heap_alloc_new _ _, (Below.refl _ _).alloc (Nat.le_refl _) _⟩
/-- slices as a function, in a block -/
def SlsAt (w : World) (g T m : Nat) (vs : Nat → Value) : Prop := w.heap[g]? = some (.cells ((List.range m).map vs).toArray T (0, 0))
def updV (vs : Nat → Value) (i : Nat) (v : Value) : Nat → Value := fun x => if x = i then v else vs x
theorem SlsAt.cell {w : World} {g T m : Nat} {vs : Nat → Value} (h : SlsAt w g T m vs) (i : Nat) (hi : i < m) : w.cell? ⟨g, i, none⟩ = some (vs i) := by
  rw [cell_blk h]
  simp [List.getElem?_range hi]
theorem SlsAt.free {w : World} {g T m : Nat} {vs : Nat → Value} (h : SlsAt w g T m vs) (j : Nat) : w.frozen? ⟨g, j, none⟩ = false := free_blk h
theorem range_set (vs : Nat → Value) (m i : Nat) (v : Value) : ((List.range m).map vs).set i v = (List.range m).map (updV vs i v) := by
  apply List.ext_getElem?
  intro j
  rw [List.getElem?_set]
  by_cases hj : j < m
  · rw [List.getElem?_map, List.getElem?_map, List.getElem?_range hj]
    by_cases e : i = j
    · subst e; simp [updV, hj]
    · rw [if_neg e]; simp [updV, Ne.symm e]
  · rw [List.getElem?_eq_none (by simp; omega), List.getElem?_eq_none (by simp; omega)]
    simp
    intro e; omega
theorem SlsAt.set {w : World} {g T m : Nat} {vs : Nat → Value} (h : SlsAt w g T m vs) (i : Nat) (v : Value) : SlsAt (w.setCell ⟨g, i, none⟩ v) g T m (updV vs i v) := by
  unfold SlsAt
  rw [heap_setCell_same _ _ _ _ _ _ h, ← range_set]
  simp
/-- a block of slices, each a row of one's own -/
structure GridO (w : World) (s g T m TE k : Nat) (vs : Nat → Value) (len : Nat → Nat) (cs : Nat → List Value) : Prop where
  blk : SlsAt w g T m vs
  own : ∀ i, i < m → w.ownsRow s TE k (vs i) (len i) (cs i)
  off : ∀ i, i < m → (vs i).ownBlock ≠ some g
  apart : ∀ i j, i < m → j < m → i ≠ j → ∀ b, (vs i).ownBlock = some b → (vs j).ownBlock ≠ some b
def updA {α : Type} (f : Nat → α) (i : Nat) (v : α) : Nat → α := fun x => if x = i then v else f x
section
variable {w w' : World} {s g T m TE k : Nat} {vs : Nat → Value} {len : Nat → Nat} {cs : Nat → List Value}
theorem GridO.congr {len' : Nat → Nat} {cs' : Nat → List Value} (h : GridO w s g T m TE k vs len cs) (h1 : ∀ i, i < m → len i = len' i) (h2 : ∀ i, i < m → cs i = cs' i) : GridO w s g T m TE k vs len' cs' :=
  ⟨h.blk, fun i hi => by rw [← h1 i hi, ← h2 i hi]; exact h.own i hi, h.off, h.apart⟩
theorem GridO.kept {r : Option Nat} (h : GridO w s g T m TE k vs len cs) (hg : w.grownBy w' r) (h0 : r ≠ some g) (h1 : ∀ i, i < m → ∀ b, (vs i).ownBlock = some b → r ≠ some b) : GridO w' s g T m TE k vs len cs :=
  ⟨grown_blk hg h.blk (fun e => h0 e.symm), fun i hi => (h.own i hi).kept hg (by
    cases e : (vs i).ownBlock with
    | none => exact .inl rfl
    | some b => exact .inr fun e2 => h1 i hi b e e2.symm), h.off, h.apart⟩
theorem GridO.below (h : GridO w s g T m TE k vs len cs) (hb : Below w.heap.size w w') : GridO w' s g T m TE k vs len cs := h.kept (grown_of_below hb) (by simp) (fun _ _ _ _ => by simp)
theorem GridO.lt (h : GridO w s g T m TE k vs len cs) : g < w.heap.size := blk_lt h.blk
/-- a row has turned: what it became is stored -/
theorem GridO.step {i n : Nat} {v : Value} {c : List Value} (h : GridO w s g T m TE k vs len cs) (hi : i < m) (hg : w.grownBy w' (vs i).ownBlock) (hown : w'.ownsRow s TE k v n c) (hat : ∀ b, v.ownBlock = some b → (vs i).ownBlock = some b ∨ w.heap.size ≤ b) :
    GridO (w'.setCell ⟨g, i, none⟩ v) s g T m TE k (updV vs i v) (updA len i n) (updA cs i c) := by
  have hgl := h.lt
  have hvg : v.ownBlock ≠ some g := fun e => by
    rcases hat g e with e2 | e2
    · exact h.off i hi e2
    · omega
  have hbk : SlsAt w' g T m vs := grown_blk hg h.blk (fun e => h.off i hi e.symm)
  have hvj : ∀ j, j < m → j ≠ i → ∀ b, (vs j).ownBlock = some b → v.ownBlock ≠ some b := fun j hj hne b hb e => by
    rcases hat b e with e2 | e2
    · exact h.apart j i hj hi hne b hb e2
    · have := ((h.own j hj).lt b hb).2; omega
  have hst : w'.grownBy (w'.setCell ⟨g, i, none⟩ v) (some g) := grown_store
  refine ⟨hbk.set i v, fun j hj => ?_, fun j hj => ?_, fun j l hj hl hne b hb => ?_⟩
  · by_cases e : j = i
    · subst e
      unfold updV updA
      rw [if_pos rfl, if_pos rfl, if_pos rfl]
      exact hown.kept hst (.inr hvg)
    · unfold updV updA
      rw [if_neg e, if_neg e, if_neg e]
      refine ((h.own j hj).kept hg ?_).kept hst (.inr (h.off j hj))
      cases e2 : (vs j).ownBlock with
      | none => exact .inl rfl
      | some b => exact .inr fun e3 => h.apart j i hj hi e b e2 e3.symm
  · unfold updV
    by_cases e : j = i
    · rw [if_pos e]; exact hvg
    · rw [if_neg e]; exact h.off j hj
  · unfold updV at hb ⊢
    by_cases e : j = i
    · rw [if_pos e] at hb
      rw [if_neg (fun e2 => hne (e.trans e2.symm))]
      intro e3
      exact hvj l hl (fun e2 => hne (e.trans e2.symm)) b e3 hb
    · rw [if_neg e] at hb
      by_cases e2 : l = i
      · rw [if_pos e2]; exact hvj j hj e b hb
      · rw [if_neg e2]; exact h.apart j l hj hl hne b hb
end
/-- rows of numbers that are only read -/
def RowsAt (w : World) (v : Value) (Ls : List (List Int)) : Prop :=
  ∃ a cap, v = .slice a Ls.length cap ∧ Ls.length ≤ cap ∧ (a = none → cap = 0) ∧ Ls.length ≤ 70368744177664 ∧ ∀ i L, Ls[i]? = some L → ∃ b off a2 c2, a = some ⟨b, off, none⟩ ∧ w.cell? ⟨b, off + i, none⟩ = some (.slice a2 L.length c2) ∧ IntsAt w (.slice a2 L.length c2) L
theorem RowsAt.below {w w' : World} {v : Value} {Ls : List (List Int)} (h : RowsAt w v Ls) (hb : Below w.heap.size w w') : RowsAt w' v Ls := by
  obtain ⟨a, cap, rfl, h1, h2, h3, h4⟩ := h
  refine ⟨a, cap, rfl, h1, h2, h3, fun i L hL => ?_⟩
  obtain ⟨b, off, a2, c2, rfl, hc, hi⟩ := h4 i L hL
  exact ⟨b, off, a2, c2, rfl, (hb.cell (p := ⟨b, off + i, none⟩) (cell_lt hc)).trans hc, hi.below hb⟩
theorem RowsAt.at {w : World} {a : Option Addr} {cap : Nat} {Ls : List (List Int)} (h : RowsAt w (.slice a Ls.length cap) Ls) (i : Nat) (L : List Int) (hL : Ls[i]? = some L) :
    ∃ b off a2 c2, a = some ⟨b, off, none⟩ ∧ Ls.length ≤ cap ∧ w.cell? ⟨b, off + i, none⟩ = some (.slice a2 L.length c2) ∧ IntsAt w (.slice a2 L.length c2) L := by
  obtain ⟨a', cap', e, h1, h2, h3, h4⟩ := h
  cases e
  obtain ⟨b, off, a2, c2, rfl, hc, hi⟩ := h4 i L hL
  exact ⟨b, off, a2, c2, rfl, h1, hc, hi⟩
theorem GridO.rows {w : World} {s g T m cap : Nat} {vs : Nat → Value} {Ls : Nat → List Int} (h : GridO w s g T m 3 1 vs (fun i => (Ls i).length) (fun i => intsV (Ls i))) (hm : m ≤ 1000000) (hc : m ≤ cap) (hl : ∀ i, i < m → (Ls i).length ≤ 70368744177664) :
    RowsAt w (.slice (some ⟨g, 0, none⟩) m cap) ((List.range m).map Ls) := by
  have hlen : ((List.range m).map Ls).length = m := by simp
  refine ⟨some ⟨g, 0, none⟩, cap, by rw [hlen], by rw [hlen]; exact hc, (fun e => by cases e), by rw [hlen]; omega, fun i L hL => ?_⟩
  have hi : i < m := by
    have := (List.getElem?_eq_some_iff.1 hL).1
    rw [hlen] at this; exact this
  rw [List.getElem?_map, List.getElem?_range hi] at hL
  obtain rfl := Option.some.inj hL
  obtain ⟨a2, c2, e, hi2, -⟩ := IntsAt.of_owns (h.own i hi) (hl i hi)
  refine ⟨g, 0, a2, c2, rfl, ?_, hi2⟩
  rw [Nat.zero_add, ← e]
  exact h.blk.cell i hi
theorem rowsT : SliceT Try.prog 56 22 (.slice none 0 0) 1 24 := ⟨Try.underlying56, by kernel_rfl, rfl, by decide⟩
/-- 'make' of a number of rows, none of which has an element -/
theorem make_rows (n : Nat) (hn : n ≤ 1000000) : ∀ w, (Instr.makeSlice 56 (.int .i64 (n : Int)) (.int .i64 (n : Int))).run Try.prog w = .ok (.slice (some ⟨w.heap.size, 0, none⟩) n n) (w.alloc (.cells ((List.range n).map fun _ => Value.slice none 0 0).toArray 22)) := by
  intro w
  obtain ⟨i, hi, hz, hs, hb⟩ := info_parts rowsT.info
  have h := run_make (P := Try.prog) w 56 22 i (.slice none 0 0) Try.underlying56 hi hz .i64 .i64 (n : Int) (n : Int) (by omega) (Int.le_refl _) (by rw [hb]; omega) (by omega)
  rw [h, hs]
  simp only [Int.toNat_natCast, Nat.mul_one, Value.cells]
  have hm : madeCells #[Value.slice none 0 0] n = ((List.range n).map fun _ => Value.slice none 0 0).toArray := by
    apply Array.ext_getElem?
    intro j
    simp only [madeCells]
    by_cases hj : j < n
    · simp [hj, Nat.mod_one]
    · simp [hj]
  rw [hm]
theorem GridO.made (w : World) (s T n TE k : Nat) : GridO (w.alloc (.cells ((List.range n).map fun _ => Value.slice none 0 0).toArray T)) s w.heap.size T n TE k (fun _ => .slice none 0 0) (fun _ => 0) (fun _ => []) :=
  ⟨heap_alloc_new _ _, fun i _ => World.ownsRow_nil _ _ _ _, (fun i _ e => by cases e), (fun i j _ _ _ b hb => by cases hb)⟩
end Go.Proofs.Ytdkmdcdoiaelfaa
