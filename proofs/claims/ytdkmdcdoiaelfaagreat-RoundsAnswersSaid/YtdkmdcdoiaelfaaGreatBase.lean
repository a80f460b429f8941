/- Words for the data of the program: slices of numbers and of pairs, read at a world. -/
import Derived.Test.YtdkmdcdoiaelfaaGreatPlain
import Derived.WalkKit
import Derived.Lib.Hide
import Derived.BigQuiet
import Derived.Deep.QuietTactic
namespace Go.Proofs.YtdkmdcdoiaelfaaGreat
open Go.RowKit

theorem ret_int {k : IntKind} {a b : Int} (h : a = b) : Ending.returned (.int k a) = .returned (.int k b) := by rw [h]
theorem ret_bool {a b : Bool} (h : a = b) : Ending.returned (.bool a) = .returned (.bool b) := by rw [h]

def EdgesAt (w : World) (v : Value) (es : List E2) : Prop :=
  ∃ a cap, v = .slice a es.length cap ∧ es.length ≤ cap ∧ (a = none → cap = 0) ∧ es.length ≤ 70368744177664 ∧ ∀ i e, es[i]? = some e → ∃ b off, a = some ⟨b, off, none⟩ ∧
    w.cell? ⟨b, off + i * 2, none⟩ = some (.int .i64 e.1) ∧ w.cell? ⟨b, off + i * 2 + 1, none⟩ = some (.int .i64 e.2)
def IntsAt (w : World) (v : Value) (xs : List Int) : Prop :=
  ∃ a cap, v = .slice a xs.length cap ∧ xs.length ≤ cap ∧ (a = none → cap = 0) ∧ xs.length ≤ 70368744177664 ∧ ∀ i x, xs[i]? = some x → ∃ b off, a = some ⟨b, off, none⟩ ∧
    w.cell? ⟨b, off + i, none⟩ = some (.int .i64 x)

theorem cell_lt {w : World} {b o : Nat} {v : Value} (h : w.cell? ⟨b, o, none⟩ = some v) : b < w.heap.size := World.block_lt_of_cell? w _ h

theorem EdgesAt.map {w w' : World} {v : Value} {es : List E2} (h : EdgesAt w v es) (hc : ∀ b o x, w.cell? ⟨b, o, none⟩ = some x → (∀ n c p, v = .slice (some p) n c → p.block = b) → w'.cell? ⟨b, o, none⟩ = some x) : EdgesAt w' v es := by
  obtain ⟨a, cap, rfl, h1, h2, h3, h4⟩ := h
  refine ⟨a, cap, rfl, h1, h2, h3, fun i e hi => ?_⟩
  obtain ⟨b, off, rfl, c0, c1⟩ := h4 i e hi
  exact ⟨b, off, rfl, hc _ _ _ c0 (fun n c p e => by cases e; rfl), hc _ _ _ c1 (fun n c p e => by cases e; rfl)⟩
theorem IntsAt.map {w w' : World} {v : Value} {es : List Int} (h : IntsAt w v es) (hc : ∀ b o x, w.cell? ⟨b, o, none⟩ = some x → (∀ n c p, v = .slice (some p) n c → p.block = b) → w'.cell? ⟨b, o, none⟩ = some x) : IntsAt w' v es := by
  obtain ⟨a, cap, rfl, h1, h2, h3, h4⟩ := h
  refine ⟨a, cap, rfl, h1, h2, h3, fun i e hi => ?_⟩
  obtain ⟨b, off, rfl, c0⟩ := h4 i e hi
  exact ⟨b, off, rfl, hc _ _ _ c0 (fun n c p e => by cases e; rfl)⟩
theorem EdgesAt.below {w w' : World} {v : Value} {es : List E2} (h : EdgesAt w v es) (hb : Below w.heap.size w w') : EdgesAt w' v es :=
  h.map fun b o _ hx _ => (hb.cell (p := ⟨b, o, none⟩) (cell_lt hx)).trans hx
theorem IntsAt.below {w w' : World} {v : Value} {xs : List Int} (h : IntsAt w v xs) (hb : Below w.heap.size w w') : IntsAt w' v xs :=
  h.map fun b o _ hx _ => (hb.cell (p := ⟨b, o, none⟩) (cell_lt hx)).trans hx
/-- nothing of v lies in block g -/
def Off (g : Nat) (v : Value) : Prop := ∀ n c p, v = .slice (some p) n c → p.block ≠ g
theorem EdgesAt.grown {w w' : World} {v : Value} {es : List E2} {r : Option Nat} (h : EdgesAt w v es) (hg : w.grownBy w' r) (hr : ∀ g, r = some g → Off g v) : EdgesAt w' v es := by
  obtain ⟨a, cap, rfl, h1, h2, h3, h4⟩ := h
  refine ⟨a, cap, rfl, h1, h2, h3, fun i e hi => ?_⟩
  obtain ⟨b, off, rfl, c0, c1⟩ := h4 i e hi
  have hne : some b ≠ r := fun e => hr b e.symm _ _ _ rfl rfl
  exact ⟨b, off, rfl, hg.cell c0 hne, hg.cell c1 hne⟩
theorem IntsAt.grown {w w' : World} {v : Value} {es : List Int} {r : Option Nat} (h : IntsAt w v es) (hg : w.grownBy w' r) (hr : ∀ g, r = some g → Off g v) : IntsAt w' v es := by
  obtain ⟨a, cap, rfl, h1, h2, h3, h4⟩ := h
  refine ⟨a, cap, rfl, h1, h2, h3, fun i e hi => ?_⟩
  obtain ⟨b, off, rfl, c0⟩ := h4 i e hi
  have hne : some b ≠ r := fun e => hr b e.symm _ _ _ rfl rfl
  exact ⟨b, off, rfl, hg.cell c0 hne⟩

@[go_sem] theorem ite_min (a b : Int) : (if b < a then b else a) = min a b := by split <;> omega
@[go_sem] theorem ite_max (a b : Int) : (if a < b then b else a) = max a b := by split <;> omega

/-- numbers are handed back, all that was there is as it was -/
def IntsPost (w : World) (ys : List Int) (e : Ending) (w' : World) : Prop := ∃ a cap, e = .returned (.slice a ys.length cap) ∧ IntsAt w' (.slice a ys.length cap) ys ∧ Below w.heap.size w w'

/-- a world that is as w0 was below block B -/
structure Ext (B : Nat) (w0 : World) where
  world : World
  below : Below B w0 world
instance (B : Nat) (w0 : World) : Nonempty (Ext B w0) := ⟨⟨w0, Below.refl _ _⟩⟩

theorem wp_region_ext {P : Program} {Q : Exit → Act → World → Prop} {a : Act} {w : World} {id : Nat} {l : List Oper} (B : Nat) (w0 : World) (hm : P.follows .mixedOrders = true) (hB : Region.lexB .any l.toArray = true)
    (hC : Below B w0 w) (h : wpQuiet P l.toArray (fun w' => ∃ x : Ext B w0, w' = x.world) (fun a' => ∀ w', (∃ x : Ext B w0, w' = x.world) → Q .normal a' w') l a) : (Code.region id l.toArray true).wp P Q a w :=
  wp_region_quiet (C := fun w' => ∃ x : Ext B w0, w' = x.world) hm hB ⟨⟨_, hC.drew⟩, rfl⟩ (by simpa using h)

theorem Calls.ext_of {P : Program} {f : FuncId} {args : Array Value} {B : Nat} {w0 : World} {x : Ext B w0} {v : Value} (hB : B ≤ w0.heap.size)
    (h : Calls P f args x.world fun e w' => e = .returned v ∧ Below x.world.heap.size x.world w') : Calls P f args x.world fun e w'' => e = .returned v ∧ ∃ y : Ext B w0, w'' = y.world :=
  h.mono fun _ w' ⟨he, hb⟩ => ⟨he, ⟨w', x.below.trans (hb.mono (Nat.le_trans hB x.below.size))⟩, rfl⟩

theorem cell_new {w wr : World} {cs : Array Value} {T : TypeId} (hb : Below (w.heap.size + 1) (w.alloc (.cells cs T)) wr) (j : Nat) (v : Value) (hj : cs[j]? = some v) : wr.cell? ⟨w.heap.size, j, none⟩ = some v := by
  rw [hb.cell (p := ⟨w.heap.size, j, none⟩) (by simp)]
  simp only [World.cell?, heap_alloc_new]
  simpa using hj
theorem cell_old {w wr : World} {o : Obj} (hb : Below (w.heap.size + 1) (w.alloc o) wr) {b j : Nat} {v : Value} (h : w.cell? ⟨b, j, none⟩ = some v) : wr.cell? ⟨b, j, none⟩ = some v := by
  have := cell_lt h
  rw [hb.cell (p := ⟨b, j, none⟩) (by show b < _; omega)]
  simp only [World.cell?, Below.heap_alloc w o b this]
  simpa [World.cell?] using h

theorem _root_.Go.RowKit.Below.drewN {B : Nat} {a w : World} (h : Below B a w) (n : Nat) : Below B a (w.drewN n) := ⟨h.os, h.tape, h.output, h.size, h.block⟩

/-- the cells of a known block -/
theorem cell_blk {w : World} {g j T : Nat} {cs : Array Value} {f : Nat × Nat} (h : w.heap[g]? = some (.cells cs T f)) : w.cell? ⟨g, j, none⟩ = cs[j]? := by simp [World.cell?, h]
theorem free_blk {w : World} {g j T : Nat} {cs : Array Value} (h : w.heap[g]? = some (.cells cs T (0, 0))) : w.frozen? ⟨g, j, none⟩ = false := by simp [World.frozen?, h]
theorem blk_lt {w : World} {g : Nat} {o : Obj} (h : w.heap[g]? = some o) : g < w.heap.size := (Array.getElem?_eq_some_iff.1 h).1
theorem cell_alloc {w : World} {o : Obj} {b j : Nat} {v : Value} (h : w.cell? ⟨b, j, none⟩ = some v) : (w.alloc o).cell? ⟨b, j, none⟩ = some v := by
  have := cell_lt h
  simp only [World.cell?, Below.heap_alloc w o b this]
  simpa [World.cell?] using h
theorem cell_fresh (w : World) (cs : Array Value) (T j : Nat) (v : Value) (hj : cs[j]? = some v) : (w.alloc (.cells cs T)).cell? ⟨w.heap.size, j, none⟩ = some v := by rw [cell_blk (heap_alloc_new _ _)]; exact hj

/-- edges as cells -/
def flatE (es : List E2) : List Value := es.flatMap fun e => [.int .i64 e.1, .int .i64 e.2]
theorem flatE_append (a b : List E2) : flatE (a ++ b) = flatE a ++ flatE b := by simp [flatE]
theorem flatE_get (es : List E2) : ∀ i e, es[i]? = some e → (flatE es)[i * 2]? = some (.int .i64 e.1) ∧ (flatE es)[i * 2 + 1]? = some (.int .i64 e.2) := by
  induction es with
  | nil => intro i e h; simp at h
  | cons x es ih =>
    intro i e h
    cases i with
    | zero => simp at h; subst h; exact ⟨rfl, rfl⟩
    | succ i =>
      simp only [List.getElem?_cons_succ] at h
      have := ih i e h
      have h2 : (i + 1) * 2 = i * 2 + 1 + 1 := by omega
      rw [h2]
      exact this

/-- an owned row of edges; it reads as edges -/
theorem EdgesAt.of_owns {w : World} {base T : Nat} {v : Value} {es : List E2} (h : w.ownsRow base T 2 v es.length (flatE es)) (hl : es.length ≤ 70368744177664) :
    ∃ a cap, v = .slice a es.length cap ∧ EdgesAt w (.slice a es.length cap) es ∧ (∀ p, a = some p → base ≤ p.block) := by
  rcases h.2 with ⟨rfl, h0⟩ | ⟨g, cap, cur, rfl, hb, hg, hn, hc, hs, ht⟩
  · refine ⟨none, 0, by rw [h0], ⟨none, 0, rfl, by omega, fun _ => rfl, hl, fun i e hi => ?_⟩, fun p hp => by cases hp⟩
    rw [List.eq_nil_of_length_eq_zero h0] at hi
    simp at hi
  · refine ⟨_, cap, rfl, ⟨_, cap, rfl, hn, (fun h => by cases h), hl, fun i e hi => ⟨g, 0, rfl, ?_, ?_⟩⟩, fun p hp => by cases hp; exact hb⟩
    · have hlt := (List.getElem?_eq_some_iff.1 hi).1
      have := h.cellAt (0 + i * 2) (by omega)
      rw [this, Nat.zero_add]
      exact (flatE_get es i e hi).1
    · have hlt := (List.getElem?_eq_some_iff.1 hi).1
      have := h.cellAt (0 + i * 2 + 1) (by omega)
      rw [this, Nat.zero_add]
      exact (flatE_get es i e hi).2

def intsV (xs : List Int) : List Value := xs.map (.int .i64)
theorem IntsAt.of_owns {w : World} {base T : Nat} {v : Value} {xs : List Int} (h : w.ownsRow base T 1 v xs.length (intsV xs)) (hl : xs.length ≤ 70368744177664) :
    ∃ a cap, v = .slice a xs.length cap ∧ IntsAt w (.slice a xs.length cap) xs ∧ (∀ p, a = some p → base ≤ p.block) := by
  rcases h.2 with ⟨rfl, h0⟩ | ⟨g, cap, cur, rfl, hb, hg, hn, hc, hs, ht⟩
  · refine ⟨none, 0, by rw [h0], ⟨none, 0, rfl, by omega, fun _ => rfl, hl, fun i e hi => ?_⟩, fun p hp => by cases hp⟩
    rw [List.eq_nil_of_length_eq_zero h0] at hi
    simp at hi
  · refine ⟨_, cap, rfl, ⟨_, cap, rfl, hn, (fun h => by cases h), hl, fun i e hi => ⟨g, 0, rfl, ?_⟩⟩, fun p hp => by cases hp; exact hb⟩
    have hlt := (List.getElem?_eq_some_iff.1 hi).1
    have := h.cellAt (0 + i) (by omega)
    rw [this, Nat.zero_add]
    simp [intsV, hi]

theorem owns_shape {w : World} {base T size n : Nat} {v : Value} {xs : List Value} (h : w.ownsRow base T size v n xs) : ∃ a cap, v = .slice a n cap := by
  rcases h.2 with ⟨rfl, h0⟩ | ⟨g, cap, cur, rfl, _⟩
  · exact ⟨none, 0, by rw [h0]⟩
  · exact ⟨_, cap, rfl⟩
/-- a whole struct of two cells is laid into a known block -/
theorem set_two {w : World} {g T : Nat} {x y u v : Value} (h : w.heap[g]? = some (.cells #[x, y] T (0, 0))) : ((w.setCell ⟨g, 0, none⟩ u).setCell ⟨g, 1, none⟩ v).heap[g]? = some (.cells #[u, v] T (0, 0)) := by
  rw [heap_setCell_same _ _ _ _ _ _ (heap_setCell_same _ _ _ _ _ _ h)]
  rfl
theorem below_of_grown {w w' : World} (h : w.grownBy w' none) : Below w.heap.size w w' := ⟨h.os, h.tape, h.output, h.size, fun k hk => h.block k hk (by simp)⟩
theorem grown_of_below {w w' : World} (h : Below w.heap.size w w') : w.grownBy w' none := ⟨h.os, h.tape, h.output, h.size, fun k hk _ => h.block k hk⟩
theorem grown_trans {a b c : World} {r : Option Nat} (h : a.grownBy b r) (k : b.grownBy c r) : a.grownBy c r :=
  ⟨k.os.trans h.os, k.tape.trans h.tape, k.output.trans h.output, Nat.le_trans h.size k.size, fun i hi hn => (k.block i (Nat.lt_of_lt_of_le hi h.size) hn).trans (h.block i hi hn)⟩
theorem grown_none {a b : World} {r : Option Nat} (h : a.grownBy b none) : a.grownBy b r := ⟨h.os, h.tape, h.output, h.size, fun i hi _ => h.block i hi (by simp)⟩
theorem grown_refl (a : World) (r : Option Nat) : a.grownBy a r := ⟨rfl, rfl, rfl, Nat.le_refl _, fun _ _ _ => rfl⟩
/-- a change of a block that is newer than a -/
theorem grown_new {a b c : World} {r r' : Option Nat} (h : a.grownBy b r) (k : b.grownBy c r') (hr : ∀ g, r' = some g → r = some g ∨ a.heap.size ≤ g) : a.grownBy c r :=
  ⟨k.os.trans h.os, k.tape.trans h.tape, k.output.trans h.output, Nat.le_trans h.size k.size, fun i hi hn => (k.block i (Nat.lt_of_lt_of_le hi h.size) (fun e => by
    rcases hr i e.symm with h' | h'
    · exact hn h'.symm
    · omega)).trans (h.block i hi hn)⟩
theorem grown_blk {w w' : World} {r : Option Nat} {g : Nat} {o : Obj} (h : w.grownBy w' r) (hg : w.heap[g]? = some o) (hn : some g ≠ r) : w'.heap[g]? = some o := (h.block g (blk_lt hg) hn).trans hg
end Go.Proofs.YtdkmdcdoiaelfaaGreat
