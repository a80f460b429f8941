/- An argument that is a graph with its squares, by value. What the law SquaresAnswers keeps: four graphs with numbers, read over and over. The walk of the law SquaresAnswers. -/
import Derived.Test.YtekbpoppajbljaaDoorArgOpen
import Derived.Test.YtekbpoppajbljaaDoorRqIns
import Derived.Test.YtekbpoppajbljaaDoorMkSpoilt
import Derived.Test.YtekbpoppajbljaaDoorMkGraph
import Derived.Deep.CutBlock
import Derived.Deep.CutRange
namespace Go.Proofs.YtekbpoppajbljaaDoor
open Go.ChangeShapes Go.WideShapes Go.ChangeAt Go.RowKit Go.Deep

theorem list_five {α : Type} {l : List α} (h : l.length = 5) : ∃ a b c d e, l = [a, b, c, d, e] := by
  match l, h with
  | [a, b, c, d, e], _ => exact ⟨a, b, c, d, e, rfl⟩
section
variable {H : Type} {enc : TypeId × Value → H} {w : World}
theorem part_of {P : Program} {base n : Nat} {sp : Nat → Bool} {held : Bool} {fs : Array Field} {cs : List Value} {xs : List (DataW H × List MemPlace)} (h : ∀ (i : Nat) (f : Field), fs[i]? = some f → DataW.trod enc P w base sp held n f.type ((cs.drop f.offset).take (P.cellsOf f.type)) = xs[i]?)
    (i : Nat) (f : Field) (hi : fs[i]? = some f) (o k : Nat) (t : TypeId) (ho : f.offset = o) (ht : f.type = t) (hk : P.cellsOf t = k) (part : List Value) (hp : (cs.drop o).take k = part) (y : DataW H × List MemPlace) (hy : xs[i]? = some y) : DataW.trod enc P w base sp held n t part = some y := by
  have := h i f hi
  rw [ho, ht, hk, hp, hy] at this
  exact this
set_option maxRecDepth 100000 in
theorem quad_of_trod {base b0 : Nat} {sp : Nat → Bool} {held : Bool} {r : Reach} {v : Value} {d : DataW H} {p : List MemPlace} (hv : Value.okWide Tryd.prog w r b0 46 v) (h : DataW.Trod enc Tryd.prog w base sp held 46 v d p) :
    ∃ (n : Int) (a : Option Addr) (len cap : Nat) (wd ct : Int) (b : Option Addr) (blen bcap : Nat) (es : List E2) (ns : List Int), v = .agg #[.int .i64 n, .slice a len cap, .int .i64 wd, .int .i64 ct, .slice b blen bcap] ∧ (len ≤ 100000 → es.length = len ∧ EdgesAt w (.slice a es.length cap) es) ∧ (blen ≤ 100000 → ns.length = blen ∧ IntsAt w (.slice b ns.length bcap) ns) := by
  obtain ⟨cs, rfl, hsz⟩ := okWide_struct Tryd.underlying46 hv
  obtain ⟨fuel, hf⟩ := h
  obtain ⟨xs, n, _, _, hlen, hxl, hg⟩ := DataW.trod_struct Tryd.underlying46 hf
  obtain ⟨l⟩ := cs
  have hll : l.length = 5 := by simpa using hsz.trans (show Tryd.prog.cellsOf 46 = 5 by kernel_rfl)
  obtain ⟨v0, v1, v2, v3, v4, rfl⟩ := list_five hll
  have hx4 : xs.length = 4 := hxl
  obtain ⟨y0, y1, y2, y3, rfl⟩ : ∃ a b c d, xs = [a, b, c, d] := by
    match xs, hx4 with
    | [a, b, c, d], _ => exact ⟨a, b, c, d, rfl⟩
  have c27 : Tryd.prog.cellsOf 27 = 2 := by kernel_rfl
  have c3 : Tryd.prog.cellsOf 3 = 1 := by kernel_rfl
  have c22 : Tryd.prog.cellsOf 22 = 1 := by kernel_rfl
  have g0 : DataW.trod enc Tryd.prog w base sp held n 27 [v0, v1] = some y0 := part_of hg 0 _ rfl 0 2 _ rfl rfl c27 _ rfl _ rfl
  have g1 : DataW.trod enc Tryd.prog w base sp held n 3 [v2] = some y1 := part_of hg 1 _ rfl 2 1 _ rfl rfl c3 _ rfl _ rfl
  have g2 : DataW.trod enc Tryd.prog w base sp held n 3 [v3] = some y2 := part_of hg 2 _ rfl 3 1 _ rfl rfl c3 _ rfl _ rfl
  have g3 : DataW.trod enc Tryd.prog w base sp held n 22 [v4] = some y3 := part_of hg 3 _ rfl 4 1 _ rfl rfl c22 _ rfl _ rfl
  have gi : ∀ (v : Value) (y : DataW H × List MemPlace), DataW.trod enc Tryd.prog w base sp held n 3 [v] = some y → ∃ z, v = .int .i64 z := fun v y hy => by
    obtain ⟨z, e, _⟩ := DataW.trod_int Tryd.underlying3 hy
    exact ⟨z, by simpa using e⟩
  obtain ⟨z2, rfl⟩ := gi _ _ g1
  obtain ⟨z3, rfl⟩ := gi _ _ g2
  obtain ⟨_, hq⟩ := field_one Tryd.underlying27 (by kernel_rfl) (by kernel_rfl) g0
  obtain ⟨m, y, hy⟩ := hq 0 _ v0 rfl rfl
  obtain ⟨z0, rfl⟩ : ∃ z, v0 = .int .i64 z := by
    obtain ⟨z, e, _⟩ := DataW.trod_int Tryd.underlying3 hy
    exact ⟨z, by simpa using e⟩
  obtain ⟨m', y', hy'⟩ := hq 1 _ v1 rfl rfl
  obtain ⟨ra, rn, rc, rfl, hrow⟩ := edges_of_trod hy'
  obtain ⟨b, bl, bc, rfl⟩ : ∃ b l c, v4 = .slice b l c := by
    rcases open_slice Tryd.underlying22 g3 with ⟨hcs, _⟩ | ⟨ad, len, cap, _, _, _, _, hcs, _⟩
    · exact ⟨none, 0, 0, by simpa using hcs⟩
    · exact ⟨some ad, len, cap, by simpa using hcs⟩
  obtain ⟨ns, hns⟩ := ints_of_trod (d := y3.1) (p := y3.2) (enc := enc) (w := w) (base := base) (sp := sp) (held := held) rfl (show DataW.Trod enc Tryd.prog w base sp held 22 (.slice b bl bc) y3.1 y3.2 from ⟨n, g3⟩)
  by_cases h6 : rn ≤ 100000
  · obtain ⟨es, h1, h2⟩ := hrow h6
    exact ⟨z0, ra, rn, rc, z2, z3, b, bl, bc, es, ns, rfl, fun _ => ⟨h1, h2⟩, hns⟩
  · exact ⟨z0, ra, rn, rc, z2, z3, b, bl, bc, [], ns, rfl, fun h => absurd h h6, hns⟩
end
end Go.Proofs.YtekbpoppajbljaaDoor

namespace Go.Proofs.YtekbpoppajbljaaDoor
open Go.RowKit Go.BigFrame

theorem light30_any (n m : Int) (a : Option Addr) (len cap : Nat) (w : World) (hm : 0 ≤ m) (hm2 : m ≤ 1000) :
    Calls Tryd.prog 37 #[.agg #[.int .i64 n, .slice a len cap], .int .i64 m] w fun e w' => e = .returned (.bool (decide (n ≤ m) && decide ((len : Int) ≤ m * m))) ∧ Below w.heap.size w w' := by
  have hb0 : Below w.heap.size w (w.alloc (.cells #[.int .i64 n, .slice a len cap] 27)) := (Below.refl _ _).alloc (Nat.le_refl _) _
  have hmm : 0 ≤ m * m ∧ m * m ≤ 1000000 := ⟨Int.mul_nonneg hm hm, by have := Int.mul_le_mul hm2 hm2 hm (by omega); omega⟩
  by_cases h1 : n ≤ m
  · have d1 : decide (n ≤ m) = true := by simpa using h1
    have v1 : IntKind.i64.wrap (m * m) = m * m := IntWalk.i64_in _ (by omega)
    go_enter Tryd.func37, Tryd.ntmps37
    go_wp2_with fail
    go_ret
    exact ⟨by simp [d1], hb0⟩
  · have d1 : decide (n ≤ m) = false := by simpa using h1
    go_enter Tryd.func37, Tryd.ntmps37
    go_wp2_with fail
    go_ret
    exact ⟨by simp, hb0⟩
theorem EdgesAt.grownN {w w' : World} {v : Value} {es : List E2} {r : Option Nat} (h : EdgesAt w v es) (hg : w.grownBy w' r) (hr : ∀ g, r = some g → es ≠ [] → Off g v) : EdgesAt w' v es := by
  by_cases hn : es = []
  · subst hn
    obtain ⟨a, cap, rfl, h1, h2, h3, _⟩ := h
    exact ⟨a, cap, rfl, h1, h2, h3, fun i e hi => by simp at hi⟩
  · exact h.grown hg fun g e => hr g e hn
theorem IntsAt.grownN {w w' : World} {v : Value} {xs : List Int} {r : Option Nat} (h : IntsAt w v xs) (hg : w.grownBy w' r) (hr : ∀ g, r = some g → xs ≠ [] → Off g v) : IntsAt w' v xs := by
  by_cases hn : xs = []
  · subst hn
    obtain ⟨a, cap, rfl, h1, h2, h3, _⟩ := h
    exact ⟨a, cap, rfl, h1, h2, h3, fun i e hi => by simp at hi⟩
  · exact h.grown hg fun g e => hr g e hn
theorem EdgesAt.oldN {w : World} {a : Option Addr} {n cap : Nat} {es : List E2} (h : EdgesAt w (.slice a n cap) es) (hn : es ≠ []) : ∀ p, a = some p → p.block < w.heap.size := by
  obtain ⟨a', cap', hv, _, _, _, hc⟩ := h
  intro p hp
  have hl : 0 < es.length := List.length_pos_iff.2 hn
  obtain ⟨b, off, ha, c0, _⟩ := hc 0 _ (List.getElem?_eq_getElem hl)
  have e := (Value.slice.inj hv).1
  rw [hp, ha] at e
  cases e
  exact cell_lt c0
theorem IntsAt.oldN {w : World} {a : Option Addr} {n cap : Nat} {xs : List Int} (h : IntsAt w (.slice a n cap) xs) (hn : xs ≠ []) : ∀ p, a = some p → p.block < w.heap.size := by
  obtain ⟨a', cap', hv, _, _, _, hc⟩ := h
  intro p hp
  have hl : 0 < xs.length := List.length_pos_iff.2 hn
  obtain ⟨b, off, ha, c0⟩ := hc 0 _ (List.getElem?_eq_getElem hl)
  have e := (Value.slice.inj hv).1
  rw [hp, ha] at e
  cases e
  exact cell_lt c0
theorem deck_below' {w w' : World} {b : Nat} (h : DeckAt w b) (hb : Below w.heap.size w w') : DeckAt w' b := h.kept (grown_of_below hb) (fun _ e => by cases e)
/-- a graph with numbers, and where its slices lie -/
structure Vq where
  n : Int
  es : List E2
  a : Option Addr
  c : Nat
  wd : Int
  ct : Int
  ns : List Int
  a2 : Option Addr
  c2 : Nat
def Vq.cs (q : Vq) : List Value := [.int .i64 q.n, .slice q.a q.es.length q.c, .int .i64 q.wd, .int .i64 q.ct, .slice q.a2 q.ns.length q.c2]
/-- its slices, apart from block b -/
structure VqAt (w : World) (b : Nat) (q : Vq) : Prop where
  e : EdgesAt w (.slice q.a q.es.length q.c) q.es
  i : IntsAt w (.slice q.a2 q.ns.length q.c2) q.ns
  ea : q.es ≠ [] → ∀ p, q.a = some p → p.block ≠ b
  ia : q.ns ≠ [] → ∀ p, q.a2 = some p → p.block ≠ b
theorem VqAt.grown {w w' : World} {b : Nat} {q : Vq} (h : VqAt w b q) (hg : w.grownBy w' (some b)) : VqAt w' b q :=
  ⟨h.e.grownN hg (fun g e hn n c p ep => by cases e; exact h.ea hn p (Value.slice.inj ep).1), h.i.grownN hg (fun g e hn n c p ep => by cases e; exact h.ia hn p (Value.slice.inj ep).1), h.ea, h.ia⟩
theorem VqAt.below {w w' : World} {b : Nat} {q : Vq} (h : VqAt w b q) (hb : Below w.heap.size w w') : VqAt w' b q := ⟨h.e.below hb, h.i.below hb, h.ea, h.ia⟩
/-- the row of four, and the deck -/
structure AwS (w : World) (b L : Nat) (D : Nat → Vq) (wr : World) : Prop where
  dk : DeckAt wr b
  q : ∀ k, k < 4 → VqAt wr b (D k)
  row : wr.heap[L]? = some (.cells ((D 0).cs ++ ((D 1).cs ++ ((D 2).cs ++ (D 3).cs))).toArray 46 (0, 0))
  be : Below w.heap.size w wr
  bL : b < L
  wb : w.heap.size ≤ b
section
variable {w wr w' : World} {b L : Nat} {D : Nat → Vq}
theorem AwS.below (h : AwS w b L D wr) (hb : Below wr.heap.size wr w') : AwS w b L D w' := ⟨deck_below' h.dk hb, fun k hk => (h.q k hk).below hb, lit_next' hb h.row, h.be.trans (hb.mono h.be.size), h.bL, h.wb⟩
theorem AwS.next (h : AwS w b L D wr) (hd : DeckAt w' b) (hg : wr.grownBy w' (some b)) : AwS w b L D w' :=
  ⟨hd, fun k hk => (h.q k hk).grown hg, grown_blk hg h.row (fun e => by have := Option.some.inj e; have := h.bL; omega), h.be.grown hg h.be.size (fun k e => by cases e; exact h.wb), h.bL, h.wb⟩
theorem AwS.cells (h : AwS w b L D wr) (k : Nat) (hk : k < 4) : wr.cell? ⟨L, k * 5, none⟩ = some (.int .i64 (D k).n) ∧ wr.cell? ⟨L, k * 5 + 1, none⟩ = some (.slice (D k).a (D k).es.length (D k).c) ∧ wr.cell? ⟨L, k * 5 + 2, none⟩ = some (.int .i64 (D k).wd) ∧ wr.cell? ⟨L, k * 5 + 3, none⟩ = some (.int .i64 (D k).ct) ∧ wr.cell? ⟨L, k * 5 + 4, none⟩ = some (.slice (D k).a2 (D k).ns.length (D k).c2) := by
  have hr := h.row
  rcases (by omega : k = 0 ∨ k = 1 ∨ k = 2 ∨ k = 3) with rfl | rfl | rfl | rfl
  all_goals exact ⟨by rw [cell_blk hr]; rfl, by rw [cell_blk hr]; rfl, by rw [cell_blk hr]; rfl, by rw [cell_blk hr]; rfl, by rw [cell_blk hr]; rfl⟩
end
/-- one of them in a box -/
structure AwX (w : World) (b L : Nat) (D : Nat → Vq) (X : Nat) (q : Vq) (wr : World) : Prop where
  s : AwS w b L D wr
  gx : wr.heap[X]? = some (.cells #[.int .i64 q.n, .slice q.a q.es.length q.c, .int .i64 q.wd, .int .i64 q.ct, .slice q.a2 q.ns.length q.c2] 46 (0, 0))
  q : VqAt wr b q
  bX : b < X
section
variable {w wr w' : World} {b L X : Nat} {D : Nat → Vq} {q : Vq}
theorem AwX.below (h : AwX w b L D X q wr) (hb : Below wr.heap.size wr w') : AwX w b L D X q w' := ⟨h.s.below hb, lit_next' hb h.gx, h.q.below hb, h.bX⟩
theorem AwX.alloc (h : AwX w b L D X q wr) (o : Obj) : AwX w b L D X q (wr.alloc o) := h.below ((Below.refl _ _).alloc (Nat.le_refl _) _)
theorem AwX.next (h : AwX w b L D X q wr) (hd : DeckAt w' b) (hg : wr.grownBy w' (some b)) : AwX w b L D X q w' :=
  ⟨h.s.next hd hg, grown_blk hg h.gx (fun e => by have := Option.some.inj e; have := h.bX; omega), h.q.grown hg, h.bX⟩
theorem AwX.of (h : AwS w b L D wr) (k : Nat) (hk : k < 4) : AwX w b L D wr.heap.size (D k) (wr.alloc (.cells #[.int .i64 (D k).n, .slice (D k).a (D k).es.length (D k).c, .int .i64 (D k).wd, .int .i64 (D k).ct, .slice (D k).a2 (D k).ns.length (D k).c2] 46)) := by
  have hb := (Below.refl wr.heap.size wr).alloc (Nat.le_refl _) (.cells #[.int .i64 (D k).n, .slice (D k).a (D k).es.length (D k).c, .int .i64 (D k).wd, .int .i64 (D k).ct, .slice (D k).a2 (D k).ns.length (D k).c2] 46)
  exact ⟨h.below hb, heap_alloc_new _ _, (h.q k hk).below hb, by have := blk_lt h.row; have := h.bL; omega⟩
theorem AwX.cells (h : AwX w b L D X q wr) : wr.cell? ⟨X, 0, none⟩ = some (.int .i64 q.n) ∧ wr.cell? ⟨X, 1, none⟩ = some (.slice q.a q.es.length q.c) ∧ wr.cell? ⟨X, 2, none⟩ = some (.int .i64 q.wd) ∧ wr.cell? ⟨X, 3, none⟩ = some (.int .i64 q.ct) ∧ wr.cell? ⟨X, 4, none⟩ = some (.slice q.a2 q.ns.length q.c2) := cells5 h.gx
end
/-- three pairs of numbers -/
structure PrS (w : World) (P : Nat) (U V : Nat → Int) : Prop where
  cell : ∀ j, j < 3 → w.cell? ⟨P, j * 2, none⟩ = some (.int .i64 (U j)) ∧ w.cell? ⟨P, j * 2 + 1, none⟩ = some (.int .i64 (V j))
theorem PrS.below {w w' : World} {P : Nat} {U V : Nat → Int} (h : PrS w P U V) (hb : Below w.heap.size w w') : PrS w' P U V :=
  ⟨fun j hj => ⟨(hb.cell (p := ⟨P, j * 2, none⟩) (cell_lt (h.cell j hj).1)).trans (h.cell j hj).1, (hb.cell (p := ⟨P, j * 2 + 1, none⟩) (cell_lt (h.cell j hj).2)).trans (h.cell j hj).2⟩⟩
def pk3 {α : Type} (x y z : α) : Nat → α
  | 0 => x
  | 1 => y
  | _ => z
theorem prS_of {w : World} {P T : Nat} {u0 v0 u1 v1 u2 v2 : Int} (h : w.heap[P]? = some (.cells #[.int .i64 u0, .int .i64 v0, .int .i64 u1, .int .i64 v1, .int .i64 u2, .int .i64 v2] T (0, 0))) : PrS w P (pk3 u0 u1 u2) (pk3 v0 v1 v2) :=
  ⟨fun j hj => by
    rcases (by omega : j = 0 ∨ j = 1 ∨ j = 2) with rfl | rfl | rfl
    all_goals exact ⟨by rw [cell_blk h]; rfl, by rw [cell_blk h]; rfl⟩⟩
def pk4 {α : Type} (x y z u : α) : Nat → α
  | 0 => x
  | 1 => y
  | 2 => z
  | _ => u
end Go.Proofs.YtekbpoppajbljaaDoor

namespace Go.Proofs.YtekbpoppajbljaaDoor
open Go.RowKit Go.BigFrame

theorem ListAt.belowN {w w' : World} {a : Option Addr} {len : Nat} (h : ListAt w a len) {B : Nat} (hb : Below B w w') (hB : w.heap.size ≤ B) : ListAt w' a len :=
  ⟨h.1, fun j hj => by
    obtain ⟨c, off, x, ha, hc, hx⟩ := h.2 j hj
    exact ⟨c, off, x, ha, (hb.cell (p := ⟨c, off + j, none⟩) (Nat.lt_of_lt_of_le (cell_lt hc) hB)).trans hc, hx⟩⟩
/-- the boxes ahead of the loop -/
structure OdS (w : World) (b G T O : Nat) (raw tt oo : Vq) (n0 : Int) (ag : Option Addr) (cg : Nat) (es0 : List E2) (wx : World) : Prop where
  dk : DeckAt wx b
  r : wx.heap[w.heap.size]? = some (.cells #[.int .i64 raw.n, .slice raw.a raw.es.length raw.c, .int .i64 raw.wd, .int .i64 raw.ct, .slice raw.a2 raw.ns.length raw.c2] 46 (0, 0))
  g : wx.heap[G]? = some (.cells #[.int .i64 n0, .slice ag es0.length cg] 27 (0, 0))
  t : wx.heap[T]? = some (.cells #[.int .i64 tt.n, .slice tt.a tt.es.length tt.c, .int .i64 tt.wd, .int .i64 tt.ct, .slice tt.a2 tt.ns.length tt.c2] 46 (0, 0))
  o : wx.heap[O]? = some (.cells #[.int .i64 oo.n, .slice oo.a oo.es.length oo.c, .int .i64 oo.wd, .int .i64 oo.ct, .slice oo.a2 oo.ns.length oo.c2] 46 (0, 0))
  rq : VqAt wx b raw
  tq : VqAt wx b tt
  oq : VqAt wx b oo
  ge : EdgesAt wx (.slice ag es0.length cg) es0
  ga : es0 ≠ [] → ∀ p, ag = some p → p.block ≠ b
  be : Below w.heap.size w wx
  wb : w.heap.size < b
  bG : b < G
  GT : G < T
  TO : T < O
section
variable {w wx w' : World} {b G T O : Nat} {raw tt oo : Vq} {n0 : Int} {ag : Option Addr} {cg : Nat} {es0 : List E2}
theorem OdS.below (h : OdS w b G T O raw tt oo n0 ag cg es0 wx) (hb : Below wx.heap.size wx w') : OdS w b G T O raw tt oo n0 ag cg es0 w' :=
  ⟨deck_below' h.dk hb, lit_next' hb h.r, lit_next' hb h.g, lit_next' hb h.t, lit_next' hb h.o, h.rq.below hb, h.tq.below hb, h.oq.below hb, h.ge.below hb, h.ga, h.be.trans (hb.mono h.be.size), h.wb, h.bG, h.GT, h.TO⟩
theorem OdS.next (h : OdS w b G T O raw tt oo n0 ag cg es0 wx) (hd : DeckAt w' b) (hg : wx.grownBy w' (some b)) : OdS w b G T O raw tt oo n0 ag cg es0 w' := by
  have h1 := h.wb
  have h2 := h.bG
  have h3 := h.GT
  have h4 := h.TO
  have ne : ∀ k, k ≠ b → some k ≠ some b := fun k hk e => hk (Option.some.inj e)
  exact ⟨hd, grown_blk hg h.r (ne _ (by omega)), grown_blk hg h.g (ne _ (by omega)), grown_blk hg h.t (ne _ (by omega)), grown_blk hg h.o (ne _ (by omega)), h.rq.grown hg, h.tq.grown hg, h.oq.grown hg,
    h.ge.grownN hg (fun g e hn n c p ep => by cases e; exact h.ga hn p (Value.slice.inj ep).1), h.ga, h.be.grown hg h.be.size (fun k e => by cases e; omega), h.wb, h.bG, h.GT, h.TO⟩
end
theorem EdgesAt.store {w : World} {a : Option Addr} {n cap O j : Nat} {es : List E2} {v : Value} (h : EdgesAt w (.slice a n cap) es) (hl : es ≠ [] → ∀ p, a = some p → p.block ≠ O) : EdgesAt (w.setCell ⟨O, j, none⟩ v) (.slice a n cap) es :=
  h.grownN grown_store (fun g e hn n' c p ep => by cases e; exact hl hn p (Value.slice.inj ep).1)
theorem IntsAt.store {w : World} {a : Option Addr} {n cap O j : Nat} {xs : List Int} {v : Value} (h : IntsAt w (.slice a n cap) xs) (hl : xs ≠ [] → ∀ p, a = some p → p.block ≠ O) : IntsAt (w.setCell ⟨O, j, none⟩ v) (.slice a n cap) xs :=
  h.grownN grown_store (fun g e hn n' c p ep => by cases e; exact hl hn p (Value.slice.inj ep).1)
/-- nothing of it lies in block O -/
def Vq.Apart (q : Vq) (O : Nat) : Prop := (q.es ≠ [] → ∀ p, q.a = some p → p.block ≠ O) ∧ (q.ns ≠ [] → ∀ p, q.a2 = some p → p.block ≠ O)
theorem VqAt.store {w : World} {b O j : Nat} {q : Vq} {v : Value} (h : VqAt w b q) (hl : q.Apart O) : VqAt (w.setCell ⟨O, j, none⟩ v) b q := ⟨h.e.store hl.1, h.i.store hl.2, h.ea, h.ia⟩
/-- a cell of the last box is stored to -/
theorem OdS.put {w wx : World} {b G T O : Nat} {raw tt oo o2 : Vq} {n0 : Int} {ag : Option Addr} {cg : Nat} {es0 : List E2} (h : OdS w b G T O raw tt oo n0 ag cg es0 wx) (j : Nat) (v : Value) (hr : raw.Apart O) (ht : tt.Apart O) (hg : es0 ≠ [] → ∀ p, ag = some p → p.block ≠ O) (ho : o2.Apart O) (hq : VqAt wx b o2)
    (hc : (#[.int .i64 oo.n, .slice oo.a oo.es.length oo.c, .int .i64 oo.wd, .int .i64 oo.ct, .slice oo.a2 oo.ns.length oo.c2] : Array Value).setIfInBounds j v = #[.int .i64 o2.n, .slice o2.a o2.es.length o2.c, .int .i64 o2.wd, .int .i64 o2.ct, .slice o2.a2 o2.ns.length o2.c2]) : OdS w b G T O raw tt o2 n0 ag cg es0 (wx.setCell ⟨O, j, none⟩ v) := by
  have h1 := h.wb
  have h2 := h.bG
  have h3 := h.GT
  have h4 := h.TO
  have ne : ∀ k, k ≠ O → (wx.setCell ⟨O, j, none⟩ v).heap[k]? = wx.heap[k]? := fun k hk => Below.heap_setCell _ _ _ _ hk
  have ho2 := heap_setCell_same wx O j _ _ v h.o
  rw [hc] at ho2
  exact ⟨h.dk.kept grown_store (fun g e => by cases e; omega), (ne _ (by omega)).trans h.r, (ne _ (by omega)).trans h.g, (ne _ (by omega)).trans h.t, ho2, h.rq.store hr, h.tq.store ht, hq.store ho, h.ge.store hg, h.ga, h.be.grown grown_store h.be.size (fun k e => by cases e; omega), h1, h2, h3, h4⟩
set_option maxRecDepth 100000 in
set_option maxHeartbeats 12800000 in
theorem ansQ_law (a0 : Option Addr) (len0 cap0 : Nat) (rn rw rc : Int) (ra rb : Option Addr) (rlen rcap blen bcap : Nat) (u v : Int) (res : List E2) (rns : List Int) (w : World) (hl : ListAt w a0 len0) (hT : TzAt w)
    (hrs : rlen ≤ 100000 → res.length = rlen ∧ EdgesAt w (.slice ra res.length rcap) res) (hns : blen ≤ 100000 → rns.length = blen ∧ IntsAt w (.slice rb rns.length bcap) rns) :
    Calls Tryd.prog 8 #[.slice a0 len0 cap0, .agg #[.int .i64 rn, .slice ra rlen rcap, .int .i64 rw, .int .i64 rc, .slice rb blen bcap], .int .i64 u, .int .i64 v] w fun e w' => e = .returned (.bool true) ∧ Below w.heap.size w w' := by
  have hbX : Below w.heap.size w (w.alloc (.cells #[.int .i64 rn, .slice ra rlen rcap, .int .i64 rw, .int .i64 rc, .slice rb blen bcap] 46)) := (Below.refl _ _).alloc (Nat.le_refl _) _
  by_cases hall : len0 ≤ 500 ∧ rn ≤ 10 ∧ rlen ≤ 100 ∧ blen ≤ 80
  case neg =>
    have haw := fun W h => awake30_any W (hT.below (w' := W) h)
    by_cases h0 : len0 ≤ 500
    · have d0 : decide (len0 ≤ 500) = true := by simpa using h0
      by_cases h1 : rn ≤ 10 ∧ rlen ≤ 100
      · have d3 : (decide (rn ≤ 10) && decide ((rlen : Int) ≤ 10 * 10)) = true := by
          simp only [Bool.and_eq_true, decide_eq_true_eq]
          omega
        have d2 : decide ((80 : Int) < blen) = true := by simp; omega
        have d2' : decide (80 < blen) = true := by simp; omega
        clear hall
        go_enter Tryd.func8, Tryd.ntmps8
        go_wp2_with (first
          | (go_at_call 9; refine (few_any _ _ _ _).mono ?_; rintro e w' ⟨rfl, rfl⟩)
          | (go_at_call 37; refine (light30_any _ 10 _ _ _ _ (by omega) (by omega)).mono ?_; rw [d3]; rintro e w3 ⟨rfl, hb3⟩; have hb03 := hbX.trans (hb3.mono hbX.size); have g4 := (cells5 (lit_next' hb3 (heap_alloc_new _ _))).2.2.2.2)
          | (go_at_call 26; refine (haw _ hb03).mono ?_; rintro e w4 ⟨rfl, hb4⟩))
        go_ret
        exact ⟨rfl, hb03.trans (hb4.mono hb03.size)⟩
      · have d3 : (decide (rn ≤ 10) && decide ((rlen : Int) ≤ 10 * 10)) = false := by
          simp only [Bool.and_eq_false_iff, decide_eq_false_iff_not]
          omega
        clear hall
        go_enter Tryd.func8, Tryd.ntmps8
        go_wp2_with (first
          | (go_at_call 9; refine (few_any _ _ _ _).mono ?_; rintro e w' ⟨rfl, rfl⟩)
          | (go_at_call 37; refine (light30_any _ 10 _ _ _ _ (by omega) (by omega)).mono ?_; rw [d3]; rintro e w3 ⟨rfl, hb3⟩; have hb03 := hbX.trans (hb3.mono hbX.size))
          | (go_at_call 26; refine (haw _ hb03).mono ?_; rintro e w4 ⟨rfl, hb4⟩))
        go_ret
        exact ⟨rfl, hb03.trans (hb4.mono hb03.size)⟩
    · have d0 : decide (len0 ≤ 500) = false := by simpa using h0
      clear hall
      go_enter Tryd.func8, Tryd.ntmps8
      go_wp2_with (first
        | (go_at_call 9; refine (few_any _ _ _ _).mono ?_; rintro e w' ⟨rfl, rfl⟩)
        | (go_at_call 26; refine (haw _ hbX).mono ?_; rintro e w4 ⟨rfl, hb4⟩))
      go_ret
      exact ⟨rfl, hbX.trans (hb4.mono hbX.size)⟩
  case pos =>
  obtain ⟨h0, h1, h2, h3⟩ := hall
  obtain ⟨hrl, hre⟩ := hrs (by omega)
  obtain ⟨hbl, hbi⟩ := hns (by omega)
  clear hrs hns
  subst hrl hbl
  have d0 : decide (len0 ≤ 500) = true := by simpa using h0
  have d2 : decide ((80 : Int) < rns.length) = false := by simp; omega
  have d2' : decide (80 < rns.length) = false := by simp; omega
  have d3 : (decide (rn ≤ 10) && decide ((res.length : Int) ≤ 10 * 10)) = true := by
    simp only [Bool.and_eq_true, decide_eq_true_eq]
    omega
  have hwX := heap_alloc_new w (.cells #[.int .i64 rn, .slice ra res.length rcap, .int .i64 rw, .int .i64 rc, .slice rb rns.length bcap] 46)
  go_enter Tryd.func8, Tryd.ntmps8
  go_wp2_with (first
    | (go_at_call 9; refine (few_any _ _ _ _).mono ?_; rintro e w' ⟨rfl, rfl⟩)
    | (go_at_call 37; refine (light30_any _ 10 _ _ _ _ (by omega) (by omega)).mono ?_; rw [d3]; rintro e w3 ⟨rfl, hb3⟩; have hb03 := hbX.trans (hb3.mono hbX.size); have g4 := (cells5 (lit_next' hb3 hwX)).2.2.2.2)
    | (go_at_call 12; refine (new_any _ _ _ _).mono ?_; rintro e w' ⟨rfl, rfl⟩))
  clear g4
  have hl3 := hl.belowN hb03 (Nat.le_refl _)
  have hdk := deck_new (cap := cap0) hl3
  have hX3 := lit_next' hb3 hwX
  have hb04 := hb03.alloc hb03.size (.cells #[.slice a0 len0 cap0, .int .i64 0] 64)
  have hX4 := lit_next' ((Below.refl _ _).alloc (Nat.le_refl _) (.cells #[.slice a0 len0 cap0, .int .i64 0] 64)) hX3
  have hwb : w.heap.size < w3.heap.size := blk_lt hX3
  refine (mkgraph_any w3.heap.size 8 _ hdk (by omega) (by omega)).mono ?_
  rintro e w5 ⟨n0, es0, ag, cg, rfl, he5, hv, hn8, hd5, hg5, ho5⟩
  have hb05 : Below w.heap.size w w5 := below_deck hb04 hg5 (by omega) hb04.size
  have hX5 := grown_blk hg5 hX4 (by intro e; have := Option.some.inj e; omega)
  clear hb3 hl3 hdk hX3 hX4 hb04 hg5 hwX hbX hb03
  have hel := hv.length_le
  have hob : ∀ p, ag = some p → w3.heap.size < p.block := fun p hp => by have := ho5 p hp; simp at this; omega
  obtain ⟨b, hb⟩ : ∃ b, w3.heap.size = b := ⟨_, rfl⟩
  rw [hb] at hd5 hwb hob ⊢
  clear hb ho5
  obtain ⟨n0, rfl⟩ := Int.eq_ofNat_of_zero_le hv.1
  have hG6 := heap_alloc_new w5 (.cells #[.int .i64 n0, .slice ag es0.length cg] 27)
  have hn6 := (Below.refl w5.heap.size w5).alloc (Nat.le_refl _) (.cells #[.int .i64 n0, .slice ag es0.length cg] 27)
  obtain ⟨g0, g1⟩ := cell_two hG6
  have hop := ropen_any (n0 : Int) ag cg es0 _ (he5.below hn6)
  have hox : openX (n0 : Int) es0 = (quadN n0 es0, 0) := by unfold openX; rw [(valid_iff _ _).2 hv, if_neg (by simp)]; rfl
  rw [hox] at hop
  unfold RPost quadN at hop
  dsimp only at hop
  have hwd := (num_bd (es := es0) (n := n0) (by omega)).1
  have hct := (num_bd (es := es0) (n := n0) (by omega)).2
  have hnl := sqL_length es0 n0
  obtain ⟨X, hXX⟩ : ∃ X, wedS es0 n0 = X := ⟨_, rfl⟩
  obtain ⟨Y, hY⟩ : ∃ Y, sqT es0 n0 n0 / 4 = Y := ⟨_, rfl⟩
  obtain ⟨Z, hZ⟩ : ∃ Z, sqL es0 n0 = Z := ⟨_, rfl⟩
  rw [hXX] at hop hwd
  rw [hY] at hop hct
  rw [hZ] at hop hnl
  have hZl : Z.length ≤ 64 := by omega
  clear hox hXX hY hZ hnl
  go_wp2_with fail
  refine hop.mono ?_
  rintro e w6 ⟨a1, c1, b1, d1, rfl, he6, hi6, ha1, hb1, hb6⟩
  have hd6 := deck_below' (hd5.alloc (.cells #[.int .i64 n0, .slice ag es0.length cg] 27)) hb6
  have hG7 := lit_next' hb6 hG6
  have hX6 := lit_next' hb6 (lit_next' hn6 hX5)
  have hb06 := (hb05.trans (hn6.mono hb05.size)).trans (hb6.mono (hb05.trans (hn6.mono hb05.size)).size)
  have hge6 := (he5.below hn6).below hb6
  have hlE : ∀ p, ag = some p → es0 ≠ [] → p.block < w5.heap.size := fun p hp hn => he5.oldN hn p hp
  have hlI : Z ≠ [] → ∀ p, b1 = some p → p.block < w6.heap.size := fun hn => hi6.oldN hn
  have hgI : ∀ p, b1 = some p → w5.heap.size < p.block := fun p hp => by have := hb1 p hp; simp at this; omega
  have hz6 : w5.heap.size + 1 ≤ w6.heap.size := by have := hb6.size; simpa using this
  have hbw5 := hd5.lt
  have hlR : res ≠ [] → ∀ p, ra = some p → p.block < w.heap.size := fun hn => hre.oldN hn
  have hlN : rns ≠ [] → ∀ p, rb = some p → p.block < w.heap.size := fun hn => hbi.oldN hn
  have hS : OdS w b w5.heap.size w6.heap.size (w6.heap.size + 1) ⟨rn, res, ra, rcap, rw, rc, rns, rb, bcap⟩ ⟨n0, es0, a1, c1, X, Y, Z, b1, d1⟩ ⟨n0, es0, a1, c1, X, Y, Z, b1, d1⟩ n0 ag cg es0 ((w6.alloc (.cells #[.int .i64 n0, .slice a1 es0.length c1, .int .i64 X, .int .i64 Y, .slice b1 Z.length d1] 46)).alloc (.cells #[.int .i64 n0, .slice a1 es0.length c1, .int .i64 X, .int .i64 Y, .slice b1 Z.length d1] 46)) := by
    have k1 := (Below.refl w6.heap.size w6).alloc (Nat.le_refl _) (.cells #[.int .i64 n0, .slice a1 es0.length c1, .int .i64 X, .int .i64 Y, .slice b1 Z.length d1] 46)
    have k2 := (Below.refl _ (w6.alloc (.cells #[.int .i64 n0, .slice a1 es0.length c1, .int .i64 X, .int .i64 Y, .slice b1 Z.length d1] 46))).alloc (Nat.le_refl _) (.cells #[.int .i64 n0, .slice a1 es0.length c1, .int .i64 X, .int .i64 Y, .slice b1 Z.length d1] 46)
    have k := k1.trans (k2.mono k1.size)
    have h2 := heap_alloc_new (w6.alloc (.cells #[.int .i64 n0, .slice a1 es0.length c1, .int .i64 X, .int .i64 Y, .slice b1 Z.length d1] 46)) (.cells #[.int .i64 n0, .slice a1 es0.length c1, .int .i64 X, .int .i64 Y, .slice b1 Z.length d1] 46)
    have hz : (w6.alloc (.cells #[.int .i64 n0, .slice a1 es0.length c1, .int .i64 X, .int .i64 Y, .slice b1 Z.length d1] 46)).heap.size = w6.heap.size + 1 := by simp
    rw [hz] at h2
    have hq : VqAt _ b ⟨n0, es0, a1, c1, X, Y, Z, b1, d1⟩ := ⟨he6.below k, hi6.below k, (fun _ p hp => by have := hob p (ha1 p hp); omega), (fun _ p hp => by have := hgI p hp; omega)⟩
    exact ⟨deck_below' hd6 k, lit_next' k hX6, lit_next' k hG7, lit_next' k2 (heap_alloc_new _ _), h2, ⟨hre.below (hb06.trans (k.mono hb06.size)), hbi.below (hb06.trans (k.mono hb06.size)), (fun hn p hp => by have := hlR hn p hp; omega), (fun hn p hp => by have := hlN hn p hp; omega)⟩, hq, hq, hge6.below k, (fun hn p hp => by have := hob p hp; omega), hb06.trans (k.mono hb06.size), hwb, hbw5, by omega, by omega⟩
  have hT1 := heap_alloc_new w6 (.cells #[.int .i64 n0, .slice a1 es0.length c1, .int .i64 X, .int .i64 Y, .slice b1 Z.length d1] 46)
  obtain ⟨t0, t1, t2, t3, t4⟩ := cells5 hT1
  have hz : (w6.alloc (.cells #[.int .i64 n0, .slice a1 es0.length c1, .int .i64 X, .int .i64 Y, .slice b1 Z.length d1] 46)).heap.size = w6.heap.size + 1 := by simp
  clear hop he6 hi6 hb6 hd6 hG7 hX6 hb06 hge6 hn6 hG6 g0 g1 he5 hd5 hX5 hb05
  go_wp2_with fail
  clear t0 t1 t2 t3 t4 hT1
  obtain ⟨W8, hW8⟩ : ∃ W : World, W = (w6.alloc (.cells #[.int .i64 n0, .slice a1 es0.length c1, .int .i64 X, .int .i64 Y, .slice b1 Z.length d1] 46)).alloc (.cells #[.int .i64 n0, .slice a1 es0.length c1, .int .i64 X, .int .i64 Y, .slice b1 Z.length d1] 46) := ⟨_, rfl⟩
  rw [← hW8] at hS ⊢
  clear hW8 hz
  obtain ⟨T, hTT⟩ : ∃ T, w6.heap.size = T := ⟨_, rfl⟩
  obtain ⟨G, hGG⟩ : ∃ G, w5.heap.size = G := ⟨_, rfl⟩
  rw [hTT] at hS hlI hz6
  rw [hGG] at hS hlE hgI hz6 hbw5
  try rw [hTT]
  try rw [hGG]
  clear hTT hGG hb1
  refine (next_any b 3 _ hS.dk (by omega) (by omega)).mono ?_
  rintro _ w9 ⟨sw, hs0, hs1, rfl, hd9, hg9⟩
  have hS9 := hS.next hd9 hg9
  clear hS hd9 hg9
  go_upto_block 0 with fail
  go_cut [] from 78 to 95 (fun wx => ∃ oo : Vq, OdS w b G T (T + 1) ⟨rn, res, ra, rcap, rw, rc, rns, rb, bcap⟩ ⟨n0, es0, a1, c1, X, Y, Z, b1, d1⟩ oo n0 ag cg es0 wx)
  case first =>
    have hAr : (⟨rn, res, ra, rcap, rw, rc, rns, rb, bcap⟩ : Vq).Apart (T + 1) := ⟨fun hn p hp => by have := hlR hn p hp; omega, fun hn p hp => by have := hlN hn p hp; omega⟩
    have hAe : es0 ≠ [] → ∀ p, ag = some p → p.block ≠ T + 1 := fun hn p hp => by have := hlE p hp hn; omega
    have hA1 : es0 ≠ [] → ∀ p, a1 = some p → p.block ≠ T + 1 := fun hn p hp => hAe hn p (ha1 p hp)
    have hA2 : Z ≠ [] → ∀ p, b1 = some p → p.block ≠ T + 1 := fun hn p hp => by have := hlI hn p hp; omega
    have hq9 := hS9.tq
    obtain ⟨o0, o1, o2, o3, o4⟩ := cells5 hS9.o
    obtain ⟨f0, f1, f2, f3, f4⟩ := frees5 hS9.o
    by_cases hw0 : sw = 0
    · have e0 : (sw == 0) = true := by simp [hw0]
      have v1 : IntKind.i64.wrap (X + 1) = X + 1 := IntWalk.i64_in _ (by omega)
      clear hw0
      go_wp2_with fail
      go_meet
      exact ⟨⟨n0, es0, a1, c1, X + 1, Y, Z, b1, d1⟩, hS9.put 2 (.int .i64 (X + 1)) hAr ⟨hA1, hA2⟩ hAe ⟨hA1, hA2⟩ ⟨hq9.e, hq9.i, hq9.ea, hq9.ia⟩ rfl⟩
    have e0 : (sw == 0) = false := by simpa using hw0
    by_cases hw1 : sw = 1
    · have e1 : (sw == 1) = true := by simp [hw1]
      have v1 : IntKind.i64.wrap (Y - 1) = Y - 1 := IntWalk.i64_in _ (by omega)
      clear hw0 hw1
      go_wp2_with fail
      go_meet
      exact ⟨⟨n0, es0, a1, c1, X, Y - 1, Z, b1, d1⟩, hS9.put 3 (.int .i64 (Y - 1)) hAr ⟨hA1, hA2⟩ hAe ⟨hA1, hA2⟩ ⟨hq9.e, hq9.i, hq9.ea, hq9.ia⟩ rfl⟩
    have e1 : (sw == 1) = false := by simpa using hw1
    clear hw0 hw1
    obtain ⟨t0, t1, t2, t3, t4⟩ := cells5 hS9.t
    go_wp2_with (first
      | (at_builtin; refine wpList_app_ints intsT rfl _ _ rfl w9.heap.size (.slice none 0 0) _ [] Z rfl (World.ownsRow_nil _ _ _ _) rfl hq9.i (by simp; omega) (Nat.le_refl _) ?_; intro v7 w7 hown7 hg7; rw [List.nil_append] at hown7; have hb7 : Below w9.heap.size w9 w7 := below_of_grown hg7; have hown7A := hown7.alloc (.cells #[.int .i64 0] 3); have hbA := hb7.alloc hb7.size (.cells #[.int .i64 0] 3); have hl1 := ints_lit1 w7 0 3)
      | (at_builtin; refine wpList_app_ints intsT rfl _ _ rfl w9.heap.size v7 _ Z [0] rfl hown7A rfl hl1 (by simp; omega) hbA.size ?_; intro v8 w8 hown8 hg8; have hb8 := below_app hbA hown7A hg8 hbA.size; obtain ⟨a9, c9, rfl, hi9, ho9⟩ := IntsAt.of_owns hown8 (by simp; omega); have hS8 := hS9.below hb8; have p4 := (cells5 hS8.o).2.2.2.2; have q4 := (frees5 hS8.o).2.2.2.2))
    go_meet
    have hq8 := hS8.tq
    have h9 : w9.heap.size ≠ T + 1 ∧ T + 1 < w9.heap.size := by have := blk_lt hS9.o; omega
    have hbw9 := hS9.dk.lt
    have hP := hS8.put (o2 := ⟨n0, es0, a1, c1, X, Y, Z ++ [0], a9, c9⟩) 4 (.slice a9 (Z ++ [0]).length c9) hAr ⟨hA1, hA2⟩ hAe ⟨hA1, fun _ p hp => by have := ho9 p hp; omega⟩ ⟨hq8.e, hi9, hq8.ea, fun _ p hp => by have := ho9 p hp; omega⟩ rfl
    rw [List.length_append, List.length_singleton] at hP
    exact ⟨_, hP⟩
  case rest =>
    obtain ⟨oo, hS⟩ := hcut
    clear hS9 hlR hlN hlE hlI hgI hob ha1 hz6 hbw5 hwd hct hwb
    obtain ⟨on, oes, oa, oc, owd, oct, ons, oa2, oc2⟩ := oo
    have hcx : ∀ W : World, OdS w b G T (T + 1) ⟨rn, res, ra, rcap, rw, rc, rns, rb, bcap⟩ ⟨n0, es0, a1, c1, X, Y, Z, b1, d1⟩ ⟨on, oes, oa, oc, owd, oct, ons, oa2, oc2⟩ n0 ag cg es0 W → W.cell? ⟨T, 0, none⟩ = some (.int .i64 n0) ∧ W.cell? ⟨T, 1, none⟩ = some (.slice a1 es0.length c1) ∧ W.cell? ⟨T, 2, none⟩ = some (.int .i64 X) ∧ W.cell? ⟨T, 3, none⟩ = some (.int .i64 Y) ∧ W.cell? ⟨T, 4, none⟩ = some (.slice b1 Z.length d1) ∧ W.cell? ⟨w.heap.size, 0, none⟩ = some (.int .i64 rn) ∧ W.cell? ⟨w.heap.size, 1, none⟩ = some (.slice ra res.length rcap) ∧ W.cell? ⟨w.heap.size, 2, none⟩ = some (.int .i64 rw) ∧ W.cell? ⟨w.heap.size, 3, none⟩ = some (.int .i64 rc) ∧ W.cell? ⟨w.heap.size, 4, none⟩ = some (.slice rb rns.length bcap) ∧ W.cell? ⟨T + 1, 0, none⟩ = some (.int .i64 on) ∧ W.cell? ⟨T + 1, 1, none⟩ = some (.slice oa oes.length oc) ∧ W.cell? ⟨T + 1, 2, none⟩ = some (.int .i64 owd) ∧ W.cell? ⟨T + 1, 3, none⟩ = some (.int .i64 oct) ∧ W.cell? ⟨T + 1, 4, none⟩ = some (.slice oa2 ons.length oc2) ∧ W.cell? ⟨G, 0, none⟩ = some (.int .i64 n0) ∧ W.cell? ⟨G, 1, none⟩ = some (.slice ag es0.length cg) := fun W h => ⟨(cells5 h.t).1, (cells5 h.t).2.1, (cells5 h.t).2.2.1, (cells5 h.t).2.2.2.1, (cells5 h.t).2.2.2.2, (cells5 h.r).1, (cells5 h.r).2.1, (cells5 h.r).2.2.1, (cells5 h.r).2.2.2.1, (cells5 h.r).2.2.2.2, (cells5 h.o).1, (cells5 h.o).2.1, (cells5 h.o).2.2.1, (cells5 h.o).2.2.2.1, (cells5 h.o).2.2.2.2, (cell_two h.g).1, (cell_two h.g).2⟩
    have hSd := hS.below (Below.refl _ _).drew
    have hsp := spoilt_any b (n0 : Int) ag cg es0 _ hSd.dk hSd.ge (by omega)
    clear hS
    go_wp2_with fail
    go_region_held3 (fun W => W.cell? ⟨T, 0, none⟩ = some (.int .i64 n0) ∧ W.cell? ⟨T, 1, none⟩ = some (.slice a1 es0.length c1) ∧ W.cell? ⟨T, 2, none⟩ = some (.int .i64 X) ∧ W.cell? ⟨T, 3, none⟩ = some (.int .i64 Y) ∧ W.cell? ⟨T, 4, none⟩ = some (.slice b1 Z.length d1) ∧ W.cell? ⟨w.heap.size, 0, none⟩ = some (.int .i64 rn) ∧ W.cell? ⟨w.heap.size, 1, none⟩ = some (.slice ra res.length rcap) ∧ W.cell? ⟨w.heap.size, 2, none⟩ = some (.int .i64 rw) ∧ W.cell? ⟨w.heap.size, 3, none⟩ = some (.int .i64 rc) ∧ W.cell? ⟨w.heap.size, 4, none⟩ = some (.slice rb rns.length bcap) ∧ W.cell? ⟨T + 1, 0, none⟩ = some (.int .i64 on) ∧ W.cell? ⟨T + 1, 1, none⟩ = some (.slice oa oes.length oc) ∧ W.cell? ⟨T + 1, 2, none⟩ = some (.int .i64 owd) ∧ W.cell? ⟨T + 1, 3, none⟩ = some (.int .i64 oct) ∧ W.cell? ⟨T + 1, 4, none⟩ = some (.slice oa2 ons.length oc2) ∧ W.cell? ⟨G, 0, none⟩ = some (.int .i64 n0) ∧ W.cell? ⟨G, 1, none⟩ = some (.slice ag es0.length cg))
      (first
        | with_reducible exact hcx _ (by with_reducible assumption))
      (first
        | (go_at_call 39; (with_reducible refine hsp.mono ?_); rintro _ w10 ⟨n2, es2, a4, c4, rfl, he10, hd10, hg10, ho10⟩; have hS10 := hSd.next hd10 hg10; have hSL := hS10.below ((Below.refl w10.heap.size w10).alloc (Nat.le_refl _) (.cells #[.int .i64 n0, .slice a1 es0.length c1, .int .i64 X, .int .i64 Y, .slice b1 Z.length d1, .int .i64 rn, .slice ra res.length rcap, .int .i64 rw, .int .i64 rc, .slice rb rns.length bcap, .int .i64 on, .slice oa oes.length oc, .int .i64 owd, .int .i64 oct, .slice oa2 ons.length oc2, .int .i64 n2, .slice a4 es2.length c4, .int .i64 X, .int .i64 Y, .slice b1 Z.length d1] 46))))
    have hbA := (Below.refl w10.heap.size w10).alloc (Nat.le_refl _) (.cells #[.int .i64 n0, .slice a1 es0.length c1, .int .i64 X, .int .i64 Y, .slice b1 Z.length d1, .int .i64 rn, .slice ra res.length rcap, .int .i64 rw, .int .i64 rc, .slice rb rns.length bcap, .int .i64 on, .slice oa oes.length oc, .int .i64 owd, .int .i64 oct, .slice oa2 ons.length oc2, .int .i64 n2, .slice a4 es2.length c4, .int .i64 X, .int .i64 Y, .slice b1 Z.length d1] 46)
    have hrow := heap_alloc_new w10 (.cells #[.int .i64 n0, .slice a1 es0.length c1, .int .i64 X, .int .i64 Y, .slice b1 Z.length d1, .int .i64 rn, .slice ra res.length rcap, .int .i64 rw, .int .i64 rc, .slice rb rns.length bcap, .int .i64 on, .slice oa oes.length oc, .int .i64 owd, .int .i64 oct, .slice oa2 ons.length oc2, .int .i64 n2, .slice a4 es2.length c4, .int .i64 X, .int .i64 Y, .slice b1 Z.length d1] 46)
    have hbd := hSd.dk.lt
    have hAw : AwS w b w10.heap.size (pk4 ⟨n0, es0, a1, c1, X, Y, Z, b1, d1⟩ ⟨rn, res, ra, rcap, rw, rc, rns, rb, bcap⟩ ⟨on, oes, oa, oc, owd, oct, ons, oa2, oc2⟩ ⟨n2, es2, a4, c4, X, Y, Z, b1, d1⟩) (w10.alloc (.cells #[.int .i64 n0, .slice a1 es0.length c1, .int .i64 X, .int .i64 Y, .slice b1 Z.length d1, .int .i64 rn, .slice ra res.length rcap, .int .i64 rw, .int .i64 rc, .slice rb rns.length bcap, .int .i64 on, .slice oa oes.length oc, .int .i64 owd, .int .i64 oct, .slice oa2 ons.length oc2, .int .i64 n2, .slice a4 es2.length c4, .int .i64 X, .int .i64 Y, .slice b1 Z.length d1] 46)) := by
      refine ⟨hSL.dk, fun k hk => ?_, hrow, hSL.be, hS10.dk.lt, by have := hSL.wb; omega⟩
      rcases (by omega : k = 0 ∨ k = 1 ∨ k = 2 ∨ k = 3) with rfl | rfl | rfl | rfl
      · exact hSL.tq
      · exact hSL.rq
      · exact hSL.oq
      · exact ⟨he10.below hbA, hSL.tq.i, (fun _ p hp => by have := ho10 p hp; omega), hSL.tq.ia⟩
    obtain ⟨L, hL⟩ : ∃ L, w10.heap.size = L := ⟨_, rfl⟩
    obtain ⟨D, hD⟩ : ∃ D, pk4 (⟨n0, es0, a1, c1, X, Y, Z, b1, d1⟩ : Vq) ⟨rn, res, ra, rcap, rw, rc, rns, rb, bcap⟩ ⟨on, oes, oa, oc, owd, oct, ons, oa2, oc2⟩ ⟨n2, es2, a4, c4, X, Y, Z, b1, d1⟩ = D := ⟨_, rfl⟩
    rw [hD] at hAw
    clear hD hcx hSd hsp he10 hd10 hg10 ho10 hS10 hSL hbA hrow hbd hre hbi hl
    go_wp2_with fail
    rw [hL] at hAw
    try rw [hL]
    clear hL
    have HAW := Lib.hid hAw
    clear hAw
    go_loopw [111] (fun vi wr => ∃ k : Nat, k ≤ 4 ∧ vi = .int .i64 k ∧ AwS w b L D wr) (fun vi _ => 4 - (intOf vi).toNat)
    case atStart => exact ⟨0, by omega, rfl, HAW.out⟩
    case round =>
      clear HAW
      obtain ⟨k, hk, rfl, hA⟩ := hrel
      by_cases hlt : k < 4
      · have hdk : decide ((k : Int) < 4) = true := by simp; omega
        have hdk2 : decide (k < 4) = true := by simpa using hlt
        have hk4 : (k : Int) < 4 := by omega
        obtain ⟨m0, m1, m2, m3, m4⟩ := hA.cells k hlt
        have hX := AwX.of hA k hlt
        obtain ⟨q, hq⟩ : ∃ q, D k = q := ⟨_, rfl⟩
        rw [hq] at hX m0 m1 m2 m3 m4
        obtain ⟨n, es, a, c, wd, ct, ns, a2, c2⟩ := q
        dsimp only at m0 m1 m2 m3 m4 hX
        clear hq hA
        obtain ⟨x0, x1, x2, x3, x4⟩ := cells5 hX.gx
        dsimp only at x0 x1 x2 x3 x4
        go_wp2_with fail
        obtain ⟨XB, hXB⟩ : ∃ XB, wr.heap.size = XB := ⟨_, rfl⟩
        obtain ⟨W0, hW0⟩ : ∃ W : World, W = wr.alloc (.cells #[.int .i64 n, .slice a es.length c, .int .i64 wd, .int .i64 ct, .slice a2 ns.length c2] 46) := ⟨_, rfl⟩
        rw [← hW0, hXB] at hX
        rw [← hW0]
        try rw [hXB]
        clear m0 m1 m2 m3 m4 x0 x1 x2 x3 x4 hW0 hXB
        obtain ⟨⟨C1, C2⟩, hC⟩ : ∃ x, cntX n es = x := ⟨_, rfl⟩
        obtain ⟨⟨N1, N2⟩, hN⟩ : ∃ x, nodX n es = x := ⟨_, rfl⟩
        obtain ⟨⟨E1, E2⟩, hE⟩ : ∃ x, edgX n es = x := ⟨_, rfl⟩
        obtain ⟨⟨⟨qn, qe, qw, qc, qs⟩, O2⟩, hO⟩ : ∃ x, openX n es = x := ⟨_, rfl⟩
        obtain ⟨⟨D1, D2⟩, hW⟩ : ∃ x, wedX n es = x := ⟨_, rfl⟩
        have hc0 := scntX_any n a c es W0 hX.q.e (hT.below hX.s.be)
        rw [hC] at hc0
        dsimp only at hc0
        obtain ⟨x0, x1, x2, x3, x4⟩ := cells5 hX.gx
        dsimp only at x0 x1 x2 x3 x4
        go_wp2_with fail
        refine hc0.mono ?_
        rintro _ W1 ⟨rfl, hb0⟩
        have hX := hX.below hb0
        clear hc0 hb0 x0 x1 x2 x3 x4
        have hc1 := rcntX_any n a c es W1 hX.q.e
        rw [hC] at hc1
        dsimp only at hc1
        obtain ⟨x0, x1, x2, x3, x4⟩ := cells5 hX.gx
        dsimp only at x0 x1 x2 x3 x4
        go_wp2_with fail
        refine hc1.mono ?_
        rintro _ W2 ⟨rfl, hb1⟩
        have hX := hX.below hb1
        clear hc1 hb1 x0 x1 x2 x3 x4
        have hc2 := snodX_any n a c es W2 hX.q.e (hT.below hX.s.be)
        rw [hN] at hc2
        unfold LPost at hc2
        dsimp only at hc2
        obtain ⟨x0, x1, x2, x3, x4⟩ := cells5 hX.gx
        dsimp only at x0 x1 x2 x3 x4
        go_wp2_with fail
        refine hc2.mono ?_
        rintro _ W3 ⟨lsnod, ksnod, rfl, isnod, -, hb2⟩
        have hX := hX.below hb2
        clear hc2 hb2 x0 x1 x2 x3 x4
        have hc3 := rnodX_any n a c es W3 hX.q.e
        rw [hN] at hc3
        unfold LPost at hc3
        dsimp only at hc3
        obtain ⟨x0, x1, x2, x3, x4⟩ := cells5 hX.gx
        dsimp only at x0 x1 x2 x3 x4
        go_wp2_with fail
        refine hc3.mono ?_
        rintro _ W4 ⟨lrnod, krnod, rfl, irnod, -, hb3⟩
        have hX := hX.below hb3
        have isnod := isnod.below hb3
        clear hc3 hb3 x0 x1 x2 x3 x4
        have hc4 := sedgX_any n a c es W4 hX.q.e (hT.below hX.s.be)
        rw [hE] at hc4
        unfold LPost at hc4
        dsimp only at hc4
        obtain ⟨x0, x1, x2, x3, x4⟩ := cells5 hX.gx
        dsimp only at x0 x1 x2 x3 x4
        go_wp2_with fail
        refine hc4.mono ?_
        rintro _ W5 ⟨lsedg, ksedg, rfl, isedg, -, hb4⟩
        have hX := hX.below hb4
        have isnod := isnod.below hb4
        have irnod := irnod.below hb4
        clear hc4 hb4 x0 x1 x2 x3 x4
        have hc5 := redgX_any n a c es W5 hX.q.e
        rw [hE] at hc5
        unfold LPost at hc5
        dsimp only at hc5
        obtain ⟨x0, x1, x2, x3, x4⟩ := cells5 hX.gx
        dsimp only at x0 x1 x2 x3 x4
        go_wp2_with fail
        refine hc5.mono ?_
        rintro _ W6 ⟨lredg, kredg, rfl, iredg, -, hb5⟩
        have hX := hX.below hb5
        have isnod := isnod.below hb5
        have irnod := irnod.below hb5
        have isedg := isedg.below hb5
        clear hc5 hb5 x0 x1 x2 x3 x4
        have hc6 := sqopen_any n a c es W6 hX.q.e (hT.below hX.s.be)
        rw [hO] at hc6
        unfold QPost at hc6
        dsimp only at hc6
        obtain ⟨x0, x1, x2, x3, x4⟩ := cells5 hX.gx
        dsimp only at x0 x1 x2 x3 x4
        go_wp2_with fail
        refine hc6.mono ?_
        rintro _ W7n ⟨esopn, ksopn, lsopn, jsopn, rfl, qsopn, hb6⟩
        have hz6 := (Below.refl W7n.heap.size W7n).alloc (Nat.le_refl _) (.cells #[.int .i64 qn, .slice esopn qe.length ksopn, .int .i64 qw, .int .i64 qc, .slice lsopn qs.length jsopn] 46)
        have hX := (hX.below hb6).below hz6
        have isnod := (isnod.below hb6).below hz6
        have irnod := (irnod.below hb6).below hz6
        have isedg := (isedg.below hb6).below hz6
        have iredg := (iredg.below hb6).below hz6
        have ysopn := heap_alloc_new W7n (.cells #[.int .i64 qn, .slice esopn qe.length ksopn, .int .i64 qw, .int .i64 qc, .slice lsopn qs.length jsopn] 46)
        have rsopn := qsopn.e.below hz6
        have isopn := qsopn.i.below hz6
        clear hc6 hb6 hz6 x0 x1 x2 x3 x4 qsopn
        have hc7 := ropen_any n a c es (W7n.alloc (.cells #[.int .i64 qn, .slice esopn qe.length ksopn, .int .i64 qw, .int .i64 qc, .slice lsopn qs.length jsopn] 46)) hX.q.e
        rw [hO] at hc7
        unfold RPost at hc7
        dsimp only at hc7
        obtain ⟨x0, x1, x2, x3, x4⟩ := cells5 hX.gx
        dsimp only at x0 x1 x2 x3 x4
        go_wp2_with fail
        refine hc7.mono ?_
        rintro _ W8n ⟨eropn, kropn, lropn, jropn, rfl, rropn, iropn, -, -, hb7⟩
        have hz7 := (Below.refl W8n.heap.size W8n).alloc (Nat.le_refl _) (.cells #[.int .i64 qn, .slice eropn qe.length kropn, .int .i64 qw, .int .i64 qc, .slice lropn qs.length jropn] 46)
        have hX := (hX.below hb7).below hz7
        have isnod := (isnod.below hb7).below hz7
        have irnod := (irnod.below hb7).below hz7
        have isedg := (isedg.below hb7).below hz7
        have iredg := (iredg.below hb7).below hz7
        have ysopn := lit_next' hz7 (lit_next' hb7 ysopn)
        have rsopn := (rsopn.below hb7).below hz7
        have isopn := (isopn.below hb7).below hz7
        have yropn := heap_alloc_new W8n (.cells #[.int .i64 qn, .slice eropn qe.length kropn, .int .i64 qw, .int .i64 qc, .slice lropn qs.length jropn] 46)
        have rropn := rropn.below hz7
        have iropn := iropn.below hz7
        clear hc7 hb7 hz7 x0 x1 x2 x3 x4
        have hc8 := swedX_any n a c es (W8n.alloc (.cells #[.int .i64 qn, .slice eropn qe.length kropn, .int .i64 qw, .int .i64 qc, .slice lropn qs.length jropn] 46)) hX.q.e
        rw [hW] at hc8
        dsimp only at hc8
        obtain ⟨x0, x1, x2, x3, x4⟩ := cells5 hX.gx
        dsimp only at x0 x1 x2 x3 x4
        go_wp2_with fail
        refine hc8.mono ?_
        rintro _ W9 ⟨rfl, hb8⟩
        have hX := hX.below hb8
        have isnod := isnod.below hb8
        have irnod := irnod.below hb8
        have isedg := isedg.below hb8
        have iredg := iredg.below hb8
        have ysopn := lit_next' hb8 ysopn
        have rsopn := rsopn.below hb8
        have isopn := isopn.below hb8
        have yropn := lit_next' hb8 yropn
        have rropn := rropn.below hb8
        have iropn := iropn.below hb8
        clear hc8 hb8 x0 x1 x2 x3 x4
        have hc9 := rwedX_any n a c es W9 hX.q.e
        rw [hW] at hc9
        dsimp only at hc9
        obtain ⟨x0, x1, x2, x3, x4⟩ := cells5 hX.gx
        dsimp only at x0 x1 x2 x3 x4
        go_wp2_with fail
        refine hc9.mono ?_
        rintro _ W10 ⟨rfl, hb9⟩
        have hX := hX.below hb9
        have isnod := isnod.below hb9
        have irnod := irnod.below hb9
        have isedg := isedg.below hb9
        have iredg := iredg.below hb9
        have ysopn := lit_next' hb9 ysopn
        have rsopn := rsopn.below hb9
        have isopn := isopn.below hb9
        have yropn := lit_next' hb9 yropn
        have rropn := rropn.below hb9
        have iropn := iropn.below hb9
        clear hc9 hb9 x0 x1 x2 x3 x4
        have hsame : ∀ (x y : Int) (l : List Int), sameQ x y l x y l = true := fun x y l => by simp [sameQ]
        obtain ⟨S, hS⟩ : ∃ S, sqOk ⟨n, es, wd, ct, ns⟩ = S := ⟨_, rfl⟩
        obtain ⟨x0, x1, x2, x3, x4⟩ := cells5 hX.gx
        dsimp only at x0 x1 x2 x3 x4
        obtain ⟨y0, y1, y2, y3, y4⟩ := cells5 ysopn
        obtain ⟨z0, z1, z2, z3, z4⟩ := cells5 yropn
        have xt : ∀ (g j : Nat) (v : Value), W10.cell? ⟨g, j, none⟩ = some v → ∀ z : Ext W10.heap.size W10, z.world.cell? ⟨g, j, none⟩ = some v := fun g j v h z => (z.below.cell (p := ⟨g, j, none⟩) (cell_lt h)).trans h
        have xa0 := xt _ _ _ x0
        have xa1 := xt _ _ _ x1
        have xa2 := xt _ _ _ x2
        have xa3 := xt _ _ _ x3
        have xa4 := xt _ _ _ x4
        have ya0 := xt _ _ _ y0
        have ya1 := xt _ _ _ y1
        have ya2 := xt _ _ _ y2
        have ya3 := xt _ _ _ y3
        have ya4 := xt _ _ _ y4
        have za0 := xt _ _ _ z0
        have za1 := xt _ _ _ z1
        have za2 := xt _ _ _ z2
        have za3 := xt _ _ _ z3
        have za4 := xt _ _ _ z4
        have h1z := fun z : Ext W10.heap.size W10 => lints_any lsnod lrnod ksnod krnod N1 z.world (isnod.below z.below) (irnod.below z.below)
        have h2z := fun z : Ext W10.heap.size W10 => lints_any lsedg lredg ksedg kredg E1 z.world (isedg.below z.below) (iredg.below z.below)
        have h3z := fun z : Ext W10.heap.size W10 => rsameQ_any qn qw qc qw qc esopn eropn lsopn lropn ksopn kropn jsopn jropn qe qs qs z.world (rsopn.below z.below) (rropn.below z.below) (isopn.below z.below) (iropn.below z.below)
        rw [hsame] at h3z
        have h4z := fun z : Ext W10.heap.size W10 => sqvalid_any n wd ct a a2 c c2 es ns z.world (hX.q.e.below z.below) (hX.q.i.below z.below) ((hT.below hX.s.be).below z.below)
        have h5z := fun z : Ext W10.heap.size W10 => rvalidQ_any n wd ct a a2 c c2 es ns z.world (hX.q.e.below z.below) (hX.q.i.below z.below)
        rw [hS] at h4z h5z
        clear hS hsame xt x0 x1 x2 x3 x4 y0 y1 y2 y3 y4 z0 z1 z2 z3 z4 isnod irnod isedg iredg ysopn rsopn isopn yropn rropn iropn hC hN hE hO hW
        go_wp2_with fail
        refine wp_region_ext W10.heap.size W10 (by kernel_rfl) (by kernel_rfl) (Below.refl _ _) ?_
        try simp only [List.append_eq, List.cons_append, List.nil_append]
        repeat (any_goals (go_big_quiet_step (first | (go_at_call 36; (with_reducible exact Calls.ext_of (Nat.le_refl _) (h1z _))) | (go_at_call 36; (with_reducible exact Calls.ext_of (Nat.le_refl _) (h2z _))) | (go_at_call 42; (with_reducible exact Calls.ext_of (Nat.le_refl _) (h3z _))) | (go_at_call 35; (with_reducible exact Calls.ext_of (Nat.le_refl _) (h4z _))) | (go_at_call 43; (with_reducible exact Calls.ext_of (Nat.le_refl _) (h5z _))))))
        refine wpQuiet_nil ?_
        rintro wq ⟨⟨_, hq⟩, rfl⟩
        have hX := hX.below hq
        clear xa0 xa1 xa2 xa3 xa4 ya0 ya1 ya2 ya3 ya4 za0 za1 za2 za3 za4 h1z h2z h3z h4z h5z hq
        go_wp2_with fail
        refine (next_any b 9 _ hX.s.dk (by omega) (by omega)).mono ?_
        rintro _ V0 ⟨s0, -, -, rfl, hd0, hg0⟩
        have hX := hX.next hd0 hg0
        clear hd0 hg0
        go_wp2_with fail
        refine (next_any b 8 _ hX.s.dk (by omega) (by omega)).mono ?_
        rintro _ V1 ⟨s1, -, -, rfl, hd1, hg1⟩
        have hX := hX.next hd1 hg1
        clear hd1 hg1
        go_wp2_with fail
        refine (next_any b 8 _ hX.s.dk (by omega) (by omega)).mono ?_
        rintro _ V2 ⟨s2, -, -, rfl, hd2, hg2⟩
        have hX := hX.next hd2 hg2
        clear hd2 hg2
        go_wp2_with fail
        refine (next_any b 8 _ hX.s.dk (by omega) (by omega)).mono ?_
        rintro _ V3 ⟨s3, -, -, rfl, hd3, hg3⟩
        have hX := hX.next hd3 hg3
        clear hd3 hg3
        go_wp2_with fail
        have hP := prS_of (heap_alloc_new V3 (.cells #[.int .i64 u, .int .i64 v, .int .i64 s0, .int .i64 s1, .int .i64 s2, .int .i64 s3] 59))
        have hX := hX.alloc (.cells #[.int .i64 u, .int .i64 v, .int .i64 s0, .int .i64 s1, .int .i64 s2, .int .i64 s3] 59)
        obtain ⟨U, hU⟩ : ∃ U, pk3 u s0 s2 = U := ⟨_, rfl⟩
        obtain ⟨V, hV⟩ : ∃ V, pk3 v s1 s3 = V := ⟨_, rfl⟩
        obtain ⟨PB, hPB⟩ : ∃ PB, V3.heap.size = PB := ⟨_, rfl⟩
        rw [hU, hV, hPB] at hP
        try rw [hPB]
        clear hU hV hPB
        have HP := Lib.hid hP
        have HX := Lib.hid hX
        clear hP hX
        go_loopw [248] (fun vi wr => ∃ j : Nat, j ≤ 3 ∧ vi = .int .i64 j ∧ AwX w b L D XB ⟨n, es, a, c, wd, ct, ns, a2, c2⟩ wr ∧ PrS wr PB U V) (fun vi _ => 3 - (intOf vi).toNat)
        case atStart => exact ⟨0, by omega, rfl, HX.out, HP.out⟩
        case round =>
          as_aux_lemma =>
            clear HX HP
            obtain ⟨j, hj, rfl, hX, hP⟩ := hrel
            by_cases hlj : j < 3
            · have hdj : decide ((j : Int) < 3) = true := by simp; omega
              have hdj2 : decide (j < 3) = true := by simpa using hlj
              have hj3 : (j : Int) < 3 := by omega
              obtain ⟨m0, m1⟩ := hP.cell j hlj
              obtain ⟨uj, huj⟩ : ∃ x, U j = x := ⟨_, rfl⟩
              obtain ⟨vj, hvj⟩ : ∃ x, V j = x := ⟨_, rfl⟩
              rw [huj] at m0
              rw [hvj] at m1
              clear huj hvj
              obtain ⟨⟨⟨in_, ie, iw, ic, is⟩, icn, ier⟩, hI⟩ : ∃ x, insX ⟨n, es, wd, ct, ns⟩ uj vj = x := ⟨_, rfl⟩
              obtain ⟨⟨⟨dn, de, dw, dc, ds⟩, dcn, der⟩, hD⟩ : ∃ x, delX ⟨n, es, wd, ct, ns⟩ uj vj = x := ⟨_, rfl⟩
              have hz := (Below.refl wr.heap.size wr).alloc (Nat.le_refl _) (.cells #[.int .i64 uj, .int .i64 vj] 59)
              have hX := hX.below hz
              have hP := hP.below hz
              have hS := heap_alloc_new wr (.cells #[.int .i64 uj, .int .i64 vj] 59)
              clear hz
              have hca := sqinsert_any n wd ct a a2 c c2 es ns uj vj (wr.alloc (.cells #[.int .i64 uj, .int .i64 vj] 59)) hX.q.e hX.q.i (hT.below hX.s.be)
              rw [hI] at hca
              unfold QPost at hca
              dsimp only at hca
              obtain ⟨x0, x1, x2, x3, x4⟩ := cells5 hX.gx
              dsimp only at x0 x1 x2 x3 x4
              obtain ⟨p0, p1⟩ := cell_two hS
              go_wp2_with fail
              refine hca.mono ?_
              rintro _ Ya ⟨ea, ka, la, ja, rfl, qa, hba⟩
              have hza := (Below.refl Ya.heap.size Ya).alloc (Nat.le_refl _) (.cells #[.int .i64 in_, .slice ea ie.length ka, .int .i64 iw, .int .i64 ic, .slice la is.length ja] 46)
              have hX := (hX.below hba).below hza
              have hP := (hP.below hba).below hza
              have hS := lit_next' hza (lit_next' hba hS)
              have ya := heap_alloc_new Ya (.cells #[.int .i64 in_, .slice ea ie.length ka, .int .i64 iw, .int .i64 ic, .slice la is.length ja] 46)
              have qa := qa.below hza
              clear hca hba hza x0 x1 x2 x3 x4 p0 p1 m0 m1
              have hcb := rinsertQ_any n wd ct a a2 c c2 es ns uj vj (Ya.alloc (.cells #[.int .i64 in_, .slice ea ie.length ka, .int .i64 iw, .int .i64 ic, .slice la is.length ja] 46)) hX.q.e hX.q.i
              rw [hI] at hcb
              unfold QPost at hcb
              dsimp only at hcb
              obtain ⟨x0, x1, x2, x3, x4⟩ := cells5 hX.gx
              dsimp only at x0 x1 x2 x3 x4
              obtain ⟨p0, p1⟩ := cell_two hS
              go_wp2_with fail
              refine hcb.mono ?_
              rintro _ Yb ⟨eb, kb, lb, jb, rfl, qb, hbb⟩
              have hzb := (Below.refl Yb.heap.size Yb).alloc (Nat.le_refl _) (.cells #[.int .i64 in_, .slice eb ie.length kb, .int .i64 iw, .int .i64 ic, .slice lb is.length jb] 46)
              have hX := (hX.below hbb).below hzb
              have hP := (hP.below hbb).below hzb
              have hS := lit_next' hzb (lit_next' hbb hS)
              have ya := lit_next' hzb (lit_next' hbb ya)
              have qa := (qa.below hbb).below hzb
              have yb := heap_alloc_new Yb (.cells #[.int .i64 in_, .slice eb ie.length kb, .int .i64 iw, .int .i64 ic, .slice lb is.length jb] 46)
              have qb := qb.below hzb
              clear hcb hbb hzb x0 x1 x2 x3 x4 p0 p1 
              have hcc_ := sqdelete_any n wd ct a a2 c c2 es ns uj vj (Yb.alloc (.cells #[.int .i64 in_, .slice eb ie.length kb, .int .i64 iw, .int .i64 ic, .slice lb is.length jb] 46)) hX.q.e hX.q.i (hT.below hX.s.be)
              rw [hD] at hcc_
              unfold QPost at hcc_
              dsimp only at hcc_
              obtain ⟨x0, x1, x2, x3, x4⟩ := cells5 hX.gx
              dsimp only at x0 x1 x2 x3 x4
              obtain ⟨p0, p1⟩ := cell_two hS
              go_wp2_with fail
              refine hcc_.mono ?_
              rintro _ Yc_ ⟨ec_, kc_, lc_, jc_, rfl, qc_, hbc_⟩
              have hzc_ := (Below.refl Yc_.heap.size Yc_).alloc (Nat.le_refl _) (.cells #[.int .i64 dn, .slice ec_ de.length kc_, .int .i64 dw, .int .i64 dc, .slice lc_ ds.length jc_] 46)
              have hX := (hX.below hbc_).below hzc_
              have hP := (hP.below hbc_).below hzc_
              have hS := lit_next' hzc_ (lit_next' hbc_ hS)
              have ya := lit_next' hzc_ (lit_next' hbc_ ya)
              have qa := (qa.below hbc_).below hzc_
              have yb := lit_next' hzc_ (lit_next' hbc_ yb)
              have qb := (qb.below hbc_).below hzc_
              have yc_ := heap_alloc_new Yc_ (.cells #[.int .i64 dn, .slice ec_ de.length kc_, .int .i64 dw, .int .i64 dc, .slice lc_ ds.length jc_] 46)
              have qc_ := qc_.below hzc_
              clear hcc_ hbc_ hzc_ x0 x1 x2 x3 x4 p0 p1 
              have hcd_ := rdeleteQ_any n wd ct a a2 c c2 es ns uj vj (Yc_.alloc (.cells #[.int .i64 dn, .slice ec_ de.length kc_, .int .i64 dw, .int .i64 dc, .slice lc_ ds.length jc_] 46)) hX.q.e hX.q.i
              rw [hD] at hcd_
              unfold QPost at hcd_
              dsimp only at hcd_
              obtain ⟨x0, x1, x2, x3, x4⟩ := cells5 hX.gx
              dsimp only at x0 x1 x2 x3 x4
              obtain ⟨p0, p1⟩ := cell_two hS
              go_wp2_with fail
              refine hcd_.mono ?_
              rintro _ Yd_ ⟨ed_, kd_, ld_, jd_, rfl, qd_, hbd_⟩
              have hzd_ := (Below.refl Yd_.heap.size Yd_).alloc (Nat.le_refl _) (.cells #[.int .i64 dn, .slice ed_ de.length kd_, .int .i64 dw, .int .i64 dc, .slice ld_ ds.length jd_] 46)
              have hX := (hX.below hbd_).below hzd_
              have hP := (hP.below hbd_).below hzd_
              have hS := lit_next' hzd_ (lit_next' hbd_ hS)
              have ya := lit_next' hzd_ (lit_next' hbd_ ya)
              have qa := (qa.below hbd_).below hzd_
              have yb := lit_next' hzd_ (lit_next' hbd_ yb)
              have qb := (qb.below hbd_).below hzd_
              have yc_ := lit_next' hzd_ (lit_next' hbd_ yc_)
              have qc_ := (qc_.below hbd_).below hzd_
              have yd_ := heap_alloc_new Yd_ (.cells #[.int .i64 dn, .slice ed_ de.length kd_, .int .i64 dw, .int .i64 dc, .slice ld_ ds.length jd_] 46)
              have qd_ := qd_.below hzd_
              clear hcd_ hbd_ hzd_ x0 x1 x2 x3 x4 p0 p1 
              have hsame : ∀ (x y : Int) (l : List Int), sameQ x y l x y l = true := fun x y l => by simp [sameQ]
              obtain ⟨a0_, a1_, a2_, a3_, a4_⟩ := cells5 ya
              obtain ⟨b0_, b1_, b2_, b3_, b4_⟩ := cells5 yb
              obtain ⟨c0_, c1_, c2_, c3_, c4_⟩ := cells5 yc_
              obtain ⟨d0_, d1_, d2_, d3_, d4_⟩ := cells5 yd_
              have h1s := rsameQ_any in_ iw ic iw ic ea eb la lb ka kb ja jb ie is is _ qa.e qb.e qa.i qb.i
              rw [hsame] at h1s
              go_wp2_with fail
              refine h1s.mono ?_
              rintro _ V5 ⟨rfl, hb5⟩
              have hX := hX.below hb5
              have hP := hP.below hb5
              have yc_ := lit_next' hb5 yc_
              have yd_ := lit_next' hb5 yd_
              have qc_ := qc_.below hb5
              have qd_ := qd_.below hb5
              clear h1s hb5 a0_ a1_ a2_ a3_ a4_ b0_ b1_ b2_ b3_ b4_ c0_ c1_ c2_ c3_ c4_ d0_ d1_ d2_ d3_ d4_ ya yb qa qb hS
              obtain ⟨c0_, c1_, c2_, c3_, c4_⟩ := cells5 yc_
              obtain ⟨d0_, d1_, d2_, d3_, d4_⟩ := cells5 yd_
              have h2s := rsameQ_any dn dw dc dw dc ec_ ed_ lc_ ld_ kc_ kd_ jc_ jd_ de ds ds _ qc_.e qd_.e qc_.i qd_.i
              rw [hsame] at h2s
              go_wp2_with fail
              refine h2s.mono ?_
              rintro _ V6 ⟨rfl, hb6⟩
              have hX := hX.below hb6
              have hP := hP.below hb6
              clear h2s hb6 c0_ c1_ c2_ c3_ c4_ d0_ d1_ d2_ d3_ d4_ yc_ yd_ qc_ qd_ hsame hI hD
              go_wp2_with fail
              go_roundw
              case rel => exact ⟨j + 1, by omega, by go_num, hX, hP⟩
              case measure => simp [intOf]; omega
            · obtain rfl : j = 3 := by omega
              go_wp2_with fail
              go_roundw
              case rel => exact ⟨k + 1, by omega, by go_num, hX.s⟩
              case measure => simp [intOf]; omega
      · obtain rfl : k = 4 := by omega
        have hbe := hA.be
        go_wp2_with fail
        refine (awake30_any _ (hT.below hbe)).mono ?_
        rintro _ wz ⟨rfl, hbz⟩
        go_wp2_with fail
        go_ret
        exact ⟨rfl, hbe.trans (hbz.mono hbe.size)⟩
end Go.Proofs.YtekbpoppajbljaaDoor
