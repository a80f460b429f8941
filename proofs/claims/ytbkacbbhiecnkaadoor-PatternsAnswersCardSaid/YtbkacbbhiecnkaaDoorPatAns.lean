/- The walk of the law on the answers of the patterns. -/
import Derived.Test.YtbkacbbhiecnkaaDoorPatSame
import Derived.Test.YtbkacbbhiecnkaaDoorMkSpoilt
import Derived.Test.YtbkacbbhiecnkaaDoorRef32Copies
import Derived.Test.YtbkacbbhiecnkaaDoorRef32Set
import Derived.Test.YtbkacbbhiecnkaaDoorPatAwake
namespace Go.Proofs.YtbkacbbhiecnkaaDoor
open Go.RowKit Go.BigFrame

theorem EdgesAt.grownE {w w' : World} {v : Value} {es : List E2} {r : Option Nat} (h : EdgesAt w v es) (hg : w.grownBy w' r) (hr : ∀ g, r = some g → es ≠ [] → Off g v) : EdgesAt w' v es := by
  obtain ⟨a, cap, rfl, h1, h2, h3, h4⟩ := h
  refine ⟨a, cap, rfl, h1, h2, h3, fun i e hi => ?_⟩
  obtain ⟨b, off, rfl, c0, c1⟩ := h4 i e hi
  have hne : some b ≠ r := fun e => hr b e.symm (fun h => by rw [h] at hi; simp at hi) _ _ _ rfl rfl
  exact ⟨b, off, rfl, hg.cell c0 hne, hg.cell c1 hne⟩
theorem EdgesAt.old {w : World} {p : Addr} {n cap : Nat} {es : List E2} (h : EdgesAt w (.slice (some p) n cap) es) (hn : es ≠ []) : p.block < w.heap.size := by
  obtain ⟨a, c, hv, h1, h2, h3, h4⟩ := h
  cases es with
  | nil => exact absurd rfl hn
  | cons e es =>
    obtain ⟨b, off, ha, c0, _⟩ := h4 0 e rfl
    have := (Value.slice.inj hv).1
    rw [ha] at this
    cases this
    exact cell_lt c0
/-- three graphs in block L -/
structure G3 (w : World) (b L : Nat) (N : Nat → Int) (E : Nat → List E2) (A : Nat → Option Addr) (C : Nat → Nat) : Prop where
  cell : ∀ k, k < 3 → w.cell? ⟨L, k * 2, none⟩ = some (.int .i64 (N k)) ∧ w.cell? ⟨L, k * 2 + 1, none⟩ = some (.slice (A k) (E k).length (C k))
  edges : ∀ k, k < 3 → EdgesAt w (.slice (A k) (E k).length (C k)) (E k)
  off : ∀ k, k < 3 → E k ≠ [] → ∀ p, A k = some p → p.block ≠ b
  ne : L ≠ b
theorem G3.grown {w w' : World} {b L : Nat} {N : Nat → Int} {E : Nat → List E2} {A : Nat → Option Addr} {C : Nat → Nat} (h : G3 w b L N E A C) (hg : w.grownBy w' (some b)) : G3 w' b L N E A C :=
  ⟨fun k hk => ⟨hg.cell (h.cell k hk).1 (by have := h.ne; intro e; exact this (Option.some.inj e)), hg.cell (h.cell k hk).2 (by have := h.ne; intro e; exact this (Option.some.inj e))⟩,
    fun k hk => (h.edges k hk).grownE hg (fun g e hn n c p hp => by cases e; exact h.off k hk hn p (Value.slice.inj hp).1), h.off, h.ne⟩
/-- the law's state: the deck, the three graphs, and all that was there -/
structure LwS (w : World) (b L : Nat) (N : Nat → Int) (E : Nat → List E2) (A : Nat → Option Addr) (C : Nat → Nat) (wr : World) : Prop where
  dk : DeckAt wr b
  g3 : G3 wr b L N E A C
  be : Below w.heap.size w wr
  wb : w.heap.size ≤ b
theorem LwS.next {w wr w' : World} {b L : Nat} {N : Nat → Int} {E : Nat → List E2} {A : Nat → Option Addr} {C : Nat → Nat} (h : LwS w b L N E A C wr) (hd : DeckAt w' b) (hg : wr.grownBy w' (some b)) : LwS w b L N E A C w' :=
  ⟨hd, h.g3.grown hg, below_deck h.be hg h.wb h.be.size, h.wb⟩
theorem LwS.below {w wr w' : World} {b L : Nat} {N : Nat → Int} {E : Nat → List E2} {A : Nat → Option Addr} {C : Nat → Nat} (h : LwS w b L N E A C wr) (hb : Below wr.heap.size wr w') : LwS w b L N E A C w' :=
  h.next (h.dk.kept (grown_of_below hb) (fun g e => by cases e)) (grown_none (grown_of_below hb))
theorem LwS.alloc {w wr : World} {b L : Nat} {N : Nat → Int} {E : Nat → List E2} {A : Nat → Option Addr} {C : Nat → Nat} (h : LwS w b L N E A C wr) (o : Obj) : LwS w b L N E A C (wr.alloc o) :=
  h.below ((Below.refl _ _).alloc (Nat.le_refl _) o)
/-- the same, and the graph that is looked at in block X -/
structure LwX (w : World) (b L : Nat) (N : Nat → Int) (E : Nat → List E2) (A : Nat → Option Addr) (C : Nat → Nat) (X : Nat) (n : Int) (a : Option Addr) (cap : Nat) (es : List E2) (wr : World) : Prop where
  s : LwS w b L N E A C wr
  gx : wr.heap[X]? = some (.cells #[.int .i64 n, .slice a es.length cap] 27 (0, 0))
  ed : EdgesAt wr (.slice a es.length cap) es
  ob : es ≠ [] → ∀ p, a = some p → p.block ≠ b
  xb : X ≠ b
section
variable {w wr w' : World} {b L : Nat} {N : Nat → Int} {E : Nat → List E2} {A : Nat → Option Addr} {C : Nat → Nat} {X : Nat} {n : Int} {a : Option Addr} {cap : Nat} {es : List E2}
theorem LwX.next (h : LwX w b L N E A C X n a cap es wr) (hd : DeckAt w' b) (hg : wr.grownBy w' (some b)) : LwX w b L N E A C X n a cap es w' :=
  ⟨h.s.next hd hg, grown_blk hg h.gx (by have := h.xb; intro e; exact this (Option.some.inj e)), h.ed.grownE hg (fun g e hn n c p hp => by cases e; exact h.ob hn p (Value.slice.inj hp).1), h.ob, h.xb⟩
theorem LwX.below (h : LwX w b L N E A C X n a cap es wr) (hb : Below wr.heap.size wr w') : LwX w b L N E A C X n a cap es w' :=
  ⟨h.s.below hb, lit_next' hb h.gx, h.ed.below hb, h.ob, h.xb⟩
theorem LwX.alloc (h : LwX w b L N E A C X n a cap es wr) (o : Obj) : LwX w b L N E A C X n a cap es (wr.alloc o) :=
  h.below ((Below.refl _ _).alloc (Nat.le_refl _) o)
theorem LwX.drew (h : LwX w b L N E A C X n a cap es wr) : LwX w b L N E A C X n a cap es wr.drew := h.below (Below.refl _ _).drew
theorem LwX.cells (h : LwX w b L N E A C X n a cap es wr) : wr.cell? ⟨X, 0, none⟩ = some (.int .i64 n) ∧ wr.cell? ⟨X, 1, none⟩ = some (.slice a es.length cap) := ⟨by rw [cell_blk h.gx]; rfl, by rw [cell_blk h.gx]; rfl⟩
theorem LwX.of (h : LwS w b L N E A C wr) (k : Nat) (hk : k < 3) : LwX w b L N E A C wr.heap.size (N k) (A k) (C k) (E k) (wr.alloc (.cells #[.int .i64 (N k), .slice (A k) (E k).length (C k)] 27)) :=
  ⟨h.alloc _, heap_alloc_new _ _, (h.alloc _).g3.edges k hk, h.g3.off k hk, by have := h.dk.lt; omega⟩
end
def pick3 {α : Type} (x y z : α) : Nat → α
  | 0 => x
  | 1 => y
  | _ => z
theorem g3_of {w : World} {b L T : Nat} {n0 n1 n2 : Int} {e0 e1 e2 : List E2} {a0 a1 a2 : Option Addr} {c0 c1 c2 : Nat}
    (h : w.heap[L]? = some (.cells #[.int .i64 n0, .slice a0 e0.length c0, .int .i64 n1, .slice a1 e1.length c1, .int .i64 n2, .slice a2 e2.length c2] T (0, 0)))
    (h0 : EdgesAt w (.slice a0 e0.length c0) e0) (h1 : EdgesAt w (.slice a1 e1.length c1) e1) (h2 : EdgesAt w (.slice a2 e2.length c2) e2)
    (o0 : e0 ≠ [] → ∀ p, a0 = some p → p.block ≠ b) (o1 : e1 ≠ [] → ∀ p, a1 = some p → p.block ≠ b) (o2 : e2 ≠ [] → ∀ p, a2 = some p → p.block ≠ b) (hne : L ≠ b) : G3 w b L (pick3 n0 n1 n2) (pick3 e0 e1 e2) (pick3 a0 a1 a2) (pick3 c0 c1 c2) := by
  refine ⟨fun k hk => ?_, fun k hk => ?_, fun k hk => ?_, hne⟩
  · rcases (by omega : k = 0 ∨ k = 1 ∨ k = 2) with rfl | rfl | rfl <;> exact ⟨by rw [cell_blk h]; rfl, by rw [cell_blk h]; rfl⟩
  · rcases (by omega : k = 0 ∨ k = 1 ∨ k = 2) with rfl | rfl | rfl
    · exact h0
    · exact h1
    · exact h2
  · rcases (by omega : k = 0 ∨ k = 1 ∨ k = 2) with rfl | rfl | rfl
    · exact o0
    · exact o1
    · exact o2
theorem ListAt.below {w w' : World} {a : Option Addr} {len : Nat} (h : ListAt w a len) {B : Nat} (hb : Below B w w') (hB : w.heap.size ≤ B) : ListAt w' a len :=
  ⟨h.1, fun j hj => by
    obtain ⟨c, off, x, ha, hc, hx⟩ := h.2 j hj
    exact ⟨c, off, x, ha, ((hb.mono hB).cell (p := ⟨c, off + j, none⟩) (cell_lt hc)).trans hc, hx⟩⟩
/-- four rows of numbers in block L -/
structure S4 (w : World) (L : Nat) (Y : Nat → List Int) (A : Nat → Option Addr) (C : Nat → Nat) : Prop where
  row : ∀ k, k < 4 → w.cell? ⟨L, k, none⟩ = some (.slice (A k) (Y k).length (C k)) ∧ IntsAt w (.slice (A k) (Y k).length (C k)) (Y k)
theorem S4.below {w w' : World} {L : Nat} {Y : Nat → List Int} {A : Nat → Option Addr} {C : Nat → Nat} (h : S4 w L Y A C) (hb : Below w.heap.size w w') : S4 w' L Y A C :=
  ⟨fun k hk => ⟨(hb.cell (p := ⟨L, k, none⟩) (cell_lt (h.row k hk).1)).trans (h.row k hk).1, (h.row k hk).2.below hb⟩⟩
def pick4 {α : Type} (x y z u : α) : Nat → α
  | 0 => x
  | 1 => y
  | 2 => z
  | _ => u
theorem s4_of {w : World} {L T : Nat} {e0 e1 e2 e3 : List Int} {a0 a1 a2 a3 : Option Addr} {c0 c1 c2 c3 : Nat}
    (h : w.heap[L]? = some (.cells #[.slice a0 e0.length c0, .slice a1 e1.length c1, .slice a2 e2.length c2, .slice a3 e3.length c3] T (0, 0)))
    (h0 : IntsAt w (.slice a0 e0.length c0) e0) (h1 : IntsAt w (.slice a1 e1.length c1) e1) (h2 : IntsAt w (.slice a2 e2.length c2) e2) (h3 : IntsAt w (.slice a3 e3.length c3) e3) : S4 w L (pick4 e0 e1 e2 e3) (pick4 a0 a1 a2 a3) (pick4 c0 c1 c2 c3) := by
  refine ⟨fun k hk => ?_⟩
  rcases (by omega : k = 0 ∨ k = 1 ∨ k = 2 ∨ k = 3) with rfl | rfl | rfl | rfl
  · exact ⟨by rw [cell_blk h]; rfl, h0⟩
  · exact ⟨by rw [cell_blk h]; rfl, h1⟩
  · exact ⟨by rw [cell_blk h]; rfl, h2⟩
  · exact ⟨by rw [cell_blk h]; rfl, h3⟩
set_option maxRecDepth 100000 in
set_option maxHeartbeats 6400000 in
theorem answers_law (a0 : Option Addr) (len0 cap0 : Nat) (a1 : Option Addr) (len1 cap1 : Nat) (a2 : Option Addr) (len2 cap2 : Nat) (rn : Int) (ra : Option Addr) (rlen rcap : Nat) (v : Int) (xs ys : List Int) (res : List E2) (w : World) (hl : ListAt w a0 len0) (hT : TabsAt w)
    (hxs : len1 ≤ 20 → xs.length = len1 ∧ IntsAt w (.slice a1 xs.length cap1) xs) (hys : len2 ≤ 40 → ys.length = len2 ∧ IntsAt w (.slice a2 ys.length cap2) ys) (hrs : rlen ≤ 81 → res.length = rlen ∧ EdgesAt w (.slice ra res.length rcap) res) :
    Calls Tryd.prog 6 #[.slice a0 len0 cap0, .slice a1 len1 cap1, .slice a2 len2 cap2, .agg #[.int .i64 rn, .slice ra rlen rcap], .int .i64 v] w fun e w' => e = .returned (.bool true) ∧ Below w.heap.size w w' := by
  have hbX : Below w.heap.size w (w.alloc (.cells #[.int .i64 rn, .slice ra rlen rcap] 27)) := (Below.refl _ _).alloc (Nat.le_refl _) _
  by_cases hall : len0 ≤ 500 ∧ len1 ≤ 20 ∧ len2 ≤ 40 ∧ rn ≤ 9 ∧ rlen ≤ 81
  case neg =>
    have haw := fun W h => awake_any W (hT.below (w' := W) h)
    by_cases h0 : len0 ≤ 500
    · have d0 : decide (len0 ≤ 500) = true := by simpa using h0
      by_cases h1 : len1 ≤ 20
      · have d1 : decide ((20 : Int) < len1) = false := by simp; omega
        have d1' : decide (20 < len1) = false := by simp; omega
        by_cases h2 : len2 ≤ 40
        · have d2 : decide ((40 : Int) < len2) = false := by simp; omega
          have d2' : decide (40 < len2) = false := by simp; omega
          have d3 : (decide (rn ≤ 9) && decide ((rlen : Int) ≤ 9 * 9)) = false := by
            simp only [Bool.and_eq_false_iff, decide_eq_false_iff_not]
            omega
          clear hall
          go_enter Tryd.func6, Tryd.ntmps6
          go_wp2_with (first
            | (go_at_call 15; refine (few_any _ _ _ _).mono ?_; rintro e w' ⟨rfl, rfl⟩)
            | (go_at_call 33; refine (light_any _ 9 _ _ _ _ (by omega) (by omega)).mono ?_; rw [d3]; rintro e w3 ⟨rfl, hb3⟩; have hb03 := hbX.trans (hb3.mono hbX.size))
            | (go_at_call 16; refine (haw _ hb03).mono ?_; rintro e w4 ⟨rfl, hb4⟩))
          go_ret
          exact ⟨rfl, hb03.trans (hb4.mono hb03.size)⟩
        · have d2 : decide ((40 : Int) < len2) = true := by simp; omega
          have d2' : decide (40 < len2) = true := by simp; omega
          clear hall
          go_enter Tryd.func6, Tryd.ntmps6
          go_wp2_with (first
            | (go_at_call 15; refine (few_any _ _ _ _).mono ?_; rintro e w' ⟨rfl, rfl⟩)
            | (go_at_call 16; refine (haw _ hbX).mono ?_; rintro e w4 ⟨rfl, hb4⟩))
          go_ret
          exact ⟨rfl, hbX.trans (hb4.mono hbX.size)⟩
      · have d1 : decide ((20 : Int) < len1) = true := by simp; omega
        have d1' : decide (20 < len1) = true := by simp; omega
        clear hall
        go_enter Tryd.func6, Tryd.ntmps6
        go_wp2_with (first
          | (go_at_call 15; refine (few_any _ _ _ _).mono ?_; rintro e w' ⟨rfl, rfl⟩)
          | (go_at_call 16; refine (haw _ hbX).mono ?_; rintro e w4 ⟨rfl, hb4⟩))
        go_ret
        exact ⟨rfl, hbX.trans (hb4.mono hbX.size)⟩
    · have d0 : decide (len0 ≤ 500) = false := by simpa using h0
      clear hall
      go_enter Tryd.func6, Tryd.ntmps6
      go_wp2_with (first
        | (go_at_call 15; refine (few_any _ _ _ _).mono ?_; rintro e w' ⟨rfl, rfl⟩)
        | (go_at_call 16; refine (haw _ hbX).mono ?_; rintro e w4 ⟨rfl, hb4⟩))
      go_ret
      exact ⟨rfl, hbX.trans (hb4.mono hbX.size)⟩
  case pos =>
  obtain ⟨h0, h1, h2, h3, h4⟩ := hall
  obtain ⟨hxl, hxi⟩ := hxs h1
  obtain ⟨hyl, hyi⟩ := hys h2
  obtain ⟨hrl, hre⟩ := hrs h4
  clear hxs hys hrs
  subst hxl hyl hrl
  have d0 : decide (len0 ≤ 500) = true := by simpa using h0
  have d1 : decide ((20 : Int) < xs.length) = false := by simp; omega
  have d1' : decide (20 < xs.length) = false := by simp; omega
  have d2 : decide ((40 : Int) < ys.length) = false := by simp; omega
  have d2' : decide (40 < ys.length) = false := by simp; omega
  have d3 : (decide (rn ≤ 9) && decide ((res.length : Int) ≤ 9 * 9)) = true := by
    simp only [Bool.and_eq_true, decide_eq_true_eq]
    omega
  have hwX := heap_alloc_new w (.cells #[.int .i64 rn, .slice ra res.length rcap] 27)
  go_enter Tryd.func6, Tryd.ntmps6
  go_wp2_with (first
    | (go_at_call 15; refine (few_any _ _ _ _).mono ?_; rintro e w' ⟨rfl, rfl⟩)
    | (go_at_call 33; refine (light_any _ 9 _ _ _ _ (by omega) (by omega)).mono ?_; rw [d3]; rintro e w3 ⟨rfl, hb3⟩; have hb03 := hbX.trans (hb3.mono hbX.size))
    | (go_at_call 18; refine (new_any _ _ _ _).mono ?_; rintro e w' ⟨rfl, rfl⟩))
  have hl3 := hl.below hb03 (Nat.le_refl _)
  have hdk := deck_new (cap := cap0) hl3
  have hX3 := lit_next' hb3 hwX
  have hb04 := hb03.alloc hb03.size (.cells #[.slice a0 len0 cap0, .int .i64 0] 81)
  have hX4 := lit_next' ((Below.refl _ _).alloc (Nat.le_refl _) (.cells #[.slice a0 len0 cap0, .int .i64 0] 81)) hX3
  have hwb : w.heap.size < w3.heap.size := blk_lt hX3
  refine (mkgraph_any w3.heap.size 8 _ hdk (by omega) (by omega)).mono ?_
  rintro e w5 ⟨n0, es0, ag, cg, rfl, he5, hv, hn8, hd5, hg5, ho5⟩
  have hb05 : Below w.heap.size w w5 := below_deck hb04 hg5 (by omega) hb04.size
  have hX5 := grown_blk hg5 hX4 (by intro e; have := Option.some.inj e; omega)
  clear hb3 hl3 hdk hX3 hX4 hb04 hg5 hwX hbX hb03
  have hel := hv.length_le
  have hob : ∀ p, ag = some p → w3.heap.size < p.block := fun p hp => by have := ho5 p hp; simp at this; omega
  obtain ⟨b, hb⟩ : ∃ b, w3.heap.size = b := ⟨_, rfl⟩
  rw [hb] at hd5 hwb hob ⊢
  clear hb ho5
  go_upto_region 5 with fail
  go_cut [72, 73, 74] from 67 to 74 (fun s c i wx => ∃ (L : Nat) (n2 : Int) (es2 : List E2) (a4 : Option Addr) (c4 : Nat), s = .slice (some ⟨L, 0, none⟩) 3 3 ∧ c = .int .i64 3 ∧ i = .int .i64 0 ∧ LwS w b L (pick3 n0 rn n2) (pick3 es0 res es2) (pick3 ag ra a4) (pick3 cg rcap c4) wx)
  case first =>
    have hd6 := hd5.alloc (.cells #[.int .i64 n0, .slice ag es0.length cg] 27)
    have hbw5 := hd5.lt
    have hn6 := (Below.refl w5.heap.size w5).alloc (Nat.le_refl _) (.cells #[.int .i64 n0, .slice ag es0.length cg] 27)
    have he6 := he5.below hn6
    have hG6 := heap_alloc_new w5 (.cells #[.int .i64 n0, .slice ag es0.length cg] 27)
    have hX6 := lit_next' hn6 hX5
    have hb06 := hb05.trans (hn6.mono hb05.size)
    obtain ⟨w6, hw6⟩ : ∃ W : World, W = w5.alloc (.cells #[.int .i64 n0, .slice ag es0.length cg] 27) := ⟨_, rfl⟩
    rw [← hw6] at hd6 he6 hG6 hX6 hb06 ⊢
    clear hn6 hd5 he5 hX5 hb05 hw6
    have hsp := spoilt_any b n0 ag cg es0 w6.drew hd6.drew (he6.below (Below.refl _ _).drew) (by omega)
    have g0 : w6.cell? ⟨w5.heap.size, 0, none⟩ = some (.int .i64 n0) := by rw [cell_blk hG6]; rfl
    have g1 : w6.cell? ⟨w5.heap.size, 1, none⟩ = some (.slice ag es0.length cg) := by rw [cell_blk hG6]; rfl
    have x0 : w6.cell? ⟨w.heap.size, 0, none⟩ = some (.int .i64 rn) := by rw [cell_blk hX6]; rfl
    have x1 : w6.cell? ⟨w.heap.size, 1, none⟩ = some (.slice ra res.length rcap) := by rw [cell_blk hX6]; rfl
    go_region_law (go_simp; go_at_call 34; (with_reducible refine hsp.mono ?_); rintro e w7 ⟨n2, es2, a4, c4, rfl, he7, hd7, hg7, ho7⟩; have hG7 := grown_blk hg7 hG6 (by intro e; have := Option.some.inj e; omega); have hX7 := grown_blk hg7 hX6 (by intro e; have := Option.some.inj e; omega); have g0' := cell_blk (j := 0) hG7; have g1' := cell_blk (j := 1) hG7; have x0' := cell_blk (j := 0) hX7; have x1' := cell_blk (j := 1) hX7)
    all_goals
      go_wp2_with fail
      go_meet
      have hbx : res ≠ [] → ∀ p, ra = some p → p.block ≠ b := fun hne p hp => by
        subst hp
        have := hre.old hne
        omega
      have hn7 := (Below.refl w7.heap.size w7).alloc (Nat.le_refl _) (.cells #[.int .i64 n0, .slice ag es0.length cg, .int .i64 rn, .slice ra res.length rcap, .int .i64 n2, .slice a4 es2.length c4] 27)
      have hbe : Below w.heap.size w w7 := below_deck hb06.drew hg7 (by omega) hb06.drew.size
      refine ⟨w7.heap.size, n2, es2, a4, c4, rfl, rfl, rfl, ⟨hd7.alloc _, g3_of (heap_alloc_new _ _) ?_ ?_ (he7.below hn7) (fun _ p hp => by have := hob p hp; omega) hbx (fun _ p hp => by have := ho7 p hp; have := hd6.lt; simp at *; omega) (by have := hd7.lt; omega), hbe.alloc hbe.size _, by omega⟩⟩
      · exact ((he6.below (Below.refl _ _).drew).grown hg7 (fun g e n c p hp => by cases e; have := hob p (Value.slice.inj hp).1; omega)).below hn7
      · exact ((hre.below hbe).below hn7)
  case rest =>
    obtain ⟨L, n2, es2, a4, c4, rfl, rfl, rfl, hS⟩ := hcut
    clear hd5 he5 hX5 hb05 hob hv hn8 hel
    obtain ⟨N, hN⟩ : ∃ N, pick3 n0 rn n2 = N := ⟨_, rfl⟩
    obtain ⟨E, hE⟩ : ∃ E, pick3 es0 res es2 = E := ⟨_, rfl⟩
    obtain ⟨A, hA⟩ : ∃ A, pick3 ag ra a4 = A := ⟨_, rfl⟩
    obtain ⟨C, hC⟩ : ∃ C, pick3 cg rcap c4 = C := ⟨_, rfl⟩
    rw [hN, hE, hA, hC] at hS
    clear hN hE hA hC hl hre
    go_wp2_with fail
    go_loopw [74] (fun vi wr => ∃ k : Nat, k ≤ 3 ∧ vi = .int .i64 k ∧ LwS w b L N E A C wr) (fun vi _ => 3 - (intOf vi).toNat)
    case atStart => exact ⟨0, by omega, rfl, hS⟩
    case round =>
      clear hS
      obtain ⟨k, hk, rfl, hS⟩ := hrel
      by_cases hlt : k < 3
      · have hdk : decide ((k : Int) < 3) = true := by simp; omega
        have hdk2 : decide (k < 3) = true := by simpa using hlt
        have hk3 : (k : Int) < 3 := by omega
        obtain ⟨c0, c1⟩ := hS.g3.cell k hlt
        have hX := LwX.of hS k hlt
        obtain ⟨n, hn⟩ : ∃ n, N k = n := ⟨_, rfl⟩
        obtain ⟨es, hes⟩ : ∃ es, E k = es := ⟨_, rfl⟩
        obtain ⟨a, ha⟩ : ∃ a, A k = a := ⟨_, rfl⟩
        obtain ⟨cap, hcap⟩ : ∃ cap, C k = cap := ⟨_, rfl⟩
        rw [hn, hes, ha, hcap] at hX
        rw [hes, ha, hcap] at c1
        rw [hn] at c0
        clear hn hes ha hcap hS
        go_upto_region 8 with fail
        generalize wr.heap.size = X at *
        go_cut [85] from 78 to 85 (fun s wx => s = .bool (decide (20 < n) && (checkS n es == 0)) ∧ LwX w b L N E A C X n a cap es wx)
        case first =>
          obtain ⟨g0, g1⟩ := hX.cells
          by_cases hgt : 20 < n
          · have dg : decide (20 < n) = true := by simpa using hgt
            have hck := check_any n a cap es _ hX.ed
            obtain ⟨K, hK⟩ : ∃ K, checkS n es = K := ⟨_, rfl⟩
            rw [hK] at hck
            have HK := Lib.hid hK
            clear hK
            go_wp2_with (go_at_call 35; refine hck.mono ?_; rintro e w2 ⟨rfl, hb2⟩)
            go_meet
            exact ⟨by rw [dg, HK.out, Bool.true_and], hX.below hb2⟩
          · have dg : decide (20 < n) = false := by simpa using hgt
            go_wp2_with fail
            go_meet
            exact ⟨by rw [dg, Bool.false_and], hX⟩
        case rest =>
          obtain ⟨rfl, hX⟩ := hcut
          by_cases hsk : (decide (20 < n) && (checkS n es == 0)) = true
          · rw [hsk]
            go_wp2_with fail
            go_roundw
            case rel =>
              exact ⟨k + 1, by omega, by go_num, hX.s⟩
            case measure => simp [intOf]; omega
          have hsk2 : (decide (20 < n) && (checkS n es == 0)) = false := by simpa using hsk
          have hn20 : checkS n es = 0 → n ≤ 20 := fun h => by
            rw [h] at hsk
            simp at hsk
            omega
          rw [hsk2]
          clear hsk hsk2
          go_wp2_with fail
          refine (mkset_any b 8 _ hX.s.dk (by omega)).mono ?_
          rintro e w6 ⟨s1, as1, cs1, rfl, -, hi6, hd6, hg6, ho6⟩
          have hbc := hX.s.dk.lt
          have hX6 := hX.next hd6 hg6
          have hof1 : ∀ p, as1 = some p → p.block ≠ b := fun p hp => by have := ho6 p hp; omega
          clear hX hd6 hg6 ho6 hbc
          go_wp2_with fail
          have hb67 := (Below.refl w6.heap.size w6).alloc (Nat.le_refl _) (.cells #[.int .i64 0, .int .i64 1, .int .i64 2, .int .i64 3] 3)
          have hX7 := hX6.alloc (.cells #[.int .i64 0, .int .i64 1, .int .i64 2, .int .i64 3] 3)
          have hi7 := hi6.below hb67
          have hj7 : IntsAt (w6.alloc (.cells #[.int .i64 0, .int .i64 1, .int .i64 2, .int .i64 3] 3)) (.slice (some ⟨w6.heap.size, 0, none⟩) [(0 : Int), 1, 2, 3].length 4) [0, 1, 2, 3] := ints_blk (heap_alloc_new _ _) (by decide) 4 (by decide)
          have hof2 : w6.heap.size ≠ b := by have := hX6.s.dk.lt; omega
          refine (next_any b 3 _ hX7.s.dk (by omega) (by omega)).mono ?_
          rintro e w8 ⟨p, hp0, hp1, rfl, hd8, hg8⟩
          have hX8 := hX7.next hd8 hg8
          have hi8 := hi7.grown hg8 (fun g e n c p hp => by cases e; exact hof1 p (Value.slice.inj hp).1)
          have hj8 := hj7.grown hg8 (fun g e n c p hp => by cases e; have := (Value.slice.inj hp).1; cases this; exact hof2)
          clear hX6 hi6 hb67 hX7 hi7 hj7 hd8 hg8
          go_wp2_with fail
          refine (next_any b 2 _ hX8.s.dk (by omega) (by omega)).mono ?_
          rintro e w9 ⟨q, hq0, hq1, rfl, hd9, hg9⟩
          have hX9 := hX8.next hd9 hg9
          have hi9 := hi8.grown hg9 (fun g e n c p hp => by cases e; exact hof1 p (Value.slice.inj hp).1)
          have hj9 := hj8.grown hg9 (fun g e n c p hp => by cases e; have := (Value.slice.inj hp).1; cases this; exact hof2)
          clear hX8 hi8 hj8 hd9 hg9 hof1 hof2
          go_wp2_with fail
          have hx9 := hxi.below (w' := w9) hX9.s.be
          have hv9 : IntsAt (w9.alloc (.cells #[.int .i64 p, .int .i64 3, .int .i64 4, .int .i64 (5 + q)] 3)) (.slice (some ⟨w9.heap.size, 0, none⟩) [p, 3, 4, 5 + q].length 4) [p, 3, 4, 5 + q] := ints_blk (heap_alloc_new _ _) (by simp) 4 (by simp)
          have hb9 := (Below.refl w9.heap.size w9).alloc (Nat.le_refl _) (.cells #[.int .i64 p, .int .i64 3, .int .i64 4, .int .i64 (5 + q)] 3)
          have hz9 : (w9.alloc (.cells #[.int .i64 p, .int .i64 3, .int .i64 4, .int .i64 (5 + q)] 3)).heap.size = w9.heap.size + 1 := by simp
          have hX10 := (hX9.alloc (.cells #[.int .i64 p, .int .i64 3, .int .i64 4, .int .i64 (5 + q)] 3)).alloc (.cells #[.slice a1 xs.length cap1, .slice as1 s1.length cs1, .slice (some ⟨w6.heap.size, 0, none⟩) 4 4, .slice (some ⟨w9.heap.size, 0, none⟩) 4 4] 22)
          have hb10 := (Below.refl _ (w9.alloc (.cells #[.int .i64 p, .int .i64 3, .int .i64 4, .int .i64 (5 + q)] 3))).alloc (Nat.le_refl _) (.cells #[.slice a1 xs.length cap1, .slice as1 s1.length cs1, .slice (some ⟨w6.heap.size, 0, none⟩) 4 4, .slice (some ⟨w9.heap.size, 0, none⟩) 4 4] 22)
          have hS4 := s4_of (heap_alloc_new (w9.alloc (.cells #[.int .i64 p, .int .i64 3, .int .i64 4, .int .i64 (5 + q)] 3)) (.cells #[.slice a1 xs.length cap1, .slice as1 s1.length cs1, .slice (some ⟨w6.heap.size, 0, none⟩) 4 4, .slice (some ⟨w9.heap.size, 0, none⟩) 4 4] 22)) ((hx9.below hb9).below hb10) ((hi9.below hb9).below hb10) ((hj9.below hb9).below hb10) (hv9.below hb10)
          rw [hz9] at hS4
          obtain ⟨w10, hw10⟩ : ∃ W : World, W = (w9.alloc (.cells #[.int .i64 p, .int .i64 3, .int .i64 4, .int .i64 (5 + q)] 3)).alloc (.cells #[.slice a1 xs.length cap1, .slice as1 s1.length cs1, .slice (some ⟨w6.heap.size, 0, none⟩) 4 4, .slice (some ⟨w9.heap.size, 0, none⟩) 4 4] 22) := ⟨_, rfl⟩
          rw [← hw10] at hX10 hS4 ⊢
          clear hw10 hb10 hb9 hv9 hx9 hX9 hi9 hj9 hz9
          obtain ⟨Y, hY⟩ : ∃ Y, pick4 xs s1 [0, 1, 2, 3] [p, 3, 4, 5 + q] = Y := ⟨_, rfl⟩
          obtain ⟨B4, hB4⟩ : ∃ Y, pick4 a1 as1 (some ⟨w6.heap.size, 0, none⟩) (some ⟨w9.heap.size, 0, none⟩) = Y := ⟨_, rfl⟩
          obtain ⟨C4, hC4⟩ : ∃ Y, pick4 cap1 cs1 4 4 = Y := ⟨_, rfl⟩
          rw [hY, hB4, hC4] at hS4
          clear hY hB4 hC4
          go_loopw [98] (fun vi wr => ∃ j : Nat, j ≤ 4 ∧ vi = .int .i64 j ∧ Below w10.heap.size w10 wr) (fun vi _ => 4 - (intOf vi).toNat)
          case atStart => exact ⟨0, by omega, rfl, Below.refl _ _⟩
          case round =>
            obtain ⟨j, hj, rfl, hb⟩ := hrel
            have hXr := hX10.below hb
            by_cases hltj : j < 4
            · have hdj : decide ((j : Int) < 4) = true := by simp; omega
              have hdj2 : decide (j < 4) = true := by simpa using hltj
              have hj3 : (j : Int) < 4 := by omega
              obtain ⟨y0, hyj⟩ := (hS4.below hb).row j hltj
              obtain ⟨g0, g1⟩ := hXr.cells
              have hk1 := pkindset_any n a cap es _ _ _ _ hXr.ed hyj (hT.below hXr.s.be)
              have hk2 := fun W h => rkindset_any n a cap es (B4 j) (C4 j) (Y j) W h
              obtain ⟨r, hr⟩ : ∃ r, kindX n es (Y j) = r := ⟨_, rfl⟩
              rw [hr] at hk1 hk2
              obtain ⟨yl, hyl⟩ : ∃ yl, Y j = yl := ⟨_, rfl⟩
              rw [hyl] at hk1 hk2 y0 hyj
              have e1 : (r.1 != r.1) = false := by simp
              have e2 : (r.2 != r.2) = false := by simp
              clear hr hyl
              go_wp2_with fail
              refine hk1.mono ?_
              rintro e w11 ⟨rfl, hb11⟩
              have hX11 := hXr.below hb11
              obtain ⟨g0', g1'⟩ := hX11.cells
              have hk2' := hk2 _ hX11.ed (hyj.below hb11)
              clear g0 g1 hk2 hk1
              go_wp2_with fail
              refine hk2'.mono ?_
              rintro e w12 ⟨rfl, hb12⟩
              go_wp2_with fail
              go_roundw
              case rel => exact ⟨j + 1, by omega, by go_num, hb.trans ((hb11.trans (hb12.mono hb11.size)).mono hb.size)⟩
              case measure => simp [intOf]; omega
            · obtain rfl : j = 4 := by omega
              clear hX10 hS4
              obtain ⟨g0, g1⟩ := hXr.cells
              have hi1 := pinduced_any n a cap es _ hXr.ed (hT.below hXr.s.be)
              have hi2 := fun W h => rinduced_any n a cap es W h hn20
              have hc1 := fun W h ht => pcopies32_any n a cap es W h ht
              have hc2 := fun W h => rcopies32_any n a cap es W h hn20
              unfold ErrPost at hi1 hi2 hc1 hc2
              obtain ⟨I, hI⟩ : ∃ r, indX n es = r := ⟨_, rfl⟩
              rw [hI] at hi1 hi2
              obtain ⟨P, hP⟩ : ∃ r, copX n es = r := ⟨_, rfl⟩
              rw [hP] at hc1 hc2
              have e1 : (I.2 != I.2) = false := by simp
              have e2 : (P.2 != P.2) = false := by simp
              clear hI hP
              go_wp2_with fail
              refine hi1.mono ?_
              rintro e w21 ⟨ai1, ci1, rfl, hI1, hb21⟩
              have hX21 := hXr.below hb21
              obtain ⟨g0', g1'⟩ := hX21.cells
              have hi2' := hi2 _ hX21.ed
              clear g0 g1 hi1 hi2 hb21 hXr hb
              go_wp2_with fail
              refine hi2'.mono ?_
              rintro e w22 ⟨ai2, ci2, rfl, hI2, hb22⟩
              have hX22 := hX21.below hb22
              obtain ⟨g0, g1⟩ := hX22.cells
              have hI1' := hI1.below hb22
              have hc1' := hc1 _ hX22.ed (hT.below hX22.s.be)
              clear g0' g1' hi2' hb22 hX21 hc1 hI1
              go_wp2_with fail
              refine hc1'.mono ?_
              rintro e w23 ⟨ac1, cc1, rfl, hC1, hb23⟩
              have hX23 := hX22.below hb23
              obtain ⟨g0', g1'⟩ := hX23.cells
              have hI1 := hI1'.below hb23
              have hI2' := hI2.below hb23
              have hc2' := hc2 _ hX23.ed
              clear g0 g1 hc1' hb23 hX22 hc2 hI1' hI2
              go_wp2_with fail
              refine hc2'.mono ?_
              rintro e w24 ⟨ac2, cc2, rfl, hC2, hb24⟩
              have hX24 := hX23.below hb24
              have hI1' := hI1.below hb24
              have hI2 := hI2'.below hb24
              have hC1' := hC1.below hb24
              clear g0' g1' hc2' hb24 hX23 hI1 hI2' hC1
              go_wp2_with fail
              refine (cmp_same ai1 ai2 ci1 ci2 I.1 _ hI1' hI2).mono ?_
              rintro e w25 ⟨rfl, hb25⟩
              have hX25 := hX24.below hb25
              have hC1 := hC1'.below hb25
              have hC2' := hC2.below hb25
              clear hX24 hb25 hI1' hI2 hC1' hC2
              go_wp2_with fail
              refine (cmp_same ac1 ac2 cc1 cc2 P.1 _ hC1 hC2').mono ?_
              rintro e w26 ⟨rfl, hb26⟩
              have hX26 := hX25.below hb26
              clear hX25 hb26 hC1 hC2'
              go_wp2_with fail
              refine (next_any b 9 _ hX26.s.dk (by omega) (by omega)).mono ?_
              rintro e w27 ⟨x9, hx90, hx91, rfl, hd27, hg27⟩
              have hX27 := hX26.next hd27 hg27
              clear hX26 hd27 hg27 e1 e2
              go_wp2_with fail
              have hX28 := hX27.alloc (.cells #[.int .i64 v, .int .i64 x9] 3)
              have hV28 := heap_alloc_new w27 (.cells #[.int .i64 v, .int .i64 x9] 3)
              obtain ⟨V, hV⟩ : ∃ V, w27.heap.size = V := ⟨_, rfl⟩
              obtain ⟨w28, hw28⟩ : ∃ W : World, W = w27.alloc (.cells #[.int .i64 v, .int .i64 x9] 3) := ⟨_, rfl⟩
              rw [← hw28, hV] at hV28 ⊢
              rw [← hw28] at hX28
              clear hw28 hV hX27
              go_loopw [168] (fun vi wr => ∃ j : Nat, j ≤ 2 ∧ vi = .int .i64 j ∧ Below w28.heap.size w28 wr) (fun vi _ => 2 - (intOf vi).toNat)
              case atStart => exact ⟨0, by omega, rfl, Below.refl _ _⟩
              case round =>
                obtain ⟨j, hj, rfl, hb⟩ := hrel
                have hXr := hX28.below hb
                by_cases hltj : j < 2
                · have hdj : decide ((j : Int) < 2) = true := by simp; omega
                  have hdj2 : decide (j < 2) = true := by simpa using hltj
                  have hj3 : (j : Int) < 2 := by omega
                  obtain ⟨y, y0⟩ : ∃ y : Int, wr.cell? ⟨V, j, none⟩ = some (.int .i64 y) := by
                    have hV := lit_next' hb hV28
                    rcases (by omega : j = 0 ∨ j = 1) with rfl | rfl
                    · exact ⟨v, by rw [cell_blk hV]; rfl⟩
                    · exact ⟨x9, by rw [cell_blk hV]; rfl⟩
                  obtain ⟨g0, g1⟩ := hXr.cells
                  have hk1 := pnode32_any n y a cap es _ hXr.ed (hT.below hXr.s.be)
                  have hk2 := fun W h => rnode32_any n y a cap es W h hn20
                  unfold ErrPost at hk1 hk2
                  obtain ⟨r, hr⟩ : ∃ r, nodX n es y = r := ⟨_, rfl⟩
                  rw [hr] at hk1 hk2
                  have e2 : (r.2 != r.2) = false := by simp
                  clear hr
                  go_wp2_with fail
                  refine hk1.mono ?_
                  rintro e w31 ⟨an1, cn1, rfl, hN1, hb31⟩
                  have hX31 := hXr.below hb31
                  obtain ⟨g0', g1'⟩ := hX31.cells
                  have hk2' := hk2 _ hX31.ed
                  clear g0 g1 hk2 hk1
                  go_wp2_with fail
                  refine hk2'.mono ?_
                  rintro e w32 ⟨an2, cn2, rfl, hN2, hb32⟩
                  have hN1' := hN1.below hb32
                  go_wp2_with fail
                  refine (cmp_same an1 an2 cn1 cn2 r.1 _ hN1' hN2).mono ?_
                  rintro e w33 ⟨rfl, hb33⟩
                  have hb313 := (hb31.trans (hb32.mono hb31.size)).trans (hb33.mono (hb31.trans (hb32.mono hb31.size)).size)
                  go_wp2_with fail
                  go_roundw
                  case rel => exact ⟨j + 1, by omega, by go_num, hb.trans (hb313.mono hb.size)⟩
                  case measure => simp [intOf]; omega
                · obtain rfl : j = 2 := by omega
                  go_wp2_with fail
                  go_roundw
                  case rel => exact ⟨k + 1, by omega, by go_num, hXr.s⟩
                  case measure => simp [intOf]; omega
      · obtain rfl : k = 3 := by omega
        go_wp2_with fail
        have hdk0 := hS.dk
        have hbe0 := hS.be
        have hwb0 := hS.wb
        clear hS
        go_loopw [35, 36] (fun vs vi wr => ∃ (i : Nat) (l : List Int), vi = .int .i64 i ∧ i ≤ 11 ∧ l.length = i ∧ wr.ownsRow (b + 1) 3 1 vs i (intsV l) ∧ DeckAt wr b ∧ Below w.heap.size w wr) (fun _ vi _ => 11 - (intOf vi).toNat)
        case atStart => exact ⟨0, [], rfl, by omega, rfl, World.ownsRow_nil _ _ _ _, hdk0, hbe0⟩
        case round =>
          clear hdk0 hbe0
          obtain ⟨i, l, rfl, hi11, hll, hown, hdk, hbe⟩ := hrel
          obtain ⟨al, cl, hsl⟩ := owns_shape hown
          subst hsl
          by_cases hlti : i < 11
          · have di : decide ((i : Int) < 11) = true := by simp; omega
            have di2 : decide (i < 11) = true := by simpa using hlti
            have hok : ∀ W, wr.grownBy W (some b) → W.ownsRow (b + 1) 3 1 (.slice al i cl) i (intsV l) := fun W hg => hown.kept hg (by
              cases hs : (Value.slice al i cl).ownBlock with
              | none => exact .inl rfl
              | some k => have := hown.lt k hs; exact .inr (by simp; omega))
            have HLL := Lib.hid hll
            clear hll
            go_wp2_with fail
            refine (next_any b 30 _ hdk (by omega) (by omega)).mono ?_
            rintro e w1 ⟨x, hx0, hx1, rfl, hd1, hg1⟩
            have v1 : IntKind.i64.wrap (x - 3) = x - 3 := IntWalk.i64_in _ (by omega)
            go_wp2_with fail
            refine (next_any b 9 _ hd1 (by omega) (by omega)).mono ?_
            rintro e w2 ⟨y, hy0, hy1, rfl, hd2, hg2⟩
            have hg12 := grown_trans hg1 hg2
            clear hd1 hg1 hg2 hdk
            by_cases h8 : y = 8
            · subst h8
              go_wp2_with fail
              have hg3 := grown_trans hg12 (World.grownBy_alloc w2 (.cells #[.int .i64 1099511627776, .int .i64 (-1099511627776), .int .i64 1099511627777, .int .i64 (-1099511627777)] 3) (some b))
              have hB3 := heap_alloc_new w2 (.cells #[.int .i64 1099511627776, .int .i64 (-1099511627776), .int .i64 1099511627777, .int .i64 (-1099511627777)] 3)
              have hd3 := hd2.alloc (.cells #[.int .i64 1099511627776, .int .i64 (-1099511627776), .int .i64 1099511627777, .int .i64 (-1099511627777)] 3)
              have hbz := hd2.lt
              refine (next_any b 4 _ hd3 (by omega) (by omega)).mono ?_
              rintro e w4 ⟨z, hz0, hz1, rfl, hd4, hg4⟩
              have hB4 := grown_blk hg4 hB3 (by intro e; have := Option.some.inj e; omega)
              have hg14 := grown_trans hg3 hg4
              obtain ⟨m, rfl⟩ := Int.eq_ofNat_of_zero_le hz0
              obtain ⟨Z, hZ⟩ : ∃ Z : Int, w4.cell? ⟨w2.heap.size, m, none⟩ = some (.int .i64 Z) := by
                rcases (by omega : m = 0 ∨ m = 1 ∨ m = 2 ∨ m = 3) with rfl | rfl | rfl | rfl
                · exact ⟨_, by rw [cell_blk hB4]; rfl⟩
                · exact ⟨_, by rw [cell_blk hB4]; rfl⟩
                · exact ⟨_, by rw [cell_blk hB4]; rfl⟩
                · exact ⟨_, by rw [cell_blk hB4]; rfl⟩
              have hown4 := hok w4 hg14
              have hbe4 : Below w.heap.size w w4 := below_deck hbe hg14 hwb0 hbe.size
              have hownA := hown4.alloc (.cells #[.int .i64 Z] 3)
              have hlx := ints_lit1 w4 Z 3
              have hbA := hbe4.alloc hbe4.size (.cells #[.int .i64 Z] 3)
              have hdA := hd4.alloc (.cells #[.int .i64 Z] 3)
              have hbz4 := hd4.lt
              clear hok hg12 hg3 hB3 hd3 hg4 hB4 hg14 hd4 hd2 hown hown4 hbe hbe4
              have hz4 : (m : Int) < 4 := hz1
              go_wp2_with (at_builtin; refine wpList_app_ints intsT rfl _ _ rfl (b + 1) (.slice al i cl) _ l [Z] rfl (by rw [HLL.out]; exact hownA) rfl hlx (by rw [HLL.out]; simp; omega) (by simp; omega) ?_; intro v6 w6 hown6 hg6)
              have hd6 := hdA.kept hg6 (fun g e => by have := hownA.lt g e; omega)
              have hb6 : Below w.heap.size w w6 := hbA.grown hg6 hbA.size (fun g e => by have := (hownA.lt g e).1; omega)
              go_roundw
              case rel =>
                (repeat apply Exists.intro)
                exact ⟨⟨i + 1, l ++ [Z], by go_num, by omega, by simp [HLL.out], by have := hown6; rw [List.length_append, HLL.out] at this; exact this, hd6, hb6⟩, rfl⟩
              case measure => simp [intOf]; omega
            · have d8 : (y == 8) = false := by simpa using h8
              have hown4 := hok w2 hg12
              have hbe4 : Below w.heap.size w w2 := below_deck hbe hg12 hwb0 hbe.size
              have hownA := hown4.alloc (.cells #[.int .i64 (x - 3)] 3)
              have hlx := ints_lit1 w2 (x - 3) 3
              have hbA := hbe4.alloc hbe4.size (.cells #[.int .i64 (x - 3)] 3)
              have hdA := hd2.alloc (.cells #[.int .i64 (x - 3)] 3)
              have hbz4 := hd2.lt
              clear hok hg12 hd2 hown hown4 hbe hbe4
              go_wp2_with (at_builtin; refine wpList_app_ints intsT rfl _ _ rfl (b + 1) (.slice al i cl) _ l [x - 3] rfl (by rw [HLL.out]; exact hownA) rfl hlx (by rw [HLL.out]; simp; omega) (by simp; omega) ?_; intro v6 w6 hown6 hg6)
              have hd6 := hdA.kept hg6 (fun g e => by have := hownA.lt g e; omega)
              have hb6 : Below w.heap.size w w6 := hbA.grown hg6 hbA.size (fun g e => by have := (hownA.lt g e).1; omega)
              go_roundw
              case rel =>
                (repeat apply Exists.intro)
                exact ⟨⟨i + 1, l ++ [x - 3], by go_num, by omega, by simp [HLL.out], by have := hown6; rw [List.length_append, HLL.out] at this; exact this, hd6, hb6⟩, rfl⟩
              case measure => simp [intOf]; omega
          · have di : decide ((i : Int) < 11) = false := by simp; omega
            have di2 : decide (i < 11) = false := by simpa using hlti
            subst hll
            obtain ⟨al', cl', hv', hil, -⟩ := IntsAt.of_owns hown (by omega)
            cases hv'
            clear hown hdk
            go_wp2_with fail
            have hbn := (Below.refl wr.heap.size wr).alloc (Nat.le_refl _) (.cells #[.slice a2 ys.length cap2, .slice al l.length cl] 22)
            have hbW := hbe.alloc hbe.size (.cells #[.slice a2 ys.length cap2, .slice al l.length cl] 22)
            have hR := heap_alloc_new wr (.cells #[.slice a2 ys.length cap2, .slice al l.length cl] 22)
            have hyW := hyi.below hbW
            have hlW := hil.below hbn
            obtain ⟨R, hRR⟩ : ∃ R, wr.heap.size = R := ⟨_, rfl⟩
            obtain ⟨wW, hwW⟩ : ∃ W : World, W = wr.alloc (.cells #[.slice a2 ys.length cap2, .slice al l.length cl] 22) := ⟨_, rfl⟩
            rw [← hwW] at hbW hR hyW hlW ⊢
            rw [hRR] at hR ⊢
            clear hwW hRR hbn hil hbe di di2 hlti
            go_loopw [218] (fun vi wr => ∃ j : Nat, j ≤ 2 ∧ vi = .int .i64 j ∧ Below wW.heap.size wW wr) (fun vi _ => 2 - (intOf vi).toNat)
            case atStart => exact ⟨0, by omega, rfl, Below.refl _ _⟩
            case round =>
              obtain ⟨j, hj, rfl, hb⟩ := hrel
              have hbw := hbW.trans (hb.mono hbW.size)
              by_cases hltj : j < 2
              · have hdj : decide ((j : Int) < 2) = true := by simp; omega
                have hdj2 : decide (j < 2) = true := by simpa using hltj
                have hj3 : (j : Int) < 2 := by omega
                obtain ⟨az, cz, zs, c0, hz⟩ : ∃ az cz zs, wr.cell? ⟨R, j, none⟩ = some (.slice az (List.length zs) cz) ∧ IntsAt wr (.slice az zs.length cz) zs := by
                  have hV := lit_next' hb hR
                  rcases (by omega : j = 0 ∨ j = 1) with rfl | rfl
                  · exact ⟨_, _, ys, by rw [cell_blk hV]; rfl, hyW.below hb⟩
                  · exact ⟨_, _, l, by rw [cell_blk hV]; rfl, hlW.below hb⟩
                have hk1 := psolve_any az cz zs _ hz (hT.below hbw)
                have hk2 := fun W h => rsolve_any az cz zs W h
                unfold SolPost at hk1 hk2
                obtain ⟨r, hr⟩ : ∃ r, solX zs = r := ⟨_, rfl⟩
                rw [hr] at hk1 hk2
                have e2 : (r.2 != r.2) = false := by simp
                have e3 : (r.2 ^^ r.2) = false := by simp
                clear hr
                go_wp2_with fail
                refine hk1.mono ?_
                rintro e w31 ⟨an1, cn1, rfl, hN1, hb31⟩
                have hk2' := hk2 _ (hz.below hb31)
                clear hk2 hk1
                go_wp2_with fail
                refine hk2'.mono ?_
                rintro e w32 ⟨an2, cn2, rfl, hN2, hb32⟩
                have hN1' := hN1.below hb32
                go_wp2_with fail
                refine (cmp_same an1 an2 cn1 cn2 r.1 _ hN1' hN2).mono ?_
                rintro e w33 ⟨rfl, hb33⟩
                have hb313 := (hb31.trans (hb32.mono hb31.size)).trans (hb33.mono (hb31.trans (hb32.mono hb31.size)).size)
                go_wp2_with fail
                go_roundw
                case rel =>
                  (repeat apply Exists.intro)
                  exact ⟨⟨j + 1, by omega, by go_num, hb.trans (hb313.mono hb.size)⟩, rfl⟩
                case measure => simp [intOf]; omega
              · obtain rfl : j = 2 := by omega
                clear hR hyW hlW hbW hb
                go_wp2_with fail
                refine (within_any _ (hT.below hbw)).mono ?_
                rintro e w41 ⟨G, rfl, hM, hGn, hb41⟩
                have hbw41 := hbw.trans (hb41.mono hbw.size)
                go_wp2_with fail
                refine (rwithin_any _).mono ?_
                rintro e w42 ⟨G2, c2, fs, rfl, hf, hr2, hM2⟩
                have hb42 := hM2.bel
                have hbw42 := hbw41.trans (hb42.mono hbw41.size)
                have hQ : RowsEq w42 G G2 := ⟨fun q hq => by
                  have hM' := hM.below hb42
                  have hrr := hr2
                  rw [← hf] at hrr
                  obtain ⟨b0, o0, g, e9, hg, hcap, hat⟩ := hrr.elem q (by rw [hf]; omega)
                  cases e9
                  refine ⟨some ⟨G + 1 + q, 0, none⟩, some ⟨g, 0, none⟩, matV (wAll 11) q, matV_length _ _, ?_, ?_, ?_, ?_⟩
                  · rw [cell_blk hM'.1, rowsA_get _ _ _ hq hq]
                  · have h := hat 0 _ rfl; simpa [encS] using h
                  · have h := ints_blk (hM'.2 q hq) (by rw [matV_length]; omega) 11 (by rw [matV_length]; omega)
                    rw [matV_length] at h; exact h
                  · have h1 := (hM2.row q g hg).1
                    rw [wAllR_eq q hq] at h1
                    have h := ints_blk h1 (by rw [matV_length]; omega) 11 (by rw [matV_length]; omega)
                    rw [matV_length] at h; exact h⟩
                clear hM hr2 hM2
                go_wp2_with fail
                refine (sameall_any G G2 11 c2 _ hQ).mono ?_
                rintro e w43 ⟨rfl, hb43⟩
                have hbw43 := hbw42.trans (hb43.mono hbw42.size)
                go_wp2_with fail
                refine (awake_any _ (hT.below hbw43)).mono ?_
                rintro e w44 ⟨rfl, hb44⟩
                go_wp2_with fail
                go_ret
                exact ⟨rfl, hbw43.trans (hb44.mono hbw43.size)⟩
end Go.Proofs.YtbkacbbhiecnkaaDoor
