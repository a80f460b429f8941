/- The walk of the law LinksChanges. -/
import Derived.Test.YtpblaoeaeljmhaaDoorLkChgP
import Derived.Test.YtpblaoeaeljmhaaDoorLkSame
import Derived.Test.YtpblaoeaeljmhaaDoorMkEvent
namespace Go.Proofs.YtpblaoeaeljmhaaDoor
open Go.RowKit Go.BigFrame

theorem Below.toGrown {w w' : World} (h : Below w.heap.size w w') : w.grownBy w' none := ⟨h.os, h.tape, h.output, h.size, fun k hk _ => h.block k hk⟩
theorem DeckAt.below {w w' : World} {b : Nat} (h : DeckAt w b) (hb : Below w.heap.size w w') : DeckAt w' b := h.kept (Below.toGrown hb) (fun _ e => by cases e)
theorem off_two {α : Type} {E : Enc α} {w : World} {a : Option Addr} {cap g T n : Nat} {xs : List α} {x y : Value} (hk : 2 < E.k) (h : RowAt E w (.slice a xs.length cap) xs) (hb : w.heap[g]? = some (.cells #[x, y] T (0, 0))) (hn : 0 < xs.length) : Off g (.slice a n cap) := fun _ _ p hp => row_off hk h hn hb p (Value.slice.inj hp).1
theorem off_deck {α : Type} {E : Enc α} {w : World} {a : Option Addr} {cap b n : Nat} {xs : List α} (hk : 2 < E.k) (h : RowAt E w (.slice a xs.length cap) xs) (hd : DeckAt w b) (hn : 0 < xs.length) : Off b (.slice a n cap) := by
  obtain ⟨_, _, _, _, hb, _⟩ := hd
  exact off_two hk h hb hn
/-- a state in a box, and a deck -/
structure ChW (w0 : World) (b S : Nat) (n : Int) (ls : List Lk) (al : Option Addr) (cl : Nat) (W : World) : Prop where
  d : DeckAt W b
  x : W.heap[S]? = some (.cells #[.int .i64 n, .slice al ls.length cl] 53 (0, 0))
  r : RowAt encLk W (.slice al ls.length cl) ls
  be : Below w0.heap.size w0 W
  bS : b < S
  wb : w0.heap.size ≤ b
section
variable {w0 W W' : World} {b S : Nat} {n : Int} {ls : List Lk} {al : Option Addr} {cl : Nat}
theorem ChW.below (h : ChW w0 b S n ls al cl W) (hb : Below W.heap.size W W') : ChW w0 b S n ls al cl W' :=
  ⟨h.d.below hb, lk_next hb h.x, h.r.below hb, h.be.trans (hb.mono h.be.size), h.bS, h.wb⟩
theorem ChW.alloc (h : ChW w0 b S n ls al cl W) (o : Obj) : ChW w0 b S n ls al cl (W.alloc o) := h.below ((Below.refl _ _).alloc (Nat.le_refl _) _)
theorem ChW.drew (h : ChW w0 b S n ls al cl W) : ChW w0 b S n ls al cl W.drew := h.below (Below.refl _ _).drew
theorem ChW.next (h : ChW w0 b S n ls al cl W) (hd : DeckAt W' b) (hg : W.grownBy W' (some b)) : ChW w0 b S n ls al cl W' :=
  ⟨hd, grown_blk hg h.x (fun e => by have := Option.some.inj e; have := h.bS; omega), h.r.grown' hg (fun g e hn => by cases e; exact off_deck (by decide) h.r h.d hn), h.be.grown hg h.be.size (fun k e => by cases e; exact h.wb), h.bS, h.wb⟩
theorem ChW.c0 (h : ChW w0 b S n ls al cl W) : W.cell? ⟨S, 0, none⟩ = some (.int .i64 n) := cell_blk (j := 0) h.x
theorem ChW.c1 (h : ChW w0 b S n ls al cl W) : W.cell? ⟨S, 1, none⟩ = some (.slice al ls.length cl) := cell_blk (j := 1) h.x
/-- a box that is no part of this is stored to -/
theorem ChW.other {g T : Nat} {x y u v : Value} (h : ChW w0 b S n ls al cl W) (hg : W.heap[g]? = some (.cells #[x, y] T (0, 0))) (hS : S < g) : ChW w0 b S n ls al cl ((W.setCell ⟨g, 0, none⟩ u).setCell ⟨g, 1, none⟩ v) := by
  have hgr : W.grownBy ((W.setCell ⟨g, 0, none⟩ u).setCell ⟨g, 1, none⟩ v) (some g) := grown_trans grown_lk grown_lk
  have := h.bS
  have := h.wb
  exact ⟨h.d.kept hgr (fun g e => by cases e; omega), grown_blk hgr h.x (by intro e; have := Option.some.inj e; omega), h.r.grown' hgr (fun g e hn => by cases e; exact off_two (by decide) h.r hg hn), h.be.grown hgr h.be.size (fun k e => by cases e; omega), h.bS, h.wb⟩
/-- another state is put into the box -/
theorem ChW.put {L : List Lk} {a1 : Option Addr} {c1 : Nat} (h : ChW w0 b S n ls al cl W) (hr : RowAt encLk W (.slice a1 L.length c1) L) :
    ChW w0 b S n L a1 c1 ((W.setCell ⟨S, 0, none⟩ (.int .i64 n)).setCell ⟨S, 1, none⟩ (.slice a1 L.length c1)) := by
  have hg : W.grownBy ((W.setCell ⟨S, 0, none⟩ (.int .i64 n)).setCell ⟨S, 1, none⟩ (.slice a1 L.length c1)) (some S) := grown_trans grown_lk grown_lk
  have := h.bS
  exact ⟨h.d.kept hg (fun g e => by cases e; exact h.bS), set_two h.x, hr.grown' hg (fun g e hn => by cases e; exact off_two (by decide) hr h.x hn), h.be.grown hg h.be.size (fun k e => by cases e; have := h.wb; omega), h.bS, h.wb⟩
theorem ChW.outA {L : List Lk} {C : List Ev} {a1 a2 : Option Addr} {c1 c2 : Nat} (h : ChW w0 b S n ls al cl W) (h1 : RowAt encLk W (.slice a1 L.length c1) L) (h2 : RowAt encEv W (.slice a2 C.length c2) C) :
    ChW w0 b S n ls al cl (W.alloc (.cells #[.int .i64 n, .slice a1 L.length c1] 53)) ∧ RowAt encEv (W.alloc (.cells #[.int .i64 n, .slice a1 L.length c1] 53)) (.slice a2 C.length c2) C ∧ ChW w0 b W.heap.size n L a1 c1 (W.alloc (.cells #[.int .i64 n, .slice a1 L.length c1] 53)) ∧ S < W.heap.size := by
  have bn := (Below.refl _ W).alloc (Nat.le_refl _) (.cells #[.int .i64 n, .slice a1 L.length c1] 53)
  exact ⟨h.alloc _, h2.below bn, ⟨h.d.alloc _, heap_alloc_new _ _, h1.below bn, (h.alloc _).be, h.d.lt, h.wb⟩, blk_lt h.x⟩
theorem ChW.outB {L : List Lk} {C : List Ev} {a1 a2 : Option Addr} {c1 c2 g : Nat} {x y : Value} (h : ChW w0 b S n ls al cl W) (hZ : W.heap[g]? = some (.cells #[x, y] 53 (0, 0))) (hS : S < g) (h1 : RowAt encLk W (.slice a1 L.length c1) L) (h2 : RowAt encEv W (.slice a2 C.length c2) C) :
    ChW w0 b S n ls al cl ((W.setCell ⟨g, 0, none⟩ (.int .i64 n)).setCell ⟨g, 1, none⟩ (.slice a1 L.length c1)) ∧ RowAt encEv ((W.setCell ⟨g, 0, none⟩ (.int .i64 n)).setCell ⟨g, 1, none⟩ (.slice a1 L.length c1)) (.slice a2 C.length c2) C ∧ ChW w0 b g n L a1 c1 ((W.setCell ⟨g, 0, none⟩ (.int .i64 n)).setCell ⟨g, 1, none⟩ (.slice a1 L.length c1)) ∧ S < g := by
  have hgr : W.grownBy ((W.setCell ⟨g, 0, none⟩ (.int .i64 n)).setCell ⟨g, 1, none⟩ (.slice a1 L.length c1)) (some g) := grown_trans grown_lk grown_lk
  have ho := h.other (u := .int .i64 n) (v := .slice a1 L.length c1) hZ hS
  have := h.bS
  exact ⟨ho, h2.grown' hgr (fun g e hn => by cases e; exact off_two (by decide) h2 hZ hn), ⟨ho.d, set_two hZ, h1.grown' hgr (fun g e hn => by cases e; exact off_two (by decide) h1 hZ hn), ho.be, by omega, h.wb⟩, hS⟩
end
theorem fit_of {n : Int} {e : Ev} (h : evS e = 0) (hu : e.u < n) (hv : e.v < n) : fitS n e = 0 := by
  unfold fitS
  rw [if_neg (by simp [h]), if_neg (by omega)]
end Go.Proofs.YtpblaoeaeljmhaaDoor
