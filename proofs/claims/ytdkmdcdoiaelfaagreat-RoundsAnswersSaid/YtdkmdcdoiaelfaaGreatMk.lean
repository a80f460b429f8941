/- Contracts of the makers of small inputs: the deck's next choice, a graph. -/
import Derived.Test.YtdkmdcdoiaelfaaGreatProg
import Derived.Test.YtdkmdcdoiaelfaaGreatBase
import Derived.WalkKit
import Derived.WalkSpells
import Derived.WalkLawsBesides
import Derived.Deep.RegionHeld3
namespace Go.Proofs.YtdkmdcdoiaelfaaGreat
open Go.RowKit

theorem few_any (a : Option Addr) (n c : Nat) (w : World) :
    Calls Tryz.prog 4 #[.slice a n c] w fun e w' => e = .returned (.bool (decide (n ≤ 500))) ∧ w = w' := by
  go_enter Tryz.func4, Tryz.ntmps4
  go_wp2
  all_goals go_ret
  all_goals exact ⟨by simp; omega, rfl⟩

/-- the choice that is made of a number -/
def modS (n k : Int) : Int := (n.tmod k + k) % k
theorem modS_bd (n k : Int) (hk : 1 ≤ k) : 0 ≤ modS n k ∧ modS n k < k :=
  ⟨Int.emod_nonneg _ (by omega), Int.emod_lt_of_pos _ (by omega)⟩

theorem mod_any (n k : Int) (w : World) (hk0 : 1 ≤ k) (hk : k ≤ 4611686018427387904) :
    Calls Tryz.prog 58 #[.int .i64 n, .int .i64 k] w fun e w' => e = .returned (.int .i64 (modS n k)) ∧ w = w' := by
  have h1 : -k < n.tmod k := by have := Int.lt_tmod_of_pos n (show 0 < k by omega); omega
  have h2 : n.tmod k < k := Int.tmod_lt_of_pos n (by omega)
  go_enter Tryz.func58, Tryz.ntmps58
  go_wp2
  go_ret
  exact ⟨rfl, rfl⟩

theorem new_any (a : Option Addr) (n c : Nat) (w : World) :
    Calls Tryz.prog 7 #[.slice a n c] w fun e w' => e = .returned (.pointer (some ⟨w.heap.size, 0, none⟩)) ∧ w.alloc (.cells #[.slice a n c, .int .i64 0] 64) = w' := by
  go_enter Tryz.func7, Tryz.ntmps7
  go_wp2
  go_ret
  exact ⟨rfl, rfl⟩

/-- the deck in block b -/
def DeckAt (w : World) (b : Nat) : Prop :=
  ∃ (a : Option Addr) (len cap i : Nat), w.heap[b]? = some (.cells #[.slice a len cap, .int .i64 i] 64 (0, 0)) ∧ i ≤ len ∧ len ≤ 9223372036854775807 ∧
    ∀ j, j < len → ∃ c off x, a = some ⟨c, off, none⟩ ∧ c < b ∧ w.cell? ⟨c, off + j, none⟩ = some (.int .i64 x) ∧ -9223372036854775808 ≤ x ∧ x ≤ 9223372036854775807

/-- only block b may have turned -/
def NextPost (b : Nat) (n : Int) (w : World) (e : Ending) (w' : World) : Prop :=
  ∃ x : Int, 0 ≤ x ∧ x < n ∧ e = .returned (.int .i64 x) ∧ DeckAt w' b ∧ w.grownBy w' (some b)

theorem DeckAt.kept {w w' : World} {b : Nat} {r : Option Nat} (h : DeckAt w b) (hg : w.grownBy w' r) (hr : ∀ g, r = some g → b < g) : DeckAt w' b := by
  obtain ⟨a, len, cap, i, hb, hi, hl, hc⟩ := h
  refine ⟨a, len, cap, i, ?_, hi, hl, fun j hj => ?_⟩
  · exact grown_blk hg hb (fun e => by have := hr b e.symm; omega)
  · obtain ⟨c, off, x, h1, h2, h3, h4⟩ := hc j hj
    exact ⟨c, off, x, h1, h2, hg.cell h3 (fun e => by have := hr c e.symm; omega), h4⟩

theorem DeckAt.alloc {w : World} {b : Nat} (h : DeckAt w b) (o : Obj) : DeckAt (w.alloc o) b := h.kept (World.grownBy_alloc w o none) (fun _ h => by cases h)
theorem DeckAt.drew {w : World} {b : Nat} (h : DeckAt w b) : DeckAt w.drew b := h
theorem DeckAt.lt {w : World} {b : Nat} (h : DeckAt w b) : b < w.heap.size := by obtain ⟨a, len, cap, i, hb, _⟩ := h; exact blk_lt hb

theorem grown_store {w : World} {b j : Nat} {v : Value} : w.grownBy (w.setCell ⟨b, j, none⟩ v) (some b) :=
  ⟨rfl, rfl, rfl, by simp, fun k _ hk => Below.heap_setCell _ _ _ _ (fun e => hk (by simp [e]))⟩
theorem World.grownBy.drewN {w w' : World} {r : Option Nat} {n : Nat} (h : (w.drewN n).grownBy w' r) : w.grownBy w' r := ⟨h.os, h.tape, h.output, h.size, h.block⟩

theorem DeckAt.step {w : World} {b c off len cap i n : Nat} (hb : w.heap[b]? = some (.cells #[.slice (some ⟨c, off, none⟩) len cap, .int .i64 i] 64 (0, 0))) (hi : i < len) (hl : len ≤ 9223372036854775807)
    (hc : ∀ j, j < len → ∃ c' off' x, some (⟨c, off, none⟩ : Addr) = some ⟨c', off', none⟩ ∧ c' < b ∧ w.cell? ⟨c', off' + j, none⟩ = some (.int .i64 x) ∧ -9223372036854775808 ≤ x ∧ x ≤ 9223372036854775807) :
    DeckAt ((w.drewN n).setCell ⟨b, 1, none⟩ (.int .i64 (i + 1))) b := by
  refine ⟨some ⟨c, off, none⟩, len, cap, i + 1, ?_, hi, hl, fun j hj => ?_⟩
  · rw [heap_setCell_same (w.drewN n) b 1 _ _ _ hb]
    simp
  · obtain ⟨c', off', x, h1, h2, h3, h4⟩ := hc j hj
    refine ⟨c', off', x, h1, h2, ?_, h4⟩
    exact (World.cell?_of_block (a := ⟨c', off' + j, none⟩) (w := w.drewN n) (heap_setCell_other (w.drewN n) ⟨b, 1, none⟩ c' _ (Nat.ne_of_lt h2))).trans h3
theorem grown_drewN_set {w : World} {n m b j : Nat} {v : Value} : (w.drewN n).grownBy ((w.drewN m).setCell ⟨b, j, none⟩ v) (some b) :=
  ⟨rfl, rfl, rfl, by simp, fun k _ hk => heap_setCell_other (w.drewN m) _ _ _ (fun e => hk (by simp [e]))⟩

set_option maxRecDepth 100000 in
set_option maxHeartbeats 400000 in
theorem next_any (b : Nat) (n : Int) (w : World) (hd : DeckAt w b) (hn : 1 ≤ n) (hn2 : n ≤ 4611686018427387904) :
    Calls Tryz.prog 23 #[.pointer (some ⟨b, 0, none⟩), .int .i64 n] w (NextPost b n w) := by
  have hd' := hd
  obtain ⟨a, len, cap, i, hb, hi, hl, hc⟩ := hd
  have HC := Lib.hid hc
  have HB := Lib.hid hb
  clear hc
  have c0 : w.cell? ⟨b, 0, none⟩ = some (.slice a len cap) := by simp [World.cell?, hb]
  have c1 : w.cell? ⟨b, 1, none⟩ = some (.int .i64 i) := by simp [World.cell?, hb]
  have f1 : w.frozen? ⟨b, 1, none⟩ = false := by simp [World.frozen?, hb]
  clear hb
  have hd : decide (n < 1) = false := by simpa using hn
  by_cases hlt : i < len
  · obtain ⟨c, off, x, rfl, hcb, c2, hx0, hx1⟩ := HC.out i hlt
    have hm := modS_bd x n hn
    go_enter Tryz.func23, Tryz.ntmps23
    go_wp2_with fail
    go_quiet (fail)
    go_wp2_with fail
    go_quiet (fail)
    go_wp2_with (go_at_call 58; refine (mod_any _ _ _ (by omega) (by omega)).mono ?_; rintro e w' ⟨rfl, rfl⟩)
    go_ret
    refine ⟨_, hm.1, hm.2, rfl, ?_, World.grownBy.drewN (w := w) (n := nq) ?_⟩
    · exact DeckAt.step HB.out hlt hl HC.out
    · exact grown_drewN_set
  · go_enter Tryz.func23, Tryz.ntmps23
    go_wp2_with fail
    go_quiet (fail)
    go_wp2
    go_ret
    refine ⟨0, by omega, by omega, rfl, hd'.kept (r := none) ⟨rfl, rfl, rfl, by simp, fun k hk _ => rfl⟩ (fun _ h => by cases h), ⟨rfl, rfl, rfl, by simp, fun k hk _ => rfl⟩⟩
/-- the list of choices that came in -/
def ListAt (w : World) (a : Option Addr) (len : Nat) : Prop :=
  len ≤ 9223372036854775807 ∧ ∀ j, j < len → ∃ c off x, a = some ⟨c, off, none⟩ ∧ w.cell? ⟨c, off + j, none⟩ = some (.int .i64 x) ∧ -9223372036854775808 ≤ x ∧ x ≤ 9223372036854775807
theorem deck_new {w : World} {a : Option Addr} {len cap : Nat} (h : ListAt w a len) : DeckAt (w.alloc (.cells #[.slice a len cap, .int .i64 0] 64)) w.heap.size := by
  refine ⟨a, len, cap, 0, heap_alloc_new _ _, Nat.zero_le _, h.1, fun j hj => ?_⟩
  obtain ⟨c, off, x, ha, hc, hx⟩ := h.2 j hj
  exact ⟨c, off, x, ha, cell_lt hc, cell_alloc hc, hx⟩
end Go.Proofs.YtdkmdcdoiaelfaaGreat
