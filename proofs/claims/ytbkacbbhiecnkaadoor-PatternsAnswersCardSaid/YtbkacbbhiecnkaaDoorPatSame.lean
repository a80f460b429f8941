/- The contracts of a made set of nodes, of the comparison of equal lists and of equal lists of lists, and of the test for light graphs. The contract of the comparison of the two matrices. -/
import Derived.Test.YtbkacbbhiecnkaaDoorMk
import Derived.Test.YtbkacbbhiecnkaaDoorRef25
import Derived.Test.YtbkacbbhiecnkaaDoorRef32Within
import Derived.Deep.RegionLaw
namespace Go.Proofs.YtbkacbbhiecnkaaDoor
open Go.RowKit Go.BigFrame

def SetPost (b : Nat) (w : World) (n : Nat) (e : Ending) (w' : World) : Prop :=
  ∃ (l : List Int) (a : Option Addr) (cap : Nat), e = .returned (.slice a l.length cap) ∧ l.length ≤ n ∧ IntsAt w' (.slice a l.length cap) l ∧ DeckAt w' b ∧ w.grownBy w' (some b) ∧ ∀ p, a = some p → w.heap.size ≤ p.block
theorem own_nextI {w wr w' : World} {b T n size : Nat} {v : Value} {xs : List Value} (h : wr.ownsRow w.heap.size T size v n xs) (hb : b < w.heap.size) (hg : wr.grownBy w' (some b)) : w'.ownsRow w.heap.size T size v n xs :=
  h.kept hg (by
    cases hs : v.ownBlock with
    | none => exact .inl rfl
    | some k => have := h.lt k hs; exact .inr (by simp; omega))
set_option maxRecDepth 100000 in
set_option maxHeartbeats 1600000 in
theorem mkset_any (b n : Nat) (w : World) (hd : DeckAt w b) (hn : n ≤ 1000) :
    Calls Tryd.prog 36 #[.pointer (some ⟨b, 0, none⟩), .int .i64 n] w (SetPost b w n) := by
  have hbw := hd.lt
  go_enter Tryd.func36, Tryd.ntmps36
  go_wp2_with fail
  go_loopw [5, 6] (fun s i wr => ∃ (v : Nat) (l : List Int), i = .int .i64 v ∧ v ≤ n ∧ l.length ≤ v ∧ wr.ownsRow w.heap.size 3 1 s l.length (intsV l) ∧ DeckAt wr b ∧ w.grownBy wr (some b)) (fun _ i _ => n - (intOf i).toNat)
  case atStart => exact ⟨0, [], rfl, Nat.zero_le _, Nat.le_refl _, World.ownsRow_nil _ _ _ _, hd, grown_refl _ _⟩
  case round =>
    clear hd
    obtain ⟨v, l, rfl, hvn, hlv, hown, hdk, hgr⟩ := hrel
    obtain ⟨a, cap, hs⟩ := owns_shape hown
    subst hs
    by_cases hlt : v < n
    · go_wp2_with fail
      refine (next_any b 2 _ hdk (by omega) (by omega)).mono ?_
      rintro e w2 ⟨x, hx0, hx1, rfl, hd2, hg2⟩
      have hown2 := own_nextI hown hbw hg2
      have hgr2 := grown_trans hgr hg2
      clear hown hgr hdk hg2
      by_cases hx : x = 1
      · subst hx
        have hlx := ints_lit1 w2 (v : Int) 3
        have hownA := hown2.alloc (.cells #[.int .i64 (v : Int)] 3)
        have hgrA := grown_trans hgr2 (World.grownBy_alloc w2 (.cells #[.int .i64 (v : Int)] 3) (some b))
        have hdA := hd2.alloc (.cells #[.int .i64 (v : Int)] 3)
        go_wp2_with (at_builtin; refine wpList_app_ints intsT rfl _ _ rfl w.heap.size (.slice a l.length cap) _ l [(v : Int)] rfl hownA rfl hlx (by simp; omega) hgrA.size ?_; intro v6 w6 hown6 hg6)
        have hblk : ∀ g, (Value.slice a l.length cap).ownBlock = some g → b < g ∧ w.heap.size ≤ g := fun g e => by have := hownA.lt g e; omega
        have hd6 := hdA.kept hg6 (fun g e => (hblk g e).1)
        have hgr6 := grown_new hgrA hg6 (fun g e => .inr (hblk g e).2)
        go_roundw
        case rel => exact ⟨v + 1, l ++ [(v : Int)], by go_num, by omega, by simp; omega, hown6, hd6, hgr6⟩
        case measure => simp [intOf]; omega
      · have hx0' : x = 0 := by omega
        subst hx0'
        go_wp2_with fail
        go_roundw
        case rel => exact ⟨v + 1, l, by go_num, by omega, by omega, hown2, hd2, hgr2⟩
        case measure => simp [intOf]; omega
    · obtain ⟨a6, c6, hv6, hi6, ho6⟩ := IntsAt.of_owns hown (by omega)
      cases hv6
      go_wp2_with fail
      go_ret
      exact ⟨l, a, cap, rfl, by omega, hi6, hdk, hgr, ho6⟩

set_option maxRecDepth 100000 in
theorem same_same (a a2 : Option Addr) (cap cap2 : Nat) (xs : List Int) (w : World) (h1 : IntsAt w (.slice a xs.length cap) xs) (h2 : IntsAt w (.slice a2 xs.length cap2) xs) :
    Calls Tryd.prog 56 #[.slice a xs.length cap, .slice a2 xs.length cap2] w fun e w' => e = .returned (.bool true) ∧ Below w.heap.size w w' := by
  have hl : xs.length ≤ 70368744177664 := by obtain ⟨_, _, hv, _, _, hl, _⟩ := h1; exact hl
  have hc := cmp_same a a2 cap cap2 xs w h1 h2
  go_enter Tryd.func56, Tryd.ntmps56
  go_wp2_with (go_at_call 24; refine hc.mono ?_; rintro e w2 ⟨rfl, hb2⟩)
  go_ret
  exact ⟨rfl, hb2⟩

theorem light_any (n m : Int) (a : Option Addr) (len cap : Nat) (w : World) (hm : 0 ≤ m) (hm2 : m ≤ 1000) :
    Calls Tryd.prog 33 #[.agg #[.int .i64 n, .slice a len cap], .int .i64 m] w fun e w' => e = .returned (.bool (decide (n ≤ m) && decide ((len : Int) ≤ m * m))) ∧ Below w.heap.size w w' := by
  have hb0 : Below w.heap.size w (w.alloc (.cells #[.int .i64 n, .slice a len cap] 27)) := (Below.refl _ _).alloc (Nat.le_refl _) _
  have hmm : 0 ≤ m * m ∧ m * m ≤ 1000000 := ⟨Int.mul_nonneg hm hm, by have := Int.mul_le_mul hm2 hm2 hm (by omega); omega⟩
  by_cases h1 : n ≤ m
  · have d1 : decide (n ≤ m) = true := by simpa using h1
    have v1 : IntKind.i64.wrap (m * m) = m * m := IntWalk.i64_in _ (by omega)
    go_enter Tryd.func33, Tryd.ntmps33
    go_wp2_with fail
    go_ret
    exact ⟨by simp [d1], hb0⟩
  · have d1 : decide (n ≤ m) = false := by simpa using h1
    go_enter Tryd.func33, Tryd.ntmps33
    go_wp2_with fail
    go_ret
    exact ⟨by simp, hb0⟩
end Go.Proofs.YtbkacbbhiecnkaaDoor

namespace Go.Proofs.YtbkacbbhiecnkaaDoor
open Go.RowKit Go.BigFrame

structure RowsEq (w : World) (G1 G2 : Nat) : Prop where
  row : ∀ a : Nat, a < 11 → ∃ (b1 b2 : Option Addr) (xs : List Int), xs.length = 11 ∧ w.cell? ⟨G1, a, none⟩ = some (.slice b1 11 11) ∧ w.cell? ⟨G2, a, none⟩ = some (.slice b2 11 11) ∧ IntsAt w (.slice b1 11 11) xs ∧ IntsAt w (.slice b2 11 11) xs
theorem RowsEq.below {w w' : World} {G1 G2 : Nat} (h : RowsEq w G1 G2) (hb : Below w.heap.size w w') : RowsEq w' G1 G2 :=
  ⟨fun a ha => by
    obtain ⟨b1, b2, xs, hl, c1, c2, i1, i2⟩ := h.row a ha
    exact ⟨b1, b2, xs, hl, (hb.cell (p := ⟨G1, a, none⟩) (cell_lt c1)).trans c1, (hb.cell (p := ⟨G2, a, none⟩) (cell_lt c2)).trans c2, i1.below hb, i2.below hb⟩⟩
set_option maxRecDepth 100000 in
set_option maxHeartbeats 1600000 in
theorem sameall_any (G1 G2 c1 c2 : Nat) (w : World) (h : RowsEq w G1 G2) :
    Calls Tryd.prog 45 #[.slice (some ⟨G1, 0, none⟩) 11 c1, .slice (some ⟨G2, 0, none⟩) 11 c2] w fun e w' => e = .returned (.bool true) ∧ Below w.heap.size w w' := by
  go_enter Tryd.func45, Tryd.ntmps45
  go_wp2_with fail
  go_loopw [13] (fun i wr => ∃ k : Nat, k ≤ 11 ∧ i = .int .i64 k ∧ Below w.heap.size w wr) (fun i _ => 11 - (intOf i).toNat)
  case atStart => exact ⟨0, by omega, rfl, Below.refl _ _⟩
  case round =>
    obtain ⟨k, hk, rfl, hb⟩ := hrel
    by_cases hlt : k < 11
    · have hdk : decide ((k : Int) < 11) = true := by simp; omega
      have hdk2 : decide (k < 11) = true := by simpa using hlt
      have hk3 : (k : Int) < 11 := by omega
      obtain ⟨b1, b2, xs, hl, q1, q2, i1, i2⟩ := (h.below hb).row k hlt
      have hs := same_same b1 b2 11 11 xs wr.drew (by rw [hl]; exact i1) (by rw [hl]; exact i2)
      rw [hl] at hs
      clear hl i1 i2
      go_wp2_with fail
      go_region_law (go_simp; go_at_call 56; (with_reducible refine hs.mono ?_); rintro e w2 ⟨rfl, hb2⟩)
      all_goals
        go_wp2_with fail
        go_roundw
        case rel => exact ⟨k + 1, by omega, by go_num, hb.drew.trans (hb2.mono (by have := hb.size; simpa using this))⟩
        case measure => simp [intOf]; omega
    · obtain rfl : k = 11 := by omega
      go_wp2_with fail
      go_ret
      exact ⟨rfl, hb⟩
end Go.Proofs.YtbkacbbhiecnkaaDoor
