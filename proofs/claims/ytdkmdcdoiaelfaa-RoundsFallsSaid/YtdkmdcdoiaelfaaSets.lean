/- The contracts of the tests for sets of nodes, and of a made set of nodes. -/
import Derived.Test.YtdkmdcdoiaelfaaMk
import Derived.Test.YtdkmdcdoiaelfaaRef02
import Derived.Deep.RegionLaw
namespace Go.Proofs.Ytdkmdcdoiaelfaa
open Go.RowKit Go.BigFrame

/-- is a list of numbers a set of so many nodes? -/
def validZ : Option Int → List Int → Int → Bool
  | _, [], _ => true
  | p, x :: l, n => decide (0 ≤ x) && decide (x < n) && p.all (fun y => decide (y < x)) && validZ (some x) l n
def prevZ (xs : List Int) (k : Nat) : Option Int := if k = 0 then none else xs[k - 1]?
set_option maxRecDepth 100000 in
set_option maxHeartbeats 800000 in
theorem nvalidZ_any (a : Option Addr) (cap : Nat) (xs : List Int) (n : Int) (w : World) (hi : IntsAt w (.slice a xs.length cap) xs) :
    Calls Try.prog 140 #[.slice a xs.length cap, .int .i64 n] w fun e w' => e = .returned (.bool (validZ none xs n)) ∧ w = w' := by
  have hl : xs.length ≤ 70368744177664 := by obtain ⟨_, _, hv, _, _, hl, _⟩ := hi; exact hl
  go_enter Try.func140, Try.ntmps140
  go_wp2
  go_loop [9] (fun i => ∃ k : Nat, k ≤ xs.length ∧ i = .int .i64 k ∧ Hid (validZ none xs n = validZ (prevZ xs k) (xs.drop k) n)) (fun i => xs.length - (intOf i).toNat)
  case atStart => exact ⟨0, Nat.zero_le _, rfl, rfl⟩
  case round =>
    obtain ⟨k, hk, rfl, HR⟩ := hrel
    by_cases hlt : k < xs.length
    · obtain ⟨b, off, y, rfl, hy, hd, _, c0⟩ := hi.at k hlt
      have HD : Hid (validZ none xs n = (decide (0 ≤ y) && decide (y < n) && (prevZ xs k).all (fun z => decide (z < y)) && validZ (some y) (xs.drop (k + 1)) n)) := by show _ = _; rw [HR.out, hd, validZ]
      have HP : Hid (prevZ xs (k + 1) = some y) := by show _ = _; unfold prevZ; rw [if_neg (by omega)]; simpa using hy
      clear hd hy HR
      by_cases h1 : y < 0
      · have HF : Hid (validZ none xs n = false) := by show _ = _; rw [HD.out]; simp; omega
        go_wp2
        go_ret
        exact ⟨ret_bool HF.out.symm, rfl⟩
      by_cases h2 : n ≤ y
      · have HF : Hid (validZ none xs n = false) := by show _ = _; rw [HD.out]; simp; omega
        go_wp2
        go_ret
        exact ⟨ret_bool HF.out.symm, rfl⟩
      by_cases hp : k = 0
      · have hp1 : decide (0 < (k : Int)) = false := by simp [hp]
        have hp2 : decide (0 < k) = false := by simp [hp]
        have HF : Hid (validZ none xs n = validZ (prevZ xs (k + 1)) (xs.drop (k + 1)) n) := by
          show _ = _
          rw [HD.out, HP.out, prevZ, if_pos hp]
          simp; omega
        clear hp
        go_wp2
        go_round
        case rel => exact ⟨k + 1, by omega, by go_num, HF⟩
        case measure => simp [intOf]; omega
      · have hp1 : (0 : Int) < (k : Int) := by omega
        have hp2 : 0 < k := by omega
        obtain ⟨b', off', z, hbo, hz, _, _, d0⟩ := hi.at (k - 1) (by omega)
        obtain ⟨rfl, rfl⟩ : b = b' ∧ off = off' := by simpa using hbo
        clear hbo
        have HQ : Hid (prevZ xs k = some z) := by show _ = _; rw [prevZ, if_neg hp]; exact hz
        clear hz hp
        by_cases hzy : y ≤ z
        · have HF : Hid (validZ none xs n = false) := by show _ = _; rw [HD.out, HQ.out]; simp; omega
          go_wp2
          go_ret
          exact ⟨ret_bool HF.out.symm, rfl⟩
        · have HF : Hid (validZ none xs n = validZ (prevZ xs (k + 1)) (xs.drop (k + 1)) n) := by show _ = _; rw [HD.out, HP.out, HQ.out]; simp; omega
          go_wp2
          go_round
          case rel => exact ⟨k + 1, by omega, by go_num, HF⟩
          case measure => simp [intOf]; omega
    · have HF : Hid (validZ none xs n = true) := by show _ = _; rw [HR.out, List.drop_of_length_le (by omega)]; rfl
      go_wp2
      go_ret
      exact ⟨ret_bool HF.out.symm, rfl⟩
set_option maxRecDepth 100000 in
set_option maxHeartbeats 800000 in
theorem rsvalidZ_any (a : Option Addr) (cap : Nat) (xs : List Int) (n : Int) (w : World) (hi : IntsAt w (.slice a xs.length cap) xs) :
    Calls Try.prog 73 #[.slice a xs.length cap, .int .i64 n] w fun e w' => e = .returned (.bool (validZ none xs n)) ∧ w = w' := by
  have hl : xs.length ≤ 70368744177664 := by obtain ⟨_, _, hv, _, _, hl, _⟩ := hi; exact hl
  go_enter Try.func73, Try.ntmps73
  go_wp2
  go_loop [9] (fun i => ∃ k : Nat, k ≤ xs.length ∧ i = .int .i64 k ∧ Hid (validZ none xs n = validZ (prevZ xs k) (xs.drop k) n)) (fun i => xs.length - (intOf i).toNat)
  case atStart => exact ⟨0, Nat.zero_le _, rfl, rfl⟩
  case round =>
    obtain ⟨k, hk, rfl, HR⟩ := hrel
    by_cases hlt : k < xs.length
    · obtain ⟨b, off, y, rfl, hy, hd, _, c0⟩ := hi.at k hlt
      have HD : Hid (validZ none xs n = (decide (0 ≤ y) && decide (y < n) && (prevZ xs k).all (fun z => decide (z < y)) && validZ (some y) (xs.drop (k + 1)) n)) := by show _ = _; rw [HR.out, hd, validZ]
      have HP : Hid (prevZ xs (k + 1) = some y) := by show _ = _; unfold prevZ; rw [if_neg (by omega)]; simpa using hy
      clear hd hy HR
      by_cases h1 : y < 0
      · have HF : Hid (validZ none xs n = false) := by show _ = _; rw [HD.out]; simp; omega
        go_wp2
        go_ret
        exact ⟨ret_bool HF.out.symm, rfl⟩
      by_cases h2 : n ≤ y
      · have HF : Hid (validZ none xs n = false) := by show _ = _; rw [HD.out]; simp; omega
        go_wp2
        go_ret
        exact ⟨ret_bool HF.out.symm, rfl⟩
      by_cases hp : k = 0
      · have hp1 : decide (0 < (k : Int)) = false := by simp [hp]
        have hp2 : decide (0 < k) = false := by simp [hp]
        have HF : Hid (validZ none xs n = validZ (prevZ xs (k + 1)) (xs.drop (k + 1)) n) := by
          show _ = _
          rw [HD.out, HP.out, prevZ, if_pos hp]
          simp; omega
        clear hp
        go_wp2
        go_round
        case rel => exact ⟨k + 1, by omega, by go_num, HF⟩
        case measure => simp [intOf]; omega
      · have hp1 : (0 : Int) < (k : Int) := by omega
        have hp2 : 0 < k := by omega
        obtain ⟨b', off', z, hbo, hz, _, _, d0⟩ := hi.at (k - 1) (by omega)
        obtain ⟨rfl, rfl⟩ : b = b' ∧ off = off' := by simpa using hbo
        clear hbo
        have HQ : Hid (prevZ xs k = some z) := by show _ = _; rw [prevZ, if_neg hp]; exact hz
        clear hz hp
        by_cases hzy : y ≤ z
        · have HF : Hid (validZ none xs n = false) := by show _ = _; rw [HD.out, HQ.out]; simp; omega
          go_wp2
          go_ret
          exact ⟨ret_bool HF.out.symm, rfl⟩
        · have HF : Hid (validZ none xs n = validZ (prevZ xs (k + 1)) (xs.drop (k + 1)) n) := by show _ = _; rw [HD.out, HP.out, HQ.out]; simp; omega
          go_wp2
          go_round
          case rel => exact ⟨k + 1, by omega, by go_num, HF⟩
          case measure => simp [intOf]; omega
    · have HF : Hid (validZ none xs n = true) := by show _ = _; rw [HR.out, List.drop_of_length_le (by omega)]; rfl
      go_wp2
      go_ret
      exact ⟨ret_bool HF.out.symm, rfl⟩
def SetPostZ (b : Nat) (w : World) (n : Nat) (e : Ending) (w' : World) : Prop :=
  ∃ (l : List Int) (a : Option Addr) (cap : Nat), e = .returned (.slice a l.length cap) ∧ l.length ≤ n ∧ IntsAt w' (.slice a l.length cap) l ∧ DeckAt w' b ∧ w.grownBy w' (some b) ∧ ∀ p, a = some p → w.heap.size ≤ p.block
theorem own_nextZ {w wr w' : World} {b T n size : Nat} {v : Value} {xs : List Value} (h : wr.ownsRow w.heap.size T size v n xs) (hb : b < w.heap.size) (hg : wr.grownBy w' (some b)) : w'.ownsRow w.heap.size T size v n xs :=
  h.kept hg (by
    cases hs : v.ownBlock with
    | none => exact .inl rfl
    | some k => have := h.lt k hs; exact .inr (by simp; omega))
set_option maxRecDepth 100000 in
set_option maxHeartbeats 1600000 in
theorem mksetZ_any (b n : Nat) (w : World) (hd : DeckAt w b) (hn : n ≤ 1000) :
    Calls Try.prog 64 #[.pointer (some ⟨b, 0, none⟩), .int .i64 n] w (SetPostZ b w n) := by
  have hbw := hd.lt
  go_enter Try.func64, Try.ntmps64
  go_wp2_with fail
  go_loopw [5, 6] (fun s i wr => ∃ (v : Nat) (l : List Int), i = .int .i64 v ∧ v ≤ n ∧ l.length ≤ v ∧ wr.ownsRow w.heap.size 3 1 s l.length (intsV l) ∧ DeckAt wr b ∧ w.grownBy wr (some b)) (fun _ i _ => n - (intOf i).toNat)
  case atStart => exact ⟨0, [], rfl, Nat.zero_le _, Nat.le_refl _, World.ownsRow_nil _ _ _ _, hd, grown_refl _ _⟩
  case round =>
    clear hd
    obtain ⟨v, l, rfl, hvn, hlv, hown, hdk, hgr⟩ := hrel
    obtain ⟨a, cap, hs⟩ := owns_shape hown
    subst hs
    by_cases hlt : v < n
    · go_wp2_with fail
      refine (next_any b 2 _ hdk (by omega) (by omega)).mono ?_
      rintro e w2 ⟨x, hx0, hx1, rfl, hd2, hg2⟩
      have hown2 := own_nextZ hown hbw hg2
      have hgr2 := grown_trans hgr hg2
      clear hown hgr hdk hg2
      by_cases hx : x = 1
      · subst hx
        have hlx := ints_lit1 w2 (v : Int) 3
        have hownA := hown2.alloc (.cells #[.int .i64 (v : Int)] 3)
        have hgrA := grown_trans hgr2 (World.grownBy_alloc w2 (.cells #[.int .i64 (v : Int)] 3) (some b))
        have hdA := hd2.alloc (.cells #[.int .i64 (v : Int)] 3)
        go_wp2_with (at_builtin; refine wpList_app_ints intsT rfl _ _ rfl w.heap.size (.slice a l.length cap) _ l [(v : Int)] rfl hownA rfl hlx (by simp; omega) hgrA.size ?_; intro v6 w6 hown6 hg6)
        have hblk : ∀ g, (Value.slice a l.length cap).ownBlock = some g → b < g ∧ w.heap.size ≤ g := fun g e => by have := hownA.lt g e; omega
        have hd6 := hdA.kept hg6 (fun g e => (hblk g e).1)
        have hgr6 := grown_new hgrA hg6 (fun g e => .inr (hblk g e).2)
        go_roundw
        case rel => exact ⟨v + 1, l ++ [(v : Int)], by go_num, by omega, by simp; omega, hown6, hd6, hgr6⟩
        case measure => simp [intOf]; omega
      · have hx0' : x = 0 := by omega
        subst hx0'
        go_wp2_with fail
        go_roundw
        case rel => exact ⟨v + 1, l, by go_num, by omega, by omega, hown2, hd2, hgr2⟩
        case measure => simp [intOf]; omega
    · obtain ⟨a6, c6, hv6, hi6, ho6⟩ := IntsAt.of_owns hown (by omega)
      cases hv6
      go_wp2_with fail
      go_ret
      exact ⟨l, a, cap, rfl, by omega, hi6, hdk, hgr, ho6⟩
end Go.Proofs.Ytdkmdcdoiaelfaa
