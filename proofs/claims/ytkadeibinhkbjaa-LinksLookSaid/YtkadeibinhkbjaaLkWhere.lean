/- The contracts of choosing links: the closure. -/
import Derived.Test.YtkadeibinhkbjaaLkSet
namespace Go.Proofs.Ytkadeibinhkbjaa
open Go.RowKit Go.BigFrame

set_option maxRecDepth 100000 in
set_option maxHeartbeats 800000 in
theorem cindex_any (a : Option Addr) (cap : Nat) (xs : List Int) (x : Int) (w : World) (hi : IntsAt w (.slice a xs.length cap) xs) :
    Calls Try.prog 58 #[.slice a xs.length cap, .int .i64 x] w fun e w' => ∃ r : Int, e = .returned (.int .i64 r) ∧ (0 ≤ r ↔ x ∈ xs) ∧ w = w' := by
  have hl : xs.length ≤ 70368744177664 := by obtain ⟨_, _, hv, _, _, hl, _⟩ := hi; exact hl
  go_enter Try.func58, Try.ntmps58
  go_wp2
  go_loop [8] (fun i => ∃ k : Nat, k ≤ xs.length ∧ i = .int .i64 k ∧ Hid (x ∈ xs ↔ x ∈ xs.drop k)) (fun i => xs.length - (intOf i).toNat)
  case atStart => exact ⟨0, Nat.zero_le _, rfl, Iff.rfl⟩
  case round =>
    obtain ⟨k, hk, rfl, HR⟩ := hrel
    by_cases hlt : k < xs.length
    · obtain ⟨b, off, y, rfl, hy, hd, _, c0⟩ := hi.at k hlt
      by_cases he : x = y
      · have HM : Hid (x ∈ xs) := (show _ from List.mem_of_getElem? (by rw [he]; exact hy))
        have d1 : (x == y) = true := by simpa using he
        clear he hy hd HR
        go_wp2
        go_ret
        exact ⟨(k : Int), rfl, ⟨fun _ => HM.out, fun _ => by omega⟩, rfl⟩
      · have HT : Hid (x ∈ xs ↔ x ∈ xs.drop (k + 1)) := (show _ from by
          rw [HR.out, hd, List.mem_cons]
          exact ⟨fun h => h.resolve_left he, .inr⟩)
        have d1 : (x == y) = false := by simpa using he
        clear he hy hd HR
        go_wp2
        go_round
        case rel => exact ⟨k + 1, by omega, by go_num, HT⟩
        case measure => simp [intOf]; omega
    · have HT : Hid (x ∉ xs) := (show _ from fun h => by
        have h2 := HR.out.1 h
        rw [List.drop_of_length_le (by omega)] at h2
        simp at h2)
      go_wp2
      go_ret
      exact ⟨-1, rfl, ⟨fun h => by omega, fun h => absurd h HT.out⟩, rfl⟩
set_option maxRecDepth 100000 in
theorem ccontains_any (a : Option Addr) (cap : Nat) (xs : List Int) (x : Int) (w : World) (hi : IntsAt w (.slice a xs.length cap) xs) :
    Calls Try.prog 46 #[.slice a xs.length cap, .int .i64 x] w fun e w' => e = .returned (.bool (decide (x ∈ xs))) ∧ w = w' := by
  have hix := cindex_any a cap xs x w hi
  obtain ⟨D, hD⟩ : ∃ D, decide (x ∈ xs) = D := ⟨_, rfl⟩
  rw [hD]
  have HD := Lib.hid hD
  clear hD
  go_enter Try.func46, Try.ntmps46
  go_wp2_with fail
  refine hix.mono ?_
  rintro _ w' ⟨r, rfl, hr, rfl⟩
  have hr2 : decide (0 ≤ r) = D := by rw [← HD.out]; exact decide_eq_decide.2 hr
  clear hr
  go_wp2_with fail
  go_ret
  exact ⟨rfl, rfl⟩
/-- what is chosen -/
def whB (labels : List Int) (sign least : Int) (l : Lk) : Bool := (decide (labels.length = 0) || decide (l.label ∈ labels)) && (decide (sign = 0) || decide (l.sign = sign)) && decide (least ≤ l.weight)
/-- the three boxes of the closure -/
structure WhW (w : World) (B1 B2 B3 : Nat) (a : Option Addr) (cap : Nat) (labels : List Int) (sign least : Int) : Prop where
  b1 : w.heap[B1]? = some (.cells #[.slice a labels.length cap] 27 (0, 0))
  b2 : w.heap[B2]? = some (.cells #[.int .i64 sign] 3 (0, 0))
  b3 : w.heap[B3]? = some (.cells #[.int .i64 least] 3 (0, 0))
  i : IntsAt w (.slice a labels.length cap) labels
theorem WhW.next {w w' : World} {B1 B2 B3 : Nat} {a : Option Addr} {cap : Nat} {labels : List Int} {sign least : Int} (h : WhW w B1 B2 B3 a cap labels sign least) (hb : Below w.heap.size w w') : WhW w' B1 B2 B3 a cap labels sign least :=
  ⟨lk_next hb h.b1, lk_next hb h.b2, lk_next hb h.b3, h.i.below hb⟩
set_option maxRecDepth 100000 in
set_option maxHeartbeats 3200000 in
theorem where1_any (B1 B2 B3 : Nat) (a : Option Addr) (cap : Nat) (labels : List Int) (sign least : Int) (l : Lk) (w : World) (hW : WhW w B1 B2 B3 a cap labels sign least) :
    Calls Try.prog 45 #[.agg l.cells, .pointer (some ⟨B1, 0, none⟩), .pointer (some ⟨B2, 0, none⟩), .pointer (some ⟨B3, 0, none⟩)] w fun e w' => e = .returned (.bool (whB labels sign least l)) ∧ Below w.heap.size w w' := by
  have hbn := (Below.refl w.heap.size w).alloc (Nat.le_refl _) (.cells l.cells 50)
  have hX := heap_alloc_new w (.cells l.cells 50)
  have hW2 := hW.next hbn
  have hct := fun W h => ccontains_any a cap labels l.label W h
  have hwh : whB labels sign least l = ((decide (labels.length = 0) || decide (l.label ∈ labels)) && (decide (sign = 0) || decide (l.sign = sign)) && decide (least ≤ l.weight)) := rfl
  obtain ⟨R, hR⟩ : ∃ R, whB labels sign least l = R := ⟨_, rfl⟩
  rw [hR] at hwh ⊢
  clear hR
  obtain ⟨D, hD⟩ : ∃ D, decide (l.label ∈ labels) = D := ⟨_, rfl⟩
  rw [hD] at hct hwh
  obtain ⟨u, v, wt, lb, sg, t⟩ := l
  unfold Lk.cells at hbn hX hW2 ⊢
  dsimp only at hct hwh hbn hX hW2 ⊢
  obtain ⟨x0, x1, x2, x3, x4, x5⟩ := cells6 hX
  have y1 := cell_blk (j := 0) hW2.b1
  have y2 := cell_blk (j := 0) hW2.b2
  have y3 := cell_blk (j := 0) hW2.b3
  have hct2 := hct _ hW2.i
  have HWH := Lib.hid hwh
  obtain ⟨n, hn⟩ : ∃ n, labels.length = n := ⟨_, rfl⟩
  rw [hn] at hct2 y1 HWH
  clear hD hct hwh hX hW hW2 hn
  by_cases h5 : least ≤ wt
  case neg =>
    have d5 : decide (least ≤ wt) = false := decide_eq_false h5
    have HR : Hid (R = false) := by show _ = _; rw [HWH.out, d5, Bool.and_false]
    clear HWH h5
    by_cases h1 : n = 0 <;> cases D <;> by_cases h3 : sign = 0 <;> by_cases h4 : sg = sign
    all_goals
      first | (have d1 : ((n : Int) == 0) = true := by simp [h1]) | (have d1 : ((n : Int) == 0) = false := by simp; exact h1)
      first | (have d3 : (sign == 0) = true := by simp [h3]) | (have d3 : (sign == 0) = false := by simpa using h3)
      first | (have d4 : (sg == sign) = true := by simp [h4]) | (have d4 : (sg == sign) = false := by simpa using h4)
      clear h1 h3 h4
      go_enter Try.func45, Try.ntmps45
      go_wp2_with (go_at_call 46; refine hct2.mono ?_; rintro _ w' ⟨rfl, rfl⟩)
      go_ret
      exact ⟨by rw [HR.out]; rfl, hbn⟩
  have d5 : decide (least ≤ wt) = true := decide_eq_true h5
  have HR : Hid (R = ((decide (n = 0) || D) && (decide (sign = 0) || decide (sg = sign)))) := by show _ = _; rw [HWH.out, d5, Bool.and_true]
  clear HWH h5
  by_cases h1 : n = 0 <;> cases D <;> by_cases h3 : sign = 0 <;> by_cases h4 : sg = sign
  all_goals
    have HR2 := HR.out
    simp only [h1, h3, h4, decide_true, decide_false, Bool.true_or, Bool.or_true, Bool.or_false, Bool.and_true, Bool.and_false] at HR2
    have HR3 := Lib.hid HR2
    first | (have d1 : ((n : Int) == 0) = true := by simp [h1]) | (have d1 : ((n : Int) == 0) = false := by simp; exact h1)
    first | (have d3 : (sign == 0) = true := by simp [h3]) | (have d3 : (sign == 0) = false := by simpa using h3)
    first | (have d4 : (sg == sign) = true := by simp [h4]) | (have d4 : (sg == sign) = false := by simpa using h4)
    clear h1 h3 h4 HR HR2
    go_enter Try.func45, Try.ntmps45
    go_wp2_with (go_at_call 46; refine hct2.mono ?_; rintro _ w' ⟨rfl, rfl⟩)
    go_ret
    exact ⟨by rw [HR3.out]; rfl, hbn⟩
end Go.Proofs.Ytkadeibinhkbjaa
