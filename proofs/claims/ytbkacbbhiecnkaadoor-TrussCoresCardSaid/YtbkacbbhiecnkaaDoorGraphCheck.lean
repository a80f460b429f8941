/- Contracts of the program's order of edges and of its check of a graph. -/
import Derived.Test.YtbkacbbhiecnkaaDoorRefCheck
import Derived.Test.YtbkacbbhiecnkaaDoorRef02
import Derived.Deep.RegionHeld3
namespace Go.Proofs.YtbkacbbhiecnkaaDoor
open Go.RowKit Go.BigFrame

def cmpS (a b : Int) : Int := if a < b then -1 else if b < a then 1 else 0
def orS : List Int → Int
  | [] => 0
  | x :: l => if x = 0 then orS l else x
def orderS (a b : E2) : Int := orS [cmpS a.1 b.1, cmpS a.2 b.2]
theorem cmpS_bd (a b : Int) : -1 ≤ cmpS a b ∧ cmpS a b ≤ 1 := by unfold cmpS; split <;> (try split) <;> omega
theorem order_neg (a b : E2) (h : beforeB a b = true) : orderS a b < 0 := by
  rw [before_iff] at h
  unfold orderS orS orS orS cmpS
  split <;> split <;> (try split) <;> (try split) <;> omega
theorem order_pos (a b : E2) (h : beforeB a b = false) : 0 ≤ orderS a b := by
  have h' : ¬ (a.1 < b.1 ∨ (a.1 = b.1 ∧ a.2 < b.2)) := by rw [← before_iff, h]; simp
  unfold orderS orS orS orS cmpS
  split <;> split <;> (try split) <;> (try split) <;> omega

theorem nan_any (x : Int) (w : World) : Calls Tryd.prog 141 #[.int .i64 x] w fun e w' => e = .returned (.bool false) ∧ w = w' := by
  go_enter Tryd.func141, Tryd.ntmps141
  go_wp2
  go_ret
  exact ⟨by simp, rfl⟩
theorem cmp_any (x y : Int) (w : World) : Calls Tryd.prog 113 #[.int .i64 x, .int .i64 y] w fun e w' => e = .returned (.int .i64 (cmpS x y)) ∧ w = w' := by
  have hc : cmpS x y = if x < y then -1 else if y < x then 1 else 0 := rfl
  have HC := Lib.hid hc
  clear hc
  rcases Int.lt_trichotomy x y with h | h | h
  · go_enter Tryd.func113, Tryd.ntmps113
    go_wp2_with (go_at_call 141; refine (nan_any _ _).mono ?_; rintro e w' ⟨rfl, rfl⟩)
    go_ret
    exact ⟨ret_int (by rw [HC.out, if_pos h]), rfl⟩
  · have h1 : ¬ x < y := by omega
    have h2 : ¬ y < x := by omega
    clear h
    go_enter Tryd.func113, Tryd.ntmps113
    go_wp2_with (go_at_call 141; refine (nan_any _ _).mono ?_; rintro e w' ⟨rfl, rfl⟩)
    go_ret
    exact ⟨ret_int (by rw [HC.out, if_neg (by omega), if_neg (by omega)]), rfl⟩
  · have h1 : ¬ x < y := by omega
    go_enter Tryd.func113, Tryd.ntmps113
    go_wp2_with (go_at_call 141; refine (nan_any _ _).mono ?_; rintro e w' ⟨rfl, rfl⟩)
    go_ret
    exact ⟨ret_int (by rw [HC.out, if_neg (by omega), if_pos h]), rfl⟩

set_option maxRecDepth 100000 in
theorem or_any (a : Option Addr) (cap : Nat) (xs : List Int) (w : World) (hi : IntsAt w (.slice a xs.length cap) xs) :
    Calls Tryd.prog 150 #[.slice a xs.length cap] w fun e w' => e = .returned (.int .i64 (orS xs)) ∧ w = w' := by
  have hl : xs.length ≤ 70368744177664 := by obtain ⟨_, _, hv, _, _, hl, _⟩ := hi; exact hl
  go_enter Tryd.func150, Tryd.ntmps150
  go_wp2
  go_loop [8] (fun i => ∃ k : Nat, k ≤ xs.length ∧ i = .int .i64 k ∧ Hid (orS xs = orS (xs.drop k))) (fun i => xs.length - (intOf i).toNat)
  case atStart => exact ⟨0, Nat.zero_le _, rfl, rfl⟩
  case round =>
    obtain ⟨k, hk, rfl, HR⟩ := hrel
    by_cases hlt : k < xs.length
    · obtain ⟨b, off, y, rfl, _, hd, _, c0⟩ := hi.at k hlt
      have HD := Lib.hid hd
      clear hd
      by_cases he : y = 0
      · have HT : Hid (orS xs = orS (xs.drop (k + 1))) := by show _ = _; rw [HR.out, HD.out, orS, if_pos he]
        subst he
        go_wp2
        go_round
        case rel => exact ⟨k + 1, by omega, by go_num, HT⟩
        case measure => simp [intOf]; omega
      · have he2 : (y != 0) = true := by simpa using he
        have HT : Hid (orS xs = y) := by show _ = _; rw [HR.out, HD.out, orS, if_neg he]
        go_wp2
        go_ret
        exact ⟨ret_int HT.out.symm, rfl⟩
    · have HT : Hid (orS xs = 0) := by show _ = _; rw [HR.out, List.drop_of_length_le (by omega)]; rfl
      go_wp2
      go_ret
      exact ⟨ret_int HT.out.symm, rfl⟩

theorem ints_lit2 (w : World) (g : Nat) (hg : w.heap.size = g) (x y : Int) (T : TypeId) : IntsAt (w.alloc (.cells #[.int .i64 x, .int .i64 y] T)) (.slice (some ⟨g, 0, none⟩) 2 2) [x, y] := by
  subst hg
  refine ⟨_, 2, rfl, by simp, (fun h => by cases h), by simp, fun i z hi => ?_⟩
  refine ⟨w.heap.size, 0, rfl, ?_⟩
  rw [cell_blk (heap_alloc_new _ _), Nat.zero_add]
  match i, hi with
  | 0, hi => simpa using hi
  | 1, hi => simpa using hi
  | (_ + 2), hi => simp at hi

set_option maxRecDepth 100000 in
set_option maxHeartbeats 800000 in
theorem order_any (u v x y : Int) (w : World) :
    Calls Tryd.prog 132 #[.agg #[.int .i64 u, .int .i64 v], .agg #[.int .i64 x, .int .i64 y]] w fun e w' => e = .returned (.int .i64 (orderS (u, v) (x, y))) ∧ Below w.heap.size w w' := by
  have h0 := (cell_alloc (o := .cells #[.int .i64 x, .int .i64 y] 42) (cell_fresh w #[.int .i64 u, .int .i64 v] 42 0 _ rfl))
  have h1 := (cell_alloc (o := .cells #[.int .i64 x, .int .i64 y] 42) (cell_fresh w #[.int .i64 u, .int .i64 v] 42 1 _ rfl))
  have hz : (w.alloc (.cells #[.int .i64 u, .int .i64 v] 42)).heap.size = w.heap.size + 1 := by simp
  have h2 := cell_fresh (w.alloc (.cells #[.int .i64 u, .int .i64 v] 42)) #[.int .i64 x, .int .i64 y] 42 0 _ rfl
  have h3 := cell_fresh (w.alloc (.cells #[.int .i64 u, .int .i64 v] 42)) #[.int .i64 x, .int .i64 y] 42 1 _ rfl
  rw [hz] at h2 h3
  have hb2 := ((Below.refl w.heap.size w).alloc (Nat.le_refl _) (.cells #[.int .i64 u, .int .i64 v] 42)).alloc (by simp) (.cells #[.int .i64 x, .int .i64 y] 42)
  have H0 := Lib.hid h0
  have H1 := Lib.hid h1
  have H2 := Lib.hid h2
  have H3 := Lib.hid h3
  clear h0 h1 h2 h3 hz
  go_enter Tryd.func132, Tryd.ntmps132
  go_wp2_with fail
  go_region_held3 (fun w' => w'.cell? ⟨w.heap.size, 0, none⟩ = some (.int .i64 u) ∧ w'.cell? ⟨w.heap.size, 1, none⟩ = some (.int .i64 v) ∧ w'.cell? ⟨w.heap.size + 1, 0, none⟩ = some (.int .i64 x) ∧ w'.cell? ⟨w.heap.size + 1, 1, none⟩ = some (.int .i64 y))
    (first | exact ⟨H0.out, H1.out, H2.out, H3.out⟩ | exact ⟨cell_alloc H0.out, cell_alloc H1.out, cell_alloc H2.out, cell_alloc H3.out⟩)
    (first
      | (go_at_call 113; refine (cmp_any _ _ _).mono ?_; rintro e w' ⟨rfl, rfl⟩)
      | (go_at_call 150; refine (or_any _ _ [cmpS u x, cmpS v y] _ (by exact ints_lit2 _ _ (by simp) _ _ _)).mono ?_; rintro e w' ⟨rfl, rfl⟩))
  go_wp2
  go_ret
  exact ⟨rfl, (hb2.alloc (by simp; omega) _).drew⟩

set_option maxRecDepth 100000 in
set_option maxHeartbeats 1600000 in
theorem gcheck_any (n : Int) (a : Option Addr) (cap : Nat) (es : List E2) (w : World) (he : EdgesAt w (.slice a es.length cap) es) :
    Calls Tryd.prog 85 #[.agg #[.int .i64 n, .slice a es.length cap]] w fun e w' => e = .returned (.int .i64 (checkS n es)) ∧ Below w.heap.size w w' := by
  obtain ⟨a', cap', hv, _, _, hl, hcell⟩ := he
  obtain ⟨rfl, _, rfl⟩ : a = a' ∧ True ∧ cap = cap' := by simpa using hv
  clear hv
  have H := Lib.hid hcell
  clear hcell
  by_cases h0 : n < 0
  · go_enter Tryd.func85, Tryd.ntmps85
    go_wp2
    go_ret
    exact ⟨by simp [checkS, h0], (Below.refl _ _).alloc (Nat.le_refl _) _⟩
  by_cases h1 : 64 < n
  · go_enter Tryd.func85, Tryd.ntmps85
    go_wp2
    go_ret
    exact ⟨by simp [checkS, h1], (Below.refl _ _).alloc (Nat.le_refl _) _⟩
  have HS : Hid (checkS n es = checkE n none es) := by show _ = _; simp [checkS, h0, h1]
  go_enter Tryd.func85, Tryd.ntmps85
  go_wp2
  go_loopw [16] (fun i wr => ∃ k : Nat, k ≤ es.length ∧ i = .int .i64 k ∧ Below (w.heap.size + 1) (w.alloc (.cells #[.int .i64 n, .slice a es.length cap] 27)) wr ∧ checkS n es = checkE n (prevE es k) (es.drop k)) (fun i _ => es.length - (intOf i).toNat)
  case atStart => exact ⟨0, Nat.zero_le _, rfl, Below.refl _ _, HS.out⟩
  case round =>
    obtain ⟨k, hk, rfl, hb, hres⟩ := hrel
    have HR := Lib.hid hres
    clear hres HS
    have b0 := cell_new hb 0 _ rfl
    have b1 := cell_new hb 1 _ rfl
    have hz : w.heap.size < wr.heap.size := by have := hb.size; simp at this; omega
    have hfin : Below w.heap.size w wr := ((Below.refl _ _).alloc (Nat.le_refl _) _).trans (hb.mono (by omega))
    by_cases hlt : k < es.length
    · obtain ⟨⟨x, y⟩, hxy⟩ : ∃ p, es[k]? = some p := ⟨_, List.getElem?_eq_getElem hlt⟩
      obtain ⟨b, off, rfl, c0, c1⟩ := H.out k _ hxy
      dsimp only at c0 c1
      have hz2 : b < wr.heap.size := by have := cell_lt c0; omega
      replace c0 := cell_old hb c0
      replace c1 := cell_old hb c1
      have hcd := checkE_drop n (prevE es k) es k (x, y) hxy
      rw [← HR.out] at hcd
      have HC := Lib.hid hcd
      have HXY := Lib.hid hxy
      clear hcd hxy
      by_cases hbad : x < 0 ∨ y ≤ x ∨ n ≤ y
      · have HF : Hid (checkS n es = 6) := by show _ = _; rw [HC.out, if_pos hbad]
        rcases (by omega : x < 0 ∨ (0 ≤ x ∧ y ≤ x) ∨ (0 ≤ x ∧ x < y ∧ n ≤ y)) with h | h | h
        · go_wp2
          go_ret
          exact ⟨ret_int HF.out.symm, hfin.alloc (by omega) _⟩
        · obtain ⟨g1, g2⟩ := h
          go_wp2
          go_ret
          exact ⟨ret_int HF.out.symm, hfin.alloc (by omega) _⟩
        · obtain ⟨g1, g2, g3⟩ := h
          go_wp2
          go_ret
          exact ⟨ret_int HF.out.symm, hfin.alloc (by omega) _⟩
      have h4 : 0 ≤ x := by omega
      have h5 : x < y := by omega
      have h6 : y < n := by omega
      have HC2 : Hid (checkS n es = if (prevE es k).any (fun p => !beforeB p (x, y)) then 5 else checkE n (some (x, y)) (es.drop (k + 1))) := by show _ = _; rw [HC.out, if_neg hbad]
      have HP : Hid (prevE es (k + 1) = some (x, y)) := by show _ = _; simp only [prevE]; rw [if_neg (by omega)]; simpa using HXY.out
      clear hbad HC HR
      by_cases hp : k = 0
      · have hp1 : decide (0 < (k : Int)) = false := by simp [hp]
        have hp2 : decide (0 < k) = false := by simp [hp]
        have HK := Lib.hid hp
        clear hp
        go_wp2
        refine wp_region_ext (wr.heap.size + 1) (wr.alloc (.cells #[.int .i64 x, .int .i64 y] 42)) (by kernel_rfl) (by kernel_rfl) (Below.refl _ _) ?_
        repeat (go_big_quiet_step (fail))
        refine wpQuiet_nil ?_
        rintro _ ⟨⟨wq, hq⟩, rfl⟩
        go_wp2
        go_roundw
        case rel => exact ⟨k + 1, by omega, by go_num, (hb.alloc (by omega) _).trans (hq.mono (by omega)), by rw [HC2.out, HP.out, HK.out]; simp [prevE]⟩
        case measure => simp [intOf]; omega
      · have hp1 : (0 : Int) < (k : Int) := by omega
        have hp2 : 0 < k := by omega
        obtain ⟨⟨px, py⟩, hpe⟩ : ∃ p, es[k - 1]? = some p := ⟨_, List.getElem?_eq_getElem (by omega)⟩
        obtain ⟨b', off', hbo, d0, d1⟩ := H.out (k - 1) _ hpe
        obtain ⟨rfl, rfl⟩ : b = b' ∧ off = off' := by simpa using hbo
        clear hbo
        dsimp only at d0 d1
        replace d0 := cell_old hb d0
        replace d1 := cell_old hb d1
        have HPP : Hid (prevE es k = some (px, py)) := by show _ = _; simp only [prevE]; rw [if_neg hp]; exact hpe
        clear hpe hp
        by_cases hbf : beforeB (px, py) (x, y) = true
        · have HB : Hid (beforeB (px, py) (x, y) = true) := hbf
          have hord := order_neg (px, py) (x, y) hbf
          go_wp2
          have e0 : ∀ z : Ext (wr.heap.size + 1) (wr.alloc (.cells #[.int .i64 x, .int .i64 y] 42)), z.world.cell? ⟨wr.heap.size, 0, none⟩ = some (.int .i64 x) := fun z => cell_new z.below 0 _ rfl
          have e1 : ∀ z : Ext (wr.heap.size + 1) (wr.alloc (.cells #[.int .i64 x, .int .i64 y] 42)), z.world.cell? ⟨wr.heap.size, 1, none⟩ = some (.int .i64 y) := fun z => cell_new z.below 1 _ rfl
          have e2 : ∀ z : Ext (wr.heap.size + 1) (wr.alloc (.cells #[.int .i64 x, .int .i64 y] 42)), z.world.cell? ⟨w.heap.size, 0, none⟩ = some (.int .i64 n) := fun z => cell_old z.below b0
          have e3 : ∀ z : Ext (wr.heap.size + 1) (wr.alloc (.cells #[.int .i64 x, .int .i64 y] 42)), z.world.cell? ⟨w.heap.size, 1, none⟩ = some (.slice (some ⟨b, off, none⟩) es.length cap) := fun z => cell_old z.below b1
          have e4 : ∀ z : Ext (wr.heap.size + 1) (wr.alloc (.cells #[.int .i64 x, .int .i64 y] 42)), z.world.cell? ⟨b, off + (k - 1) * 2, none⟩ = some (.int .i64 px) := fun z => cell_old z.below d0
          have e5 : ∀ z : Ext (wr.heap.size + 1) (wr.alloc (.cells #[.int .i64 x, .int .i64 y] 42)), z.world.cell? ⟨b, off + (k - 1) * 2 + 1, none⟩ = some (.int .i64 py) := fun z => cell_old z.below d1
          refine wp_region_ext (wr.heap.size + 1) (wr.alloc (.cells #[.int .i64 x, .int .i64 y] 42)) (by kernel_rfl) (by kernel_rfl) (Below.refl _ _) ?_
          repeat (go_big_quiet_step ((go_at_call 132; exact Calls.ext_of (by simp) (order_any px py x y _))))
          refine wpQuiet_nil ?_
          rintro _ ⟨⟨wq, hq⟩, rfl⟩
          clear e0 e1 e2 e3 e4 e5
          go_wp2
          go_roundw
          case rel => exact ⟨k + 1, by omega, by go_num, (hb.alloc (by omega) _).trans (hq.mono (by omega)), by rw [HC2.out, HP.out, HPP.out]; simp [HB.out]⟩
          case measure => simp [intOf]; omega
        · have hbf' : beforeB (px, py) (x, y) = false := by simpa using hbf
          have HB : Hid (beforeB (px, py) (x, y) = false) := hbf'
          have hord := order_pos (px, py) (x, y) hbf'
          clear hbf
          go_wp2
          have e0 : ∀ z : Ext (wr.heap.size + 1) (wr.alloc (.cells #[.int .i64 x, .int .i64 y] 42)), z.world.cell? ⟨wr.heap.size, 0, none⟩ = some (.int .i64 x) := fun z => cell_new z.below 0 _ rfl
          have e1 : ∀ z : Ext (wr.heap.size + 1) (wr.alloc (.cells #[.int .i64 x, .int .i64 y] 42)), z.world.cell? ⟨wr.heap.size, 1, none⟩ = some (.int .i64 y) := fun z => cell_new z.below 1 _ rfl
          have e2 : ∀ z : Ext (wr.heap.size + 1) (wr.alloc (.cells #[.int .i64 x, .int .i64 y] 42)), z.world.cell? ⟨w.heap.size, 0, none⟩ = some (.int .i64 n) := fun z => cell_old z.below b0
          have e3 : ∀ z : Ext (wr.heap.size + 1) (wr.alloc (.cells #[.int .i64 x, .int .i64 y] 42)), z.world.cell? ⟨w.heap.size, 1, none⟩ = some (.slice (some ⟨b, off, none⟩) es.length cap) := fun z => cell_old z.below b1
          have e4 : ∀ z : Ext (wr.heap.size + 1) (wr.alloc (.cells #[.int .i64 x, .int .i64 y] 42)), z.world.cell? ⟨b, off + (k - 1) * 2, none⟩ = some (.int .i64 px) := fun z => cell_old z.below d0
          have e5 : ∀ z : Ext (wr.heap.size + 1) (wr.alloc (.cells #[.int .i64 x, .int .i64 y] 42)), z.world.cell? ⟨b, off + (k - 1) * 2 + 1, none⟩ = some (.int .i64 py) := fun z => cell_old z.below d1
          refine wp_region_ext (wr.heap.size + 1) (wr.alloc (.cells #[.int .i64 x, .int .i64 y] 42)) (by kernel_rfl) (by kernel_rfl) (Below.refl _ _) ?_
          repeat (go_big_quiet_step ((go_at_call 132; exact Calls.ext_of (by simp) (order_any px py x y _))))
          refine wpQuiet_nil ?_
          rintro _ ⟨⟨wq, hq⟩, rfl⟩
          clear e0 e1 e2 e3 e4 e5
          go_wp2
          go_ret
          exact ⟨ret_int (by rw [HC2.out, HPP.out]; simp [HB.out]), (hfin.alloc (by omega) _).trans (hq.mono (by omega))⟩
    · go_wp2
      go_ret
      have : k = es.length := by omega
      exact ⟨ret_int (by rw [HR.out, this]; simp [checkE]), hfin⟩
end Go.Proofs.YtbkacbbhiecnkaaDoor
