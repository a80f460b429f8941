/- Contracts of the program's order of edges and of its check of a graph. -/
import Derived.Test.YtdkmdcdoiaelfaaGreatRefCheck
import Derived.Test.YtdkmdcdoiaelfaaGreatRef02
import Derived.Deep.RegionHeld3
namespace Go.Proofs.YtdkmdcdoiaelfaaGreat
open Go.RowKit Go.BigFrame

def orderS (a b : E2) : Int := orS [cmpS a.1 b.1, cmpS a.2 b.2]
theorem order_neg (a b : E2) (h : beforeB a b = true) : orderS a b < 0 := by
  rw [before_iff] at h
  unfold orderS orS orS orS cmpS
  split <;> split <;> (try split) <;> (try split) <;> omega
theorem order_pos (a b : E2) (h : beforeB a b = false) : 0 ≤ orderS a b := by
  have h' : ¬ (a.1 < b.1 ∨ (a.1 = b.1 ∧ a.2 < b.2)) := by rw [← before_iff, h]; simp
  unfold orderS orS orS orS cmpS
  split <;> split <;> (try split) <;> (try split) <;> omega

set_option maxRecDepth 100000 in
set_option maxHeartbeats 800000 in
theorem order_any (u v x y : Int) (w : World) :
    Calls Tryz.prog 81 #[.agg #[.int .i64 u, .int .i64 v], .agg #[.int .i64 x, .int .i64 y]] w fun e w' => e = .returned (.int .i64 (orderS (u, v) (x, y))) ∧ Below w.heap.size w w' := by
  have h0 := (cell_alloc (o := .cells #[.int .i64 x, .int .i64 y] 62) (cell_fresh w #[.int .i64 u, .int .i64 v] 62 0 _ rfl))
  have h1 := (cell_alloc (o := .cells #[.int .i64 x, .int .i64 y] 62) (cell_fresh w #[.int .i64 u, .int .i64 v] 62 1 _ rfl))
  have hz : (w.alloc (.cells #[.int .i64 u, .int .i64 v] 62)).heap.size = w.heap.size + 1 := by simp
  have h2 := cell_fresh (w.alloc (.cells #[.int .i64 u, .int .i64 v] 62)) #[.int .i64 x, .int .i64 y] 62 0 _ rfl
  have h3 := cell_fresh (w.alloc (.cells #[.int .i64 u, .int .i64 v] 62)) #[.int .i64 x, .int .i64 y] 62 1 _ rfl
  rw [hz] at h2 h3
  have hb2 := ((Below.refl w.heap.size w).alloc (Nat.le_refl _) (.cells #[.int .i64 u, .int .i64 v] 62)).alloc (by simp) (.cells #[.int .i64 x, .int .i64 y] 62)
  have H0 := Lib.hid h0
  have H1 := Lib.hid h1
  have H2 := Lib.hid h2
  have H3 := Lib.hid h3
  clear h0 h1 h2 h3 hz
  go_enter Tryz.func81, Tryz.ntmps81
  go_wp2_with fail
  go_region_held3 (fun w' => w'.cell? ⟨w.heap.size, 0, none⟩ = some (.int .i64 u) ∧ w'.cell? ⟨w.heap.size, 1, none⟩ = some (.int .i64 v) ∧ w'.cell? ⟨w.heap.size + 1, 0, none⟩ = some (.int .i64 x) ∧ w'.cell? ⟨w.heap.size + 1, 1, none⟩ = some (.int .i64 y))
    (first | exact ⟨H0.out, H1.out, H2.out, H3.out⟩ | exact ⟨cell_alloc H0.out, cell_alloc H1.out, cell_alloc H2.out, cell_alloc H3.out⟩)
    (first
      | (go_at_call 93; refine (cmp_any _ _ _).mono ?_; rintro e w' ⟨rfl, rfl⟩)
      | (go_at_call 92; refine (or_any _ _ [cmpS u x, cmpS v y] _ (by exact ints_lit2 _ _ (by simp) _ _ _)).mono ?_; rintro e w' ⟨rfl, rfl⟩))
  go_wp2
  go_ret
  exact ⟨rfl, (hb2.alloc (by simp; omega) _).drew⟩

set_option maxRecDepth 100000 in
set_option maxHeartbeats 1600000 in
theorem gcheck_any (n : Int) (a : Option Addr) (cap : Nat) (es : List E2) (w : World) (he : EdgesAt w (.slice a es.length cap) es) :
    Calls Tryz.prog 63 #[.agg #[.int .i64 n, .slice a es.length cap]] w fun e w' => e = .returned (.int .i64 (checkS n es)) ∧ Below w.heap.size w w' := by
  obtain ⟨a', cap', hv, _, _, hl, hcell⟩ := he
  obtain ⟨rfl, _, rfl⟩ : a = a' ∧ True ∧ cap = cap' := by simpa using hv
  clear hv
  have H := Lib.hid hcell
  clear hcell
  by_cases h0 : n < 0
  · go_enter Tryz.func63, Tryz.ntmps63
    go_wp2
    go_ret
    exact ⟨by simp [checkS, h0], (Below.refl _ _).alloc (Nat.le_refl _) _⟩
  by_cases h1 : 64 < n
  · go_enter Tryz.func63, Tryz.ntmps63
    go_wp2
    go_ret
    exact ⟨by simp [checkS, h1], (Below.refl _ _).alloc (Nat.le_refl _) _⟩
  have HS : Hid (checkS n es = checkE n none es) := by show _ = _; simp [checkS, h0, h1]
  go_enter Tryz.func63, Tryz.ntmps63
  go_wp2
  go_loopw [16] (fun i wr => ∃ k : Nat, k ≤ es.length ∧ i = .int .i64 k ∧ Below (w.heap.size + 1) (w.alloc (.cells #[.int .i64 n, .slice a es.length cap] 25)) wr ∧ checkS n es = checkE n (prevE es k) (es.drop k)) (fun i _ => es.length - (intOf i).toNat)
  case atStart => exact ⟨0, Nat.zero_le _, rfl, Below.refl _ _, HS.out⟩
  case round =>
    obtain ⟨k, hk, rfl, hb, hres⟩ := hrel
    have HR := Lib.hid hres
    clear hres HS
    have b0 := cell_new hb 0 _ rfl
    have b1 := cell_new hb 1 _ rfl
    have hz : w.heap.size < wr.heap.size := by have := hb.size; simp at this; omega
    have hfin : Below w.heap.size w wr := ((Below.refl _ _).alloc (Nat.le_refl _) _).trans (hb.mono (by omega))
    by_cases hlt : k < es.length
    · obtain ⟨⟨x, y⟩, hxy⟩ : ∃ p, es[k]? = some p := ⟨_, List.getElem?_eq_getElem hlt⟩
      obtain ⟨b, off, rfl, c0, c1⟩ := H.out k _ hxy
      dsimp only at c0 c1
      have hz2 : b < wr.heap.size := by have := cell_lt c0; omega
      replace c0 := cell_old hb c0
      replace c1 := cell_old hb c1
      have hcd := checkE_drop n (prevE es k) es k (x, y) hxy
      rw [← HR.out] at hcd
      have HC := Lib.hid hcd
      have HXY := Lib.hid hxy
      clear hcd hxy
      by_cases hbad : x < 0 ∨ y ≤ x ∨ n ≤ y
      · have HF : Hid (checkS n es = 6) := by show _ = _; rw [HC.out, if_pos hbad]
        rcases (by omega : x < 0 ∨ (0 ≤ x ∧ y ≤ x) ∨ (0 ≤ x ∧ x < y ∧ n ≤ y)) with h | h | h
        · go_wp2
          go_ret
          exact ⟨ret_int HF.out.symm, hfin.alloc (by omega) _⟩
        · obtain ⟨g1, g2⟩ := h
          go_wp2
          go_ret
          exact ⟨ret_int HF.out.symm, hfin.alloc (by omega) _⟩
        · obtain ⟨g1, g2, g3⟩ := h
          go_wp2
          go_ret
          exact ⟨ret_int HF.out.symm, hfin.alloc (by omega) _⟩
      have h4 : 0 ≤ x := by omega
      have h5 : x < y := by omega
      have h6 : y < n := by omega
      have HC2 : Hid (checkS n es = if (prevE es k).any (fun p => !beforeB p (x, y)) then 5 else checkE n (some (x, y)) (es.drop (k + 1))) := by show _ = _; rw [HC.out, if_neg hbad]
      have HP : Hid (prevE es (k + 1) = some (x, y)) := by show _ = _; simp only [prevE]; rw [if_neg (by omega)]; simpa using HXY.out
      clear hbad HC HR
      by_cases hp : k = 0
      · have hp1 : decide (0 < (k : Int)) = false := by simp [hp]
        have hp2 : decide (0 < k) = false := by simp [hp]
        have HK := Lib.hid hp
        clear hp
        go_wp2
        refine wp_region_ext (wr.heap.size + 1) (wr.alloc (.cells #[.int .i64 x, .int .i64 y] 62)) (by kernel_rfl) (by kernel_rfl) (Below.refl _ _) ?_
        repeat (go_big_quiet_step (fail))
        refine wpQuiet_nil ?_
        rintro _ ⟨⟨wq, hq⟩, rfl⟩
        go_wp2
        go_roundw
        case rel => exact ⟨k + 1, by omega, by go_num, (hb.alloc (by omega) _).trans (hq.mono (by omega)), by rw [HC2.out, HP.out, HK.out]; simp [prevE]⟩
        case measure => simp [intOf]; omega
      · have hp1 : (0 : Int) < (k : Int) := by omega
        have hp2 : 0 < k := by omega
        obtain ⟨⟨px, py⟩, hpe⟩ : ∃ p, es[k - 1]? = some p := ⟨_, List.getElem?_eq_getElem (by omega)⟩
        obtain ⟨b', off', hbo, d0, d1⟩ := H.out (k - 1) _ hpe
        obtain ⟨rfl, rfl⟩ : b = b' ∧ off = off' := by simpa using hbo
        clear hbo
        dsimp only at d0 d1
        replace d0 := cell_old hb d0
        replace d1 := cell_old hb d1
        have HPP : Hid (prevE es k = some (px, py)) := by show _ = _; simp only [prevE]; rw [if_neg hp]; exact hpe
        clear hpe hp
        by_cases hbf : beforeB (px, py) (x, y) = true
        · have HB : Hid (beforeB (px, py) (x, y) = true) := hbf
          have hord := order_neg (px, py) (x, y) hbf
          go_wp2
          have e0 : ∀ z : Ext (wr.heap.size + 1) (wr.alloc (.cells #[.int .i64 x, .int .i64 y] 62)), z.world.cell? ⟨wr.heap.size, 0, none⟩ = some (.int .i64 x) := fun z => cell_new z.below 0 _ rfl
          have e1 : ∀ z : Ext (wr.heap.size + 1) (wr.alloc (.cells #[.int .i64 x, .int .i64 y] 62)), z.world.cell? ⟨wr.heap.size, 1, none⟩ = some (.int .i64 y) := fun z => cell_new z.below 1 _ rfl
          have e2 : ∀ z : Ext (wr.heap.size + 1) (wr.alloc (.cells #[.int .i64 x, .int .i64 y] 62)), z.world.cell? ⟨w.heap.size, 0, none⟩ = some (.int .i64 n) := fun z => cell_old z.below b0
          have e3 : ∀ z : Ext (wr.heap.size + 1) (wr.alloc (.cells #[.int .i64 x, .int .i64 y] 62)), z.world.cell? ⟨w.heap.size, 1, none⟩ = some (.slice (some ⟨b, off, none⟩) es.length cap) := fun z => cell_old z.below b1
          have e4 : ∀ z : Ext (wr.heap.size + 1) (wr.alloc (.cells #[.int .i64 x, .int .i64 y] 62)), z.world.cell? ⟨b, off + (k - 1) * 2, none⟩ = some (.int .i64 px) := fun z => cell_old z.below d0
          have e5 : ∀ z : Ext (wr.heap.size + 1) (wr.alloc (.cells #[.int .i64 x, .int .i64 y] 62)), z.world.cell? ⟨b, off + (k - 1) * 2 + 1, none⟩ = some (.int .i64 py) := fun z => cell_old z.below d1
          refine wp_region_ext (wr.heap.size + 1) (wr.alloc (.cells #[.int .i64 x, .int .i64 y] 62)) (by kernel_rfl) (by kernel_rfl) (Below.refl _ _) ?_
          repeat (go_big_quiet_step ((go_at_call 81; exact Calls.ext_of (by simp) (order_any px py x y _))))
          refine wpQuiet_nil ?_
          rintro _ ⟨⟨wq, hq⟩, rfl⟩
          clear e0 e1 e2 e3 e4 e5
          go_wp2
          go_roundw
          case rel => exact ⟨k + 1, by omega, by go_num, (hb.alloc (by omega) _).trans (hq.mono (by omega)), by rw [HC2.out, HP.out, HPP.out]; simp [HB.out]⟩
          case measure => simp [intOf]; omega
        · have hbf' : beforeB (px, py) (x, y) = false := by simpa using hbf
          have HB : Hid (beforeB (px, py) (x, y) = false) := hbf'
          have hord := order_pos (px, py) (x, y) hbf'
          clear hbf
          go_wp2
          have e0 : ∀ z : Ext (wr.heap.size + 1) (wr.alloc (.cells #[.int .i64 x, .int .i64 y] 62)), z.world.cell? ⟨wr.heap.size, 0, none⟩ = some (.int .i64 x) := fun z => cell_new z.below 0 _ rfl
          have e1 : ∀ z : Ext (wr.heap.size + 1) (wr.alloc (.cells #[.int .i64 x, .int .i64 y] 62)), z.world.cell? ⟨wr.heap.size, 1, none⟩ = some (.int .i64 y) := fun z => cell_new z.below 1 _ rfl
          have e2 : ∀ z : Ext (wr.heap.size + 1) (wr.alloc (.cells #[.int .i64 x, .int .i64 y] 62)), z.world.cell? ⟨w.heap.size, 0, none⟩ = some (.int .i64 n) := fun z => cell_old z.below b0
          have e3 : ∀ z : Ext (wr.heap.size + 1) (wr.alloc (.cells #[.int .i64 x, .int .i64 y] 62)), z.world.cell? ⟨w.heap.size, 1, none⟩ = some (.slice (some ⟨b, off, none⟩) es.length cap) := fun z => cell_old z.below b1
          have e4 : ∀ z : Ext (wr.heap.size + 1) (wr.alloc (.cells #[.int .i64 x, .int .i64 y] 62)), z.world.cell? ⟨b, off + (k - 1) * 2, none⟩ = some (.int .i64 px) := fun z => cell_old z.below d0
          have e5 : ∀ z : Ext (wr.heap.size + 1) (wr.alloc (.cells #[.int .i64 x, .int .i64 y] 62)), z.world.cell? ⟨b, off + (k - 1) * 2 + 1, none⟩ = some (.int .i64 py) := fun z => cell_old z.below d1
          refine wp_region_ext (wr.heap.size + 1) (wr.alloc (.cells #[.int .i64 x, .int .i64 y] 62)) (by kernel_rfl) (by kernel_rfl) (Below.refl _ _) ?_
          repeat (go_big_quiet_step ((go_at_call 81; exact Calls.ext_of (by simp) (order_any px py x y _))))
          refine wpQuiet_nil ?_
          rintro _ ⟨⟨wq, hq⟩, rfl⟩
          clear e0 e1 e2 e3 e4 e5
          go_wp2
          go_ret
          exact ⟨ret_int (by rw [HC2.out, HPP.out]; simp [HB.out]), (hfin.alloc (by omega) _).trans (hq.mono (by omega))⟩
    · go_wp2
      go_ret
      have : k = es.length := by omega
      exact ⟨ret_int (by rw [HR.out, this]; simp [checkE]), hfin⟩
end Go.Proofs.YtdkmdcdoiaelfaaGreat
