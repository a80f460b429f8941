/- The contract of the program's count of triangles of a run, by groups of nodes. -/
import Derived.Test.YtdkmdcdoiaelfaaExAmg
import Derived.Test.YtdkmdcdoiaelfaaExFns
import Derived.Test.YtdkmdcdoiaelfaaRefRun
import Derived.Deep.RegionHeld3
import Derived.Deep.DeepCutAuto
import Derived.BigQuiet
namespace Go.Proofs.Ytdkmdcdoiaelfaa
open Go.RowKit Go.BigFrame

/-- a sum over the numbers from a on -/
def sumQ (f : Nat → Nat) (a : Nat) : Nat → Nat
  | 0 => 0
  | n + 1 => sumQ f a n + f (a + n)
theorem sumQ_step (f : Nat → Nat) (a n : Nat) : sumQ f a (n + 1) = sumQ f a n + f (a + n) := rfl
theorem sumQ_le (f : Nat → Nat) (a b : Nat) (h : ∀ x, f x ≤ b) : ∀ n, sumQ f a n ≤ n * b
  | 0 => Nat.zero_le _
  | n + 1 => by
    have := sumQ_le f a b h n
    have := h (a + n)
    unfold sumQ
    rw [Nat.add_mul]; omega
/-- a sum over all groups i, j, k in order -/
def cubeJ (F : Nat → Nat → Nat → Nat) (g i : Nat) (j : Nat) : Nat := sumQ (F i j) j (g - j)
def cubeI (F : Nat → Nat → Nat → Nat) (g : Nat) (i : Nat) : Nat := sumQ (cubeJ F g i) i (g - i)
def cubeR (F : Nat → Nat → Nat → Nat) (g : Nat) : Nat := sumQ (cubeI F g) 0 g
/-- a node of one of the groups -/
def inG (g i j k : Nat) (v : Int) : Bool := v.tmod g == (i : Int) || (v.tmod g == (j : Int) || v.tmod g == (k : Int))
def partX (rs : List E2) (g i j k : Nat) : List E2 := rs.filter fun e => inG g i j k e.1 && inG g i j k e.2
def triF (rs : List E2) (g i j k : Nat) : Nat := amN (partX rs g i j k) g [(i : Int), (j : Int), (k : Int)] (partX rs g i j k)
def redF (rs : List E2) (g i j k : Nat) : Nat := (partX rs g i j k).length
/-- what Triangles answers -/
def triXR (size g : Int) (rs : List E2) : Nat × Nat × Int :=
  if (graphR size 64 rs).2.2 ≠ 0 then (0, 0, (graphR size 64 rs).2.2) else if g < 1 ∨ 16 < g then (0, 0, 1) else (cubeR (triF rs g.toNat) g.toNat, cubeR (redF rs g.toNat) g.toNat, 0)
theorem amN_le (part : List E2) (g : Int) (W : List Int) (l : List E2) : amN part g W l ≤ l.length * part.length := by
  induction l with
  | nil => exact Nat.zero_le _
  | cons x l ih =>
    have h : amN part g W (x :: l) = amX part g W x + amN part g W l := by simp [amN]
    have := amX_le part g W x
    rw [h, List.length_cons, Nat.add_mul]; omega
theorem partX_le (rs : List E2) (g i j k : Nat) : (partX rs g i j k).length ≤ rs.length := List.length_filter_le _ _
theorem triF_le (rs : List E2) (g i j k : Nat) (h : rs.length ≤ 1000) : triF rs g i j k ≤ 1000000 := by
  have h1 := amN_le (partX rs g i j k) g [(i : Int), (j : Int), (k : Int)] (partX rs g i j k)
  have h2 := partX_le rs g i j k
  have h3 : (partX rs g i j k).length * (partX rs g i j k).length ≤ 1000 * 1000 := Nat.mul_le_mul (by omega) (by omega)
  unfold triF; omega
/-- a bound for what has been added -/
def bS (i m q : Nat) : Nat := (i * 256 + m * 16 + q) * 1000000
theorem bS_z : bS 0 0 0 = 0 := rfl
theorem bS_q {i m q s x : Nat} (h : s ≤ bS i m q) (hx : x ≤ 1000000) : s + x ≤ bS i m (q + 1) := by
  unfold bS at *
  have : (i * 256 + m * 16 + (q + 1)) * 1000000 = (i * 256 + m * 16 + q) * 1000000 + 1000000 := by rw [← Nat.add_assoc, Nat.add_mul _ 1, Nat.one_mul]
  omega
theorem bS_m {i m q s : Nat} (h : s ≤ bS i m q) (hq : q ≤ 16) : s ≤ bS i (m + 1) 0 := Nat.le_trans h (Nat.mul_le_mul_right _ (by omega))
theorem bS_i {i m s : Nat} (h : s ≤ bS i m 0) (hm : m ≤ 16) : s ≤ bS (i + 1) 0 0 := Nat.le_trans h (Nat.mul_le_mul_right _ (by omega))
theorem bS_max {i m q s : Nat} (h : s ≤ bS i m q) (hi : i ≤ 16) (hm : m ≤ 16) (hq : q ≤ 16) : s ≤ 5000000000 := Nat.le_trans h (Nat.le_trans (Nat.mul_le_mul_right 1000000 (show i * 256 + m * 16 + q ≤ 5000 by omega)) (by decide))
set_option maxHeartbeats 1600000 in
theorem trin_any (v : Int) (G i j k A3 A11 A12 A13 : Nat) (w : World) (_hv0 : 0 ≤ v) (_hv64 : v < 64) (hG : 1 ≤ G) (hG2 : G ≤ 16)
    (h3 : w.cell? ⟨A3, 0, none⟩ = some (.int .i64 (G : Int))) (h11 : w.cell? ⟨A11, 0, none⟩ = some (.int .i64 (i : Int))) (h12 : w.cell? ⟨A12, 0, none⟩ = some (.int .i64 (j : Int))) (h13 : w.cell? ⟨A13, 0, none⟩ = some (.int .i64 (k : Int))) :
    Calls Try.prog 56 #[.int .i64 v, .pointer (some ⟨A3, 0, none⟩), .pointer (some ⟨A11, 0, none⟩), .pointer (some ⟨A12, 0, none⟩), .pointer (some ⟨A13, 0, none⟩)] w fun e w' => e = .returned (.bool (inG G i j k v)) ∧ ∃ m, w' = w.drewN m := by
  have hG0 : ((G : Int) == 0) = false := by simp; omega
  have hG1 : ¬ (G : Int) = 0 := by omega
  have hG3 : ¬ G = 0 := by omega
  unfold inG
  obtain ⟨B1, d1⟩ : ∃ B, (v.tmod G == (i : Int)) = B := ⟨_, rfl⟩
  obtain ⟨B2, d2⟩ : ∃ B, (v.tmod G == (j : Int)) = B := ⟨_, rfl⟩
  obtain ⟨B3, d3⟩ : ∃ B, (v.tmod G == (k : Int)) = B := ⟨_, rfl⟩
  rw [d1, d2, d3]
  cases B1 <;> cases B2 <;> cases B3
  all_goals
    go_enter Try.func56, Try.ntmps56
    go_wp2_with fail
    go_quiet (fail)
    go_wp2_with fail
    go_ret
    exact ⟨rfl, _, rfl⟩
theorem meas_lt {w w' : World} {p p' : Addr} {k G : Nat} (h' : w'.cell? p' = some (.int .i64 ((k + 1 : Nat) : Int))) (h : w.cell? p = some (.int .i64 (k : Int))) (hk : k < G) : G - (intOf ((w'.cell? p').getD default)).toNat < G - (intOf ((w.cell? p).getD default)).toNat := by
  rw [h', h]; simp [intOf]; omega
theorem trin_b (v : Int) (G i j k A3 A11 A12 A13 : Nat) (w : World) (hv0 : 0 ≤ v) (hv64 : v < 64) (hG : 1 ≤ G) (hG2 : G ≤ 16)
    (h3 : w.cell? ⟨A3, 0, none⟩ = some (.int .i64 (G : Int))) (h11 : w.cell? ⟨A11, 0, none⟩ = some (.int .i64 (i : Int))) (h12 : w.cell? ⟨A12, 0, none⟩ = some (.int .i64 (j : Int))) (h13 : w.cell? ⟨A13, 0, none⟩ = some (.int .i64 (k : Int))) :
    Calls Try.prog 56 #[.int .i64 v, .pointer (some ⟨A3, 0, none⟩), .pointer (some ⟨A11, 0, none⟩), .pointer (some ⟨A12, 0, none⟩), .pointer (some ⟨A13, 0, none⟩)] w fun e w' => e = .returned (.bool (inG G i j k v)) ∧ Below w.heap.size w w' := by
  refine (trin_any v G i j k A3 A11 A12 A13 w hv0 hv64 hG hG2 h3 h11 h12 h13).mono ?_
  rintro e w' ⟨rfl, m, rfl⟩
  exact ⟨rfl, (Below.refl _ _).drewN m⟩
/-- the boxes: the run, the number of groups -/
structure TrW (w : World) (size g : Int) (sl : Value) (wr : World) : Prop where
  r : wr.heap[w.heap.size]? = some (.cells #[.int .i64 size, sl] 33 (0, 0))
  n : wr.heap[w.heap.size + 1]? = some (.cells #[.int .i64 g] 3 (0, 0))
  be : Below w.heap.size w wr
section
variable {w wr w' : World} {size g : Int} {sl : Value}
theorem TrW.next (h : TrW w size g sl wr) (hb : Below wr.heap.size wr w') : TrW w size g sl w' := ⟨lit_next' hb h.r, lit_next' hb h.n, h.be.trans (hb.mono h.be.size)⟩
theorem TrW.start (w : World) (size g : Int) (sl : Value) : TrW w size g sl ((w.alloc (.cells #[.int .i64 size, sl] 33)).alloc (.cells #[.int .i64 g] 3)) := by
  have h1 := heap_alloc_new w (.cells #[.int .i64 size, sl] 33)
  have h2 := heap_alloc_new (w.alloc (.cells #[.int .i64 size, sl] 33)) (.cells #[.int .i64 g] 3)
  have hz : (w.alloc (.cells #[.int .i64 size, sl] 33)).heap.size = w.heap.size + 1 := by simp
  rw [hz] at h2
  exact ⟨(Below.heap_alloc _ _ _ (blk_lt h1)).trans h1, h2, ((Below.refl _ _).alloc (Nat.le_refl _) _).alloc (by simp) _⟩
theorem TrW.cells (h : TrW w size g sl wr) : wr.cell? ⟨w.heap.size, 1, none⟩ = some sl ∧ wr.cell? ⟨w.heap.size + 1, 0, none⟩ = some (.int .i64 g) ∧ wr.cell? ⟨w.heap.size, 0, none⟩ = some (.int .i64 size) := ⟨cell_blk h.r, cell_blk h.n, cell_blk h.r⟩
end
def T3Post (w : World) (x : Nat × Nat × Int) (e : Ending) (w' : World) : Prop := e = .returned (.tuple #[.int .i64 (x.1 : Int), .int .i64 (x.2.1 : Int), .int .i64 x.2.2]) ∧ Below w.heap.size w w'
set_option maxRecDepth 100000 in
set_option maxHeartbeats 6400000 in
theorem extri_any (size g : Int) (a : Option Addr) (cap : Nat) (rs : List E2) (w : World) (he : EdgesAt w (.slice a rs.length cap) rs) (hl : rs.length ≤ 1000) :
    Calls Try.prog 19 #[.agg #[.int .i64 size, .slice a rs.length cap], .int .i64 g] w (T3Post w (triXR size g rs)) := by
  have h0 := TrW.start w size g (.slice a rs.length cap)
  obtain ⟨wA, hwA⟩ : ∃ W : World, W = (w.alloc (.cells #[.int .i64 size, .slice a rs.length cap] 33)).alloc (.cells #[.int .i64 g] 3) := ⟨_, rfl⟩
  rw [← hwA] at h0
  have HWA := Lib.hid hwA
  clear hwA
  have hgr := rungraph_any size 64 a cap rs wA (he.below h0.be) (by omega)
  unfold triXR T3Post
  obtain ⟨⟨k, es, C⟩, hG⟩ : ∃ F, graphR size 64 rs = F := ⟨_, rfl⟩
  rw [hG] at hgr ⊢
  unfold RGPost at hgr
  dsimp only at hgr ⊢
  obtain ⟨k1, n0, k0⟩ := h0.cells
  by_cases hz : C = 0
  case neg =>
    rw [if_pos hz]
    have d1 : (C != 0) = true := by simpa using hz
    clear hz hG
    go_enter Try.func19, Try.ntmps19
    go_wp2_with (rw [← HWA.out])
    refine hgr.mono ?_
    rintro e w1 ⟨ag, cg, rfl, -, -, hb1⟩
    have hb01 := h0.be.trans (hb1.mono h0.be.size)
    go_wp2_with fail
    go_ret3
    exact ⟨rfl, hb01.alloc hb01.size _⟩
  subst hz
  rw [if_neg (by simp)]
  obtain ⟨n, -, -, hv, hrs, -, -⟩ := graphR_of hG
  have HRO : Hid (∀ e ∈ rs, recOk e = true) := (show ∀ e ∈ rs, _ from fun e h => (recN_ok hv e (hrs ▸ h)).1)
  clear hG hv hrs
  by_cases hg : g < 1 ∨ 16 < g
  case pos =>
    rw [if_pos hg]
    obtain ⟨B1, hB1⟩ : ∃ B, decide (g < 1) = B := ⟨_, rfl⟩
    have hB2 : B1 = false → decide (16 < g) = true := fun e => by rw [e] at hB1; simp at hB1; simp; omega
    clear hg
    cases B1
    case true =>
      clear hB2
      go_enter Try.func19, Try.ntmps19
      go_wp2_with (rw [← HWA.out])
      refine hgr.mono ?_
      rintro e w1 ⟨ag, cg, rfl, -, -, hb1⟩
      obtain ⟨-, hbG⟩ := boxG_new w1 #[.int .i64 k, .slice ag es.length cg] 27
      have h1 := h0.next (hb1.trans (hbG.mono hb1.size))
      clear k1 n0 k0
      obtain ⟨k1, n0, k0⟩ := h1.cells
      go_wp2_with fail
      go_ret3
      exact ⟨rfl, h1.be⟩
    case false =>
      have d2 := hB2 rfl
      clear hB2
      go_enter Try.func19, Try.ntmps19
      go_wp2_with (rw [← HWA.out])
      refine hgr.mono ?_
      rintro e w1 ⟨ag, cg, rfl, -, -, hb1⟩
      obtain ⟨-, hbG⟩ := boxG_new w1 #[.int .i64 k, .slice ag es.length cg] 27
      have h1 := h0.next (hb1.trans (hbG.mono hb1.size))
      clear k1 n0 k0
      obtain ⟨k1, n0, k0⟩ := h1.cells
      go_wp2_with fail
      go_ret3
      exact ⟨rfl, h1.be⟩
  rw [if_neg hg]
  have dg1 : decide (g < 1) = false := by simp; omega
  have dg2 : decide (16 < g) = false := by simp; omega
  obtain ⟨G, rfl⟩ := Int.eq_ofNat_of_zero_le (show 0 ≤ g by omega)
  have hG1 : 1 ≤ G := by omega
  have hG2 : G ≤ 16 := by omega
  clear hg
  dsimp only
  rw [Int.toNat_natCast]
  have hF1 := fun i j k => triF_le rs G i j k hl
  have hF2 := fun i j k => partX_le rs G i j k
  obtain ⟨FS, hFS⟩ : ∃ F, triF rs G = F := ⟨_, rfl⟩
  obtain ⟨FC, hFC⟩ : ∃ F, redF rs G = F := ⟨_, rfl⟩
  rw [hFS] at hF1 ⊢
  rw [hFC]
  have HF1 : Hid (∀ i j k, FS i j k ≤ 1000000) := hF1
  have HF2 : Hid (∀ i j k, FC i j k ≤ 1000) := (show ∀ i j k, _ from fun i j k => by rw [← hFC]; exact Nat.le_trans (hF2 i j k) hl)
  have HFS := Lib.hid hFS
  have HFC := Lib.hid hFC
  obtain ⟨RS, hRS⟩ : ∃ R, cubeR FS G = R := ⟨_, rfl⟩
  obtain ⟨RC, hRC⟩ : ∃ R, cubeR FC G = R := ⟨_, rfl⟩
  rw [hRS, hRC]
  have HRS := Lib.hid hRS
  have HRC := Lib.hid hRC
  clear hF1 hF2 hFS hFC hRS hRC
  go_enter Try.func19, Try.ntmps19
  go_wp2_with (rw [← HWA.out])
  refine hgr.mono ?_
  rintro e w1 ⟨ag, cg, rfl, -, -, hb1⟩
  obtain ⟨-, hbG⟩ := boxG_new w1 #[.int .i64 k, .slice ag es.length cg] 27
  have h1 := h0.next (hb1.trans (hbG.mono hb1.size))
  obtain ⟨w2, hw2⟩ : ∃ W : World, W = w1.alloc (.cells #[.int .i64 k, .slice ag es.length cg] 27) := ⟨_, rfl⟩
  rw [← hw2] at h1
  have HW2 := Lib.hid hw2
  clear k1 n0 k0 hw2 hbG hb1 h0 hgr
  obtain ⟨k1, n0, k0⟩ := h1.cells
  go_upto_region 2 with fail
  rw [← HW2.out]
  go_wp2_with fail
  clear k1 n0 k0
  go_loopw [9, 10, 33] (fun vs vc vi wr => ∃ i s c : Nat, i ≤ G ∧ vi = .int .i64 i ∧ vs = .int .i64 s ∧ vc = .int .i64 c ∧ Hid (s = sumQ (cubeI FS G) 0 i) ∧ Hid (c = sumQ (cubeI FC G) 0 i) ∧ s ≤ bS i 0 0 ∧ c ≤ bS i 0 0 ∧ Below w2.heap.size w2 wr) (fun _ _ vi _ => G - (intOf vi).toNat)
  case atStart => exact ⟨0, 0, 0, Nat.zero_le _, rfl, rfl, rfl, (show _ = _ from rfl), (show _ = _ from rfl), Nat.le_refl _, Nat.le_refl _, Below.refl _ _⟩
  case round =>
    obtain ⟨i, s, c, hi, rfl, rfl, rfl, HS, HC, hsb, hcb, hb⟩ := hrel
    by_cases hlt : i < G
    · have hlt3 : (i : Int) < G := by omega
      have hWr := h1.next hb
      have hb11 := (Below.refl wr.heap.size wr).alloc (Nat.le_refl _) (.cells #[.int .i64 (i : Int)] 3)
      have hx11 := heap_alloc_new wr (.cells #[.int .i64 (i : Int)] 3)
      have hW11 := hWr.next hb11
      have hbr11 := hb.trans (hb11.mono hb.size)
      obtain ⟨B11, hB11⟩ : ∃ B, wr.heap.size = B := ⟨_, rfl⟩
      obtain ⟨w11, hw11⟩ : ∃ W : World, W = wr.alloc (.cells #[.int .i64 (i : Int)] 3) := ⟨_, rfl⟩
      rw [← hw11] at hx11 hW11 hbr11
      rw [hB11] at hx11
      have HW11 := Lib.hid hw11
      have HB11 := Lib.hid hB11
      clear hw11 hB11 hb11 hb hWr
      obtain ⟨k1, n0, k0⟩ := hW11.cells
      have c11 : w11.cell? ⟨B11, 0, none⟩ = some (.int .i64 (i : Int)) := cells1R hx11
      go_upto_region 10 with fail
      rw [← HW11.out, HB11.out]
      have hb12 := (Below.refl w11.heap.size w11).alloc (Nat.le_refl _) (.cells #[.int .i64 (i : Int)] 3)
      have hx12 := heap_alloc_new w11 (.cells #[.int .i64 (i : Int)] 3)
      obtain ⟨w12, hw12⟩ : ∃ W : World, W = w11.alloc (.cells #[.int .i64 (i : Int)] 3) := ⟨_, rfl⟩
      rw [← hw12] at hx12 hb12
      have HW12 := Lib.hid hw12
      clear hw12
      go_wp2_with (rw [← HW12.out])
      clear k1 n0 k0 c11
      go_loopw [9, 10, 12] (fun vs vc vj wr => ∃ j m s2 c2 Bj : Nat, j ≤ G ∧ i ≤ j ∧ vj = .pointer (some ⟨Bj, 0, none⟩) ∧ vs = .int .i64 s2 ∧ vc = .int .i64 c2 ∧ Hid (j = i + m) ∧ m ≤ 16 ∧ Hid (s2 = s + sumQ (cubeJ FS G i) i m) ∧ Hid (c2 = c + sumQ (cubeJ FC G i) i m) ∧ s2 ≤ bS i m 0 ∧ c2 ≤ bS i m 0 ∧ w11.heap.size ≤ Bj ∧ wr.heap[Bj]? = some (.cells #[.int .i64 (j : Int)] 3 (0, 0)) ∧ Below w11.heap.size w11 wr) (fun _ _ vj wr => match vj with | .pointer (some ad) => G - (intOf ((wr.cell? ad).getD default)).toNat | _ => 0)
      case atStart => exact ⟨i, 0, s, c, w11.heap.size, by omega, Nat.le_refl _, rfl, rfl, rfl, (show _ = _ from rfl), Nat.zero_le _, (show s = s + 0 from rfl), (show c = c + 0 from rfl), hsb, hcb, Nat.le_refl _, hx12, hb12⟩
      case round =>
        clear hx12 hb12
        obtain ⟨j, m, s2, c2, Bj, hj, hij, rfl, rfl, rfl, HJ, hm, HS2, HC2, hs2, hc2, hBj, hxj, hbj⟩ := hrel
        obtain ⟨wJ, rfl⟩ : ∃ W : World, W = wr := ⟨_, rfl⟩
        have hWj := hW11.next hbj
        obtain ⟨k1, n0, k0⟩ := hWj.cells
        have cj : wJ.cell? ⟨Bj, 0, none⟩ = some (.int .i64 (j : Int)) := cells1R hxj
        by_cases hltj : j < G
        · have hltj3 : (j : Int) < G := by omega
          have dj : decide (j < G) = true := by simpa using hltj
          have hb13 := (Below.refl wJ.heap.size wJ).alloc (Nat.le_refl _) (.cells #[.int .i64 (j : Int)] 3)
          have hx13 := heap_alloc_new wJ (.cells #[.int .i64 (j : Int)] 3)
          obtain ⟨w13, hw13⟩ : ∃ W : World, W = wJ.alloc (.cells #[.int .i64 (j : Int)] 3) := ⟨_, rfl⟩
          rw [← hw13] at hx13 hb13
          have HW13 := Lib.hid hw13
          clear hw13
          go_wp2_with (rw [← HW13.out])
          clear k1 n0 k0 cj
          go_loopw [9, 10, 13] (fun vs vc vk wr3 => ∃ l q s3 c3 Bk : Nat, l ≤ G ∧ j ≤ l ∧ vk = .pointer (some ⟨Bk, 0, none⟩) ∧ vs = .int .i64 s3 ∧ vc = .int .i64 c3 ∧ Hid (l = j + q) ∧ q ≤ 16 ∧ Hid (s3 = s2 + sumQ (FS i j) j q) ∧ Hid (c3 = c2 + sumQ (FC i j) j q) ∧ s3 ≤ bS i m q ∧ c3 ≤ bS i m q ∧ wJ.heap.size ≤ Bk ∧ wr3.heap[Bk]? = some (.cells #[.int .i64 (l : Int)] 3 (0, 0)) ∧ Below wJ.heap.size wJ wr3) (fun _ _ vk wr3 => match vk with | .pointer (some ad) => G - (intOf ((wr3.cell? ad).getD default)).toNat | _ => 0)
          case atStart => exact ⟨j, 0, s2, c2, wJ.heap.size, by omega, Nat.le_refl _, rfl, rfl, rfl, (show _ = _ from rfl), Nat.zero_le _, (show s2 = s2 + 0 from rfl), (show c2 = c2 + 0 from rfl), hs2, hc2, Nat.le_refl _, hx13, hb13⟩
          case round =>
            clear hx13 hb13
            obtain ⟨l, q, s3, c3, Bk, hl, hjl, rfl, rfl, rfl, HL, hq, HS3, HC3, hs3, hc3, hBk, hxk, hbk⟩ := hrel
            obtain ⟨wK, rfl⟩ : ∃ W : World, W = wr := ⟨_, rfl⟩
            have hWk := hWj.next hbk
            have hxj3 := lit_next' hbk hxj
            have hx113 := lit_next' hbk (lit_next' hbj hx11)
            obtain ⟨k1, n0, k0⟩ := hWk.cells
            have c11 : wK.cell? ⟨B11, 0, none⟩ = some (.int .i64 (i : Int)) := cells1R hx113
            have cj : wK.cell? ⟨Bj, 0, none⟩ = some (.int .i64 (j : Int)) := cells1R hxj3
            have ck : wK.cell? ⟨Bk, 0, none⟩ = some (.int .i64 (l : Int)) := cells1R hxk
            by_cases hltk : l < G
            · have hltk3 : (l : Int) < G := by omega
              have dk : decide (l < G) = true := by simpa using hltk
              obtain ⟨F, hF⟩ : ∃ F : E2 → Bool, (fun e : E2 => inG G i j l e.1 && inG G i j l e.2) = F := ⟨_, rfl⟩
              have HFF : Hid (∀ x y : Int, F (x, y) = (inG G i j l x && inG G i j l y)) := (show ∀ x y : Int, _ from fun x y => by rw [← hF])
              have HPX : Hid (rs.filter F = partX rs G i j l) := (show _ = _ by rw [← hF]; rfl)
              clear hF
              go_wp2_with fail
              go_loopw [15, 52] (fun vp vi wr => ∃ (t : Nat) (P : List E2), t ≤ rs.length ∧ vi = .int .i64 t ∧ Hid (P = (rs.take t).filter F) ∧ P.length ≤ t ∧ wr.ownsRow wK.heap.size 37 2 vp P.length (flatE P) ∧ Below wK.heap.size wK wr) (fun _ vi _ => rs.length - (intOf vi).toNat)
              case atStart => exact ⟨0, [], Nat.zero_le _, rfl, (show _ = _ by simp), Nat.le_refl _, World.ownsRow_nil _ _ _ _, Below.refl _ _⟩
              case round =>
                obtain ⟨t, P, ht, rfl, HP, hPt, hown, hbt⟩ := hrel
                obtain ⟨ao, co, hvo⟩ := owns_shape hown
                subst hvo
                have hWt := hWk.next hbt
                by_cases hltt : t < rs.length
                · have hltt3 : (t : Int) < rs.length := by omega
                  obtain ⟨b, off, x, y, rfl, hxy, -, -, e0, e1⟩ := (he.below hWt.be).at t hltt
                  have hro := (recOk_iff _).1 (HRO.out _ (List.mem_of_getElem? hxy))
                  dsimp only at hro
                  obtain ⟨hx0, hx64, hy0, hy64⟩ : 0 ≤ x ∧ x < 64 ∧ 0 ≤ y ∧ y < 64 := by omega
                  have htk : (rs.take (t + 1)).filter F = P ++ (if F (x, y) = true then [(x, y)] else []) := by
                    rw [take_at _ _ _ hxy, List.filter_append, ← HP.out]
                    congr 1
                    cases hf : F (x, y) <;> simp [hf]
                  rw [HFF.out] at htk
                  have HTK := Lib.hid htk
                  obtain ⟨hXX, hXb⟩ := box_pair wr x y 37
                  have hbX := hbt.trans (hXb.mono hbt.size)
                  have hownX := hown.kept (grown_of_below hXb) (Classical.em _)
                  obtain ⟨wX, hwX⟩ : ∃ W : World, W = wr.alloc (.cells #[.int .i64 x, .int .i64 y] 37) := ⟨_, rfl⟩
                  obtain ⟨X, hX⟩ : ∃ X, wr.heap.size = X := ⟨_, rfl⟩
                  rw [← hwX] at hXX hbX hownX
                  rw [hX] at hXX
                  have HWX := Lib.hid hwX
                  have HX := Lib.hid hX
                  clear hwX hX hXb hown hWt htk hxy HP hro hbt
                  obtain ⟨x0, x1⟩ := cells2R hXX
                  have m0 := (hbX.cell (p := ⟨w.heap.size + 1, 0, none⟩) (cell_lt n0)).trans n0
                  have m11 := (hbX.cell (p := ⟨B11, 0, none⟩) (cell_lt c11)).trans c11
                  have mj := (hbX.cell (p := ⟨Bj, 0, none⟩) (cell_lt cj)).trans cj
                  have mk := (hbX.cell (p := ⟨Bk, 0, none⟩) (cell_lt ck)).trans ck
                  have htx := trin_b x G i j l (w.heap.size + 1) B11 Bj Bk wX hx0 hx64 hG1 hG2 m0 m11 mj mk
                  obtain ⟨D1, hD1⟩ : ∃ D, inG G i j l x = D := ⟨_, rfl⟩
                  rw [hD1] at htx
                  have HD1 := Lib.hid hD1
                  clear hD1
                  go_upto_region 21 with fail
                  rw [← HWX.out, HX.out]
                  cases D1
                  · have HT2 : Hid (P = (rs.take (t + 1)).filter F) := (show _ = _ by rw [HTK.out, HD1.out]; simp)
                    go_wp2_with fail
                    refine htx.mono ?_
                    rintro e w6 ⟨rfl, hb6⟩
                    have hb7 := hbX.trans (hb6.mono hbX.size)
                    have hown7 := hownX.kept (grown_of_below hb6) (Classical.em _)
                    go_wp2_with fail
                    go_roundw
                    case rel => exact ⟨t + 1, P, by omega, by go_num, HT2, by omega, hown7, hb7⟩
                    case measure => simp [intOf]; omega
                  go_wp2_with fail
                  refine htx.mono ?_
                  rintro e w6 ⟨rfl, hb6⟩
                  have hb7 := hbX.trans (hb6.mono hbX.size)
                  have hown7 := hownX.kept (grown_of_below hb6) (Classical.em _)
                  have hX7 := lit_next' hb6 hXX
                  clear x0 x1 m0 m11 mj mk
                  obtain ⟨x0, x1⟩ := cells2R hX7
                  have m0 := (hb7.cell (p := ⟨w.heap.size + 1, 0, none⟩) (cell_lt n0)).trans n0
                  have m11 := (hb7.cell (p := ⟨B11, 0, none⟩) (cell_lt c11)).trans c11
                  have mj := (hb7.cell (p := ⟨Bj, 0, none⟩) (cell_lt cj)).trans cj
                  have mk := (hb7.cell (p := ⟨Bk, 0, none⟩) (cell_lt ck)).trans ck
                  have hty := trin_b y G i j l (w.heap.size + 1) B11 Bj Bk w6 hy0 hy64 hG1 hG2 m0 m11 mj mk
                  obtain ⟨D2, hD2⟩ : ∃ D, inG G i j l y = D := ⟨_, rfl⟩
                  rw [hD2] at hty
                  have HD2 := Lib.hid hD2
                  clear hD2 hXX hownX hb6 htx
                  cases D2
                  · have HT2 : Hid (P = (rs.take (t + 1)).filter F) := (show _ = _ by rw [HTK.out, HD1.out, HD2.out]; simp)
                    go_wp2_with fail
                    refine hty.mono ?_
                    rintro e w8 ⟨rfl, hb8⟩
                    have hb9 := hb7.trans (hb8.mono hb7.size)
                    have hown9 := hown7.kept (grown_of_below hb8) (Classical.em _)
                    go_wp2_with fail
                    go_roundw
                    case rel => exact ⟨t + 1, P, by omega, by go_num, HT2, by omega, hown9, hb9⟩
                    case measure => simp [intOf]; omega
                  have HT2 : Hid (P ++ [(x, y)] = (rs.take (t + 1)).filter F) := (show _ = _ by rw [HTK.out, HD1.out, HD2.out]; simp)
                  go_wp2_with fail
                  refine hty.mono ?_
                  rintro e w8 ⟨rfl, hb8⟩
                  have hb9 := hb7.trans (hb8.mono hb7.size)
                  have hown9 := hown7.kept (grown_of_below hb8) (Classical.em _)
                  have hX9 := lit_next' hb8 hX7
                  clear x0 x1 m0 m11 mj mk
                  obtain ⟨x0, x1⟩ := cells2R hX9
                  have hlx := edges_lit1 w8 x y 37
                  have hownA := hown9.alloc (.cells #[.int .i64 x, .int .i64 y] 37)
                  have hbA := hb9.alloc hb9.size (.cells #[.int .i64 x, .int .i64 y] 37)
                  clear hb7 hown7 hX7 hb8 hty
                  go_wp2_with (at_builtin; refine wpList_app_edges pairsT rfl _ _ rfl wK.heap.size (.slice ao P.length co) _ P [(x, y)] rfl ?_ rfl ?_ ?_ ?_ ?_)
                  case refine_1 => exact hownA
                  case refine_2 => exact hlx
                  case refine_3 => simp; omega
                  case refine_4 => exact hbA.size
                  intro v9 wZ hownZ hgZ
                  have hbZ := hbA.grown hgZ hbA.size (fun j e => (hownA.lt j e).1)
                  have hPl : (P ++ [(x, y)]).length ≤ t + 1 := by simp; omega
                  go_wp2_with fail
                  go_roundw
                  case rel => exact ⟨t + 1, P ++ [(x, y)], by omega, by go_num, HT2, hPl, (by rw [List.length_append]; exact hownZ), hbZ⟩
                  case measure => simp [intOf]; omega
                · obtain rfl : t = rs.length := by omega
                  have hPf : P = partX rs G i j l := by rw [HP.out, List.take_length]; exact HPX.out
                  have hPr : ∀ e ∈ P, recOk e = true := fun e h => HRO.out e (by rw [hPf] at h; exact (List.mem_filter.1 h).1)
                  obtain ⟨a5, c5, e5, hiP, -⟩ := EdgesAt.of_owns hown (by omega)
                  cases e5
                  have ham := among_any G (i : Int) (j : Int) (l : Int) ao co P wr hiP (by omega) hPr hG1 hG2
                  obtain ⟨A, hA⟩ : ∃ A, amN P G [(i : Int), (j : Int), (l : Int)] P = A := ⟨_, rfl⟩
                  rw [hA] at ham
                  have hAF : A = FS i j l := by rw [← hA, hPf, ← HFS.out]; rfl
                  have hPC : P.length = FC i j l := by rw [hPf, ← HFC.out]; rfl
                  have hA1 : A ≤ 1000000 := by rw [hAF]; exact HF1.out i j l
                  have hP1 : P.length ≤ 1000000 := by omega
                  have hjl : l = j + q := HL.out
                  have HS5 : Hid (s3 + A = s2 + sumQ (FS i j) j (q + 1)) := (show _ = _ by rw [sumQ_step, ← Nat.add_assoc, ← HS3.out, hAF, ← hjl])
                  have HC5 : Hid (c3 + P.length = c2 + sumQ (FC i j) j (q + 1)) := (show _ = _ by rw [sumQ_step, ← Nat.add_assoc, ← HC3.out, hPC, ← hjl])
                  have HL2 : Hid (l + 1 = j + (q + 1)) := (show _ = _ by omega)
                  have hq2 : q + 1 ≤ 16 := by omega
                  have hs9 := bS_max hs3 (by omega) hm hq
                  have hc9 := bS_max hc3 (by omega) hm hq
                  have hs5 := bS_q hs3 hA1
                  have hc5 := bS_q hc3 hP1
                  have hbe := hbk.trans (hbt.mono hbk.size)
                  have m0 := (hbt.cell (p := ⟨w.heap.size + 1, 0, none⟩) (cell_lt n0)).trans n0
                  have m11 := (hbt.cell (p := ⟨B11, 0, none⟩) (cell_lt c11)).trans c11
                  have mj := (hbt.cell (p := ⟨Bj, 0, none⟩) (cell_lt cj)).trans cj
                  have mk := (hbt.cell (p := ⟨Bk, 0, none⟩) (cell_lt ck)).trans ck
                  clear hPf hPr hown hA hAF hPC hjl HP hiP
                  go_wp2_with fail
                  refine ham.mono ?_
                  rintro e wM ⟨rfl, hbM⟩
                  have hbf := hbe.trans (hbM.mono hbe.size)
                  have mk2 := (hbM.cell (p := ⟨Bk, 0, none⟩) (cell_lt mk)).trans mk
                  have hxn := heap_alloc_new wM (.cells #[.int .i64 ((l + 1 : Nat) : Int)] 3)
                  have hbn2 := hbf.alloc hbf.size (.cells #[.int .i64 ((l + 1 : Nat) : Int)] 3)
                  have cn := cells1R hxn
                  have hsz := hbf.size
                  go_wp2_with fail
                  go_roundw
                  case rel => exact ⟨l + 1, q + 1, s3 + A, c3 + P.length, wM.heap.size, by omega, by omega, rfl, by go_num, by go_num, HL2, hq2, HS5, HC5, hs5, hc5, hsz, hxn, hbn2⟩
                  case measure => exact meas_lt cn ck hltk
            · have hltk3 : ¬ (l : Int) < G := by omega
              have dk : decide (l < G) = false := by simpa using hltk
              have hqG : q = G - j := by have := HL.out; omega
              subst hqG
              have hjm : j = i + m := HJ.out
              have HS4 : Hid (s3 = s + sumQ (cubeJ FS G i) i (m + 1)) := (show _ = _ by rw [HS3.out, HS2.out, sumQ_step, ← hjm, Nat.add_assoc]; rfl)
              have HC4 : Hid (c3 = c + sumQ (cubeJ FC G i) i (m + 1)) := (show _ = _ by rw [HC3.out, HC2.out, sumQ_step, ← hjm, Nat.add_assoc]; rfl)
              have HJ2 : Hid (j + 1 = i + (m + 1)) := (show _ = _ by omega)
              have hm2 : m + 1 ≤ 16 := by omega
              have hbe := hbj.trans (hbk.mono hbj.size)
              have hxn := heap_alloc_new wK (.cells #[.int .i64 ((j + 1 : Nat) : Int)] 3)
              have hbn2 := hbe.alloc hbe.size (.cells #[.int .i64 ((j + 1 : Nat) : Int)] 3)
              have cn := cells1R hxn
              have hsz := hbe.size
              have cjJ : wJ.cell? ⟨Bj, 0, none⟩ = some (.int .i64 (j : Int)) := cells1R hxj
              clear hjm
              go_wp2_with fail
              go_roundw
              case rel => exact ⟨j + 1, m + 1, s3, c3, wK.heap.size, by omega, by omega, rfl, rfl, rfl, HJ2, hm2, HS4, HC4, bS_m hs3 hq, bS_m hc3 hq, hsz, hxn, hbn2⟩
              case measure => exact meas_lt cn cjJ hltj
        · have hltj3 : ¬ (j : Int) < G := by omega
          have hmG : m = G - i := by have := HJ.out; omega
          subst hmG
          have HS3 : Hid (s2 = sumQ (cubeI FS G) 0 (i + 1)) := (show _ = _ by rw [HS2.out, HS.out, sumQ_step, Nat.zero_add]; rfl)
          have HC3 : Hid (c2 = sumQ (cubeI FC G) 0 (i + 1)) := (show _ = _ by rw [HC2.out, HC.out, sumQ_step, Nat.zero_add]; rfl)
          have hbe := hbr11.trans (hbj.mono hbr11.size)
          go_wp2_with fail
          go_roundw
          case rel => exact ⟨i + 1, s2, c2, by omega, by go_num, rfl, rfl, HS3, HC3, bS_i hs2 hm, bS_i hc2 hm, hbe⟩
          case measure => simp [intOf]; omega
    · obtain rfl : i = G := by omega
      have hs : s = RS := by rw [HS.out]; exact HRS.out
      have hc : c = RC := by rw [HC.out]; exact HRC.out
      subst hs hc
      have hWr := h1.next hb
      go_wp2_with fail
      go_ret3
      exact ⟨rfl, hWr.be⟩
end Go.Proofs.Ytdkmdcdoiaelfaa
