/- The contracts of the reference's runs: node, right, has, Check, Graph (printed by wip/mkexg.py). The contracts of ref09.Degrees, ref36.Degrees, Pass, Cores (printed by wip/mkex36.py). The contracts of ref34.Neighbours, ref36.Supports, ref36.Triangles (printed by wip/mkexn.py). -/
import Derived.Test.YtdkmdcdoiaelfaaRefBld
import Derived.Test.YtdkmdcdoiaelfaaGrid
import Derived.BigQuiet
import Derived.Test.YtdkmdcdoiaelfaaExCor
import Derived.Test.YtdkmdcdoiaelfaaRef09
import Derived.Test.YtdkmdcdoiaelfaaRef03
import Derived.Test.YtdkmdcdoiaelfaaHeldK
import Derived.Test.YtdkmdcdoiaelfaaExSup
import Derived.Test.YtdkmdcdoiaelfaaRdsP
namespace Go.Proofs.Ytdkmdcdoiaelfaa
open Go.RowKit Go.BigFrame

theorem ext_cellG {W : World} {b o : Nat} {v : Value} (h : W.cell? ⟨b, o, none⟩ = some v) : ∀ e : Ext W.heap.size W, e.world.cell? ⟨b, o, none⟩ = some v := fun e => (e.below.cell (p := ⟨b, o, none⟩) (cell_lt h)).trans h
theorem node34_any (v : Int) (w : World) : Calls Try.prog 147 #[.int .i64 v] w fun e w' => e = .returned (.bool (decide (0 ≤ v) && decide (v < 64))) ∧ Below w.heap.size w w' := by
  obtain ⟨A, hA⟩ : ∃ A, decide (0 ≤ v) = A := ⟨_, rfl⟩
  obtain ⟨B, hB⟩ : ∃ A, decide (v < 64) = A := ⟨_, rfl⟩
  rw [hA, hB]
  cases A <;> cases B
  all_goals
    go_enter Try.func147, Try.ntmps147
    go_wp2_with fail
    go_ret
    exact ⟨rfl, Below.refl _ _⟩
theorem right34_any (x y : Int) (w : World) : Calls Try.prog 123 #[.agg #[.int .i64 x, .int .i64 y]] w fun e w' => e = .returned (.bool (recOk (x, y))) ∧ Below w.heap.size w w' := by
  obtain ⟨hX0, hb0⟩ := boxG_new w #[.int .i64 x, .int .i64 y] 37
  obtain ⟨wA, hwA⟩ : ∃ W : World, W = w.alloc (.cells #[.int .i64 x, .int .i64 y] 37) := ⟨_, rfl⟩
  rw [← hwA] at hX0 hb0
  have HWA := Lib.hid hwA
  clear hwA
  have hn1 := node34_any x wA
  have hrec : recOk (x, y) = ((decide (0 ≤ x) && decide (x < 64)) && (decide (0 ≤ y) && decide (y < 64)) && decide (x ≠ y)) := rfl
  have hn2 := fun W => node34_any y W
  obtain ⟨A, hA⟩ : ∃ A, (decide (0 ≤ x) && decide (x < 64)) = A := ⟨_, rfl⟩
  obtain ⟨B, hB⟩ : ∃ A, (decide (0 ≤ y) && decide (y < 64)) = A := ⟨_, rfl⟩
  rw [hA] at hn1 hrec
  rw [hB] at hrec
  simp only [hB] at hn2
  rw [hrec]
  clear hrec hA hB
  obtain ⟨x0, x1⟩ := cells2R hX0
  go_enter Try.func123, Try.ntmps123
  go_wp2_with (rw [← HWA.out])
  refine hn1.mono ?_
  rintro e w1 ⟨rfl, hb1⟩
  have hX1 := lit_next' hb1 hX0
  have hb01 := hb0.trans (hb1.mono hb0.size)
  clear x0 x1
  obtain ⟨x0, x1⟩ := cells2R hX1
  cases A with
  | false =>
    go_wp2_with fail
    go_ret
    exact ⟨by simp, hb01⟩
  | true =>
    go_wp2_with fail
    refine (hn2 _).mono ?_
    rintro e w2 ⟨rfl, hb2⟩
    have hX2 := lit_next' hb2 hX1
    have hb02 := hb01.trans (hb2.mono hb01.size)
    clear x0 x1
    obtain ⟨x0, x1⟩ := cells2R hX2
    cases B with
    | false =>
      go_wp2_with fail
      go_ret
      exact ⟨by simp, hb02⟩
    | true =>
      by_cases hxy : x = y
      · subst hxy
        go_wp2_with fail
        go_ret
        exact ⟨by simp, hb02⟩
      · have hne : decide (x = y) = false := by simpa using hxy
        have hnb : (x == y) = false := by simpa using hxy
        go_wp2_with fail
        go_ret
        exact ⟨by simp [hxy], hb02⟩
set_option maxRecDepth 100000 in
theorem has34_any (a : Option Addr) (cap : Nat) (rs : List E2) (x y : Int) (w : World) (he : EdgesAt w (.slice a rs.length cap) rs) : Calls Try.prog 124 #[.slice a rs.length cap, .agg #[.int .i64 x, .int .i64 y]] w fun e w' => e = .returned (.bool (rs.contains (x, y))) ∧ Below w.heap.size w w' := by
  have hl : rs.length ≤ 70368744177664 := by obtain ⟨_, _, _, _, _, h, _⟩ := he; exact h
  obtain ⟨hX0, hb0⟩ := boxG_new w #[.int .i64 x, .int .i64 y] 37
  obtain ⟨wA, hwA⟩ : ∃ W : World, W = w.alloc (.cells #[.int .i64 x, .int .i64 y] 37) := ⟨_, rfl⟩
  rw [← hwA] at hX0 hb0
  have heA := he.below hb0
  obtain ⟨B, hB⟩ : ∃ B, rs.contains (x, y) = B := ⟨_, rfl⟩
  rw [hB]
  have HB : Hid ((rs.drop 0).contains (x, y) = B) := (show _ = _ by rw [List.drop_zero]; exact hB)
  have HWA := Lib.hid hwA
  clear hwA hB
  go_enter Try.func124, Try.ntmps124
  go_upto_region 2 with fail
  rw [← HWA.out]
  go_loopw [5] (fun vi wr => ∃ k : Nat, k ≤ rs.length ∧ vi = .int .i64 (k : Int) ∧ Hid ((rs.drop k).contains (x, y) = B) ∧ Below wA.heap.size wA wr) (fun vi _ => rs.length - (intOf vi).toNat)
  case atStart => exact ⟨0, Nat.zero_le _, rfl, HB, Below.refl _ _⟩
  case round =>
    obtain ⟨k, hk, rfl, HK, hb⟩ := hrel
    have hXr := lit_next' hb hX0
    obtain ⟨x0, x1⟩ := cells2R hXr
    have hbw := hb0.trans (hb.mono hb0.size)
    by_cases hlt : k < rs.length
    · have hlt3 : (k : Int) < rs.length := by omega
      obtain ⟨b, off, u, v, rfl, -, hd, -, c0, c1⟩ := (heA.below hb).at k hlt
      have h1 := HK.out
      rw [hd, List.contains_cons] at h1
      by_cases hxy : u = x ∧ v = y
      · obtain ⟨rfl, rfl⟩ := hxy
        have hBt : B = true := by rw [← h1]; simp
        subst hBt
        have heqq := fun W => eq2_yes u v W
        clear h1 hd HK
        go_wp2_with fail
        go_quiet (fail)
        go_wp2
        go_ret
        exact ⟨rfl, hbw.drewN _⟩
      · have HK2 : Hid ((rs.drop (k + 1)).contains (x, y) = B) := (show _ = _ by
          rw [← h1]
          have : ((x, y) == (u, v)) = false := by
            rw [beq_eq_false_iff_ne]; intro e
            exact hxy ⟨(congrArg Prod.fst e).symm, (congrArg Prod.snd e).symm⟩
          rw [this, Bool.false_or])
        have heqq := fun W => eq2_no u v x y hxy W
        have hcase : ¬ u = x ∨ (u = x ∧ ¬ v = y) := by
          by_cases h1 : u = x
          · exact .inr ⟨h1, fun h2 => hxy ⟨h1, h2⟩⟩
          · exact .inl h1
        clear h1 hd HK hxy
        go_wp2_with fail
        go_quiet (fail)
        have hbn := hb.drewN nq
        go_wp2
        go_roundw
        case rel => exact ⟨k + 1, by omega, by go_num, HK2, hbn⟩
        case measure => simp [intOf]; omega
    · obtain rfl : rs.length = k := by omega
      have h1 := HK.out
      rw [List.drop_length] at h1
      have hBf : B = false := by rw [← h1]; rfl
      subst hBf
      clear h1 HK
      go_wp2_with fail
      go_ret
      exact ⟨rfl, hbw⟩
/-- the record before -/
def prevR (rs : List E2) (k : Nat) : Option E2 := if k = 0 then none else rs[k - 1]?
set_option maxRecDepth 100000 in
set_option maxHeartbeats 3200000 in
theorem check34_any (size : Int) (a : Option Addr) (cap : Nat) (rs : List E2) (w : World) (he : EdgesAt w (.slice a rs.length cap) rs) : Calls Try.prog 122 #[.agg #[.int .i64 size, .slice a rs.length cap]] w fun e w' => e = .returned (.int .i64 (chkR size rs)) ∧ Below w.heap.size w w' := by
  have hl : rs.length ≤ 70368744177664 := by obtain ⟨_, _, _, _, _, h, _⟩ := he; exact h
  obtain ⟨hX0, hb0⟩ := boxG_new w #[.int .i64 size, .slice a rs.length cap] 33
  obtain ⟨wA, hwA⟩ : ∃ W : World, W = w.alloc (.cells #[.int .i64 size, .slice a rs.length cap] 33) := ⟨_, rfl⟩
  rw [← hwA] at hX0 hb0
  have heA := he.below hb0
  have HWA := Lib.hid hwA
  clear hwA
  obtain ⟨x0, x1⟩ := cells2R hX0
  by_cases hs : size < 1 ∨ 1024 < size
  case pos =>
    have hc : chkR size rs = 1 := by unfold chkR; rw [if_pos hs]
    rw [hc]
    obtain ⟨B1, hB1⟩ : ∃ B, decide (size < 1) = B := ⟨_, rfl⟩
    have hB2 : B1 = false → decide (1024 < size) = true := fun e => by rw [e] at hB1; simp at hB1; simp; omega
    clear hs hc
    cases B1
    case true =>
      clear hB2
      go_enter Try.func122, Try.ntmps122
      go_upto_region 1 with fail
      rw [← HWA.out]
      go_wp2_with fail
      go_ret
      exact ⟨rfl, hb0⟩
    case false =>
      have d2 := hB2 rfl
      clear hB2
      go_enter Try.func122, Try.ntmps122
      go_upto_region 1 with fail
      rw [← HWA.out]
      go_wp2_with fail
      go_ret
      exact ⟨rfl, hb0⟩
  have d1 : decide (size < 1) = false := by simp; omega
  have d2 : decide (1024 < size) = false := by simp; omega
  have hc : chkR size rs = chkRec none rs := by unfold chkR; rw [if_neg hs]
  rw [hc]
  clear hs hc
  obtain ⟨C, hC⟩ : ∃ C, chkRec none rs = C := ⟨_, rfl⟩
  rw [hC]
  have HC : Hid (chkRec (prevR rs 0) (rs.drop 0) = C) := (show _ = _ by rw [List.drop_zero]; exact hC)
  clear hC
  go_enter Try.func122, Try.ntmps122
  go_upto_region 1 with fail
  rw [← HWA.out]
  go_upto_region 4 with fail
  clear x0 x1
  go_loopw [3] (fun vi wr => ∃ k : Nat, k ≤ rs.length ∧ vi = .int .i64 (k : Int) ∧ Hid (chkRec (prevR rs k) (rs.drop k) = C) ∧ Below wA.heap.size wA wr) (fun vi _ => rs.length - (intOf vi).toNat)
  case atStart => exact ⟨0, Nat.zero_le _, rfl, HC, Below.refl _ _⟩
  case round =>
    obtain ⟨k, hk, rfl, HK, hb⟩ := hrel
    have hXr := lit_next' hb hX0
    obtain ⟨x0, x1⟩ := cells2R hXr
    have hbw := hb0.trans (hb.mono hb0.size)
    have heR := heA.below hb
    by_cases hlt : k < rs.length
    · have hlt3 : (k : Int) < rs.length := by omega
      obtain ⟨b, off, u, v, rfl, hget, hd, -, c0, c1⟩ := heR.at k hlt
      have h1 := HK.out
      rw [hd, chkRec] at h1
      have hri := right34_any u v wr
      obtain ⟨R, hR⟩ : ∃ R, recOk (u, v) = R := ⟨_, rfl⟩
      rw [hR] at hri h1
      cases R
      case false =>
        rw [if_pos rfl] at h1
        subst h1
        clear hd HK hget
        go_wp2_with fail
        refine hri.mono ?_
        rintro e w1 ⟨rfl, hb1⟩
        go_wp2_with fail
        go_ret
        exact ⟨rfl, hbw.trans (hb1.mono hbw.size)⟩
      case true =>
      rw [if_neg (by simp)] at h1
      have hprev : prevR rs (k + 1) = some (u, v) := by unfold prevR; rw [if_neg (by omega), Nat.add_sub_cancel]; exact hget
      have HP := Lib.hid hprev
      go_wp2_with fail
      refine hri.mono ?_
      rintro e w1 ⟨rfl, hb1⟩
      have hb1w := hb.trans (hb1.mono hb.size)
      have hX1 := lit_next' hb1 hXr
      have k0' := (hb1.cell (p := ⟨b, off + k * 2, none⟩) (cell_lt c0)).trans c0
      have k1' := (hb1.cell (p := ⟨b, off + k * 2 + 1, none⟩) (cell_lt c1)).trans c1
      clear x0 x1 hri c0 c1
      obtain ⟨x0', x1'⟩ := cells2R hX1
      have x0 := ext_cellG x0'
      have x1 := ext_cellG x1'
      have c0 := ext_cellG k0'
      have c1 := ext_cellG k1'
      clear x0' x1' k0' k1'
      by_cases hk0 : k = 0
      · subst hk0
        have h2 : chkRec (some (u, v)) (rs.drop (0 + 1)) = C := by rw [← h1]; rfl
        have HK2 : Hid (chkRec (prevR rs (0 + 1)) (rs.drop (0 + 1)) = C) := (show _ = _ by rw [hprev]; exact h2)
        clear h1 h2 hd HK hget hprev
        go_wp2_with fail
        refine wp_region_ext w1.heap.size w1 (by kernel_rfl) (by kernel_rfl) (Below.refl _ _) ?_
        repeat (go_big_quiet_step (fail))
        refine wpQuiet_nil ?_
        rintro wq ⟨⟨wq', hq⟩, hqq⟩
        obtain rfl : wq = wq' := hqq
        have hbq := hb1w.trans (hq.mono hb1w.size)
        clear x0 x1 c0 c1
        go_wp2
        go_roundw
        case rel => exact ⟨1, by omega, by go_num, HK2, hbq⟩
        case measure => simp [intOf]; omega
      · have hk0' : 0 < k := by omega
        have hkd : decide ((0 : Int) < k) = true := by simp; omega
        obtain ⟨b2, off2, p, q, e2, hget2, -, -, q0', q1'⟩ := heR.at (k - 1) (by omega)
        cases e2
        have hpv : prevR rs k = some (p, q) := by unfold prevR; rw [if_neg hk0]; exact hget2
        rw [hpv] at h1
        have hkm : (k : Int) - 1 = ((k - 1 : Nat) : Int) := by omega
        have hkl : k - 1 < rs.length := by omega
        have hkl3 : ((k - 1 : Nat) : Int) < rs.length := by omega
        have q0 := ext_cellG ((hb1.cell (p := ⟨b, off + (k - 1) * 2, none⟩) (cell_lt q0')).trans q0')
        have q1 := ext_cellG ((hb1.cell (p := ⟨b, off + (k - 1) * 2 + 1, none⟩) (cell_lt q1')).trans q1')
        have hbe := fun W => rbefore_any p q u v W
        obtain ⟨B, hB⟩ : ∃ B, beforeB (p, q) (u, v) = B := ⟨_, rfl⟩
        simp only [hB] at hbe
        rw [Option.any_some, hB] at h1
        obtain ⟨km, hkme⟩ : ∃ m, k - 1 = m := ⟨_, rfl⟩
        rw [hkme] at hkm hkl hkl3 q0 q1
        clear q0' q1' hget hget2 hpv hd HK hkme
        go_wp2_with fail
        refine wp_region_ext w1.heap.size w1 (by kernel_rfl) (by kernel_rfl) (Below.refl _ _) ?_
        repeat (go_big_quiet_step ((go_at_call 129; exact Calls.ext_of (Nat.le_refl _) (hbe _))))
        refine wpQuiet_nil ?_
        rintro wq ⟨⟨wq', hq⟩, hqq⟩
        obtain rfl : wq = wq' := hqq
        have hbq := hb1w.trans (hq.mono hb1w.size)
        clear x0 x1 c0 c1 q0 q1
        cases B
        case false =>
          rw [if_pos (by rfl)] at h1
          subst h1
          go_wp2
          go_ret
          exact ⟨rfl, hb0.trans (hbq.mono hb0.size)⟩
        case true =>
          have HK2 : Hid (chkRec (prevR rs (k + 1)) (rs.drop (k + 1)) = C) := (show _ = _ by rw [hprev, ← h1, if_neg (by simp)])
          clear h1 hprev
          go_wp2
          go_roundw
          case rel => exact ⟨k + 1, by omega, by go_num, HK2, hbq⟩
          case measure => simp [intOf]; omega
    · obtain rfl : rs.length = k := by omega
      have h1 := HK.out
      rw [List.drop_length, chkRec] at h1
      subst h1
      clear HK
      go_wp2_with fail
      go_ret
      exact ⟨rfl, hbw⟩
theorem ofE_fil {rs : List E2} (hs : rs.Pairwise fun a b => beforeB a b = true) (hk : ∀ e ∈ rs, recOk e = true) (hsym : rs.any (fun e => !rs.contains (e.2, e.1)) = false) : ofE rs = rs.filter fun e => decide (e.1 < e.2) := by
  have hsy : ∀ e ∈ rs, (e.2, e.1) ∈ rs := fun e he => by
    have := List.any_eq_false.1 hsym e he
    simpa using this
  have hasc : ∀ acc : List E2, acc.Pairwise (fun a b => beforeB a b = true) → ∀ l : List E2, (l.foldl (fun acc e => insE acc (edS e)) acc).Pairwise fun a b => beforeB a b = true := fun acc h l => by
    induction l generalizing acc with
    | nil => exact h
    | cons e l ih => exact ih _ (insE_sorted acc (edS e) h)
  refine order_one _ _ (hasc [] List.Pairwise.nil rs) (hs.sublist List.filter_sublist) fun x => ?_
  rw [ofE_mem, List.mem_filter]
  obtain ⟨a, b⟩ := x
  constructor
  · rintro ⟨⟨u, v⟩, he, hx⟩
    have h1 : a = min u v := congrArg Prod.fst hx
    have h2 : b = max u v := congrArg Prod.snd hx
    have hr := (recOk_iff (u, v)).1 (hk _ he)
    dsimp only at hr
    by_cases huv : u < v
    · have e1 : a = u := by omega
      have e2 : b = v := by omega
      rw [e1, e2]
      exact ⟨he, by simpa using huv⟩
    · have e1 : a = v := by omega
      have e2 : b = u := by omega
      rw [e1, e2]
      exact ⟨hsy _ he, by simp; omega⟩
  · rintro ⟨he, hlt⟩
    have hlt2 : a < b := by simpa using hlt
    exact ⟨(a, b), he, by unfold edS; dsimp only; rw [show min a b = a by omega, show max a b = b by omega]⟩
/-- the boxes: the run, and the graph that is handed back -/
structure G4W (w : World) (n : Int) (sl : Value) (wr : World) : Prop where
  g : wr.heap[w.heap.size]? = some (.cells #[.int .i64 n, sl] 33 (0, 0))
  o : wr.heap[w.heap.size + 1]? = some (.cells #[.int .i64 0, .slice none 0 0] 27 (0, 0))
  be : Below w.heap.size w wr
section
variable {w wr w' : World} {n : Int} {sl : Value}
theorem G4W.next (h : G4W w n sl wr) (hb : Below wr.heap.size wr w') : G4W w n sl w' := ⟨lit_next' hb h.g, lit_next' hb h.o, h.be.trans (hb.mono h.be.size)⟩
theorem G4W.base (h : G4W w n sl wr) : w.heap.size + 2 ≤ wr.heap.size := blk_lt h.o
theorem G4W.grown {r : Option Nat} (h : G4W w n sl wr) (hg : wr.grownBy w' r) (hr : ∀ k, r = some k → w.heap.size + 2 ≤ k) : G4W w n sl w' :=
  ⟨grown_blk hg h.g (fun e => by have := hr _ e.symm; omega), grown_blk hg h.o (fun e => by have := hr _ e.symm; omega), h.be.grown hg h.be.size (fun k e => by have := hr k e; omega)⟩
theorem G4W.start (w : World) (n : Int) (sl : Value) : G4W w n sl ((w.alloc (.cells #[.int .i64 n, sl] 33)).alloc (.cells #[.int .i64 0, .slice none 0 0] 27)) := by
  have h1 := heap_alloc_new w (.cells #[.int .i64 n, sl] 33)
  have h2 := heap_alloc_new (w.alloc (.cells #[.int .i64 n, sl] 33)) (.cells #[.int .i64 0, .slice none 0 0] 27)
  have hz : (w.alloc (.cells #[.int .i64 n, sl] 33)).heap.size = w.heap.size + 1 := by simp
  rw [hz] at h2
  exact ⟨(Below.heap_alloc _ _ _ (blk_lt h1)).trans h1, h2, ((Below.refl _ _).alloc (Nat.le_refl _) _).alloc (by simp) _⟩
theorem G4W.fin (h : G4W w n sl wr) (N : Int) {a : Option Addr} {cap : Nat} {ys : List E2} (he : EdgesAt wr (.slice a ys.length cap) ys) (ha : ∀ p, a = some p → w.heap.size + 2 ≤ p.block) :
    ((wr.setCell ⟨w.heap.size + 1, 0, none⟩ (.int .i64 N)).setCell ⟨w.heap.size + 1, 1, none⟩ (.slice a ys.length cap)).cell? ⟨w.heap.size + 1, 0, none⟩ = some (.int .i64 N) ∧
    ((wr.setCell ⟨w.heap.size + 1, 0, none⟩ (.int .i64 N)).setCell ⟨w.heap.size + 1, 1, none⟩ (.slice a ys.length cap)).cell? ⟨w.heap.size + 1, 1, none⟩ = some (.slice a ys.length cap) ∧
    EdgesAt ((wr.setCell ⟨w.heap.size + 1, 0, none⟩ (.int .i64 N)).setCell ⟨w.heap.size + 1, 1, none⟩ (.slice a ys.length cap)) (.slice a ys.length cap) ys ∧ Below w.heap.size w ((wr.setCell ⟨w.heap.size + 1, 0, none⟩ (.int .i64 N)).setCell ⟨w.heap.size + 1, 1, none⟩ (.slice a ys.length cap)) := by
  have hfin := set_two (u := .int .i64 N) (v := .slice a ys.length cap) h.o
  have hg9 : wr.grownBy ((wr.setCell ⟨w.heap.size + 1, 0, none⟩ (.int .i64 N)).setCell ⟨w.heap.size + 1, 1, none⟩ (.slice a ys.length cap)) (some (w.heap.size + 1)) := grown_trans grown_store grown_store
  exact ⟨cell_blk hfin, cell_blk hfin, he.grown hg9 (fun g e n c p ep => by cases e; have := ha p (Value.slice.inj ep).1; omega), h.be.grown hg9 h.be.size (fun k hk => by cases hk; omega)⟩
end
set_option maxRecDepth 100000 in
set_option maxHeartbeats 6400000 in
theorem graph34_any (size m : Int) (a : Option Addr) (cap : Nat) (rs : List E2) (w : World) (he : EdgesAt w (.slice a rs.length cap) rs) (hl : rs.length ≤ 100000) :
    Calls Try.prog 80 #[.agg #[.int .i64 size, .slice a rs.length cap], .int .i64 m] w (RGPost w (graphR size m rs)) := by
  have h0 := G4W.start w size (.slice a rs.length cap)
  obtain ⟨wA, hwA⟩ : ∃ W : World, W = (w.alloc (.cells #[.int .i64 size, .slice a rs.length cap] 33)).alloc (.cells #[.int .i64 0, .slice none 0 0] 27) := ⟨_, rfl⟩
  rw [← hwA] at h0
  have HWA := Lib.hid hwA
  clear hwA
  have hck := check34_any size a cap rs wA (he.below h0.be)
  unfold RGPost
  obtain ⟨⟨RN, RE, RC⟩, hRES⟩ : ∃ F, graphR size m rs = F := ⟨_, rfl⟩
  rw [hRES]
  dsimp only
  obtain ⟨C, hC⟩ : ∃ C, chkR size rs = C := ⟨_, rfl⟩
  unfold graphR at hRES
  rw [hC] at hck hRES
  have HRES := Lib.hid hRES
  clear hRES
  obtain ⟨k0, k1⟩ := cells2R h0.g
  go_enter Try.func80, Try.ntmps80
  go_wp2_with (rw [← HWA.out])
  refine hck.mono ?_
  rintro e w1 ⟨rfl, hb1⟩
  have hW := h0.next hb1
  clear k0 k1 hck h0 hb1
  by_cases hz : C = 0
  case neg =>
    have hr := HRES.out
    rw [if_pos hz] at hr
    obtain ⟨rfl, h2⟩ := Prod.mk.inj hr
    obtain ⟨rfl, rfl⟩ := Prod.mk.inj h2
    clear hr h2 HRES
    have d1 : (C != 0) = true := by simpa using hz
    clear hz hC
    obtain ⟨t0, t1, hef, hbf⟩ := hW.fin (a := none) (cap := 0) (ys := []) 0 (edges_nilR _) (fun p h => by cases h)
    have f0 := free_blk (j := 0) hW.o
    have f1 := free_blk (j := 1) hW.o
    obtain ⟨r0, r1⟩ := cells2R hW.o
    dsimp only [List.length_nil] at t0 t1 hef hbf
    go_wp2_with fail
    exact bodyPost_ret (v := .tuple #[.agg #[.int .i64 0, .slice none 0 0], .int .i64 C]) (by simp [results, Try.results80, go_sem, t0, t1]) rfl ⟨none, 0, rfl, hef, (fun p h => by cases h), hbf⟩
  subst hz
  have hr := HRES.out
  rw [if_neg (by simp)] at hr
  have HRES := Lib.hid hr
  clear hr
  have hsort : Hid ((∀ e ∈ rs, recOk e = true) ∧ rs.Pairwise fun a b => beforeB a b = true) := (show _ ∧ rs.Pairwise _ by
    unfold chkR at hC
    split at hC
    · cases hC
    · exact ⟨(chkRec_of rs none hC).1, (chkRec_of rs none hC).2.1⟩)
  clear hC
  by_cases hm : m < 0 ∨ 64 < m
  · have hr := HRES.out
    rw [if_pos hm] at hr
    obtain ⟨rfl, h2⟩ := Prod.mk.inj hr
    obtain ⟨rfl, rfl⟩ := Prod.mk.inj h2
    clear hr h2 HRES
    by_cases hm0 : m < 0
    · have d1 : decide (m < 0) = true := by simpa using hm0
      clear hm hm0
      obtain ⟨t0, t1, hef, hbf⟩ := hW.fin (a := none) (cap := 0) (ys := []) 0 (edges_nilR _) (fun p h => by cases h)
      have f0 := free_blk (j := 0) hW.o
      have f1 := free_blk (j := 1) hW.o
      obtain ⟨r0, r1⟩ := cells2R hW.o
      dsimp only [List.length_nil] at t0 t1 hef hbf
      go_wp2_with fail
      exact bodyPost_ret (v := .tuple #[.agg #[.int .i64 0, .slice none 0 0], .int .i64 1]) (by simp [results, Try.results80, go_sem, t0, t1]) rfl ⟨none, 0, rfl, hef, (fun p h => by cases h), hbf⟩
    · have d1 : decide (m < 0) = false := by simpa using hm0
      have d2 : decide (64 < m) = true := by simp; omega
      clear hm hm0
      obtain ⟨t0, t1, hef, hbf⟩ := hW.fin (a := none) (cap := 0) (ys := []) 0 (edges_nilR _) (fun p h => by cases h)
      have f0 := free_blk (j := 0) hW.o
      have f1 := free_blk (j := 1) hW.o
      obtain ⟨r0, r1⟩ := cells2R hW.o
      dsimp only [List.length_nil] at t0 t1 hef hbf
      go_wp2_with fail
      exact bodyPost_ret (v := .tuple #[.agg #[.int .i64 0, .slice none 0 0], .int .i64 1]) (by simp [results, Try.results80, go_sem, t0, t1]) rfl ⟨none, 0, rfl, hef, (fun p h => by cases h), hbf⟩
  have hr := HRES.out
  rw [if_neg hm] at hr
  have d1 : decide (m < 0) = false := by simp; omega
  have d2 : decide (64 < m) = false := by simp; omega
  have hmm : 0 ≤ m ∧ m ≤ 64 := by omega
  clear hm
  obtain ⟨B, hB⟩ : ∃ B, rs.any (fun e => decide (m ≤ max e.1 e.2)) = B := ⟨_, rfl⟩
  rw [hB] at hr
  have HRES := Lib.hid hr
  have HB : Hid ((rs.drop 0).any (fun e => decide (m ≤ max e.1 e.2)) = B) := (show _ = _ by rw [List.drop_zero]; exact hB)
  have HBB := Lib.hid hB
  clear hr hB
  have HE1 := Lib.hid (he.below hW.be)
  go_upto_region 7 with fail
  go_loopw [7] (fun vi wr => ∃ k : Nat, k ≤ rs.length ∧ vi = .int .i64 (k : Int) ∧ Hid ((rs.drop k).any (fun e => decide (m ≤ max e.1 e.2)) = B) ∧ Below w1.heap.size w1 wr) (fun vi _ => rs.length - (intOf vi).toNat)
  case atStart => exact ⟨0, Nat.zero_le _, rfl, HB, Below.refl _ _⟩
  case round =>
    clear HB
    obtain ⟨k, hk, rfl, HK, hb⟩ := hrel
    have hW1 := hW
    have hW := hW1.next hb
    obtain ⟨k0, k1⟩ := cells2R hW.g
    by_cases hlt : k < rs.length
    · have hlt3 : (k : Int) < rs.length := by omega
      obtain ⟨b, off, u, v, rfl, -, hd, -, c0, c1⟩ := (HE1.out.below hb).at k hlt
      have h1 := HK.out
      rw [hd, List.any_cons] at h1
      by_cases hmx : m ≤ max u v
      · have hBt : B = true := by rw [← h1]; simp [hmx]
        subst hBt
        have hr := HRES.out
        rw [if_pos rfl] at hr
        obtain ⟨rfl, h2⟩ := Prod.mk.inj hr
        obtain ⟨rfl, rfl⟩ := Prod.mk.inj h2
        clear hr h2 HRES h1 hd HK
        by_cases hu : m ≤ u
        · have q1 : decide (m ≤ u) = true := by simpa using hu
          clear hu hmx
          obtain ⟨t0, t1, hef, hbf⟩ := hW.fin (a := none) (cap := 0) (ys := []) 0 (edges_nilR _) (fun p h => by cases h)
          have f0 := free_blk (j := 0) hW.o
          have f1 := free_blk (j := 1) hW.o
          obtain ⟨r0, r1⟩ := cells2R hW.o
          dsimp only [List.length_nil] at t0 t1 hef hbf
          go_wp2_with fail
          exact bodyPost_ret (v := .tuple #[.agg #[.int .i64 0, .slice none 0 0], .int .i64 6]) (by simp [results, Try.results80, go_sem, t0, t1]) rfl ⟨none, 0, rfl, hef, (fun p h => by cases h), hbf⟩
        · have q1 : decide (m ≤ u) = false := by simpa using hu
          have q2 : decide (m ≤ v) = true := by simp; omega
          clear hu hmx
          obtain ⟨t0, t1, hef, hbf⟩ := hW.fin (a := none) (cap := 0) (ys := []) 0 (edges_nilR _) (fun p h => by cases h)
          have f0 := free_blk (j := 0) hW.o
          have f1 := free_blk (j := 1) hW.o
          obtain ⟨r0, r1⟩ := cells2R hW.o
          dsimp only [List.length_nil] at t0 t1 hef hbf
          go_wp2_with fail
          exact bodyPost_ret (v := .tuple #[.agg #[.int .i64 0, .slice none 0 0], .int .i64 6]) (by simp [results, Try.results80, go_sem, t0, t1]) rfl ⟨none, 0, rfl, hef, (fun p h => by cases h), hbf⟩
      · have HK2 : Hid ((rs.drop (k + 1)).any (fun e => decide (m ≤ max e.1 e.2)) = B) := (show _ = _ by rw [← h1]; simp [hmx])
        have q1 : decide (m ≤ u) = false := by simp; omega
        have q2 : decide (m ≤ v) = false := by simp; omega
        clear h1 hd HK hmx
        go_wp2_with fail
        go_roundw
        case rel => exact ⟨k + 1, by omega, by go_num, HK2, hb⟩
        case measure => simp [intOf]; omega
    · obtain rfl : rs.length = k := by omega
      have h1 := HK.out
      rw [List.drop_length] at h1
      have hBf : B = false := by rw [← h1]; rfl
      subst hBf
      clear h1 HK
      have hr := HRES.out
      rw [if_neg (by simp)] at hr
      obtain ⟨D, hD⟩ : ∃ D, rs.any (fun e => !rs.contains (e.2, e.1)) = D := ⟨_, rfl⟩
      rw [hD] at hr
      have HRES := Lib.hid hr
      have HDD := Lib.hid hD
      have HD : Hid ((rs.drop 0).any (fun e => !rs.contains (e.2, e.1)) = D) := (show _ = _ by rw [List.drop_zero]; exact hD)
      clear hr hD
      have HE2 := Lib.hid (HE1.out.below hb)
      clear k0 k1 hW1
      obtain ⟨k0, k1⟩ := cells2R hW.g
      go_upto_region 13 with fail
      obtain ⟨w2, hw2⟩ : ∃ W : World, W = wr := ⟨_, rfl⟩
      rw [← hw2] at hW HE2 ⊢
      clear hw2 k0 k1 hb
      go_loopw [8, 9] (fun vl vi wr => ∃ (k : Nat) (PT : List E2), k ≤ rs.length ∧ vi = .int .i64 (k : Int) ∧ Hid ((rs.drop k).any (fun e => !rs.contains (e.2, e.1)) = D) ∧ Hid (PT = rs.take k) ∧ PT.length ≤ k ∧ wr.ownsRow w2.heap.size 73 2 vl PT.length (flatE PT) ∧ Below w2.heap.size w2 wr) (fun _ vi _ => rs.length - (intOf vi).toNat)
      case atStart => exact ⟨0, [], Nat.zero_le _, rfl, HD, (show _ = _ from rfl), Nat.le_refl _, World.ownsRow_nil _ _ _ _, Below.refl _ _⟩
      case round =>
        clear HD
        obtain ⟨k, PT, hk, rfl, HK, HPT, hPl, hown, hb⟩ := hrel
        obtain ⟨ao, co, hvo⟩ := owns_shape hown
        subst hvo
        have hW2 := hW
        have hW := hW2.next hb
        by_cases hlt : k < rs.length
        · have hlt3 : (k : Int) < rs.length := by omega
          have heR := HE2.out.below hb
          obtain ⟨b, off, u, v, rfl, hget, hd, -, c0', c1'⟩ := heR.at k hlt
          have h1 := HK.out
          rw [hd, List.any_cons] at h1
          have hhs := fun W (h : Below wr.heap.size wr W) => has34_any (some ⟨b, off, none⟩) cap rs v u W (heR.below h)
          obtain ⟨Hh, hHh⟩ : ∃ H, rs.contains (v, u) = H := ⟨_, rfl⟩
          simp only [hHh] at hhs h1
          obtain ⟨k0', k1'⟩ := cells2R hW.g
          have k0 := ext_cellG k0'
          have k1 := ext_cellG k1'
          have c0 := ext_cellG c0'
          have c1 := ext_cellG c1'
          have d3 : decide ((k : Int) < (rs.length : Int)) = true := by simpa using hlt
          go_wp2_with fail
          refine wp_region_ext wr.heap.size wr (by kernel_rfl) (by kernel_rfl) (Below.refl _ _) ?_
          try simp only [List.append_eq, List.cons_append, List.nil_append]
          repeat (go_big_quiet_step ((go_at_call 124; exact Calls.ext_of (Nat.le_refl _) (hhs _ (Ext.below _)))))
          refine wpQuiet_nil ?_
          rintro wq ⟨⟨wq', hq⟩, hqq⟩
          obtain rfl : wq = wq' := hqq
          clear k0 k1 c0 c1 k0' k1'
          have hW3 := hW.next hq
          have hbq := hb.trans (hq.mono hb.size)
          cases Hh
          case false =>
            have hDt : D = true := by rw [← h1]; simp
            subst hDt
            have hr := HRES.out
            rw [if_pos rfl] at hr
            obtain ⟨rfl, h2⟩ := Prod.mk.inj hr
            obtain ⟨rfl, rfl⟩ := Prod.mk.inj h2
            clear hr h2 HRES h1 hd HK
            have hW := hW3
            obtain ⟨t0, t1, hef, hbf⟩ := hW.fin (a := none) (cap := 0) (ys := []) 0 (edges_nilR _) (fun p h => by cases h)
            have f0 := free_blk (j := 0) hW.o
            have f1 := free_blk (j := 1) hW.o
            obtain ⟨r0, r1⟩ := cells2R hW.o
            dsimp only [List.length_nil] at t0 t1 hef hbf
            go_wp2
            exact bodyPost_ret (v := .tuple #[.agg #[.int .i64 0, .slice none 0 0], .int .i64 4]) (by simp [results, Try.results80, go_sem, t0, t1]) rfl ⟨none, 0, rfl, hef, (fun p h => by cases h), hbf⟩
          case true =>
          have HK2 : Hid ((rs.drop (k + 1)).any (fun e => !rs.contains (e.2, e.1)) = D) := (show _ = _ by rw [← h1]; simp)
          have htk : rs.take (k + 1) = rs.take k ++ [(u, v)] := take_at _ _ _ hget
          have hownq := hown.kept (grown_of_below hq) (Classical.em _)
          have g1c := (cells2R hW2.g).2
          obtain ⟨b', off', u', v', eb, hget', -, -, c01, c11⟩ := HE2.out.at k hlt
          cases eb
          obtain ⟨rfl, rfl⟩ : u' = u ∧ v' = v := by
            have := hget'.symm.trans hget
            exact ⟨congrArg Prod.fst (Option.some.inj this), congrArg Prod.snd (Option.some.inj this)⟩
          have hSS : ∀ W : World, Below w2.heap.size w2 W → W.cell? ⟨w.heap.size, 1, none⟩ = some (.slice (some ⟨b, off, none⟩) rs.length cap) ∧ W.cell? ⟨b, off + k * 2, none⟩ = some (.int .i64 u') ∧ W.cell? ⟨b, off + k * 2 + 1, none⟩ = some (.int .i64 v') := fun W h =>
            ⟨(h.cell (p := ⟨w.heap.size, 1, none⟩) (cell_lt g1c)).trans g1c, (h.cell (p := ⟨b, off + k * 2, none⟩) (cell_lt c01)).trans c01, (h.cell (p := ⟨b, off + k * 2 + 1, none⟩) (cell_lt c11)).trans c11⟩
          have hbd := hbq.drew
          have hbA := hbq.alloc hbq.size (.cells #[.int .i64 u', .int .i64 v'] 73)
          have hbAd := hbA.drew
          have hownA := hownq.alloc (.cells #[.int .i64 u', .int .i64 v'] 73)
          have hlA := edges_lit1 wq u' v' 73
          have HP2 : Hid (PT ++ [(u', v')] = rs.take (k + 1)) := (show _ = _ by rw [HPT.out, htk])
          have hPl3 : (PT ++ [(u', v')]).length ≤ k + 1 := by simp; omega
          have hPl2 : PT.length ≤ 100000 := by omega
          obtain ⟨q0, q1⟩ := cells2R hW3.g
          have q2 := (hSS wq hbq).2.1
          have q3 := (hSS wq hbq).2.2
          clear hget' hget h1 hd HK hhs hHh c0' c1' c01 c11 htk HPT
          go_wp2
          go_region_held3 (fun w' => w'.cell? ⟨w.heap.size, 1, none⟩ = some (.slice (some ⟨b, off, none⟩) rs.length cap) ∧ w'.cell? ⟨b, off + k * 2, none⟩ = some (.int .i64 u') ∧ w'.cell? ⟨b, off + k * 2 + 1, none⟩ = some (.int .i64 v'))
            (first | with_reducible exact hSS _ hbd | with_reducible exact hSS _ hbA | with_reducible exact hSS _ hbAd | with_reducible exact hSS _ hb6)
            (first | (refine step_app_edges edgesT rfl (.tmp 74) (.tmp 88) rfl w2.heap.size (.slice ao PT.length co) _ PT [(u', v')] rfl (by exact hownA) rfl (by exact hlA) (by simp; omega) (by exact hbA.size) ?_; intro v6 w6 hown6 hg6; have hb6 := hbAd.grown hg6 hbAd.size (fun j e => (hownA.lt j e).1)))
          go_wp2_with fail
          go_roundw
          case rel => exact ⟨k + 1, PT ++ [(u', v')], by omega, by go_num, HK2, HP2, hPl3, hown6, hb6⟩
          case measure => simp [intOf]; omega
        · obtain rfl : rs.length = k := by omega
          have h1 := HK.out
          rw [List.drop_length] at h1
          have hDf : D = false := by rw [← h1]; rfl
          subst hDf
          have hr := HRES.out
          rw [if_neg (by simp)] at hr
          obtain ⟨rfl, h2⟩ := Prod.mk.inj hr
          obtain ⟨rfl, rfl⟩ := Prod.mk.inj h2
          have hPr : PT = rs := by rw [HPT.out, List.take_length]
          have hfil := ofE_fil hsort.out.2 hsort.out.1 HDD.out
          have hends : ∀ e ∈ rs, Ends m e := fun e he => by
            have q := (recOk_iff e).1 (hsort.out.1 e he)
            have q2 := List.any_eq_false.1 HBB.out e he
            simp only [decide_eq_true_eq] at q2
            unfold Ends
            omega
          rw [hPr] at hown
          obtain ⟨a5, c5, e5, hiP, -⟩ := EdgesAt.of_owns hown (by omega)
          cases e5
          have hof := ofg_any m ao co rs wr hiP hmm.1 hmm.2 hends
          rw [hfil] at hof
          obtain ⟨k0, k1⟩ := cells2R hW.g
          have hbs := hW.base
          have hof2 := hof
          clear hof
          clear hr h2 HRES h1 HK hfil hends hown HDD HBB hsort
          go_wp2_with fail
          refine hof2.mono ?_
          rintro e w6 ⟨a6, c6, rfl, hi6, hb6, ha6⟩
          have hW6 := hW.next hb6
          obtain ⟨t0, t1, hef, hbf⟩ := hW6.fin m hi6 (fun p h => by have := ha6 p h; omega)
          have f0 := free_blk (j := 0) hW6.o
          have f1 := free_blk (j := 1) hW6.o
          obtain ⟨r0, r1⟩ := cells2R hW6.o
          go_wp2_with fail
          exact bodyPost_ret (v := .tuple #[.agg #[.int .i64 m, .slice a6 (rs.filter fun e => decide (e.1 < e.2)).length c6], .int .i64 0]) (by simp [results, Try.results80, go_sem, t0, t1]) rfl ⟨a6, c6, rfl, hef, (fun p h => by have := ha6 p h; omega), hbf⟩
end Go.Proofs.Ytdkmdcdoiaelfaa

namespace Go.Proofs.Ytdkmdcdoiaelfaa
open Go.RowKit Go.BigFrame

theorem degree3_any (n : Nat) (a : Option Addr) (cap : Nat) (es : List E2) (v : Nat) (w : World) (he : EdgesAt w (.slice a es.length cap) es) (hv : Valid n es) :
    Calls Try.prog 23 #[.agg #[.int .i64 n, .slice a es.length cap], .int .i64 v] w fun e w' => e = .returned (.int .i64 ((nbL es n v).length : Nat)) ∧ Below w.heap.size w w' := by
  obtain ⟨hx, hb⟩ := boxG_new w #[.int .i64 n, .slice a es.length cap] 27
  have hne := neigh_any n a cap es v _ (he.below hb) hv
  rw [neigh_eq hv] at hne
  have hll : ((nbL es n v).map fun (i : Nat) => (i : Int)).length = (nbL es n v).length := by simp
  generalize hR : ((nbL es n v).map fun (i : Nat) => (i : Int)) = R at *
  obtain ⟨L, hL⟩ : ∃ L, (nbL es n v).length = L := ⟨_, rfl⟩
  rw [hL] at hll ⊢
  clear hR hL
  obtain ⟨k0, k1⟩ := cells2R hx
  go_enter Try.func23, Try.ntmps23
  go_wp2_with fail
  refine hne.mono ?_
  rintro e w2 ⟨a2, c2, rfl, -, hb2⟩
  have hbe := hb.trans (hb2.mono hb.size)
  go_wp2_with fail
  go_ret
  exact ⟨rfl, hbe⟩

theorem IntsAt.atE {w : World} {a : Option Addr} {n cap : Nat} {xs : List Int} (h : IntsAt w (.slice a n cap) xs) (hl : xs.length = n) (k : Nat) (hk : k < n) : ∃ b off, a = some ⟨b, off, none⟩ ∧ w.cell? ⟨b, off + k, none⟩ = some (.int .i64 (xs.getD k 0)) := by
  subst hl
  obtain ⟨b, off, y, rfl, hy, -, -, hc⟩ := h.at k hk
  exact ⟨b, off, rfl, by rw [getD_of hy]; exact hc⟩
theorem take_getD {l : List Int} {k : Nat} (h : k < l.length) : l.take (k + 1) = l.take k ++ [l.getD k 0] := take_at _ _ _ (get_of_getD h)
set_option maxRecDepth 100000 in
set_option maxHeartbeats 3200000 in
theorem deg09_any (n : Nat) (a : Option Addr) (cap : Nat) (es : List E2) (w : World) (he : EdgesAt w (.slice a es.length cap) es) (hv : Valid n es) :
    Calls Try.prog 81 #[.agg #[.int .i64 n, .slice a es.length cap]] w (TPost w (degL es n, 0)) := by
  obtain ⟨hxA, hb0⟩ := boxG_new w #[.int .i64 (n : Int), .slice a es.length cap] 27
  obtain ⟨wA, hwA⟩ : ∃ W : World, W = w.alloc (.cells #[.int .i64 (n : Int), .slice a es.length cap] 27) := ⟨_, rfl⟩
  rw [← hwA] at hxA hb0
  have HWA := Lib.hid hwA
  clear hwA
  have hck := check_any n a cap es wA (he.below hb0)
  rw [(valid_iff n es).2 hv] at hck
  have hn64 : n ≤ 64 := by have := hv.2.1; omega
  have hDl := degL_length es n
  unfold TPost
  dsimp only
  obtain ⟨x0, x1⟩ := cells2R hxA
  go_enter Try.func81, Try.ntmps81
  go_wp2_with (rw [← HWA.out])
  refine hck.mono ?_
  rintro e w1 ⟨rfl, hb1⟩
  have hx1 := lit_next' hb1 hxA
  have hb01 := hb0.trans (hb1.mono hb0.size)
  clear x0 x1
  obtain ⟨x0, x1⟩ := cells2R hx1
  go_upto_region 6 with fail
  clear x0 x1
  go_loopw [5, 14] (fun vo vi wr => ∃ (k : Nat) (P : List Int), k ≤ n ∧ vi = .int .i64 (k : Int) ∧ Hid (P = (degL es n).take k) ∧ P.length ≤ k ∧ wr.ownsRow w1.heap.size 3 1 vo P.length (intsV P) ∧ Below w1.heap.size w1 wr) (fun _ vi _ => n - (intOf vi).toNat)
  case atStart => exact ⟨0, [], Nat.zero_le _, rfl, (show _ = _ from rfl), Nat.le_refl _, World.ownsRow_nil _ _ _ _, Below.refl _ _⟩
  case round =>
    obtain ⟨k, P, hk, rfl, HP, hPk, hown, hb⟩ := hrel
    obtain ⟨ao, co, hvo⟩ := owns_shape hown
    subst hvo
    have hxr := lit_next' hb hx1
    obtain ⟨x0, x1⟩ := cells2R hxr
    by_cases hlt : k < n
    · have hlt3 : (k : Int) < n := by omega
      have hdg := degree3_any n a cap es k wr ((he.below hb01).below hb) hv
      have hst : P ++ [((nbL es n k).length : Int)] = (degL es n).take (k + 1) := by rw [HP.out, take_getD (by rw [hDl]; exact hlt), degL_getD es n k hlt]
      obtain ⟨G, hG⟩ : ∃ G, (nbL es n k).length = G := ⟨_, rfl⟩
      rw [hG] at hdg hst
      have HP2 := Lib.hid hst
      clear hst hG HP
      go_wp2_with fail
      refine hdg.mono ?_
      rintro e w2 ⟨rfl, hb2⟩
      have hb12 := hb.trans (hb2.mono hb.size)
      have hown2 := hown.kept (grown_of_below hb2) (Classical.em _)
      have hlit := ints_lit1 w2 (G : Int) 3
      have hownA := hown2.alloc (.cells #[.int .i64 (G : Int)] 3)
      have hbA := hb12.alloc hb12.size (.cells #[.int .i64 (G : Int)] 3)
      clear hdg x0 x1
      go_wp2_with (at_builtin; refine wpList_app_ints intsT rfl _ _ rfl w1.heap.size (.slice ao P.length co) _ P [(G : Int)] rfl hownA rfl hlit (by rw [List.length_singleton]; omega) hbA.size ?_; intro v6 w6 hown6 hg6)
      have hb6 := hbA.grown hg6 hbA.size (fun g e => (hownA.lt g e).1)
      go_roundw
      case rel => exact ⟨k + 1, P ++ [(G : Int)], by omega, by go_num, HP2, by simp; omega, hown6, hb6⟩
      case measure => simp [intOf]; omega
    · obtain rfl : k = n := by omega
      have hPf : P = degL es k := by rw [HP.out, List.take_of_length_le (by rw [hDl]; exact Nat.le_refl _)]
      rw [hPf] at hown
      rw [hPf]
      rw [hDl] at hown ⊢
      have hown' : wr.ownsRow w1.heap.size 3 1 (.slice ao k co) (degL es k).length (intsV (degL es k)) := by rw [hDl]; exact hown
      obtain ⟨a5, c5, e5, hiP, hlo⟩ := IntsAt.of_owns hown' (by rw [hDl]; omega)
      rw [hDl] at e5 hiP
      cases e5
      have hbe := hb01.trans (hb.mono hb01.size)
      go_wp2_with fail
      go_ret2
      rw [hDl]
      exact ⟨ao, co, rfl, hiP, fun p h => (by have := hlo p h; have := hb01.size; omega), hbe⟩
set_option maxRecDepth 100000 in
theorem r36deg_any (size m : Int) (a : Option Addr) (cap : Nat) (rs : List E2) (w : World) (he : EdgesAt w (.slice a rs.length cap) rs) (hl : rs.length ≤ 100000) :
    Calls Try.prog 40 #[.agg #[.int .i64 size, .slice a rs.length cap], .int .i64 m] w (TPost w (degXR size m rs)) := by
  obtain ⟨hxA, hb0⟩ := boxG_new w #[.int .i64 size, .slice a rs.length cap] 33
  obtain ⟨wA, hwA⟩ : ∃ W : World, W = w.alloc (.cells #[.int .i64 size, .slice a rs.length cap] 33) := ⟨_, rfl⟩
  rw [← hwA] at hxA hb0
  have HWA := Lib.hid hwA
  clear hwA
  have hgr := graph34_any size m a cap rs wA (he.below hb0) hl
  unfold degXR TPost
  obtain ⟨⟨k, es, C⟩, hG⟩ : ∃ F, graphR size m rs = F := ⟨_, rfl⟩
  rw [hG] at hgr ⊢
  unfold RGPost at hgr
  dsimp only at hgr ⊢
  obtain ⟨k0, k1⟩ := cells2R hxA
  by_cases hz : C = 0
  case neg =>
    rw [if_pos hz]
    have d1 : (C != 0) = true := by simpa using hz
    clear hz hG
    go_enter Try.func40, Try.ntmps40
    go_wp2_with (rw [← HWA.out])
    refine hgr.mono ?_
    rintro e w1 ⟨ag, cg, rfl, -, -, hb1⟩
    have hb01 := hb0.trans (hb1.mono hb0.size)
    go_wp2_with fail
    go_ret2
    exact ⟨none, 0, rfl, ints_nil _, fun p h => (by cases h), hb01.alloc hb01.size _⟩
  subst hz
  rw [if_neg (by simp)]
  obtain ⟨n, rfl, rfl, hv, hrs, -, -⟩ := graphR_of hG
  clear hG hrs
  rw [Int.toNat_natCast]
  go_enter Try.func40, Try.ntmps40
  go_wp2_with (rw [← HWA.out])
  refine hgr.mono ?_
  rintro e w1 ⟨ag, cg, rfl, he1, -, hb1⟩
  obtain ⟨hG2, hbG⟩ := boxG_new w1 #[.int .i64 (n : Int), .slice ag es.length cg] 27
  obtain ⟨w2, hw2⟩ : ∃ W : World, W = w1.alloc (.cells #[.int .i64 (n : Int), .slice ag es.length cg] 27) := ⟨_, rfl⟩
  rw [← hw2] at hG2 hbG
  have hb02 := hb0.trans ((hb1.trans (hbG.mono hb1.size)).mono hb0.size)
  have hdg := deg09_any n ag cg es w2 (he1.below hbG) hv
  unfold TPost at hdg
  dsimp only at hdg ⊢
  obtain ⟨x0, x1⟩ := cells2R hG2
  have HW2 := Lib.hid hw2
  clear hw2 k0 k1
  go_upto_region 2 with fail
  rw [← HW2.out]
  go_wp2_with fail
  refine hdg.mono ?_
  rintro e w3 ⟨a3, c3, rfl, hi3, ho3, hb3⟩
  go_wp2_with fail
  go_ret2
  exact ⟨a3, c3, rfl, hi3, fun p h => (by have := ho3 p h; have := hb02.size; omega), hb02.trans (hb3.mono hb02.size)⟩
set_option linter.unusedSimpArgs false in
set_option maxRecDepth 100000 in
set_option maxHeartbeats 6400000 in
theorem r36pass_any (size : Int) (a a2 : Option Addr) (cap c2 : Nat) (rs : List E2) (x : List Int) (w : World) (he : EdgesAt w (.slice a rs.length cap) rs) (hl : rs.length ≤ 100000) (hi : IntsAt w (.slice a2 x.length c2) x) :
    Calls Try.prog 39 #[.agg #[.int .i64 size, .slice a rs.length cap], .slice a2 x.length c2] w (TPost w (passX size rs x)) := by
  obtain ⟨hxA, hb0⟩ := boxG_new w #[.int .i64 size, .slice a rs.length cap] 33
  obtain ⟨wA, hwA⟩ : ∃ W : World, W = w.alloc (.cells #[.int .i64 size, .slice a rs.length cap] 33) := ⟨_, rfl⟩
  rw [← hwA] at hxA hb0
  have HWA := Lib.hid hwA
  clear hwA
  have hgr := graph34_any size x.length a cap rs wA (he.below hb0) hl
  unfold passX TPost
  obtain ⟨⟨k, es, C⟩, hG⟩ : ∃ F, graphR size x.length rs = F := ⟨_, rfl⟩
  rw [hG] at hgr ⊢
  unfold RGPost at hgr
  dsimp only at hgr ⊢
  obtain ⟨k0, k1⟩ := cells2R hxA
  by_cases hz : C = 0
  case neg =>
    rw [if_pos hz]
    have d1 : (C != 0) = true := by simpa using hz
    clear hz hG
    go_enter Try.func39, Try.ntmps39
    go_wp2_with (rw [← HWA.out])
    refine hgr.mono ?_
    rintro e w1 ⟨ag, cg, rfl, -, -, hb1⟩
    have hb01 := hb0.trans (hb1.mono hb0.size)
    go_wp2_with fail
    go_ret2
    exact ⟨none, 0, rfl, ints_nil _, fun p h => (by cases h), hb01.alloc hb01.size _⟩
  subst hz
  rw [if_neg (by simp)]
  obtain ⟨n, hxn, rfl, hv, hrs, -, -⟩ := graphR_of hG
  have hxl : x.length = n := by omega
  clear hG hrs hxn
  have hn64 : n ≤ 64 := by have := hv.2.1; omega
  rw [hxl] at hi hgr ⊢
  have HXL := Lib.hid hxl
  have hPl0 := passL_length es n x
  rw [hPl0]
  clear hxl
  go_enter Try.func39, Try.ntmps39
  go_wp2_with (rw [← HWA.out])
  refine hgr.mono ?_
  rintro e w1 ⟨ag, cg, rfl, he1, -, hb1⟩
  obtain ⟨hG2, hbG⟩ := boxG_new w1 #[.int .i64 (n : Int), .slice ag es.length cg] 27
  obtain ⟨w2, hw2⟩ : ∃ W : World, W = w1.alloc (.cells #[.int .i64 (n : Int), .slice ag es.length cg] 27) := ⟨_, rfl⟩
  rw [← hw2] at hG2 hbG
  have hb02 := hb0.trans ((hb1.trans (hbG.mono hb1.size)).mono hb0.size)
  have he2 := he1.below hbG
  have HIX := Lib.hid (hi.below hb02)
  obtain ⟨B2, hB2⟩ : ∃ B, w1.heap.size = B := ⟨_, rfl⟩
  rw [hB2] at hG2
  have HW2 := Lib.hid hw2
  clear hw2 k0 k1 hi he1
  go_upto_region 2 with fail
  rw [← HW2.out]
  try rw [hB2]
  go_upto_region 6 with fail
  go_loopw [8, 9] (fun vo vv wr => ∃ (v : Nat) (P : List Int), v ≤ n ∧ vv = .int .i64 (v : Int) ∧ Hid (P = (passL es n x).take v) ∧ P.length ≤ v ∧ wr.ownsRow w2.heap.size 3 1 vo P.length (intsV P) ∧ Below w2.heap.size w2 wr) (fun _ vv _ => n - (intOf vv).toNat)
  case atStart => exact ⟨0, [], Nat.zero_le _, rfl, (show _ = _ from rfl), Nat.le_refl _, World.ownsRow_nil _ _ _ _, Below.refl _ _⟩
  case round =>
    obtain ⟨v, P, hk, rfl, HP, hPk, hown, hb⟩ := hrel
    obtain ⟨ao, co, hvo⟩ := owns_shape hown
    subst hvo
    have hxr := lit_next' hb hG2
    obtain ⟨x0, x1⟩ := cells2R hxr
    by_cases hlt : v < n
    case neg =>
      obtain rfl : v = n := by omega
      have hPf : P = passL es v x := by rw [HP.out, List.take_of_length_le (by rw [hPl0]; exact Nat.le_refl _)]
      rw [hPf] at hown
      rw [hPf]
      have hown' := hown
      rw [hPl0] at hown ⊢
      obtain ⟨a5, c5, e5, hiP, hlo⟩ := IntsAt.of_owns hown' (by rw [hPl0]; omega)
      rw [hPl0] at e5 hiP
      cases e5
      have hbe := hb02.trans (hb.mono hb02.size)
      go_wp2_with fail
      go_ret2
      exact ⟨ao, co, rfl, hiP, fun p h => (by have := hlo p h; have := hb02.size; omega), hbe⟩
    case pos =>
    have hlt3 : (v : Int) < n := by omega
    have hne := neigh_any n ag cg es v wr (he2.below hb) hv
    rw [neigh_eq hv] at hne
    obtain ⟨L, hL⟩ : ∃ L, (nbL es n v).length = L := ⟨_, rfl⟩
    have hLn : ((nbL es n v).map fun (i : Nat) => (i : Int)).length = L := by rw [List.length_map, hL]
    have hL8 : L ≤ 64 := by have := nb_lt hv v hlt; omega
    unfold IntsPost at hne
    rw [hLn] at hne
    have HL := Lib.hid hL
    clear hL
    go_wp2_with fail
    refine hne.mono ?_
    rintro e w3 ⟨a3, c3, rfl, hN3, hb3⟩
    have hb2r := hb.trans (hb3.mono hb.size)
    have hown3 := hown.kept (grown_of_below hb3) (Classical.em _)
    clear hne x0 x1 hxr hown
    go_upto_region 11 with fail
    go_loopw [10, 12] (fun vq vi wr => ∃ (k : Nat) (Q : List Int), k ≤ L ∧ vi = .int .i64 (k : Int) ∧ Hid (Q = ((nbL es n v).map fun y => x.getD y 0).take k) ∧ Q.length ≤ k ∧ wr.ownsRow w3.heap.size 3 1 vq Q.length (intsV Q) ∧ Below w3.heap.size w3 wr) (fun _ vi _ => L - (intOf vi).toNat)
    case atStart => exact ⟨0, [], Nat.zero_le _, rfl, (show _ = _ from rfl), Nat.le_refl _, World.ownsRow_nil _ _ _ _, Below.refl _ _⟩
    case round =>
      have hb23 := hb2r
      clear hb2r
      obtain ⟨k, Q, hkL, rfl, HQ, hQk, hownQ, hbk⟩ := hrel
      obtain ⟨aq, cq, hvq⟩ := owns_shape hownQ
      subst hvq
      have hb2r := hb23.trans (hbk.mono hb23.size)
      by_cases hltk : k < L
      · have hlk3 : (k : Int) < L := by omega
        have hNk : IntsAt wr (.slice a3 ((nbL es n v).map fun (i : Nat) => (i : Int)).length c3) ((nbL es n v).map fun (i : Nat) => (i : Int)) := by rw [hLn]; exact hN3.below hbk
        obtain ⟨bN, oN, y, rfl, hy, -, -, cN⟩ := hNk.at k (by omega)
        have hku : k < (nbL es n v).length := by rw [HL.out]; exact hltk
        obtain ⟨u, hu⟩ : ∃ u, (nbL es n v)[k]? = some u := ⟨_, List.getElem?_eq_getElem hku⟩
        rw [List.getElem?_map, hu] at hy
        obtain rfl := (Option.some.inj hy).symm
        have hun : u < n := List.mem_range.1 (List.mem_filter.1 (List.mem_of_getElem? hu)).1
        have hun3 : (u : Int) < n := by omega
        obtain ⟨bx, ox, rfl, cx⟩ := IntsAt.atE (HIX.out.below hb2r) HXL.out u hun
        have hst : Q ++ [x.getD u 0] = ((nbL es n v).map fun y => x.getD y 0).take (k + 1) := by rw [HQ.out, take_at _ k (x.getD u 0) (by rw [List.getElem?_map, hu]; rfl)]
        obtain ⟨XV, hXV⟩ : ∃ X, x.getD u 0 = X := ⟨_, rfl⟩
        rw [hXV] at cx hst
        have HQ2 := Lib.hid hst
        have hlit := ints_lit1 wr XV 3
        have hownA := hownQ.alloc (.cells #[.int .i64 XV] 3)
        have hbA := hbk.alloc hbk.size (.cells #[.int .i64 XV] 3)
        clear hst hu hNk HQ hXV
        go_wp2_with (at_builtin; refine wpList_app_ints intsT rfl _ _ rfl w3.heap.size (.slice aq Q.length cq) _ Q [XV] rfl hownA rfl hlit (by rw [List.length_singleton]; omega) hbA.size ?_; intro v6 w6 hown6 hg6)
        have hb6 := hbA.grown hg6 hbA.size (fun g e => (hownA.lt g e).1)
        go_roundw
        case rel => exact ⟨k + 1, Q ++ [XV], by omega, by go_num, HQ2, by simp; omega, hown6, hb6⟩
        case measure => simp [intOf]; omega
      · obtain rfl : k = L := by omega
        have hQf : Q = (nbL es n v).map fun y => x.getD y 0 := by rw [HQ.out, List.take_of_length_le (by rw [List.length_map, HL.out]; exact Nat.le_refl _)]
        obtain ⟨a5, c5, e5, hiQ, -⟩ := IntsAt.of_owns hownQ (by omega)
        cases e5
        have hH := fun W (h : Below wr.heap.size wr W) => h09_any aq cq Q W (by omega) (falling_any aq cq Q W (hiQ.below h) (by omega))
        obtain ⟨bx, ox, rfl, cx⟩ := IntsAt.atE (HIX.out.below hb2r) HXL.out v hlt
        have cx2 : w2.cell? ⟨bx, ox + v, none⟩ = some (.int .i64 (x.getD v 0)) := by
          obtain ⟨_, _, e, c⟩ := IntsAt.atE HIX.out HXL.out v hlt
          cases e; exact c
        have hst : P ++ [min (x.getD v 0) (hX Q : Int)] = (passL es n x).take (v + 1) := by rw [HP.out, take_getD (by rw [hPl0]; exact hlt), passL_getD es n x v hlt, hQf]
        obtain ⟨XV, hXV⟩ : ∃ X, x.getD v 0 = X := ⟨_, rfl⟩
        obtain ⟨HQ, hHQ⟩ : ∃ X, hX Q = X := ⟨_, rfl⟩
        rw [hXV] at cx cx2 hst
        simp only [hHQ] at hH hst
        have HP2 := Lib.hid hst
        have hown := hown3.kept (grown_of_below hbk) (Classical.em _)
        clear hst hXV hHQ hQf HP hownQ hown3
        go_upto_region 14 with fail
        refine wp_region_heldK (k := 10) (S := fun _ W => W.cell? ⟨bx, ox + v, none⟩ = some (.int .i64 XV)) (by kernel_rfl) ?_
        have hS0 : wr.drew.cell? ⟨bx, ox + v, none⟩ = some (.int .i64 XV) := cx
        refine wpAnyK_take (i := 0) (v := .slice ao P.length co) true rfl (by kernel_rfl) (by kernel_rfl) (by kernel_rfl) (by kernel_rfl) (by kernel_rfl) (fun _ _ _ h => h) (fun _ h => h) (Or.inl ⟨by rfl, by intro w hSw; (try dsimp only at hSw); go_simp⟩) (b := false) (by kernel_rfl) hS0 ?_
        try simp only [Act.put, List.setIfInBounds_toArray, List.set_cons_zero, List.set_cons_succ]
        refine wpAnyK_take (i := 1) (v := .slice (some ⟨bx, ox, none⟩) n c2) true rfl (by kernel_rfl) (by kernel_rfl) (by kernel_rfl) (by kernel_rfl) (by kernel_rfl) (fun _ _ _ h => h) (fun _ h => h) (Or.inl ⟨by rfl, by intro w hSw; (try dsimp only at hSw); go_simp⟩) (b := false) (by kernel_rfl) hS0 ?_
        try simp only [Act.put, List.setIfInBounds_toArray, List.set_cons_zero, List.set_cons_succ]
        refine wpAnyK_take (i := 2) (v := .int .i64 (v : Int)) true rfl (by kernel_rfl) (by kernel_rfl) (by kernel_rfl) (by kernel_rfl) (by kernel_rfl) (fun _ _ _ h => h) (fun _ h => h) (Or.inl ⟨by rfl, by intro w hSw; (try dsimp only at hSw); go_simp⟩) (b := false) (by kernel_rfl) hS0 ?_
        try simp only [Act.put, List.setIfInBounds_toArray, List.set_cons_zero, List.set_cons_succ]
        refine wpAnyK_take (i := 3) (v := .pointer (some ⟨bx, ox + v, none⟩)) true rfl (by kernel_rfl) (by kernel_rfl) (by kernel_rfl) (by kernel_rfl) (by kernel_rfl) (fun _ _ _ h => h) (fun _ h => h) (Or.inl ⟨by rfl, by intro w hSw; (try dsimp only at hSw); go_simp⟩) (b := false) (by kernel_rfl) hS0 ?_
        try simp only [Act.put, List.setIfInBounds_toArray, List.set_cons_zero, List.set_cons_succ]
        refine wpAnyK_take (i := 4) (v := .int .i64 XV) true rfl (by kernel_rfl) (by kernel_rfl) (by kernel_rfl) (by kernel_rfl) (by kernel_rfl) (fun _ _ _ h => h) (fun _ h => h) (Or.inl ⟨by rfl, by intro w hSw; (try dsimp only at hSw); go_simp⟩) (b := false) (by kernel_rfl) hS0 ?_
        try simp only [Act.put, List.setIfInBounds_toArray, List.set_cons_zero, List.set_cons_succ]
        refine wpAnyK_take (i := 5) (v := .slice aq Q.length cq) true rfl (by kernel_rfl) (by kernel_rfl) (by kernel_rfl) (by kernel_rfl) (by kernel_rfl) (fun _ _ _ h => h) (fun _ h => h) (Or.inl ⟨by rfl, by intro w hSw; (try dsimp only at hSw); go_simp⟩) (b := false) (by kernel_rfl) hS0 ?_
        try simp only [Act.put, List.setIfInBounds_toArray, List.set_cons_zero, List.set_cons_succ]
        refine wpAnyK_one (i := 6) (by kernel_rfl) rfl (by rfl) (b := false) (by kernel_rfl) (fun K hK => ?_)
        go_simp
        go_at_call 28
        refine (hH _ (Below.refl _ _).drew).mono ?_
        rintro e w5 ⟨rfl, hb5⟩
        have hb5' : Below wr.heap.size wr w5 := (Below.refl wr.heap.size wr).drew.trans hb5
        have cx5 := (hb5'.cell (p := ⟨bx, ox + v, none⟩) (cell_lt cx)).trans cx
        have hown5 := hown.kept (grown_of_below hb5') (Classical.em _)
        have hbb5 := hb2r.trans (hb5'.mono hb2r.size)
        dsimp only
        refine hK.out _ _ cx5 ?_
        try simp only [Act.put, List.setIfInBounds_toArray, List.set_cons_zero, List.set_cons_succ]
        refine wpAnyK_take (i := 7) (v := .int .i64 (min XV (HQ : Int))) true rfl (by kernel_rfl) (by kernel_rfl) (by kernel_rfl) (by kernel_rfl) (by kernel_rfl) (fun _ _ _ h => h) (fun _ h => h) (Or.inl ⟨by rfl, by intro w hSw; (try dsimp only at hSw); go_simp⟩) (b := false) (by kernel_rfl) cx5 ?_
        try simp only [Act.put, List.setIfInBounds_toArray, List.set_cons_zero, List.set_cons_succ]
        refine wpAnyK_one (i := 8) (by kernel_rfl) rfl (by rfl) (b := false) (by kernel_rfl) (fun K hK => ?_)
        go_simp
        have hlit := ints_lit1 w5 (min XV (HQ : Int)) 3
        have hownA := hown5.alloc (.cells #[.int .i64 (min XV (HQ : Int))] 3)
        have hbA := hbb5.alloc hbb5.size (.cells #[.int .i64 (min XV (HQ : Int))] 3)
        have cxA := cell_alloc (o := .cells #[.int .i64 (min XV (HQ : Int))] 3) cx5
        refine hK.out _ _ cxA ?_
        try simp only [Act.put, List.setIfInBounds_toArray, List.set_cons_zero, List.set_cons_succ]
        refine wpAnyK_one (i := 9) (by kernel_rfl) rfl (by rfl) (b := false) (by kernel_rfl) (fun K hK => ?_)
        refine wp_app_ints intsT (.tmp 48) (.tmp 56) rfl w2.heap.size (.slice ao P.length co) _ P [min XV (HQ : Int)] rfl hownA rfl hlit (by rw [List.length_singleton]; omega) hbA.size ?_
        intro v6 w6 hown6 hg6
        have hb6 := hbA.grown hg6 hbA.size (fun g e => (hownA.lt g e).1)
        have cx6 : w6.cell? ⟨bx, ox + v, none⟩ = some (.int .i64 XV) := (hb6.cell (p := ⟨bx, ox + v, none⟩) (cell_lt cx2)).trans cx2
        refine hK.out _ _ cx6 ?_
        try simp only [Act.put, List.setIfInBounds_toArray, List.set_cons_zero, List.set_cons_succ]
        refine wpAnyK_one (i := 10) (by kernel_rfl) rfl (by rfl) (b := true) (by kernel_rfl) (fun K hK => ?_)
        go_simp
        refine hK.out _ _ cx6 (wpAnyK_done (by kernel_rfl) ?_ _)
        go_wp2_with fail
        go_roundw
        case rel => exact ⟨v + 1, P ++ [min XV (HQ : Int)], by omega, by go_num, HP2, by simp; omega, hown6, hb6⟩
        case measure => simp [intOf]; omega
set_option maxRecDepth 100000 in
set_option maxHeartbeats 6400000 in
theorem r36cor_any (size m : Int) (a : Option Addr) (cap : Nat) (rs : List E2) (w : World) (he : EdgesAt w (.slice a rs.length cap) rs) (hl : rs.length ≤ 100000) :
    Calls Try.prog 41 #[.agg #[.int .i64 size, .slice a rs.length cap], .int .i64 m] w (CPost w (corXR size m rs)) := by
  obtain ⟨hxA, hb0⟩ := boxG_new w #[.int .i64 size, .slice a rs.length cap] 33
  obtain ⟨wA, hwA⟩ : ∃ W : World, W = w.alloc (.cells #[.int .i64 size, .slice a rs.length cap] 33) := ⟨_, rfl⟩
  rw [← hwA] at hxA hb0
  have HWA := Lib.hid hwA
  clear hwA
  have hgr := r36deg_any size m a cap rs wA (he.below hb0) hl
  unfold corXR CPost
  unfold degXR at hgr
  obtain ⟨⟨k, es, C⟩, hG⟩ : ∃ F, graphR size m rs = F := ⟨_, rfl⟩
  rw [hG] at hgr ⊢
  dsimp only at hgr ⊢
  obtain ⟨k0, k1⟩ := cells2R hxA
  by_cases hz : C = 0
  case neg =>
    rw [if_pos hz]
    rw [if_pos hz] at hgr
    have d1 : (C != 0) = true := by simpa using hz
    unfold TPost at hgr
    dsimp only [List.length_nil] at hgr ⊢
    clear hz hG
    go_enter Try.func41, Try.ntmps41
    go_wp2_with (rw [← HWA.out])
    refine hgr.mono ?_
    rintro e w1 ⟨ag, cg, rfl, -, -, hb1⟩
    have hb01 := hb0.trans (hb1.mono hb0.size)
    go_wp2_with fail
    go_ret3
    exact ⟨none, 0, rfl, ints_nil _, fun p h => (by cases h), hb01⟩
  subst hz
  rw [if_neg (by simp)]
  rw [if_neg (by simp)] at hgr
  obtain ⟨n, rfl, rfl, hv, hrs, -, -⟩ := graphR_of hG
  have HG := Lib.hid hG
  clear hG hrs
  have hn64 : n ≤ 64 := by have := hv.2.1; omega
  rw [Int.toNat_natCast] at hgr ⊢
  unfold TPost at hgr
  dsimp only at hgr ⊢
  obtain ⟨⟨RL, RN⟩, hR⟩ : ∃ P, corsX es n = P := ⟨_, rfl⟩
  rw [hR]
  dsimp only
  have hsd := sumD_le hv (x := degL es n) (fun v _ => Int.le_refl _)
  have hdge := degL_ge hv
  obtain ⟨D, hD⟩ : ∃ D, degL es n = D := ⟨_, rfl⟩
  have hRL : RL.length = n := by
    have := runP_length es n (n * n + 1) (degL es n) 0 (degL_length _ _)
    rw [show runP es n (n * n + 1) (degL es n) 0 = (RL, RN) from hR] at this
    exact this
  have hrun : Hid (runP es n (n * n + 1) D 0 = (RL, RN)) := (show _ = _ from by rw [← hD]; exact hR)
  have hDl : D.length = n := by rw [← hD]; exact degL_length _ _
  rw [hD] at hsd hdge
  rw [hD, hDl] at hgr
  rw [hRL]
  have HDL := Lib.hid hDl
  have HGE := Lib.hid hdge
  have hnn : n * n ≤ 4096 := Nat.le_trans (Nat.mul_le_mul hn64 hn64) (by decide)
  have hn1 : n * (n - 1) ≤ n * n := Nat.mul_le_mul (Nat.le_refl _) (Nat.sub_le _ _)
  obtain ⟨S0, hS0⟩ : ∃ S, sumD es n D = S := ⟨_, rfl⟩
  have hS1 : S0 + 1 ≤ n * n + 1 := by omega
  have hS2 : S0 ≤ 4096 := by omega
  have HS : Hid (sumD es n D + 1 ≤ n * n + 1) := (show _ ≤ _ by rw [hS0]; exact hS1)
  have hS3 : 0 + sumD es n D ≤ S0 := by omega
  obtain ⟨F0, hF0⟩ : ∃ F, n * n + 1 = F := ⟨_, rfl⟩
  rw [hF0] at hrun HS
  clear hR hD hDl hdge hsd hnn hn1 hS1 hF0 hS0 hRL
  go_enter Try.func41, Try.ntmps41
  go_wp2_with (rw [← HWA.out])
  refine hgr.mono ?_
  rintro e w1 ⟨ad, cd, rfl, hid1, had, hb1⟩
  have hb01 := hb0.trans (hb1.mono hb0.size)
  have hx1 := lit_next' hb1 hxA
  have HE1 := Lib.hid (he.below hb01)
  clear k0 k1 hgr
  go_upto_region 5 with fail
  go_loopw [7, 9] (fun vv vt wr => ∃ (t : Nat) (ax : Option Addr) (cx : Nat) (x : List Int) (F : Nat), vt = .int .i64 (t : Int) ∧ vv = .slice ax n cx ∧ IntsAt wr (.slice ax n cx) x ∧ Hid (x.length = n) ∧ Hid (sumD es n x + 1 ≤ F) ∧ Hid (runP es n F x t = (RL, RN)) ∧ Hid (∀ v, v < n → corF es n v ≤ x.getD v 0) ∧ t + sumD es n x ≤ S0 ∧ (∀ p, ax = some p → wA.heap.size ≤ p.block) ∧ Below w1.heap.size w1 wr) (fun _ vt _ => S0 + 1 - (intOf vt).toNat)
  case atStart => exact ⟨0, ad, cd, D, F0, rfl, rfl, hid1, HDL, HS, hrun, HGE, hS3, had, Below.refl _ _⟩
  case round =>
    clear hid1 hrun HDL HGE HS hS3 had
    obtain ⟨t, ax, cx, x, F, rfl, rfl, hix, HXL, HF, HR, HGX, hts, hax, hb⟩ := hrel
    have hxr := lit_next' hb hx1
    obtain ⟨k0, k1⟩ := cells2R hxr
    have hbw := hb01.trans (hb.mono hb01.size)
    have hps := r36pass_any size a ax cap cx rs x wr (HE1.out.below hb) hl (by rw [HXL.out]; exact hix)
    unfold passX at hps
    rw [HXL.out, HG.out] at hps
    rw [if_neg (by simp)] at hps
    unfold TPost at hps
    dsimp only at hps
    rw [passL_length] at hps
    have hyl := passL_length es n x
    have hYge := pass_ge hv HGX.out
    have hFs := HF.out
    have hRR := HR.out
    obtain ⟨F', hF'⟩ : ∃ F', F = F' + 1 := ⟨F - 1, by omega⟩
    subst hF'
    unfold runP at hRR
    have hdrop := fun (h : passL es n x ≠ x) => pass_drop hv HXL.out HGX.out h
    obtain ⟨Y, hY⟩ : ∃ Y, passL es n x = Y := ⟨_, rfl⟩
    rw [hY] at hps hyl hYge hRR hdrop
    have HYL := Lib.hid hyl
    have HYG := Lib.hid hYge
    have HRR := Lib.hid hRR
    have HDR : Hid (Y ≠ x → sumD es n Y + 1 ≤ sumD es n x) := (show _ → _ from fun h => by have := hdrop h; omega)
    obtain ⟨SX, hSX⟩ : ∃ S, sumD es n x = S := ⟨_, rfl⟩
    rw [hSX] at hts
    have HSX := Lib.hid hSX
    have ht3 : t ≤ 4096 := by omega
    clear hyl hYge hRR hdrop hFs hY hSX
    go_wp2_with fail
    refine hps.mono ?_
    rintro e w2 ⟨ay, cy, rfl, hiy, hay, hb2⟩
    have hb12 := hb.trans (hb2.mono hb.size)
    have hix2 := hix.below hb2
    clear k0 k1 hps
    go_upto_region 9 with fail
    go_loopw [12, 13] (fun vc vk wr => ∃ (k : Nat) (b : Bool), k ≤ n ∧ vk = .int .i64 (k : Int) ∧ vc = .bool b ∧ Hid (b = false → ∀ i, i < k → Y.getD i 0 = x.getD i 0) ∧ Hid (b = true → Y ≠ x) ∧ Below w2.heap.size w2 wr) (fun _ vk _ => n - (intOf vk).toNat)
    case atStart => exact ⟨0, false, Nat.zero_le _, rfl, rfl, (show _ → _ from fun _ i hi => absurd hi (by omega)), (show _ → _ from fun h => by cases h), Below.refl _ _⟩
    case round =>
      obtain ⟨k, b, hk, rfl, rfl, HA, HB, hbk⟩ := hrel
      by_cases hlt : k < n
      · have hlt3 : (k : Int) < n := by omega
        cases b with
        | true =>
          go_wp2_with fail
          go_quiet (fail)
          have hbn := hbk.drewN nq
          go_wp2
          go_roundw
          case rel => exact ⟨k + 1, true, by omega, by go_num, rfl, (show _ → _ from fun h => by cases h), (show true = true → Y ≠ x from fun _ => HB.out (by trivial)), hbn⟩
          case measure => simp [intOf]; omega
        | false =>
          obtain ⟨b1, o1, rfl, c1⟩ := IntsAt.atE (hiy.below hbk) HYL.out k hlt
          obtain ⟨b2, o2, rfl, c2⟩ := IntsAt.atE (hix2.below hbk) HXL.out k hlt
          by_cases hyx : Y.getD k 0 = x.getD k 0
          · have HA2 : Hid (false = false → ∀ i, i < k + 1 → Y.getD i 0 = x.getD i 0) := (show _ → _ from fun _ i hi => by
              by_cases e : i = k
              · rw [e]; exact hyx
              · exact HA.out rfl i (by omega))
            rw [hyx] at c1
            obtain ⟨X, hX⟩ : ∃ X, x.getD k 0 = X := ⟨_, rfl⟩
            rw [hX] at c1 c2
            clear hX hyx
            go_wp2_with fail
            go_quiet (fail)
            have hbn := hbk.drewN nq
            go_wp2
            go_roundw
            case rel => exact ⟨k + 1, false, by omega, by go_num, rfl, (show false = false → ∀ i, i < k + 1 → Y.getD i 0 = x.getD i 0 from fun _ => HA2.out (by trivial)), HB, hbn⟩
            case measure => simp [intOf]; omega
          · have HB2 : Hid (true = true → Y ≠ x) := (show _ → _ from fun _ e => hyx (by rw [e]))
            obtain ⟨X, hX⟩ : ∃ X, x.getD k 0 = X := ⟨_, rfl⟩
            obtain ⟨Z, hZ⟩ : ∃ X, Y.getD k 0 = X := ⟨_, rfl⟩
            rw [hX] at c2 hyx
            rw [hZ] at c1 hyx
            have q1 : (Z == X) = false := by simpa using hyx
            have q2 : decide (Z = X) = false := by simpa using hyx
            have q3 : (Z != X) = true := by simpa using hyx
            clear hX hZ
            go_wp2_with fail
            go_quiet (fail)
            have hbn := hbk.drewN nq
            go_wp2
            go_roundw
            case rel => exact ⟨k + 1, true, by omega, by go_num, rfl, (show _ → _ from fun h => by cases h), (show true = true → Y ≠ x from fun _ => HB2.out (by trivial)), hbn⟩
            case measure => simp [intOf]; omega
      · obtain rfl : k = n := by omega
        have hbk2 := hb12.trans (hbk.mono hb12.size)
        have hiyk := hiy.below hbk
        cases b with
        | false =>
          have hYx : Y = x := list_ext_D HYL.out HXL.out (HA.out rfl)
          have hr := HRR.out
          rw [if_pos hYx] at hr
          obtain ⟨rfl, rfl⟩ := Prod.mk.inj hr
          have hbe := hb01.trans (hbk2.mono hb01.size)
          rw [hYx] at hiyk
          clear hr HA HB HRR
          go_wp2_with fail
          go_ret3
          exact ⟨ay, cy, (by go_num), hiyk, fun p h => (by have := hay p h; have := hbw.size; omega), hbe⟩
        | true =>
          have hne := HB.out rfl
          have hr := HRR.out
          rw [if_neg hne] at hr
          have hd := HDR.out hne
          have hFF : Hid (sumD es k Y + 1 ≤ F') := (show _ ≤ _ by have := HF.out; omega)
          have HR2 := Lib.hid hr
          have hsY : t + 1 + sumD es k Y ≤ S0 := by have := HSX.out; omega
          clear hr hne HA HB HRR hd
          go_wp2_with fail
          go_roundw
          case rel => exact ⟨t + 1, ay, cy, Y, F', by go_num, rfl, hiyk, HYL, hFF, HR2, HYG, hsY, fun p h => (by have := hay p h; have := hb.size; have := hb1.size; omega), hbk2⟩
          case measure => simp [intOf]; omega
end Go.Proofs.Ytdkmdcdoiaelfaa

namespace Go.Proofs.Ytdkmdcdoiaelfaa
open Go.RowKit Go.BigFrame

theorem uRec_of {rs : List E2} {u x y : Int} {k : Nat} (h : rs[k]? = some (x, y)) : uRec rs u k = decide (x = u) := by unfold uRec; rw [h]
set_option maxRecDepth 100000 in
set_option maxHeartbeats 3200000 in
theorem neigh34_any (S : Nat) (u : Int) (a : Option Addr) (cap : Nat) (rs : List E2) (w : World) (he : EdgesAt w (.slice a rs.length cap) rs) (hl : rs.length ≤ 100000) (hck : chkR (S : Int) rs = 0) :
    Calls Try.prog 83 #[.agg #[.int .i64 (S : Int), .slice a rs.length cap], .int .i64 u] w fun e w' => ∃ v, e = .returned (.tuple #[v, .int .i64 (rdsN S rs u : Int), .int .i64 0]) ∧ Below w.heap.size w w' := by
  have hsz : 1 ≤ S ∧ S ≤ 1024 := by
    unfold chkR at hck
    split at hck
    · cases hck
    · omega
  obtain ⟨hxA, hb0⟩ := boxG_new w #[.int .i64 (S : Int), .slice a rs.length cap] 33
  obtain ⟨wA, hwA⟩ : ∃ W : World, W = w.alloc (.cells #[.int .i64 (S : Int), .slice a rs.length cap] 33) := ⟨_, rfl⟩
  rw [← hwA] at hxA hb0
  have HWA := Lib.hid hwA
  clear hwA
  have hcc := check34_any (S : Int) a cap rs wA (he.below hb0)
  rw [hck] at hcc
  have hend := rdK_end (rs := rs) (u := u) hsz.1
  have hs0 : ¬ (S : Int) = 0 := by omega
  have hs1 : ((S : Int) == 0) = false := by simp; omega
  have hs2 : ¬ S = 0 := by omega
  have HEND := Lib.hid hend
  clear hck hend
  obtain ⟨k0, k1⟩ := cells2R hxA
  go_enter Try.func83, Try.ntmps83
  go_wp2_with (rw [← HWA.out])
  refine hcc.mono ?_
  rintro e w1 ⟨rfl, hb1⟩
  have hx1 := lit_next' hb1 hxA
  have hb01 := hb0.trans (hb1.mono hb0.size)
  have HE := Lib.hid (he.below hb01)
  clear k0 k1 hcc
  go_upto_region 7 with fail
  go_loopw [8, 9, 10, 11] (fun vo vr vb vi wr => ∃ (k R : Nat) (b : Int) (P : List Int), k ≤ rs.length ∧ vi = .int .i64 (k : Int) ∧ vr = .int .i64 (R : Int) ∧ vb = .int .i64 b ∧ Hid (R = rdK S rs u k) ∧ R ≤ 100000 ∧ Hid (lastB S rs u k b) ∧ P.length ≤ k ∧ wr.ownsRow w1.heap.size 3 1 vo P.length (intsV P) ∧ Below w1.heap.size w1 wr) (fun _ _ _ vi _ => rs.length - (intOf vi).toNat)
  case atStart => exact ⟨0, 0, -1, [], Nat.zero_le _, rfl, rfl, rfl, (show _ = _ from rdK_zero.symm), Nat.zero_le _, (show lastB S rs u 0 (-1) from lastB_zero), Nat.le_refl _, World.ownsRow_nil _ _ _ _, Below.refl _ _⟩
  case round =>
    obtain ⟨k, R, b, P, hk, rfl, rfl, rfl, HR, hRl, HL, hPk, hown, hb⟩ := hrel
    obtain ⟨ao, co, hvo⟩ := owns_shape hown
    subst hvo
    have hxr := lit_next' hb hx1
    obtain ⟨k0, k1⟩ := cells2R hxr
    by_cases hlt : k < rs.length
    · have hlt3 : (k : Int) < rs.length := by omega
      obtain ⟨b9, o9, x, y, rfl, hxy, -, -, c0, c1⟩ := (HE.out.below hb).at k hlt
      have hu := uRec_of (u := u) hxy
      clear hxy
      by_cases hxu : x = u
      · subst hxu
        have hut : uRec rs x k = true := by rw [hu]; simp
        have hlit := ints_lit1 wr y 3
        have hownA := hown.alloc (.cells #[.int .i64 y] 3)
        have hbA := hb.alloc hb.size (.cells #[.int .i64 y] 3)
        have hat := lastB_at HL.out
        have HLY : Hid (lastB S rs x (k + 1) ((k / S : Nat) : Int)) := (show lastB S rs x (k + 1) ((k / S : Nat) : Int) from lastB_yes hut)
        have hold := rdK_old (S := S) k hut
        have hnew := rdK_new (S := S) k hlt hut
        have hlek := rdK_le (S := S) (rs := rs) (u := x) (k + 1)
        obtain ⟨Q, hQ⟩ : ∃ Q, k / S = Q := ⟨_, rfl⟩
        have hq1 : (k : Int).tdiv (S : Int) = (Q : Int) := by rw [← hQ]; rfl
        have hq2 : (k : Int) / (S : Int) = (Q : Int) := by rw [← hQ]; rfl
        have hq4 : Q ≤ k := by rw [← hQ]; exact Nat.div_le_self k S
        have hqw : IntKind.i64.wrap (Q : Int) = (Q : Int) := IntWalk.i64_in _ (by omega)
        rw [hQ] at hat HLY hold hnew
        have HAT := Lib.hid hat
        have HOLD := Lib.hid hold
        have HNEW := Lib.hid hnew
        have HLEK := Lib.hid hlek
        clear hat hold hnew hQ hu hut hlek
        by_cases hqb : (Q : Int) = b
        · have hr2 : rdK S rs x (k + 1) = R := by rw [HOLD.out (HAT.out.1 hqb), HR.out]
          have HR2 : Hid (R = rdK S rs x (k + 1)) := (show _ = _ from hr2.symm)
          subst hqb
          clear hr2 HAT HOLD HNEW HR HL
          go_wp2_with (at_builtin; refine wpList_app_ints intsT rfl _ _ rfl w1.heap.size (.slice ao P.length co) _ P [y] rfl hownA rfl hlit (by rw [List.length_singleton]; omega) hbA.size ?_; intro v6 w6 hown6 hg6; have hb6 := hbA.grown hg6 hbA.size (fun g e => (hownA.lt g e).1); have hx6 := lit_next' hb6 hx1; have kk0 := (cells2R hx6).1; have kk1 := (cells2R hx6).2)
          go_roundw
          case rel => exact ⟨k + 1, R, (Q : Int), P ++ [y], by omega, by go_num, rfl, rfl, HR2, hRl, HLY, by simp; omega, hown6, hb6⟩
          case measure => simp [intOf]; omega
        · have hpf : bkK S rs x k Q = false := by
            cases hh : bkK S rs x k Q with
            | false => rfl
            | true => exact absurd (HAT.out.2 hh) hqb
          have hr2 : rdK S rs x (k + 1) = R + 1 := by rw [HNEW.out hpf, HR.out]
          have HR2 : Hid (R + 1 = rdK S rs x (k + 1)) := (show _ = _ from hr2.symm)
          have hR1 : R + 1 ≤ 100000 := by have := HLEK.out; omega
          have hqd : ((Q : Int) != b) = true := by simpa using hqb
          have hqe : decide ((Q : Int) = b) = false := by simpa using hqb
          have hqf : ((Q : Int) == b) = false := by simpa using hqb
          clear hr2 hpf HAT HOLD HNEW HR HL
          go_wp2_with (at_builtin; refine wpList_app_ints intsT rfl _ _ rfl w1.heap.size (.slice ao P.length co) _ P [y] rfl hownA rfl hlit (by rw [List.length_singleton]; omega) hbA.size ?_; intro v6 w6 hown6 hg6; have hb6 := hbA.grown hg6 hbA.size (fun g e => (hownA.lt g e).1); have hx6 := lit_next' hb6 hx1; have kk0 := (cells2R hx6).1; have kk1 := (cells2R hx6).2)
          go_roundw
          case rel => exact ⟨k + 1, R + 1, (Q : Int), P ++ [y], by omega, by go_num, by go_num, by go_num, HR2, hR1, HLY, by simp; omega, hown6, hb6⟩
          case measure => simp [intOf]; omega
      · have huf : uRec rs u k = false := by rw [hu]; simpa using hxu
        have HR2 : Hid (R = rdK S rs u (k + 1)) := (show _ = _ by rw [rdK_no k huf, HR.out])
        have HL2 : Hid (lastB S rs u (k + 1) b) := (show lastB S rs u (k + 1) b from lastB_no HL.out huf)
        have hxf : (x == u) = false := by simpa using hxu
        clear huf hu HR HL
        go_wp2_with fail
        go_roundw
        case rel => exact ⟨k + 1, R, b, P, by omega, by go_num, rfl, rfl, HR2, hRl, HL2, by omega, hown, hb⟩
        case measure => simp [intOf]; omega
    · obtain rfl : k = rs.length := by omega
      have hRe : R = rdsN S rs u := by rw [HR.out]; exact HEND.out
      subst hRe
      have hbe := hb01.trans (hb.mono hb01.size)
      clear HR HEND HL
      go_wp2_with fail
      go_ret3
      exact ⟨_, rfl, hbe⟩
end Go.Proofs.Ytdkmdcdoiaelfaa
