/- The contract of ref05.All. -/
import Derived.Test.YtpblaoeaeljmhaaLkAll
import Derived.Test.YtpblaoeaeljmhaaLkRAp
namespace Go.Proofs.Ytpblaoeaeljmhaa
open Go.RowKit Go.BigFrame

def RAllPost (w : World) (r : (Int × List Lk) × Int × Int) (e : Ending) (w' : World) : Prop :=
  ∃ a1 c1, e = .returned (.tuple #[.agg #[.int .i64 r.1.1, .slice a1 r.1.2.length c1], .int .i64 r.2.1, .int .i64 r.2.2]) ∧ RowAt encLk w' (.slice a1 r.1.2.length c1) r.1.2 ∧ Below w.heap.size w w'
set_option maxRecDepth 100000 in
set_option maxHeartbeats 3200000 in
theorem rall05_any (n : Int) (es : List Ev) (ls : List Lk) (a a2 : Option Addr) (cap cap2 : Nat) (w : World) (hl : RowAt encLk w (.slice a ls.length cap) ls) (hev : RowAt encEv w (.slice a2 es.length cap2) es) :
    Calls Try.prog 23 #[.agg #[.int .i64 n, .slice a ls.length cap], .slice a2 es.length cap2] w (RAllPost w (allX n ls es)) := by
  have hW := AlW.start w n (.slice a ls.length cap)
  have hck := fun W h => rcheck05_any n a cap ls W h
  have hl0 := hl.below hW.be
  have hev0 := hev.below hW.be
  have hes := hev.small
  unfold RAllPost allX
  by_cases hS : stS n ls = 0
  case neg =>
    rw [if_pos hS]
    obtain ⟨Z, hZ⟩ : ∃ Z, stS n ls = Z := ⟨_, rfl⟩
    rw [hZ] at hck hS ⊢
    have d1 : (Z == 0) = false := by simpa using hS
    have d2 : (Z != 0) = true := by simpa using hS
    have s0 := cell_blk (j := 0) hW.s
    have s1 := cell_blk (j := 1) hW.s
    have hck2 := hck _ hl0
    clear hS hZ hck
    dsimp only
    go_enter Try.func23, Try.ntmps23
    go_wp2_with fail
    refine hck2.mono ?_
    rintro _ w1 ⟨rfl, hb1⟩
    have hW1 := hW.next hb1
    have r0 := cell_blk (j := 0) hW1.r
    have r1 := cell_blk (j := 1) hW1.r
    have g0 := free_blk (j := 0) hW1.r
    have g1 := free_blk (j := 1) hW1.r
    go_wp2_with fail
    have hfin := set_two (u := .int .i64 0) (v := .slice none 0 0) hW1.r
    have t0 := cell_blk (j := 0) hfin
    have t1 := cell_blk (j := 1) hfin
    exact bodyPost_ret (v := .tuple #[.agg #[.int .i64 0, .slice none 0 0], .int .i64 0, .int .i64 Z]) (by simp [results, Try.results23, go_sem, t0, t1]) rfl ⟨none, 0, rfl, RowAt.nil _, hW1.be.grown (grown_trans grown_lk grown_lk) hW1.be.size (fun k e => by cases e; omega)⟩
  rw [if_neg (by rw [hS]; simp)]
  have hv : Hid (VSt n ls) := (stS_iff n ls).1 hS
  rw [hS] at hck
  obtain ⟨RES, hRES⟩ : ∃ r, allF n ls es 0 0 = r := ⟨_, rfl⟩
  rw [hRES]
  have HR0 : Hid (allF n ls (es.drop 0) 0 0 = RES) := hRES
  have s0 := cell_blk (j := 0) hW.s
  have s1 := cell_blk (j := 1) hW.s
  have hck2 := hck _ hl0
  clear hck hS hRES hl hev
  go_enter Try.func23, Try.ntmps23
  go_wp2_with fail
  refine hck2.mono ?_
  rintro _ w1 ⟨rfl, hb1⟩
  have hW1 := hW.next hb1
  have hl1 := hl0.below hb1
  have hev1 := hev0.below hb1
  clear s0 s1 hW hl0 hev0 hck2 hb1
  go_wp2_with fail
  go_loopw [8, 22] (fun vc vi wr => ∃ (i c : Nat) (L : List Lk) (al : Option Addr) (cl : Nat), i ≤ es.length ∧ vi = .int .i64 i ∧ vc = .int .i64 c ∧ c ≤ i * 4097 ∧ AlW w wr n (.slice al L.length cl) ∧ RowAt encLk wr (.slice al L.length cl) L ∧ RowAt encEv wr (.slice a2 es.length cap2) es ∧ Hid (VSt n L) ∧ Hid (allF n L (es.drop i) i c = RES)) (fun _ vi _ => es.length - (intOf vi).toNat)
  case atStart => exact ⟨0, 0, ls, a, cap, Nat.zero_le _, rfl, rfl, Nat.zero_le _, hW1, hl1, hev1, hv, HR0⟩
  case round =>
    clear hW1 hl1 hev1 hv HR0
    obtain ⟨i, c, L, al, cl, hi, rfl, rfl, hcb, hW, hL, hE, HV, HR⟩ := hrel
    by_cases hlt : i < es.length
    · have hlt3 : (i : Int) < es.length := by omega
      obtain ⟨b, off, e, rfl, he, hcap, c0, c1, c2, c3, c4, c5, c6⟩ := ev_at hE i hlt
      have hdr := drop_at es i e he
      have hR := HR.out
      rw [hdr] at hR
      unfold allF at hR
      have hln := HV.out.length_le
      have hst := fun W h => rapply05_any n e L al cl W h
      have hval := fun h => stepL_valid (e := e) HV.out h
      have hsv := (stS_iff n L).2 HV.out
      have hcl := stepC_len e L
      have hsl := stepL_len e L
      have hbx := (Below.refl wr.heap.size wr).alloc (Nat.le_refl _) (.cells e.cells 52)
      have hX := heap_alloc_new wr (.cells e.cells 52)
      have hWx := hW.next hbx
      have hLx := hL.below hbx
      have hEx := hE.below hbx
      obtain ⟨SL, hSL⟩ : ∃ l, stepL e L = l := ⟨_, rfl⟩
      obtain ⟨SC, hSC⟩ : ∃ l, stepC e L = l := ⟨_, rfl⟩
      obtain ⟨F, hF⟩ : ∃ F, fitS n e = F := ⟨_, rfl⟩
      rw [hSL] at hsl
      rw [hSC] at hcl
      rw [hF, hSL, hSC] at hR
      rw [hF, hSL] at hval
      have hap : appX n L e = if F ≠ 0 then ((0, []), [], F) else ((n, SL), SC, 0) := by
        unfold appX
        rw [if_neg (by rw [hsv]; simp), hF, hSL, hSC]
      rw [hap] at hst
      have HR2 := Lib.hid hR
      have HVAL := Lib.hid hval
      clear hR hdr he hF hval hSL hSC HR hE hL hsv hap HV
      obtain ⟨k, t, u, v, wt, lb, sg⟩ := e
      unfold Ev.cells at hst hbx hX hWx hLx hEx
      dsimp only at c0 c1 c2 c3 c4 c5 c6 hst hbx hX hWx hLx hEx
      obtain ⟨e0, e1, e2, e3, e4, e5, e6⟩ := lk_cells7 hX
      have s0 := cell_blk (j := 0) hWx.s
      have s1 := cell_blk (j := 1) hWx.s
      have hst2 := hst _ hLx
      unfold AppPost at hst2
      clear hst hLx
      by_cases hF0 : F = 0
      case neg =>
        rw [if_pos hF0] at hst2
        have hres : RES = ((0, []), (i : Int), F) := by
          have h := HR2.out
          rw [if_pos hF0] at h
          exact h.symm
        have HRS := Lib.hid hres
        have d1 : (F == 0) = false := by simpa using hF0
        have d2 : (F != 0) = true := by simpa using hF0
        clear hF0 hres HR2 HVAL
        dsimp only at hst2
        go_wp2_with fail
        refine hst2.mono ?_
        rintro _ w3 ⟨a1, k1, a3, k3, rfl, -, -, -, -, hb3⟩
        have hW2 := hWx.next hb3
        have hbn := (Below.refl w3.heap.size w3).alloc (Nat.le_refl _) (.cells #[.int .i64 0, .slice a1 0 k1] 35)
        have hW3 := hW2.next hbn
        have r0 := cell_blk (j := 0) hW3.r
        have r1 := cell_blk (j := 1) hW3.r
        have g0 := free_blk (j := 0) hW3.r
        have g1 := free_blk (j := 1) hW3.r
        go_wp2_with fail
        have hfin := set_two (u := .int .i64 0) (v := .slice none 0 0) hW3.r
        have t0 := cell_blk (j := 0) hfin
        have t1 := cell_blk (j := 1) hfin
        exact bodyPost_ret (v := .tuple #[.agg #[.int .i64 0, .slice none 0 0], .int .i64 i, .int .i64 F]) (by simp [results, Try.results23, go_sem, t0, t1]) rfl (by rw [HRS.out]; exact ⟨none, 0, rfl, RowAt.nil _, hW3.be.grown (grown_trans grown_lk grown_lk) hW3.be.size (fun k e => by cases e; omega)⟩)
      subst hF0
      rw [if_neg (by simp)] at hst2
      have hres : allF n SL (es.drop (i + 1)) (i + 1) (c + SC.length) = RES := by
        have h := HR2.out
        rw [if_neg (by simp)] at h
        exact h
      have HRS : Hid (allF n SL (es.drop (i + 1)) (i + 1) (c + SC.length) = RES) := hres
      have HVS : Hid (VSt n SL) := HVAL.out rfl
      clear hres HR2 HVAL
      dsimp only at hst2
      go_wp2_with fail
      refine hst2.mono ?_
      rintro _ w3 ⟨a1, k1, a3, k3, rfl, hr1, -, -, -, hb3⟩
      have hW3 := hWx.next hb3
      have hE3 := hEx.below hb3
      have hbn := (Below.refl w3.heap.size w3).alloc (Nat.le_refl _) (.cells #[.int .i64 n, .slice a1 SL.length k1] 35)
      have hY4 := heap_alloc_new w3 (.cells #[.int .i64 n, .slice a1 SL.length k1] 35)
      have hW4 := hW3.next hbn
      have hE4 := hE3.below hbn
      have hr4 := hr1.below hbn
      have y0 := cell_blk (j := 0) hY4
      have y1 := cell_blk (j := 1) hY4
      clear c0 c1 c2 c3 c4 c5 c6 s0 s1 e0 e1 e2 e3 e4 e5 e6 hW hWx hX hEx hst2 hW3 hE3 hr1 hb3 hbn hbx
      have s0 := cell_blk (j := 0) hW4.s
      have s1 := cell_blk (j := 1) hW4.s
      have f0 := free_blk (j := 0) hW4.s
      have f1 := free_blk (j := 1) hW4.s
      have hcc : c + SC.length ≤ (i + 1) * 4097 := by rw [Nat.succ_mul]; omega
      have hii : i * 4097 ≤ 4504699138998272 * 4097 := Nat.mul_le_mul_right _ (by omega)
      have v1 : IntKind.i64.wrap ((c : Int) + (SC.length : Int)) = (c : Int) + (SC.length : Int) := IntWalk.i64_in _ (by omega)
      obtain ⟨w4, hw4⟩ : ∃ W : World, W = w3.alloc (.cells #[.int .i64 n, .slice a1 SL.length k1] 35) := ⟨_, rfl⟩
      have hoffL : ∀ g : Nat, some w.heap.size = some g → 0 < SL.length → Off g (.slice a1 SL.length k1) := fun g e h0 n c p hp => by cases e; exact row_off (by decide) hr4 h0 hW4.s p (Value.slice.inj hp).1
      have hoffE : ∀ g : Nat, some w.heap.size = some g → 0 < es.length → Off g (.slice (some ⟨b, off, none⟩) es.length cap2) := fun g e h0 n c p hp => by cases e; exact row_off (by decide) hE4 h0 hW4.s p (Value.slice.inj hp).1
      have hW5 := hW4.put (.slice a1 SL.length k1)
      have hr5 := hr4.grown' (grown_trans (grown_lk (b := w.heap.size) (j := 0) (v := .int .i64 n)) (grown_lk (j := 1) (v := .slice a1 SL.length k1))) hoffL
      have hE5 := hE4.grown' (grown_trans (grown_lk (b := w.heap.size) (j := 0) (v := .int .i64 n)) (grown_lk (j := 1) (v := .slice a1 SL.length k1))) hoffE
      clear hw4 hoffL hoffE hW4 hr4 hE4 hii
      go_wp2_with fail
      go_roundw
      case rel => exact ⟨i + 1, c + SC.length, SL, a1, k1, by omega, by go_num, by go_num, hcc, hW5, hr5, hE5, HVS, HRS⟩
      case measure => simp [intOf]; omega
    · obtain rfl : i = es.length := by omega
      have hres : RES = ((n, L), (c : Int), 0) := by
        have h := HR.out
        rw [List.drop_length] at h
        exact h.symm
      have HRS := Lib.hid hres
      have hln := HV.out.length_le
      have y0 := cell_blk (j := 0) hW.s
      have y1 := cell_blk (j := 1) hW.s
      have r0 := cell_blk (j := 0) hW.r
      have r1 := cell_blk (j := 1) hW.r
      have g0 := free_blk (j := 0) hW.r
      have g1 := free_blk (j := 1) hW.r
      have hbe := hW.be
      clear hres HR HV hE
      go_wp2_with fail
      have hfin := set_two (u := .int .i64 n) (v := .slice al L.length cl) hW.r
      have t0 := cell_blk (j := 0) hfin
      have t1 := cell_blk (j := 1) hfin
      have hg2 : wr.grownBy ((wr.setCell ⟨w.heap.size + 1, 0, none⟩ (.int .i64 n)).setCell ⟨w.heap.size + 1, 1, none⟩ (.slice al L.length cl)) (some (w.heap.size + 1)) := grown_trans grown_lk grown_lk
      exact bodyPost_ret (v := .tuple #[.agg #[.int .i64 n, .slice al L.length cl], .int .i64 c, .int .i64 0]) (by simp [results, Try.results23, go_sem, t0, t1]) rfl (by rw [HRS.out]; exact ⟨al, cl, rfl, hL.grown' hg2 (fun g e h0 n c p hp => by cases e; exact row_off (by decide) hL h0 hW.r p (Value.slice.inj hp).1), hbe.grown hg2 hbe.size (fun k e => by cases e; omega)⟩)
end Go.Proofs.Ytpblaoeaeljmhaa
