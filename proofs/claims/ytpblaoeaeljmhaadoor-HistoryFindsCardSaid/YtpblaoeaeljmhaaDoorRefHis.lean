/- The contracts of the reference's layer 8: Check, At, Times; and of ref02.Union. -/
import Derived.Test.YtpblaoeaeljmhaaDoorHisPlain
import Derived.Test.YtpblaoeaeljmhaaDoorHisTimes
import Derived.Test.YtpblaoeaeljmhaaDoorLkRAp
import Derived.Test.YtpblaoeaeljmhaaDoorOfNew
namespace Go.Proofs.YtpblaoeaeljmhaaDoor
open Go.RowKit Go.BigFrame

set_option maxRecDepth 100000 in
set_option maxHeartbeats 1600000 in
theorem rhcheck_any (n : Int) (es : List Ev) (a : Option Addr) (cap : Nat) (w : World) (hl : RowAt encEv w (.slice a es.length cap) es) :
    Calls Tryd.prog 23 #[.int .i64 n, .slice a es.length cap] w fun e w' => e = .returned (.int .i64 (hisS n es)) ∧ Below w.heap.size w w' := by
  have hsm := hl.small
  unfold hisS
  by_cases h1 : n < 0
  · rw [if_pos (.inl h1)]
    go_enter Tryd.func23, Tryd.ntmps23
    go_wp2_with fail
    go_ret
    exact ⟨rfl, Below.refl _ _⟩
  by_cases h2 : 64 < n
  · rw [if_pos (.inr h2)]
    have h3 : ¬ n < 0 := h1
    go_enter Tryd.func23, Tryd.ntmps23
    go_wp2_with fail
    go_ret
    exact ⟨rfl, Below.refl _ _⟩
  rw [if_neg (by omega)]
  by_cases h3 : 65536 < es.length
  · rw [if_pos h3]
    have d3 : (65536 : Int) < es.length := by omega
    go_enter Tryd.func23, Tryd.ntmps23
    go_wp2_with fail
    go_ret
    exact ⟨rfl, Below.refl _ _⟩
  rw [if_neg h3]
  have d3 : ¬ (65536 : Int) < es.length := by omega
  obtain ⟨RES, hRES⟩ : ∃ r, hisL n 0 es = r := ⟨_, rfl⟩
  rw [hRES]
  have HR0 : Hid (hisL n 0 (es.drop 0) = RES) := hRES
  clear hRES
  go_enter Tryd.func23, Tryd.ntmps23
  go_wp2_with fail
  go_loopw [19] (fun vi wr => ∃ (i : Nat) (last : Int), i ≤ es.length ∧ vi = .int .i64 i ∧ Hid ((i = 0 ∧ last = 0) ∨ ∃ k p, i = k + 1 ∧ es[k]? = some p ∧ p.time = last) ∧ Below w.heap.size w wr ∧ Hid (hisL n last (es.drop i) = RES)) (fun vi _ => es.length - (intOf vi).toNat)
  case atStart => exact ⟨0, 0, Nat.zero_le _, rfl, .inl ⟨rfl, rfl⟩, Below.refl _ _, HR0⟩
  case round =>
    clear HR0
    obtain ⟨i, last, hi, rfl, HP, hb, HR⟩ := hrel
    by_cases hlt : i < es.length
    · have hlt3 : (i : Int) < es.length := by omega
      have hesr := hl.below hb
      obtain ⟨bb, off, e, rfl, he, hcap, c0, c1, c2, c3, c4, c5, c6⟩ := ev_at hesr i hlt
      have hdr := drop_at es i e he
      have HE : Hid (es[i]? = some e) := he
      have hR := HR.out
      rw [hdr] at hR
      unfold hisL at hR
      have hck := fun W => rcheck_any e W
      have hfe : fitS n e = if evS e ≠ 0 then evS e else if n ≤ e.u ∨ n ≤ e.v then 6 else 0 := rfl
      have hpos : evS e = 0 → 0 ≤ e.time := fun h => (evS_time h).1
      have hbx := (Below.refl wr.heap.size wr).alloc (Nat.le_refl _) (.cells e.cells 41)
      have hX := heap_alloc_new wr (.cells e.cells 41)
      have hbX := hb.trans (hbx.mono hb.size)
      have HPV : Hid (∀ k, i = k + 1 → ∀ W', Below wr.heap.size wr W' → W'.cell? ⟨bb, off + k * 7 + 1, none⟩ = some (.int .i64 last)) := (show ∀ k, _ from fun k hk W' hW' => by
        rcases HP.out with ⟨h0, -⟩ | ⟨k', p, hk', hp, ht⟩
        · omega
        · obtain rfl : k' = k := by omega
          obtain ⟨bb', off', p', ha, hp', -, -, q1, -⟩ := ev_at (hesr.below hW') k' (by omega)
          have hbb := Option.some.inj ha
          simp only [Addr.mk.injEq, and_true] at hbb
          obtain ⟨rfl, rfl⟩ := hbb
          rw [hp] at hp'
          rw [← Option.some.inj hp', ht] at q1
          exact q1)
      have HL0 : Hid (i = 0 → last = 0) := (show _ → _ from fun h0 => by
        rcases HP.out with ⟨-, h⟩ | ⟨k', p, hk', -⟩
        · exact h
        · omega)
      obtain ⟨F, hF⟩ : ∃ F, fitS n e = F := ⟨_, rfl⟩
      obtain ⟨G, hG⟩ : ∃ F, evS e = F := ⟨_, rfl⟩
      rw [hF] at hR hfe
      rw [hG] at hck hfe hpos
      clear hF hG hdr he HP hesr
      obtain ⟨k, t, u, v, wt, lb, sg⟩ := e
      have HR2 := Lib.hid hR
      unfold Ev.cells at hck hbx hX hbX
      dsimp only at c0 c1 c2 c3 c4 c5 c6 hck hfe hbx hX hbX hpos
      have HFE := Lib.hid hfe
      have HPS := Lib.hid hpos
      clear hR hfe HR hb hpos
      obtain ⟨e0, e1, e2, e3, e4, e5, e6⟩ := cells7' hX
      go_wp2_with fail
      refine (hck _).mono ?_
      rintro _ w2 ⟨rfl, hb2⟩
      have hX2 := lk_next hb2 hX
      have hbX2 := hbX.trans (hb2.mono hbX.size)
      have hbr2 := hbx.trans (hb2.mono hbx.size)
      clear hck e0 e1 e2 e3 e4 e5 e6 c0 c1 c2 c3 c4 c5 c6 hX hbX hbx hb2
      by_cases hG0 : G = 0
      case neg =>
        have d1 : (G == 0) = false := by simpa using hG0
        have d2 : (G != 0) = true := by simpa using hG0
        have hres : RES = G := by
          have h := HR2.out
          have hf := HFE.out
          rw [if_pos hG0] at hf
          rw [hf, if_pos hG0] at h
          exact h.symm
        have HRS := Lib.hid hres
        clear hG0 hres HR2 HFE
        go_wp2_with fail
        go_ret
        exact ⟨by rw [HRS.out]; rfl, hbX2⟩
      subst hG0
      obtain ⟨-, e1, e2, e3, -, -, -⟩ := cells7' hX2
      by_cases hF0 : n ≤ u ∨ n ≤ v
      case pos =>
        have hres : RES = 6 := by
          have h := HR2.out
          have hf := HFE.out
          rw [if_neg (by simp), if_pos hF0] at hf
          rw [hf, if_pos (by omega)] at h
          exact h.symm
        have HRS := Lib.hid hres
        clear hres HR2 HFE
        by_cases hu : n ≤ u
        · have d1 : decide (n ≤ u) = true := decide_eq_true hu
          have d2 : decide (u ≥ n) = true := decide_eq_true hu
          clear hF0
          go_wp2_with fail
          go_ret
          exact ⟨by rw [HRS.out]; rfl, hbX2⟩
        · have hv : n ≤ v := by omega
          have d1 : decide (n ≤ u) = false := decide_eq_false hu
          have d2 : decide (u ≥ n) = false := decide_eq_false hu
          have d3 : decide (n ≤ v) = true := decide_eq_true hv
          have d4 : decide (v ≥ n) = true := decide_eq_true hv
          clear hF0
          go_wp2_with fail
          go_ret
          exact ⟨by rw [HRS.out]; rfl, hbX2⟩
      have hu : ¬ n ≤ u := by omega
      have hv : ¬ n ≤ v := by omega
      have d1 : decide (n ≤ u) = false := decide_eq_false hu
      have d2 : decide (u ≥ n) = false := decide_eq_false hu
      have d3 : decide (n ≤ v) = false := decide_eq_false hv
      have d4 : decide (v ≥ n) = false := decide_eq_false hv
      have hres : (if t < last then 9 else hisL n t (es.drop (i + 1))) = RES := by
        have h := HR2.out
        have hf := HFE.out
        rw [if_neg (by simp), if_neg hF0] at hf
        rw [hf, if_neg (by simp)] at h
        exact h
      have ht0 : 0 ≤ t := HPS.out rfl
      have HRS := Lib.hid hres
      have HT := Lib.hid ht0
      have HBA := Lib.hid (fun m => (hbX2.trans (((Below.refl _ w2).drewN m).mono hbX2.size)))
      clear hF0 hres HR2 HFE HPS ht0
      rcases (show i = 0 ∨ ∃ k, i = k + 1 from by cases i with | zero => exact .inl rfl | succ k => exact .inr ⟨k, rfl⟩) with h0 | ⟨k', hk'⟩
      · have hl0 := HL0.out h0
        have hp2 : decide (0 < i) = false := decide_eq_false (by omega)
        have hp3 : decide ((0 : Int) < (i : Int)) = false := decide_eq_false (by omega)
        have hres : hisL n t (es.drop (i + 1)) = RES := by
          have h := HRS.out
          have := HT.out
          rw [if_neg (by omega)] at h
          exact h
        have HRS2 := Lib.hid hres
        clear h0 hl0 hres HL0 HPV
        go_wp2_with fail
        go_quiet (fail)
        go_wp2_with fail
        go_roundw
        case rel => exact ⟨i + 1, t, by omega, by go_num, .inr ⟨i, _, rfl, HE.out, rfl⟩, HBA.out _, HRS2⟩
        case measure => simp [intOf]; omega
      · have hp2 : decide (0 < i) = true := decide_eq_true (by omega)
        have hp3 : decide ((0 : Int) < (i : Int)) = true := decide_eq_true (by omega)
        have v2 : IntKind.i64.wrap ((i : Int) - 1) = (k' : Int) := by rw [IntWalk.i64_in _ (by omega)]; omega
        have hpv := HPV.out k' hk' _ hbr2
        have h8 : (k' : Int) < es.length := by omega
        have h9 : k' < es.length := by omega
        by_cases htl : t < last
        · have hd : decide (last > t) = true := decide_eq_true htl
          have hd2 : decide (t < last) = true := decide_eq_true htl
          have hres : RES = 9 := by
            have h := HRS.out
            rw [if_pos htl] at h
            exact h.symm
          have HRS2 := Lib.hid hres
          clear hk' hres htl
          go_wp2_with fail
          go_quiet (fail)
          go_wp2_with fail
          go_ret
          exact ⟨by rw [HRS2.out]; rfl, HBA.out _⟩
        · have hd : decide (last > t) = false := decide_eq_false htl
          have hd2 : decide (t < last) = false := decide_eq_false htl
          have hres : hisL n t (es.drop (i + 1)) = RES := by
            have h := HRS.out
            rw [if_neg htl] at h
            exact h
          have HRS2 := Lib.hid hres
          clear hk' hres htl
          go_wp2_with fail
          go_quiet (fail)
          go_wp2_with fail
          go_roundw
          case rel => exact ⟨i + 1, t, by omega, by go_num, .inr ⟨i, _, rfl, HE.out, rfl⟩, HBA.out _, HRS2⟩
          case measure => simp [intOf]; omega
    · obtain rfl : i = es.length := by omega
      have hlt3 : ¬ (es.length : Int) < es.length := by omega
      have hres := HR.out
      rw [List.drop_length] at hres
      have HRS : Hid (0 = RES) := hres
      clear hres HR
      go_wp2_with fail
      go_ret
      exact ⟨by rw [← HRS.out]; rfl, hb⟩

set_option maxRecDepth 100000 in
set_option maxHeartbeats 3200000 in
theorem rhat_any (n : Int) (es : List Ev) (time : Int) (a : Option Addr) (cap : Nat) (w : World) (hes : RowAt encEv w (.slice a es.length cap) es) :
    Calls Tryd.prog 25 #[.int .i64 n, .slice a es.length cap, .int .i64 time] w (AtPost w (atX n es time)) := by
  have hsm := hes.small
  have hck := fun W h => rhcheck_any n es a cap W h
  have hval := fun h => his_valid (n := n) (es := es) h
  have bR := (Below.refl w.heap.size w).alloc (Nat.le_refl _) (.cells #[.int .i64 0, .slice none 0 0] 53)
  have hR := heap_alloc_new w (.cells #[.int .i64 0, .slice none 0 0] 53)
  have hck2 := hck _ (hes.below bR)
  have hes1 := hes.below bR
  unfold AtPost atX
  have hfold : es.Pairwise (fun a b => a.time ≤ b.time) → atV time (verF [] false es) = foldS [] (es.filter fun e => decide (e.time ≤ time)) := fun h => by rw [atV_atD]; exact at_fold time es [] false h
  obtain ⟨RL, hRL⟩ : ∃ s, atV time (verF [] false es) = s := ⟨_, rfl⟩
  rw [hRL] at hfold ⊢
  obtain ⟨Z, hZ⟩ : ∃ Z, hisS n es = Z := ⟨_, rfl⟩
  rw [hZ] at hck2 hval ⊢
  clear hZ hck hRL
  by_cases h0 : Z = 0
  case neg =>
    have d1 : (Z == 0) = false := by simpa using h0
    have d2 : (Z != 0) = true := by simpa using h0
    rw [if_pos h0]
    clear hval h0 hfold
    dsimp only
    go_enter Tryd.func25, Tryd.ntmps25
    go_wp2_with fail
    refine hck2.mono ?_
    rintro _ w1 ⟨rfl, hb1⟩
    have hR1 := lk_next hb1 hR
    have hbw := bR.trans (hb1.mono bR.size)
    have r0 := cell_blk (j := 0) hR1
    have r1 := cell_blk (j := 1) hR1
    have g0 := free_blk (j := 0) hR1
    have g1 := free_blk (j := 1) hR1
    go_wp2_with fail
    have hfin := set_two (u := .int .i64 0) (v := .slice none 0 0) hR1
    have t0 := cell_blk (j := 0) hfin
    have t1 := cell_blk (j := 1) hfin
    exact bodyPost_ret (v := .tuple #[.agg #[.int .i64 0, .slice none 0 0], .int .i64 Z]) (by simp [results, Tryd.results25, go_sem, t0, t1]) rfl ⟨none, 0, rfl, RowAt.nil _, hbw.grown (grown_trans grown_lk grown_lk) hbw.size (fun k e => by cases e; exact Nat.le_refl _)⟩
  obtain ⟨hn0, hn1, hel, hfit, hup⟩ := hval h0
  have HF0 : Hid (foldS [] ((es.drop 0).filter fun e => decide (e.time ≤ time)) = RL) := (hfold hup).symm
  have HFIT := Lib.hid hfit
  subst h0
  rw [if_neg (by simp)]
  dsimp only
  clear hfold hup hfit hval
  go_enter Tryd.func25, Tryd.ntmps25
  go_wp2_with fail
  refine hck2.mono ?_
  rintro _ w1 ⟨rfl, hb1⟩
  have hR1 := lk_next hb1 hR
  have hbw := bR.trans (hb1.mono bR.size)
  have hes2 := hes1.below hb1
  have bS := (Below.refl _ w1).alloc (Nat.le_refl _) (.cells #[.int .i64 n, .slice none 0 0] 53)
  have hS := heap_alloc_new w1 (.cells #[.int .i64 n, .slice none 0 0] 53)
  have hR2 := lk_next bS hR1
  have hes3 := hes2.below bS
  have hbw2 := hbw.trans (bS.mono hbw.size)
  have hslt : w.heap.size + 1 ≤ w1.heap.size := by have := blk_lt hR1; omega
  clear hck2 hR bR hes1 hb1 hR1 hes2 bS hbw hes
  go_wp2_with fail
  obtain ⟨S, hSS⟩ : ∃ S, w1.heap.size = S := ⟨_, rfl⟩
  obtain ⟨wS, hwS⟩ : ∃ W : World, W = w1.alloc (.cells #[.int .i64 n, .slice none 0 0] 53) := ⟨_, rfl⟩
  rw [hSS] at hS hslt
  rw [← hwS] at hS hR2 hes3 hbw2 ⊢
  try rw [hSS]
  clear hwS hSS
  go_loopw [23] (fun vi wr => ∃ (i : Nat) (L : List Lk) (al : Option Addr) (cl : Nat), i ≤ es.length ∧ vi = .int .i64 i ∧ wr.heap[S]? = some (.cells #[.int .i64 n, .slice al L.length cl] 53 (0, 0)) ∧ wr.heap[w.heap.size]? = some (.cells #[.int .i64 0, .slice none 0 0] 53 (0, 0)) ∧ RowAt encLk wr (.slice al L.length cl) L ∧ RowAt encEv wr (.slice a es.length cap) es ∧ Below w.heap.size w wr ∧ Hid (VSt n L) ∧ Hid (foldS L ((es.drop i).filter fun e => decide (e.time ≤ time)) = RL)) (fun vi _ => es.length - (intOf vi).toNat)
  case atStart => exact ⟨0, [], none, 0, Nat.zero_le _, rfl, hS, hR2, RowAt.nil _, hes3, hbw2, (show VSt n [] from ⟨hn0, hn1, by simp, List.Pairwise.nil⟩), HF0⟩
  case round =>
    clear hS hR2 hes3 hbw2 HF0
    obtain ⟨i, L, al, cl, hi, rfl, hS, hR, hL, hE, hbe, HV, HR⟩ := hrel
    by_cases hlt : i < es.length
    · have hlt3 : (i : Int) < es.length := by omega
      obtain ⟨b, off, e, rfl, he, hcap, c0, c1, c2, c3, c4, c5, c6⟩ := ev_at hE i hlt
      have hdr := drop_at es i e he
      have hR' := HR.out
      rw [hdr, List.filter_cons] at hR'
      have hfe := HFIT.out e (List.mem_of_getElem? he)
      have hln := HV.out.length_le
      have hst := fun W h => rapply05_any n e L al cl W h
      have hval := stepL_valid (e := e) HV.out hfe
      have hsv := (stS_iff n L).2 HV.out
      have hsl := stepL_len e L
      have bx := (Below.refl wr.heap.size wr).alloc (Nat.le_refl _) (.cells e.cells 41)
      have hX := heap_alloc_new wr (.cells e.cells 41)
      have hSx := lk_next bx hS
      have hRx := lk_next bx hR
      have hLx := hL.below bx
      have hEx := hE.below bx
      have hbx := hbe.trans (bx.mono hbe.size)
      have hap : appX n L e = ((n, stepL e L), stepC e L, 0) := by
        unfold appX
        rw [if_neg (by rw [hsv]; simp), if_neg (by rw [hfe]; simp)]
      rw [hap] at hst
      obtain ⟨SL, hSL⟩ : ∃ l, stepL e L = l := ⟨_, rfl⟩
      obtain ⟨SC, hSC⟩ : ∃ l, stepC e L = l := ⟨_, rfl⟩
      have hfs : foldS L (e :: (es.drop (i + 1)).filter fun e => decide (e.time ≤ time)) = foldS SL ((es.drop (i + 1)).filter fun e => decide (e.time ≤ time)) := by rw [← hSL]; rfl
      rw [hSL] at hsl hval
      rw [hSL, hSC] at hst
      have hst2 := hst _ hLx
      unfold AppPost at hst2
      dsimp only at hst2
      have HVS : Hid (VSt n SL) := hval
      have HR2 := Lib.hid hR'
      have HFS := Lib.hid hfs
      clear hst hap hsv hSL hSC hval hfe hR' hdr he HR hfs hE hL hS hR hbe bx
      obtain ⟨k, t, u, v, wt, lb, sg⟩ := e
      unfold Ev.cells at hst2 hX hSx hRx hLx hEx hbx
      dsimp only at c0 c1 c2 c3 c4 c5 c6 hst2 hX hSx hRx hLx hEx hbx HR2
      obtain ⟨e0, e1, e2, e3, e4, e5, e6⟩ := cells7' hX
      have s0 := cell_blk (j := 0) hSx
      have s1 := cell_blk (j := 1) hSx
      by_cases htm : t ≤ time
      · have hres : foldS SL ((es.drop (i + 1)).filter fun e => decide (e.time ≤ time)) = RL := by
          have h := HR2.out
          rw [if_pos (by simpa using htm), HFS.out] at h
          exact h
        have HRS := Lib.hid hres
        clear hres HR2 HFS
        go_wp2_with fail
        refine hst2.mono ?_
        rintro _ w3 ⟨a1, k1, a3, k3, rfl, hr1, -, -, -, hb3⟩
        have hS3 := lk_next hb3 hSx
        have hR3 := lk_next hb3 hRx
        have hE3 := hEx.below hb3
        have hb03 := hbx.trans (hb3.mono hbx.size)
        have x0 := cell_blk (j := 0) hS3
        have x1 := cell_blk (j := 1) hS3
        have f0 := free_blk (j := 0) hS3
        have f1 := free_blk (j := 1) hS3
        have hg : w3.grownBy ((w3.setCell ⟨S, 0, none⟩ (.int .i64 n)).setCell ⟨S, 1, none⟩ (.slice a1 SL.length k1)) (some S) := grown_trans grown_lk grown_lk
        have hS4 := set_two (u := .int .i64 n) (v := .slice a1 SL.length k1) hS3
        have hR4 := grown_blk hg hR3 (by intro e; have := Option.some.inj e; omega)
        have hr4 := hr1.grown' hg (fun g e h0 n c p hp => by cases e; exact row_off (by decide) hr1 h0 hS3 p (Value.slice.inj hp).1)
        have hE4 := hE3.grown' hg (fun g e h0 n c p hp => by cases e; exact row_off (by decide) hE3 h0 hS3 p (Value.slice.inj hp).1)
        have hb04 := hb03.grown hg hb03.size (fun k e => by cases e; omega)
        clear hst2 c0 c1 c2 c3 c4 c5 c6 e0 e1 e2 e3 e4 e5 e6 s0 s1 hX hSx hRx hLx hEx hbx hb3 hr1 hR3 hE3 hb03 hg
        go_wp2_with fail
        go_roundw
        case rel =>
          first
            | exact ⟨i + 1, SL, a1, k1, by omega, by go_num, hS4, hR4, hr4, hE4, hb04, HVS, HRS⟩
            | ((repeat apply Exists.intro); exact ⟨⟨i + 1, SL, a1, k1, by omega, by go_num, hS4, hR4, hr4, hE4, hb04, HVS, HRS⟩, rfl⟩)
        case measure => simp [intOf]; omega
      · have hres : foldS L ((es.drop (i + 1)).filter fun e => decide (e.time ≤ time)) = RL := by
          have h := HR2.out
          rw [if_neg (by simpa using htm)] at h
          exact h
        have HRS := Lib.hid hres
        clear hres HR2 HFS hst2
        go_wp2_with fail
        go_roundw
        case rel =>
          first
            | exact ⟨i + 1, L, al, cl, by omega, by go_num, hSx, hRx, hLx, hEx, hbx, HV, HRS⟩
            | ((repeat apply Exists.intro); exact ⟨⟨i + 1, L, al, cl, by omega, by go_num, hSx, hRx, hLx, hEx, hbx, HV, HRS⟩, rfl⟩)
        case measure => simp [intOf]; omega
    · obtain rfl : i = es.length := by omega
      have hlt3 : ¬ (es.length : Int) < es.length := by omega
      have hres : L = RL := by
        have h := HR.out
        rw [List.drop_length] at h
        exact h
      subst hres
      have hln := HV.out.length_le
      have y0 := cell_blk (j := 0) hS
      have y1 := cell_blk (j := 1) hS
      have r0 := cell_blk (j := 0) hR
      have r1 := cell_blk (j := 1) hR
      have g0 := free_blk (j := 0) hR
      have g1 := free_blk (j := 1) hR
      clear HR HV hE
      go_wp2_with fail
      have hfin := set_two (u := .int .i64 n) (v := .slice al L.length cl) hR
      have t0 := cell_blk (j := 0) hfin
      have t1 := cell_blk (j := 1) hfin
      have hg2 : wr.grownBy ((wr.setCell ⟨w.heap.size, 0, none⟩ (.int .i64 n)).setCell ⟨w.heap.size, 1, none⟩ (.slice al L.length cl)) (some w.heap.size) := grown_trans grown_lk grown_lk
      exact bodyPost_ret (v := .tuple #[.agg #[.int .i64 n, .slice al L.length cl], .int .i64 0]) (by simp [results, Tryd.results25, go_sem, t0, t1]) rfl ⟨al, cl, rfl, hL.grown' hg2 (fun g e h0 n c p hp => by cases e; exact row_off (by decide) hL h0 hR p (Value.slice.inj hp).1), hbe.grown hg2 hbe.size (fun k e => by cases e; exact Nat.le_refl _)⟩

theorem ints_grown' {w w' : World} {v : Value} {xs : List Int} {r : Option Nat} (h : IntsAt w v xs) (hg : w.grownBy w' r) (hr : ∀ g, r = some g → Off g v) : IntsAt w' v xs := h.grown hg hr
end Go.Proofs.YtpblaoeaeljmhaaDoor
