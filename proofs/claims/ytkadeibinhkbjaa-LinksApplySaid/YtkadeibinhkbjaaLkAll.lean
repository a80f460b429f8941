/- The contract of applying events. -/
import Derived.Test.YtkadeibinhkbjaaLkApply
namespace Go.Proofs.Ytkadeibinhkbjaa
open Go.RowKit Go.BigFrame

theorem setL_mem (x : Lk) : ∀ (ls : List Lk) (y : Lk), y ∈ setL x ls → y = x ∨ y ∈ ls := by
  intro ls
  induction ls with
  | nil => intro y h; simp [setL] at h; exact .inl h
  | cons l ls ih =>
    intro y h
    unfold setL at h
    split at h
    · rcases List.mem_cons.1 h with h | h
      · exact .inl h
      · exact .inr h
    · split at h
      · rcases List.mem_cons.1 h with h | h
        · exact .inl h
        · exact .inr (List.mem_cons_of_mem _ h)
      · rcases List.mem_cons.1 h with h | h
        · exact .inr (by rw [h]; exact List.mem_cons_self)
        · rcases ih y h with h | h
          · exact .inl h
          · exact .inr (List.mem_cons_of_mem _ h)
theorem setL_sorted (x : Lk) : ∀ ls : List Lk, ls.Pairwise (fun a b => lkB a b = true) → (setL x ls).Pairwise (fun a b => lkB a b = true) := by
  intro ls
  induction ls with
  | nil => intro _; simp [setL]
  | cons l ls ih =>
    intro h
    obtain ⟨h1, h2⟩ := List.pairwise_cons.1 h
    unfold setL
    split
    · rename_i hx
      refine List.pairwise_cons.2 ⟨fun y hy => ?_, h⟩
      rcases List.mem_cons.1 hy with rfl | hy
      · exact hx
      · exact lkB_trans hx (h1 y hy)
    · rename_i hx
      split
      · rename_i hs
        refine List.pairwise_cons.2 ⟨fun y hy => ?_, h2⟩
        have h3 := h1 y hy
        rw [sameE_iff] at hs
        rw [lkB_iff] at h3 ⊢
        omega
      · rename_i hs
        refine List.pairwise_cons.2 ⟨fun y hy => ?_, ih h2⟩
        rcases setL_mem x ls y hy with rfl | hy
        · rcases lk_tri l y with h4 | h4 | h4
          · exact h4
          · exact absurd h4 hx
          · exact absurd h4 hs
        · exact h1 y hy
theorem fit_zero {n : Int} {e : Ev} (h : fitS n e = 0) : evS e = 0 ∧ e.u < n ∧ e.v < n := by
  unfold fitS at h
  split at h
  · rename_i h1; exact absurd h h1
  · rename_i h1
    split at h
    · simp at h
    · exact ⟨by simpa using h1, by omega, by omega⟩
theorem stepL_valid {n : Int} {e : Ev} {ls : List Lk} (hv : VSt n ls) (h : fitS n e = 0) : VSt n (stepL e ls) := by
  obtain ⟨h1, h2, h3⟩ := fit_zero h
  refine ⟨hv.1, hv.2.1, fun l hl => ?_, ?_⟩
  · unfold stepL at hl
    split at hl
    · rename_i hk
      rcases setL_mem _ _ _ hl with rfl | hl
      · unfold evS at h1
        split at h1
        · simp at h1
        · split at h1
          · simp at h1
          · rename_i ht
            split at h1
            · simp at h1
            · rename_i he
              split at h1
              · rename_i ha
                have he' : evEnds e = true := by simpa using he
                unfold evEnds at he'
                rw [if_neg (by omega)] at he'
                simp only [nodeB, Bool.and_eq_true, decide_eq_true_eq] at he'
                unfold LkOk ofEv
                refine ⟨?_, ?_, ?_, ha, ?_, ?_⟩ <;> (dsimp only; omega)
              · simp at h1
      · exact hv.2.2.1 l hl
    · exact hv.2.2.1 l (List.mem_filter.1 hl).1
  · unfold stepL
    split
    · exact setL_sorted _ _ hv.2.2.2
    · exact hv.2.2.2.sublist List.filter_sublist
/-- what All returns, from a state, a place and a count on -/
def allF (n : Int) : List Lk → List Ev → Nat → Nat → (Int × List Lk) × Int × Int
  | ls, [], _, c => ((n, ls), (c : Int), 0)
  | ls, e :: es, i, c => if fitS n e ≠ 0 then ((0, []), (i : Int), fitS n e) else allF n (stepL e ls) es (i + 1) (c + (stepC e ls).length)
def allX (n : Int) (ls : List Lk) (es : List Ev) : (Int × List Lk) × Int × Int := if stS n ls ≠ 0 then ((0, []), 0, stS n ls) else allF n ls es 0 0
theorem stepC_len (e : Ev) (ls : List Lk) : (stepC e ls).length ≤ ls.length + 1 := by
  unfold stepC
  split
  · split <;> simp
  · rw [List.length_map]
    exact Nat.le_succ_of_le (List.length_filter_le _ _)
theorem row_off {α : Type} {E : Enc α} {w : World} {a : Option Addr} {cap g T : Nat} {xs : List α} {x y : Value} (hk : 2 < E.k) (h : RowAt E w (.slice a xs.length cap) xs) (h0 : 0 < xs.length) (hb : w.heap[g]? = some (.cells #[x, y] T (0, 0))) : ∀ p, a = some p → p.block ≠ g := fun p hp e => by
  obtain ⟨b, off, z, ha, _, _, hat⟩ := h.elem 0 h0
  have hu : (E.enc z)[2]? = some ((E.enc z)[2]'(by rw [E.len]; exact hk)) := List.getElem?_eq_getElem _
  have hc := hat 2 _ hu
  rw [hp] at ha
  cases ha
  dsimp only at e
  rw [e, cell_blk hb] at hc
  have : (#[x, y] : Array Value)[off + 0 * E.k + 2]? = none := by
    rw [Array.getElem?_eq_none_iff]; simp
  rw [this] at hc
  cases hc
def AllPost (w : World) (r : (Int × List Lk) × Int × Int) (e : Ending) (w' : World) : Prop :=
  ∃ a1 c1, e = .returned (.tuple #[.agg #[.int .i64 r.1.1, .slice a1 r.1.2.length c1], .int .i64 r.2.1, .int .i64 r.2.2]) ∧ RowAt encLk w' (.slice a1 r.1.2.length c1) r.1.2 ∧ (∀ p, a1 = some p → w.heap.size ≤ p.block) ∧ Below w.heap.size w w'
/-- the boxes of All -/
structure AlW (w wr : World) (n : Int) (v : Value) : Prop where
  s : wr.heap[w.heap.size]? = some (.cells #[.int .i64 n, v] 24 (0, 0))
  r : wr.heap[w.heap.size + 1]? = some (.cells #[.int .i64 0, .slice none 0 0] 24 (0, 0))
  be : Below w.heap.size w wr
theorem AlW.next {w wr w' : World} {n : Int} {v : Value} (h : AlW w wr n v) (hb : Below wr.heap.size wr w') : AlW w w' n v :=
  ⟨lk_next hb h.s, lk_next hb h.r, h.be.trans (hb.mono h.be.size)⟩
theorem AlW.start (w : World) (n : Int) (v : Value) : AlW w ((w.alloc (.cells #[.int .i64 n, v] 24)).alloc (.cells #[.int .i64 0, .slice none 0 0] 24)) n v := by
  have hb1 := (Below.refl w.heap.size w).alloc (Nat.le_refl _) (.cells #[.int .i64 n, v] 24)
  have hb2 := (Below.refl _ (w.alloc (.cells #[.int .i64 n, v] 24))).alloc (Nat.le_refl _) (.cells #[.int .i64 0, .slice none 0 0] 24)
  have hz1 : (w.alloc (.cells #[.int .i64 n, v] 24)).heap.size = w.heap.size + 1 := by simp
  have h1 := heap_alloc_new w (.cells #[.int .i64 n, v] 24)
  have h2 := heap_alloc_new (w.alloc (.cells #[.int .i64 n, v] 24)) (.cells #[.int .i64 0, .slice none 0 0] 24)
  rw [hz1] at h2
  exact ⟨lk_next hb2 h1, h2, hb1.trans (hb2.mono hb1.size)⟩
theorem AlW.put {w wr : World} {n : Int} {v : Value} (v' : Value) (h : AlW w wr n v) : AlW w ((wr.setCell ⟨w.heap.size, 0, none⟩ (.int .i64 n)).setCell ⟨w.heap.size, 1, none⟩ v') n v' :=
  ⟨set_two h.s, grown_blk (grown_trans grown_lk grown_lk) h.r (by intro e; have := Option.some.inj e; omega), h.be.grown (grown_trans grown_lk grown_lk) h.be.size (fun k e => by cases e; exact Nat.le_refl _)⟩
set_option maxRecDepth 100000 in
set_option maxHeartbeats 3200000 in
theorem lall_any (n : Int) (es : List Ev) (ls : List Lk) (a a2 : Option Addr) (cap cap2 : Nat) (w : World) (hl : RowAt encLk w (.slice a ls.length cap) ls) (hev : RowAt encEv w (.slice a2 es.length cap2) es) :
    Calls Try.prog 19 #[.agg #[.int .i64 n, .slice a ls.length cap], .slice a2 es.length cap2] w (AllPost w (allX n ls es)) := by
  have hW := AlW.start w n (.slice a ls.length cap)
  have hck := fun W h => lcheck_any n a cap ls W h
  have hl0 := hl.below hW.be
  have hev0 := hev.below hW.be
  have hes := hev.small
  unfold AllPost allX
  by_cases hS : stS n ls = 0
  case neg =>
    rw [if_pos hS]
    obtain ⟨Z, hZ⟩ : ∃ Z, stS n ls = Z := ⟨_, rfl⟩
    rw [hZ] at hck hS ⊢
    have d1 : (Z == 0) = false := by simpa using hS
    have d2 : (Z != 0) = true := by simpa using hS
    have s0 := cell_blk (j := 0) hW.s
    have s1 := cell_blk (j := 1) hW.s
    have hck2 := hck _ hl0
    clear hS hZ hck
    dsimp only
    go_enter Try.func19, Try.ntmps19
    go_wp2_with fail
    refine hck2.mono ?_
    rintro _ w1 ⟨rfl, hb1⟩
    have hW1 := hW.next hb1
    have r0 := cell_blk (j := 0) hW1.r
    have r1 := cell_blk (j := 1) hW1.r
    have g0 := free_blk (j := 0) hW1.r
    have g1 := free_blk (j := 1) hW1.r
    go_wp2_with fail
    have hfin := set_two (u := .int .i64 0) (v := .slice none 0 0) hW1.r
    have t0 := cell_blk (j := 0) hfin
    have t1 := cell_blk (j := 1) hfin
    exact bodyPost_ret (v := .tuple #[.agg #[.int .i64 0, .slice none 0 0], .int .i64 0, .int .i64 Z]) (by simp [results, Try.results19, go_sem, t0, t1]) rfl ⟨none, 0, rfl, RowAt.nil _, (fun p h => by cases h), hW1.be.grown (grown_trans grown_lk grown_lk) hW1.be.size (fun k e => by cases e; omega)⟩
  rw [if_neg (by rw [hS]; simp)]
  have hv : Hid (VSt n ls) := (stS_iff n ls).1 hS
  rw [hS] at hck
  obtain ⟨RES, hRES⟩ : ∃ r, allF n ls es 0 0 = r := ⟨_, rfl⟩
  rw [hRES]
  have HR0 : Hid (allF n ls (es.drop 0) 0 0 = RES) := hRES
  have s0 := cell_blk (j := 0) hW.s
  have s1 := cell_blk (j := 1) hW.s
  have hck2 := hck _ hl0
  clear hck hS hRES hl hev
  go_enter Try.func19, Try.ntmps19
  go_wp2_with fail
  refine hck2.mono ?_
  rintro _ w1 ⟨rfl, hb1⟩
  have hW1 := hW.next hb1
  have hl1 := hl0.below hb1
  have hev1 := hev0.below hb1
  clear s0 s1 hW hl0 hev0 hck2 hb1
  go_wp2_with fail
  go_loopw [8, 22] (fun vc vi wr => ∃ (i c : Nat) (L : List Lk) (al : Option Addr) (cl : Nat), i ≤ es.length ∧ vi = .int .i64 i ∧ vc = .int .i64 c ∧ c ≤ i * 4097 ∧ AlW w wr n (.slice al L.length cl) ∧ RowAt encLk wr (.slice al L.length cl) L ∧ RowAt encEv wr (.slice a2 es.length cap2) es ∧ Hid (VSt n L) ∧ Hid (allF n L (es.drop i) i c = RES)) (fun _ vi _ => es.length - (intOf vi).toNat)
  case atStart => exact ⟨0, 0, ls, a, cap, Nat.zero_le _, rfl, rfl, Nat.zero_le _, hW1, hl1, hev1, hv, HR0⟩
  case round =>
    clear hW1 hl1 hev1 hv HR0
    obtain ⟨i, c, L, al, cl, hi, rfl, rfl, hcb, hW, hL, hE, HV, HR⟩ := hrel
    by_cases hlt : i < es.length
    · have hlt3 : (i : Int) < es.length := by omega
      obtain ⟨b, off, e, rfl, he, hcap, c0, c1, c2, c3, c4, c5, c6⟩ := ev_at hE i hlt
      have hdr := drop_at es i e he
      have hR := HR.out
      rw [hdr] at hR
      unfold allF at hR
      have HR2 := Lib.hid hR
      have hft := fun W => lfits_any n e W
      have hln := HV.out.length_le
      have hst := fun W h => lstep_any n e L al cl W h HV.out.2.2.2 hln
      have hval := fun h => stepL_valid (e := e) HV.out h
      have hcl := stepC_len e L
      have hsl := stepL_len e L
      obtain ⟨F, hF⟩ : ∃ F, fitS n e = F := ⟨_, rfl⟩
      rw [hF] at hft hval
      have HF := Lib.hid hF
      have HVAL := Lib.hid hval
      have hbx := (Below.refl wr.heap.size wr).alloc (Nat.le_refl _) (.cells e.cells 26)
      have hX := heap_alloc_new wr (.cells e.cells 26)
      have hWx := hW.next hbx
      have hLx := hL.below hbx
      have hEx := hE.below hbx
      obtain ⟨SL, hSL⟩ : ∃ l, stepL e L = l := ⟨_, rfl⟩
      obtain ⟨SC, hSC⟩ : ∃ l, stepC e L = l := ⟨_, rfl⟩
      rw [hSL, hSC] at hst
      rw [hSL] at hsl
      rw [hSC] at hcl
      have HSL := Lib.hid hSL
      have HSC := Lib.hid hSC
      clear hR hdr he hF hval hSL hSC HR hE hL
      obtain ⟨k, t, u, v, wt, lb, sg⟩ := e
      unfold Ev.cells at hft hst hbx hX hWx hLx hEx
      dsimp only at c0 c1 c2 c3 c4 c5 c6 hft hst hbx hX hWx hLx hEx
      obtain ⟨e0, e1, e2, e3, e4, e5, e6⟩ := lk_cells7 hX
      have s0 := cell_blk (j := 0) hWx.s
      go_wp2_with fail
      refine (hft _).mono ?_
      rintro _ w2 ⟨rfl, hb2⟩
      have hW2 := hWx.next hb2
      have hX2 := lk_next hb2 hX
      have hL2 := hLx.below hb2
      have hE2 := hEx.below hb2
      clear c0 c1 c2 c3 c4 c5 c6 e0 e1 e2 e3 e4 e5 e6 s0 hWx hX hLx hEx hft hb2 hbx hW
      by_cases hF0 : F = 0
      case neg =>
        have d1 : (F == 0) = false := by simpa using hF0
        have d2 : (F != 0) = true := by simpa using hF0
        have hres : RES = ((0, []), (i : Int), F) := by
          have h := HR2.out
          rw [HF.out, if_pos hF0] at h
          exact h.symm
        have HRS := Lib.hid hres
        have r0 := cell_blk (j := 0) hW2.r
        have r1 := cell_blk (j := 1) hW2.r
        have g0 := free_blk (j := 0) hW2.r
        have g1 := free_blk (j := 1) hW2.r
        clear hF0 hres HR2 hst
        go_wp2_with fail
        have hfin := set_two (u := .int .i64 0) (v := .slice none 0 0) hW2.r
        have t0 := cell_blk (j := 0) hfin
        have t1 := cell_blk (j := 1) hfin
        exact bodyPost_ret (v := .tuple #[.agg #[.int .i64 0, .slice none 0 0], .int .i64 i, .int .i64 F]) (by simp [results, Try.results19, go_sem, t0, t1]) rfl (by rw [HRS.out]; exact ⟨none, 0, rfl, RowAt.nil _, (fun p h => by cases h), hW2.be.grown (grown_trans grown_lk grown_lk) hW2.be.size (fun k e => by cases e; omega)⟩)
      subst hF0
      have hres : allF n SL (es.drop (i + 1)) (i + 1) (c + SC.length) = RES := by
        have h := HR2.out
        rw [HF.out, if_neg (by simp), HSL.out, HSC.out] at h
        exact h
      have HRS : Hid (allF n SL (es.drop (i + 1)) (i + 1) (c + SC.length) = RES) := hres
      have hvs : VSt n SL := by have h := HVAL.out rfl; rw [HSL.out] at h; exact h
      have HVS : Hid (VSt n SL) := hvs
      obtain ⟨e0, e1, e2, e3, e4, e5, e6⟩ := lk_cells7 hX2
      have s0 := cell_blk (j := 0) hW2.s
      have s1 := cell_blk (j := 1) hW2.s
      have hst2 := hst _ hL2
      unfold StepPost at hst2
      clear hres hvs HR2 hst HVAL HV hL2
      go_wp2_with fail
      refine hst2.mono ?_
      rintro _ w3 ⟨a1, k1, a3, k3, rfl, hr1, -, -, -, hb3⟩
      have hW3 := hW2.next hb3
      have hE3 := hE2.below hb3
      have hbn := (Below.refl w3.heap.size w3).alloc (Nat.le_refl _) (.cells #[.int .i64 n, .slice a1 SL.length k1] 24)
      have hY4 := heap_alloc_new w3 (.cells #[.int .i64 n, .slice a1 SL.length k1] 24)
      have hW4 := hW3.next hbn
      have hE4 := hE3.below hbn
      have hr4 := hr1.below hbn
      have y0 := cell_blk (j := 0) hY4
      have y1 := cell_blk (j := 1) hY4
      clear s0 s1 e0 e1 e2 e3 e4 e5 e6 hW2 hX2 hE2 hst2 hW3 hE3 hr1 hb3 hbn
      have s0 := cell_blk (j := 0) hW4.s
      have s1 := cell_blk (j := 1) hW4.s
      have f0 := free_blk (j := 0) hW4.s
      have f1 := free_blk (j := 1) hW4.s
      have hcc : c + SC.length ≤ (i + 1) * 4097 := by rw [Nat.succ_mul]; omega
      have hii : i * 4097 ≤ 4504699138998272 * 4097 := Nat.mul_le_mul_right _ (by omega)
      have v1 : IntKind.i64.wrap ((c : Int) + (SC.length : Int)) = (c : Int) + (SC.length : Int) := IntWalk.i64_in _ (by omega)
      obtain ⟨w4, hw4⟩ : ∃ W : World, W = w3.alloc (.cells #[.int .i64 n, .slice a1 SL.length k1] 24) := ⟨_, rfl⟩
      have hoffL : ∀ g : Nat, some w.heap.size = some g → 0 < SL.length → Off g (.slice a1 SL.length k1) := fun g e h0 n c p hp => by cases e; exact row_off (by decide) hr4 h0 hW4.s p (Value.slice.inj hp).1
      have hoffE : ∀ g : Nat, some w.heap.size = some g → 0 < es.length → Off g (.slice (some ⟨b, off, none⟩) es.length cap2) := fun g e h0 n c p hp => by cases e; exact row_off (by decide) hE4 h0 hW4.s p (Value.slice.inj hp).1
      have hW5 := hW4.put (.slice a1 SL.length k1)
      have hr5 := hr4.grown' (grown_trans (grown_lk (b := w.heap.size) (j := 0) (v := .int .i64 n)) (grown_lk (j := 1) (v := .slice a1 SL.length k1))) hoffL
      have hE5 := hE4.grown' (grown_trans (grown_lk (b := w.heap.size) (j := 0) (v := .int .i64 n)) (grown_lk (j := 1) (v := .slice a1 SL.length k1))) hoffE
      clear hw4 hoffL hoffE hW4 hr4 hE4 hii
      go_wp2_with fail
      go_roundw
      case rel => exact ⟨i + 1, c + SC.length, SL, a1, k1, by omega, by go_num, by go_num, hcc, hW5, hr5, hE5, HVS, HRS⟩
      case measure => simp [intOf]; omega
    · obtain rfl : i = es.length := by omega
      have hres : RES = ((n, L), (c : Int), 0) := by
        have h := HR.out
        rw [List.drop_length] at h
        exact h.symm
      have HRS := Lib.hid hres
      have hln := HV.out.length_le
      have s1 := cell_blk (j := 1) hW.s
      clear hres HR HV hE
      go_wp2_with fail
      refine (lkclone_any _ L _ hL (by omega)).mono ?_
      rintro _ w5 ⟨x6, rfl, hown6, hb5⟩
      obtain ⟨a5, c5, hx6⟩ := owns_shape hown6
      subst hx6
      obtain ⟨_, _, hv', hr5, hp5⟩ := RowAt.of_owns hown6 (by omega)
      obtain ⟨rfl, -, rfl⟩ := Value.slice.inj hv'
      have hW5 := hW.next hb5
      have hz := blk_lt hW.r
      have y0 := cell_blk (j := 0) hW5.s
      have y1 := cell_blk (j := 1) hW5.s
      have yf := free_blk (j := 1) hW5.s
      have r0 := cell_blk (j := 0) hW5.r
      have r1 := cell_blk (j := 1) hW5.r
      have g0 := free_blk (j := 0) hW5.r
      have g1 := free_blk (j := 1) hW5.r
      have hR6 := (Below.heap_setCell w5 ⟨w.heap.size, 1, none⟩ (.slice a5 L.length c5) (w.heap.size + 1) (by show w.heap.size + 1 ≠ w.heap.size; omega)).trans hW5.r
      have HR6 := Lib.hid hR6
      have hbe5 := hW5.be
      clear hown6 hv' hb5 hR6 s1
      go_wp2_with fail
      have hfin := set_two (u := .int .i64 n) (v := .slice a5 L.length c5) HR6.out
      have t0 := cell_blk (j := 0) hfin
      have t1 := cell_blk (j := 1) hfin
      have hg1 : w5.grownBy (w5.setCell ⟨w.heap.size, 1, none⟩ (.slice a5 L.length c5)) (some w.heap.size) := grown_lk
      have hg2 : (w5.setCell ⟨w.heap.size, 1, none⟩ (.slice a5 L.length c5)).grownBy (((w5.setCell ⟨w.heap.size, 1, none⟩ (.slice a5 L.length c5)).setCell ⟨w.heap.size + 1, 0, none⟩ (.int .i64 n)).setCell ⟨w.heap.size + 1, 1, none⟩ (.slice a5 L.length c5)) (some (w.heap.size + 1)) := grown_trans grown_lk grown_lk
      exact bodyPost_ret (v := .tuple #[.agg #[.int .i64 n, .slice a5 L.length c5], .int .i64 c, .int .i64 0]) (by simp [results, Try.results19, go_sem, t0, t1]) rfl (by rw [HRS.out]; exact ⟨a5, c5, rfl, (hr5.grown hg1 (fun g e n c p hp => by cases e; have := hp5 p (Value.slice.inj hp).1; omega)).grown hg2 (fun g e n c p hp => by cases e; have := hp5 p (Value.slice.inj hp).1; omega), (fun p hp => by have := hp5 p hp; omega), (hbe5.grown hg1 hbe5.size (fun k e => by cases e; exact Nat.le_refl _)).grown hg2 (by have := hbe5.size; simpa using this) (fun k e => by cases e; omega)⟩)
end Go.Proofs.Ytkadeibinhkbjaa
