/- The contracts of an edge that comes, and one that goes, when the new graph is known. -/
import Derived.Test.YtkknknehchnccaaDoorRepMov
namespace Go.Proofs.YtkknknehchnccaaDoor
open Go.RowKit Go.BigFrame

/-- the boxes of the arguments, and the box of the result -/
structure Bx3 (w : World) (c0 c1 c2 g0 g1 y0 y1 y2 : Value) (wr : World) : Prop where
  c : wr.heap[w.heap.size]? = some (.cells #[c0, c1, c2] 62 (0, 0))
  g : wr.heap[w.heap.size + 1]? = some (.cells #[g0, g1] 25 (0, 0))
  o : wr.heap[w.heap.size + 1 + 1]? = some (.cells #[y0, y1, y2] 62 (0, 0))
  be : Below w.heap.size w wr
section
variable {w wr w' : World} {c0 c1 c2 g0 g1 y0 y1 y2 : Value}
theorem Bx3.next (h : Bx3 w c0 c1 c2 g0 g1 y0 y1 y2 wr) (hb : Below wr.heap.size wr w') : Bx3 w c0 c1 c2 g0 g1 y0 y1 y2 w' := ⟨lit_next' hb h.c, lit_next' hb h.g, lit_next' hb h.o, h.be.trans (hb.mono h.be.size)⟩
theorem Bx3.drew (h : Bx3 w c0 c1 c2 g0 g1 y0 y1 y2 wr) : Bx3 w c0 c1 c2 g0 g1 y0 y1 y2 wr.drew := h.next (Below.refl _ _).drew
theorem Bx3.base (h : Bx3 w c0 c1 c2 g0 g1 y0 y1 y2 wr) : w.heap.size + 3 ≤ wr.heap.size := blk_lt h.o
theorem Bx3.fin (h : Bx3 w c0 c1 c2 g0 g1 y0 y1 y2 wr) (x0 x1 x2 : Value) : Bx3 w c0 c1 c2 g0 g1 x0 x1 x2 (set3 wr (w.heap.size + 1 + 1) x0 x1 x2) :=
  ⟨(set3_other _ _ _ _ _ _ (by omega)).trans h.c, (set3_other _ _ _ _ _ _ (by omega)).trans h.g, set3_at h.o x0 x1 x2, h.be.grown (set3_grown _ _ _ _ _) h.be.size (fun k e => by cases e; omega)⟩
theorem Bx3.start (w : World) (c0 c1 c2 g0 g1 y0 y1 y2 : Value) : Bx3 w c0 c1 c2 g0 g1 y0 y1 y2 (((w.alloc (.cells #[c0, c1, c2] 62)).alloc (.cells #[g0, g1] 25)).alloc (.cells #[y0, y1, y2] 62)) := by
  refine ⟨?_, ?_, ?_, (((Below.refl _ _).alloc (Nat.le_refl _) _).alloc (by simp) _).alloc (by simp; omega) _⟩
  · rw [Below.heap_alloc _ _ _ (by simp; omega), Below.heap_alloc _ _ _ (by simp)]; exact heap_alloc_new _ _
  · rw [Below.heap_alloc _ _ _ (by simp)]
    have := heap_alloc_new (w.alloc (.cells #[c0, c1, c2] 62)) (.cells #[g0, g1] 25)
    simpa using this
  · have := heap_alloc_new ((w.alloc (.cells #[c0, c1, c2] 62)).alloc (.cells #[g0, g1] 25)) (.cells #[y0, y1, y2] 62)
    simpa using this
end
theorem corT_bd {n : Nat} {es : List E2} (hv : Valid n es) : ∀ x ∈ corT es n, -100 ≤ x ∧ x ≤ 100 := fun x hx => by
  obtain ⟨v, hvm, rfl⟩ := List.mem_map.1 hx
  have hvn := List.mem_range.1 hvm
  obtain ⟨c, hc⟩ := cor_nat es n v hvn
  have h1 := cor_lt hv v hvn
  have h2 := hv.2.1
  rw [hc] at h1 ⊢
  omega
theorem corT_at {n : Nat} (es : List E2) (v : Nat) (hv : v < n) : (corT es n)[v]? = some (nfN (corT es n) v : Int) := by
  have h1 : (corT es n)[v]? = some (corF es n v) := fnL_get n _ v hv
  have h2 := nfN_cor (n := n) es hv
  rw [h1] at h2 ⊢
  exact congrArg some h2
theorem abv_msk {n : Nat} (es : List E2) (k : Nat) : mskN (abvS (corT es n) (k : Int)) n = mskN (fun y => decide (y < n ∧ k < nfN (corT es n) y)) n := by
  refine mskN_congr n fun y hy => ?_
  unfold abvS
  rw [corT_at es y hy, decide_eq_decide]
  simp only [Option.getD_some]
  omega
set_option maxRecDepth 100000 in
set_option maxHeartbeats 6400000 in
theorem rinsert_any (n p q : Nat) (a a2 ag : Option Addr) (cap c2 cg : Nat) (es : List E2) (w : World) (he : EdgesAt w (.slice a es.length cap) es) (hi : IntsAt w (.slice a2 (corT es n).length c2) (corT es n)) (hg : EdgesAt w (.slice ag (insE es (min (p : Int) q, max (p : Int) q)).length cg) (insE es (min (p : Int) q, max (p : Int) q)))
    (hv : Valid n es) (hp : p < n) (hq : q < n) (hne : p ≠ q) (hT : TzAt w) :
    Calls Tryd.prog 80 #[.agg #[.int .i64 n, .slice a es.length cap, .slice a2 (corT es n).length c2], .agg #[.int .i64 n, .slice ag (insE es (min (p : Int) q, max (p : Int) q)).length cg], .int .i64 p, .int .i64 q] w
      (MovPost w n (.slice ag (insE es (min (p : Int) q, max (p : Int) q)).length cg) (corT (insE es (min (p : Int) q, max (p : Int) q)) n) (chgL n (corT es n) (corT (insE es (min (p : Int) q, max (p : Int) q)) n))) := by
  have hn : n ≤ 64 := by have := hv.2.1; omega
  have hvf := hv.ins _ (ends_pair hp hq hne)
  have hRB := regB_is es n p q (corT es n) hp hq
  have hSB := setB_is (adjB (insE es (min (p : Int) q, max (p : Int) q))) n (regB es n (corT es n) p q) (fun y => decide (y < n ∧ min (nfN (corT es n) p) (nfN (corT es n) q) < nfN (corT es n) y)) (min (nfN (corT es n) p) (nfN (corT es n) q) + 1)
  have hcm := cor_more hv hp hq hne hRB hSB
  have hRn : ∀ x, regB es n (corT es n) p q x = true → x < n := fun x hx => (hRB.reg.lev x hx).1
  have hSn := fun x hx => hRn x (hSB.sub x hx)
  have hreg := fun W h1 h2 h3 => region_any n p q a a2 cap c2 es (corT es n) W h1 h2 hv (corT_length es n) (fun v hv => corT_at es v hv) hp hq hne h3
  have habv := fun W h => above_any a2 c2 (corT es n) (min (nfN (corT es n) p) (nfN (corT es n) q) : Nat) W h (by rw [corT_length]; exact hn)
  have hset := fun g W h1 h2 => settle_any n g (min (nfN (corT es n) p) (nfN (corT es n) q) + 1) (insE es (min (p : Int) q, max (p : Int) q)) (regB es n (corT es n) p q) (fun y => decide (y < n ∧ min (nfN (corT es n) p) (nfN (corT es n) q) < nfN (corT es n) y)) W hvf h1 hRn h2
  have hmov := fun W h1 h2 => moved_any n n (.slice a es.length cap) ag (insE es (min (p : Int) q, max (p : Int) q)).length cg a2 c2 (corT es n) _ 1 W h1 (corT_length es n) hn hSn (by omega) (corT_bd hv) h2
  have hrows := fun W h => rows_any n ag cg (insE es (min (p : Int) q, max (p : Int) q)) W h hvf
  rw [hcm.2, hcm.1]
  have habv' : ∀ W, IntsAt W (.slice a2 (corT es n).length c2) (corT es n) → Calls Tryd.prog 125 #[.slice a2 (corT es n).length c2, .int .i64 (min (nfN (corT es n) p) (nfN (corT es n) q) : Nat)] W fun e w' => e = .returned (.int .u64 (mskN (fun y => decide (y < n ∧ min (nfN (corT es n) p) (nfN (corT es n) q) < nfN (corT es n) y)) n : Int)) ∧ W = w' := fun W h =>
    (habv W h).mono fun e w' h => ⟨by rw [h.1, corT_length, abv_msk], h.2⟩
  have hcl := corT_length es n
  have hkl : min (nfN (corT es n) p) (nfN (corT es n) q) ≤ 100 := by
    have := corT_bd hv _ (List.mem_of_getElem? (corT_at es p hp))
    omega
  clear habv hcm hRB hSB hRn hSn
  generalize setB (adjB (insE es (min (p : Int) q, max (p : Int) q))) n (regB es n (corT es n) p q) (fun y => decide (y < n ∧ min (nfN (corT es n) p) (nfN (corT es n) q) < nfN (corT es n) y)) (min (nfN (corT es n) p) (nfN (corT es n) q) + 1) = SS at *
  generalize mskN (fun y => decide (y < n ∧ min (nfN (corT es n) p) (nfN (corT es n) q) < nfN (corT es n) y)) n = AM at *
  generalize mskN (regB es n (corT es n) p q) n = RM at *
  generalize min (nfN (corT es n) p) (nfN (corT es n) q) = K at *
  generalize insE es (min (p : Int) q, max (p : Int) q) = fs at *
  have HCL := Lib.hid hcl
  clear hcl
  generalize corT es n = l at *
  generalize mskN SS n = SM at *
  generalize castL (selL n SS) = ZL at *
  generalize upL n l SS 1 = UL at *
  have h0 := Bx3.start w (.int .i64 n) (.slice a es.length cap) (.slice a2 l.length c2) (.int .i64 n) (.slice ag fs.length cg) (.int .i64 0) (.slice none 0 0) (.slice none 0 0)
  obtain ⟨wA, hwA⟩ : ∃ W : World, W = ((w.alloc (.cells #[.int .i64 n, .slice a es.length cap, .slice a2 l.length c2] 62)).alloc (.cells #[.int .i64 n, .slice ag fs.length cg] 25)).alloc (.cells #[.int .i64 0, .slice none 0 0, .slice none 0 0] 62) := ⟨_, rfl⟩
  rw [← hwA] at h0
  have HWA := Lib.hid hwA
  clear hwA
  go_enter Tryd.func80, Tryd.ntmps80
  obtain ⟨k0, k1, k2⟩ := cells3 h0.c
  go_wp2_with (rw [← HWA.out])
  refine (hreg wA (he.below h0.be) (hi.below h0.be) (hT.below h0.be)).mono ?_
  rintro e w1 ⟨rfl, hb1⟩
  have h1 := (h0.next hb1).drew
  have hz1 := h1.base
  clear k0 k1 k2 hb1 h0
  have hcx : ∀ (W : World) (y0 y1 y2 : Value), Bx3 w (.int .i64 n) (.slice a es.length cap) (.slice a2 l.length c2) (.int .i64 n) (.slice ag fs.length cg) y0 y1 y2 W → W.cell? ⟨w.heap.size, 0, none⟩ = some (.int .i64 n) ∧ W.cell? ⟨w.heap.size, 1, none⟩ = some (.slice a es.length cap) ∧ W.cell? ⟨w.heap.size, 2, none⟩ = some (.slice a2 l.length c2) ∧
      W.cell? ⟨w.heap.size + 1, 0, none⟩ = some (.int .i64 n) ∧ W.cell? ⟨w.heap.size + 1, 1, none⟩ = some (.slice ag fs.length cg) := fun W _ _ _ h => ⟨(cells3 h.c).1, (cells3 h.c).2.1, (cells3 h.c).2.2, (cells2 h.g).1, (cells2 h.g).2⟩
  have hK3 : IntKind.i64.wrap ((K : Int) + 1) = (K : Int) + 1 := IntWalk.i64_in _ (by omega)
  have hk1 : ((K + 1 : Nat) : Int) = (K : Int) + 1 := by omega
  rw [hk1] at hset
  clear hk1
  go_wp2_with fail
  go_region_held3 (fun w' => w'.cell? ⟨w.heap.size, 0, none⟩ = some (.int .i64 n) ∧ w'.cell? ⟨w.heap.size, 1, none⟩ = some (.slice a es.length cap) ∧ w'.cell? ⟨w.heap.size, 2, none⟩ = some (.slice a2 l.length c2) ∧
      w'.cell? ⟨w.heap.size + 1, 0, none⟩ = some (.int .i64 n) ∧ w'.cell? ⟨w.heap.size + 1, 1, none⟩ = some (.slice ag fs.length cg))
    (first
      | with_reducible exact hcx _ _ _ _ hM
      | with_reducible exact hcx _ _ _ _ hS
      | with_reducible exact hcx _ _ _ _ hR
      | with_reducible exact hcx _ _ _ _ h1
      | with_reducible exact hcxF)
    (first
      | (go_at_call 100; (with_reducible refine (hrows w1.drew (hg.below h1.be)).mono ?_); rintro e wR ⟨gR, rfl, hgR, hRR, hbR⟩; have hR := h1.next hbR; have hTR := hT.below hR.be)
      | (go_at_call 125; (with_reducible refine (habv' w1.drew (hi.below h1.be)).mono ?_); rintro e wX ⟨rfl, rfl⟩)
      | (go_at_call 125; (with_reducible refine (habv' wR (hi.below hR.be)).mono ?_); rintro e wX ⟨rfl, rfl⟩)
      | (go_at_call 124; (with_reducible refine (hset gR wR hRR hTR).mono ?_); rintro e wS ⟨rfl, hbS⟩; have hS := hR.next hbS)
      | (go_at_call 123; (with_reducible refine (hmov wS (hi.below hS.be) (hT.below hS.be)).mono ?_); rintro e wM ⟨a3, c3, a4, c4, rfl, hiL, hi4, ha3, ha4, hbM⟩; have hM := hS.next hbM; have hF := hM.fin (.int .i64 n) (.slice ag fs.length cg) (.slice a3 UL.length c3); obtain ⟨s0, s1, s2⟩ := cells3 hM.o; obtain ⟨q0, q1, q2⟩ := frees3 hM.o; have hcxF := hcx _ _ _ _ hF; unfold set3 at hcxF))
  all_goals
    have hgF := set3_grown wM (w.heap.size + 1 + 1) (.int .i64 n) (.slice ag fs.length cg) (.slice a3 UL.length c3)
    have hw3 := hS.base
    have hiF := hiL.grown hgF (fun k e n' c' p hp => by cases e; have := ha3 p (Value.slice.inj hp).1; omega)
    have hi4F := hi4.grown hgF (fun k e n' c' p hp => by cases e; have := ha4 p (Value.slice.inj hp).1; omega)
    have ha3' : ∀ p, a3 = some p → w.heap.size ≤ p.block := fun p hp => by have := ha3 p hp; omega
    have ha4' : ∀ p, a4 = some p → w.heap.size ≤ p.block := fun p hp => by have := ha4 p hp; omega
    have HFF := Lib.hid (And.intro hiF (And.intro hi4F hF.be))
    obtain ⟨t0, t1, t2⟩ := cells3 hF.o
    unfold set3 at t0 t1 t2
    clear hgF hiF hi4F hiL hi4 hF hM hS hR h1 hcxF
    go_wp2_with fail
    exact bodyPost_ret (v := .tuple #[.agg #[.int .i64 n, .slice ag fs.length cg, .slice a3 UL.length c3], .slice a4 ZL.length c4]) (by simp [results, Tryd.results80, go_sem, t0, t1, t2]) rfl
      ⟨a3, c3, a4, c4, rfl, HFF.out.1, HFF.out.2.1, ha3', ha4', HFF.out.2.2⟩
theorem lvl_msk {n p q : Nat} (es : List E2) (hp : p < n) (hq : q < n) : mskN (abvS (corT es n) (min (nfN (corT es n) p) (nfN (corT es n) q) : Nat)) n ||| (mskN (levS (corT es n) (min (nfN (corT es n) p) (nfN (corT es n) q) : Nat)) n &&& (18446744073709551615 - mskN (regB es n (corT es n) p q) n)) = mskN (fun y => decide (y < n ∧ min (nfN (corT es n) p) (nfN (corT es n) q) ≤ nfN (corT es n) y ∧ regB es n (corT es n) p q y = false)) n ∨ 64 < n := by
  by_cases hn : n ≤ 64
  · left
    have hR := regB_is es n p q (corT es n) hp hq
    rw [mskN_off _ _ n hn, mskN_join]
    refine mskN_congr n fun y hy => ?_
    unfold abvS levS
    rw [corT_at es y hy, Bool.eq_iff_iff]
    simp only [Option.getD_some, Bool.or_eq_true, Bool.and_eq_true, decide_eq_true_eq, Bool.not_eq_true']
    constructor
    · rintro (h | ⟨h1, h2⟩)
      · refine ⟨hy, by omega, ?_⟩
        cases hr : regB es n (corT es n) p q y with
        | false => rfl
        | true => have := (hR.reg.lev y hr).2; omega
      · exact ⟨hy, by omega, h2⟩
    · rintro ⟨_, h1, h2⟩
      by_cases e : min (nfN (corT es n) p) (nfN (corT es n) q) = nfN (corT es n) y
      · exact .inr ⟨by omega, h2⟩
      · exact .inl (by omega)
  · exact .inr (by omega)
set_option maxRecDepth 100000 in
set_option maxHeartbeats 6400000 in
theorem rdelete_any (n p q : Nat) (a a2 ag : Option Addr) (cap c2 cg : Nat) (es : List E2) (w : World) (he : EdgesAt w (.slice a es.length cap) es) (hi : IntsAt w (.slice a2 (corT es n).length c2) (corT es n)) (hg : EdgesAt w (.slice ag (delE es (min (p : Int) q, max (p : Int) q)).length cg) (delE es (min (p : Int) q, max (p : Int) q)))
    (hv : Valid n es) (hp : p < n) (hq : q < n) (hne : p ≠ q) (hin : (min (p : Int) q, max (p : Int) q) ∈ es) (hT : TzAt w) :
    Calls Tryd.prog 82 #[.agg #[.int .i64 n, .slice a es.length cap, .slice a2 (corT es n).length c2], .agg #[.int .i64 n, .slice ag (delE es (min (p : Int) q, max (p : Int) q)).length cg], .int .i64 p, .int .i64 q] w
      (MovPost w n (.slice ag (delE es (min (p : Int) q, max (p : Int) q)).length cg) (corT (delE es (min (p : Int) q, max (p : Int) q)) n) (chgL n (corT es n) (corT (delE es (min (p : Int) q, max (p : Int) q)) n))) := by
  have hn : n ≤ 64 := by have := hv.2.1; omega
  have hvf := hv.del (min (p : Int) q, max (p : Int) q)
  have hRB := regB_is es n p q (corT es n) hp hq
  have hSB := setB_is (adjB (delE es (min (p : Int) q, max (p : Int) q))) n (regB es n (corT es n) p q) (fun y => decide (y < n ∧ min (nfN (corT es n) p) (nfN (corT es n) q) ≤ nfN (corT es n) y ∧ regB es n (corT es n) p q y = false)) (min (nfN (corT es n) p) (nfN (corT es n) q))
  have hcm := cor_less hv hp hq hne hin hRB hSB
  have hRn : ∀ x, regB es n (corT es n) p q x = true → x < n := fun x hx => (hRB.reg.lev x hx).1
  have hlm := (lvl_msk (n := n) es hp hq).resolve_right (by omega)
  have hoff := mskN_off (regB es n (corT es n) p q) (setB (adjB (delE es (min (p : Int) q, max (p : Int) q))) n (regB es n (corT es n) p q) (fun y => decide (y < n ∧ min (nfN (corT es n) p) (nfN (corT es n) q) ≤ nfN (corT es n) y ∧ regB es n (corT es n) p q y = false)) (min (nfN (corT es n) p) (nfN (corT es n) q))) n hn
  have hSn : ∀ x, (fun v => regB es n (corT es n) p q v && !setB (adjB (delE es (min (p : Int) q, max (p : Int) q))) n (regB es n (corT es n) p q) (fun y => decide (y < n ∧ min (nfN (corT es n) p) (nfN (corT es n) q) ≤ nfN (corT es n) y ∧ regB es n (corT es n) p q y = false)) (min (nfN (corT es n) p) (nfN (corT es n) q)) v) x = true → x < n := fun x hx => by
    simp only [Bool.and_eq_true] at hx
    exact hRn x hx.1
  have hreg := fun W h1 h2 h3 => region_any n p q a a2 cap c2 es (corT es n) W h1 h2 hv (corT_length es n) (fun v hv => corT_at es v hv) hp hq hne h3
  have habv' : ∀ W, IntsAt W (.slice a2 (corT es n).length c2) (corT es n) → Calls Tryd.prog 125 #[.slice a2 (corT es n).length c2, .int .i64 (min (nfN (corT es n) p) (nfN (corT es n) q) : Nat)] W fun e w' => e = .returned (.int .u64 (mskN (abvS (corT es n) (min (nfN (corT es n) p) (nfN (corT es n) q) : Nat)) n : Int)) ∧ W = w' := fun W h =>
    (above_any a2 c2 (corT es n) (min (nfN (corT es n) p) (nfN (corT es n) q) : Nat) W h (by rw [corT_length]; exact hn)).mono fun e w' h => ⟨by rw [h.1, corT_length], h.2⟩
  have hlev' : ∀ W, IntsAt W (.slice a2 (corT es n).length c2) (corT es n) → Calls Tryd.prog 127 #[.slice a2 (corT es n).length c2, .int .i64 (min (nfN (corT es n) p) (nfN (corT es n) q) : Nat)] W fun e w' => e = .returned (.int .u64 (mskN (levS (corT es n) (min (nfN (corT es n) p) (nfN (corT es n) q) : Nat)) n : Int)) ∧ W = w' := fun W h =>
    (level_any a2 c2 (corT es n) (min (nfN (corT es n) p) (nfN (corT es n) q) : Nat) W h (by rw [corT_length]; exact hn)).mono fun e w' h => ⟨by rw [h.1, corT_length], h.2⟩
  have hset := fun g W h1 h2 => settle_any n g (min (nfN (corT es n) p) (nfN (corT es n) q)) (delE es (min (p : Int) q, max (p : Int) q)) (regB es n (corT es n) p q) (fun y => decide (y < n ∧ min (nfN (corT es n) p) (nfN (corT es n) q) ≤ nfN (corT es n) y ∧ regB es n (corT es n) p q y = false)) W hvf h1 hRn h2
  have hmov := fun W h1 h2 => moved_any n n (.slice a es.length cap) ag (delE es (min (p : Int) q, max (p : Int) q)).length cg a2 c2 (corT es n) _ (-1) W h1 (corT_length es n) hn hSn (by omega) (corT_bd hv) h2
  have hrows := fun W h => rows_any n ag cg (delE es (min (p : Int) q, max (p : Int) q)) W h hvf
  rw [hcm.2, hcm.1]
  have hcl := corT_length es n
  have hma := mskN_lt (abvS (corT es n) (min (nfN (corT es n) p) (nfN (corT es n) q) : Nat)) n hn
  have hml := mskN_lt (levS (corT es n) (min (nfN (corT es n) p) (nfN (corT es n) q) : Nat)) n hn
  have hmr := mskN_lt (regB es n (corT es n) p q) n hn
  have hms := mskN_lt (setB (adjB (delE es (min (p : Int) q, max (p : Int) q))) n (regB es n (corT es n) p q) (fun y => decide (y < n ∧ min (nfN (corT es n) p) (nfN (corT es n) q) ≤ nfN (corT es n) y ∧ regB es n (corT es n) p q y = false)) (min (nfN (corT es n) p) (nfN (corT es n) q))) n hn
  have hb1 := u64_andNot_nat _ _ hml hmr
  have hb2 := bits_or_u64_nat _ (mskN (levS (corT es n) (min (nfN (corT es n) p) (nfN (corT es n) q) : Nat)) n &&& (18446744073709551615 - mskN (regB es n (corT es n) p q) n)) hma (Nat.lt_of_le_of_lt Nat.and_le_left hml)
  rw [hlm] at hb2
  have hb3 := u64_andNot_nat _ _ hmr hms
  rw [hoff] at hb3
  clear hcm hRB hSB hRn hSn hlm hoff hma hml hmr hms
  generalize mskN (levS (corT es n) (min (nfN (corT es n) p) (nfN (corT es n) q) : Nat)) n &&& (18446744073709551615 - mskN (regB es n (corT es n) p q) n) = LR at *
  generalize mskN (abvS (corT es n) (min (nfN (corT es n) p) (nfN (corT es n) q) : Nat)) n = MA at *
  generalize mskN (levS (corT es n) (min (nfN (corT es n) p) (nfN (corT es n) q) : Nat)) n = ML at *
  generalize setB (adjB (delE es (min (p : Int) q, max (p : Int) q))) n (regB es n (corT es n) p q) (fun y => decide (y < n ∧ min (nfN (corT es n) p) (nfN (corT es n) q) ≤ nfN (corT es n) y ∧ regB es n (corT es n) p q y = false)) (min (nfN (corT es n) p) (nfN (corT es n) q)) = SS at *
  generalize mskN (fun y => decide (y < n ∧ min (nfN (corT es n) p) (nfN (corT es n) q) ≤ nfN (corT es n) y ∧ regB es n (corT es n) p q y = false)) n = AM at *
  generalize (fun v => regB es n (corT es n) p q v && !SS v) = GG at *
  generalize mskN (regB es n (corT es n) p q) n = RM at *
  generalize min (nfN (corT es n) p) (nfN (corT es n) q) = K at *
  generalize delE es (min (p : Int) q, max (p : Int) q) = fs at *
  have HCL := Lib.hid hcl
  clear hcl hin
  generalize corT es n = l at *
  generalize mskN SS n = SM at *
  generalize mskN GG n = GM at *
  generalize castL (selL n GG) = ZL at *
  generalize upL n l GG (-1) = UL at *
  have h0 := Bx3.start w (.int .i64 n) (.slice a es.length cap) (.slice a2 l.length c2) (.int .i64 n) (.slice ag fs.length cg) (.int .i64 0) (.slice none 0 0) (.slice none 0 0)
  obtain ⟨wA, hwA⟩ : ∃ W : World, W = ((w.alloc (.cells #[.int .i64 n, .slice a es.length cap, .slice a2 l.length c2] 62)).alloc (.cells #[.int .i64 n, .slice ag fs.length cg] 25)).alloc (.cells #[.int .i64 0, .slice none 0 0, .slice none 0 0] 62) := ⟨_, rfl⟩
  rw [← hwA] at h0
  have HWA := Lib.hid hwA
  clear hwA
  go_enter Tryd.func82, Tryd.ntmps82
  obtain ⟨k0, k1, k2⟩ := cells3 h0.c
  go_wp2_with (rw [← HWA.out])
  refine (hreg wA (he.below h0.be) (hi.below h0.be) (hT.below h0.be)).mono ?_
  rintro e w1 ⟨rfl, hbb1⟩
  have h1 := (h0.next hbb1).drew
  have hz1 := h1.base
  clear k0 k1 k2 hbb1 h0
  have hcx : ∀ (W : World) (y0 y1 y2 : Value), Bx3 w (.int .i64 n) (.slice a es.length cap) (.slice a2 l.length c2) (.int .i64 n) (.slice ag fs.length cg) y0 y1 y2 W → W.cell? ⟨w.heap.size, 2, none⟩ = some (.slice a2 l.length c2) ∧
      W.cell? ⟨w.heap.size + 1, 0, none⟩ = some (.int .i64 n) ∧ W.cell? ⟨w.heap.size + 1, 1, none⟩ = some (.slice ag fs.length cg) := fun W _ _ _ h => ⟨(cells3 h.c).2.2, (cells2 h.g).1, (cells2 h.g).2⟩
  go_wp2_with fail
  go_region_held3 (fun w' => w'.cell? ⟨w.heap.size, 2, none⟩ = some (.slice a2 l.length c2) ∧
      w'.cell? ⟨w.heap.size + 1, 0, none⟩ = some (.int .i64 n) ∧ w'.cell? ⟨w.heap.size + 1, 1, none⟩ = some (.slice ag fs.length cg))
    (first
      | with_reducible exact hcx _ _ _ _ hS
      | with_reducible exact hcx _ _ _ _ hR
      | with_reducible exact hcx _ _ _ _ h1)
    (first
      | (go_at_call 100; (with_reducible refine (hrows w1.drew (hg.below h1.be)).mono ?_); rintro e wR ⟨gR, rfl, hgR, hRR, hbR⟩; have hR := h1.next hbR; have hTR := hT.below hR.be)
      | (go_at_call 125; (with_reducible refine (habv' w1.drew (hi.below h1.be)).mono ?_); rintro e wX ⟨rfl, rfl⟩)
      | (go_at_call 125; (with_reducible refine (habv' wR (hi.below hR.be)).mono ?_); rintro e wX ⟨rfl, rfl⟩)
      | (go_at_call 127; (with_reducible refine (hlev' w1.drew (hi.below h1.be)).mono ?_); rintro e wX ⟨rfl, rfl⟩)
      | (go_at_call 127; (with_reducible refine (hlev' wR (hi.below hR.be)).mono ?_); rintro e wX ⟨rfl, rfl⟩)
      | (go_at_call 124; (with_reducible refine (hset gR wR hRR hTR).mono ?_); rintro e wS ⟨rfl, hbS⟩; have hS := hR.next hbS))
  all_goals
    obtain ⟨k0, k1, k2⟩ := cells3 hS.c
    obtain ⟨j0, j1⟩ := cells2 hS.g
    go_wp2_with fail
    refine (hmov wS (hi.below hS.be) (hT.below hS.be)).mono ?_
    rintro e wM ⟨a3, c3, a4, c4, rfl, hiL, hi4, ha3, ha4, hbM⟩
    have hM := hS.next hbM
    have hF := hM.fin (.int .i64 n) (.slice ag fs.length cg) (.slice a3 UL.length c3)
    obtain ⟨s0, s1, s2⟩ := cells3 hM.o
    obtain ⟨q0, q1, q2⟩ := frees3 hM.o
    have hgF := set3_grown wM (w.heap.size + 1 + 1) (.int .i64 n) (.slice ag fs.length cg) (.slice a3 UL.length c3)
    have hw3 := hS.base
    have hiF := hiL.grown hgF (fun k e n' c' p hp => by cases e; have := ha3 p (Value.slice.inj hp).1; omega)
    have hi4F := hi4.grown hgF (fun k e n' c' p hp => by cases e; have := ha4 p (Value.slice.inj hp).1; omega)
    have ha3' : ∀ p, a3 = some p → w.heap.size ≤ p.block := fun p hp => by have := ha3 p hp; omega
    have ha4' : ∀ p, a4 = some p → w.heap.size ≤ p.block := fun p hp => by have := ha4 p hp; omega
    have HFF := Lib.hid (And.intro hiF (And.intro hi4F hF.be))
    obtain ⟨t0, t1, t2⟩ := cells3 hF.o
    unfold set3 at t0 t1 t2
    clear hgF hiF hi4F hiL hi4 hF hM hS hR h1
    go_wp2_with fail
    exact bodyPost_ret (v := .tuple #[.agg #[.int .i64 n, .slice ag fs.length cg, .slice a3 UL.length c3], .slice a4 ZL.length c4]) (by simp [results, Tryd.results82, go_sem, t0, t1, t2]) rfl
      ⟨a3, c3, a4, c4, rfl, HFF.out.1, HFF.out.2.1, ha3', ha4', HFF.out.2.2⟩
end Go.Proofs.YtkknknehchnccaaDoor
