/- The walk of the law RepairRegion. Printed by wip/mkreplaw.py. -/
import Derived.Test.YtkknknehchnccaaDoorRepBack
import Derived.Test.YtkknknehchnccaaDoorWithin
namespace Go.Proofs.YtkknknehchnccaaDoor
open Go.RowKit Go.BigFrame

set_option maxRecDepth 100000 in
set_option maxHeartbeats 12800000 in
theorem repairRegion_law (a : Option Addr) (len cap : Nat) (w : World) (hl : ListAt w a len) (hT : TzAt w) :
    Calls Tryd.prog 9 #[.slice a len cap] w fun e w' => e = .returned (.bool true) ∧ Below w.heap.size w w' := by
  have hdk := deck_new (cap := cap) hl
  have hb1 : Below w.heap.size w (w.alloc (.cells #[.slice a len cap, .int .i64 0] 86)) := (Below.refl _ _).alloc (Nat.le_refl _) _
  go_enter Tryd.func9, Tryd.ntmps9
  go_wp2_with (first
    | (go_at_call 13; refine (new_any _ _ _ _).mono ?_; rintro e w' ⟨rfl, rfl⟩)
    | (go_at_call 12; refine (mkgraph_any w.heap.size 9 _ hdk (by omega) (by omega)).mono ?_; rintro e w2 ⟨n0, es, a2, cap2, rfl, he2, hv, hn9, hd2, hg2, ho2⟩))
  have hb2 : Below w.heap.size w w2 := below_deck hb1 hg2 (Nat.le_refl _) hb1.size
  obtain ⟨n, rfl⟩ := Int.eq_ofNat_of_zero_le hv.1
  have hop := ropen11_any n a2 cap2 es _ he2
  have hox : copX n es = (crN n es, 0) := by unfold copX; rw [(valid_iff _ _).2 hv, if_neg (by simp)]; rfl
  rw [hox] at hop
  have hz2 := hd2.lt
  refine hop.mono ?_
  rintro e w3 ⟨a6, c6, a7, c7, rfl, hq3, hb3⟩
  unfold crN at hq3 ⊢
  dsimp only at hq3 ⊢
  have hd3 := deck_below hd2 hb3
  have hb23 := hb2.trans (hb3.mono hb2.size)
  have hz3 := hb3.size
  obtain ⟨hcx, hcb⟩ := box_new w3 #[.int .i64 n, .slice a6 es.length c6, .slice a7 (corT es n).length c7] 62
  have hS0 : RbW w w.heap.size w3.heap.size n es a6 c6 a7 c7 (corT es n) (w3.alloc (.cells #[.int .i64 n, .slice a6 es.length c6, .slice a7 (corT es n).length c7] 62)) :=
    ⟨hd3.alloc _, hcx, (hq3.below hcb).mono (by omega), hb23.alloc hb23.size _, by omega, Nat.le_refl _⟩
  obtain ⟨W0, hW0⟩ : ∃ W : World, W = w3.alloc (.cells #[.int .i64 n, .slice a6 es.length c6, .slice a7 (corT es n).length c7] 62) := ⟨_, rfl⟩
  obtain ⟨Q, hQ⟩ : ∃ Q, w3.heap.size = Q := ⟨_, rfl⟩
  rw [← hW0, hQ] at hS0
  have HW0 := Lib.hid hW0
  have HQ := Lib.hid hQ
  have hn0 : n ≤ 9 := by omega
  clear hW0 hQ hcx hcb hz3 hb23 hd3 hq3 hb3 hz2 hox hop hd2 hg2 ho2 he2 hb2 hb1 hdk hn9 hl
  go_upto_region 3 with fail
  rw [← HW0.out, HQ.out]
  obtain ⟨x0, x1, x2⟩ := cells3 hS0.x
  by_cases hn2 : n < 2
  · have d1 : decide ((n : Int) < 2) = true := by simp; omega
    have haw := awake11_any W0 (hT.below hS0.be)
    have hbe := hS0.be
    clear hn2
    go_wp2_with fail
    refine haw.mono ?_
    rintro e w4 ⟨rfl, hb4⟩
    go_wp2_with fail
    go_ret
    exact ⟨rfl, hbe.trans (hb4.mono hbe.size)⟩
  have d1 : decide ((n : Int) < 2) = false := by simp; omega
  go_wp2_with fail
  refine (next_any w.heap.size (n : Int) _ hS0.d (by omega) (by omega)).mono ?_
  rintro _ w4 ⟨u, hu0, hu1, rfl, hd4, hg4⟩
  have hS4 := hS0.next hd4 hg4
  obtain ⟨p, rfl⟩ := Int.eq_ofNat_of_zero_le hu0
  have hp : p < n := by omega
  have hS4d := hS4.below (Below.refl w4.heap.size w4).drew
  clear hS0 hd4 hg4 x0 x1 x2 hu0 hu1
  have hcx : ∀ W : World, RbW w w.heap.size Q n es a6 c6 a7 c7 (corT es n) W → W.cell? ⟨Q, 0, none⟩ = some (.int .i64 n) := fun W h => (cells3 h.x).1
  have hn1 : IntKind.i64.wrap ((n : Int) - 1) = (n : Int) - 1 := IntWalk.i64_in _ (by omega)
  have hp1 : IntKind.i64.wrap ((p : Int) + 1) = (p : Int) + 1 := IntWalk.i64_in _ (by omega)
  have hnz : ((n : Int) == 0) = false := by simp; omega
  have hnz2 : ¬ (n : Int) = 0 := by omega
  have hnz3 : ¬ n = 0 := by omega
  have hnz4 : (n == 0) = false := by simpa using hnz3
  have hnz5 : (2 : Int) ≤ n := by omega
  go_wp2_with fail
  go_region_held3 (fun w' => w'.cell? ⟨Q, 0, none⟩ = some (.int .i64 n))
    (first
      | with_reducible exact hcx _ hS5
      | with_reducible exact hcx _ hS4d)
    (first
      | (go_at_call 33; (with_reducible refine (next_any w.heap.size ((n : Int) - 1) w4.drew hS4d.d (by omega) (by omega)).mono ?_); rintro _ w5 ⟨y, hy0, hy1, rfl, hd5, hg5⟩; have hS5 := hS4d.next hd5 hg5; have hw1 : IntKind.i64.wrap ((p : Int) + 1 + y) = (p : Int) + 1 + y := IntWalk.i64_in _ (by omega); obtain ⟨q, hq1, hq2, hqn, hne⟩ := other_node n p y hp hy0 hy1))
  clear hS4 hS4d hd5 hg5 hcx hnz hp1 hn1
  have HQ1 := Lib.hid hq1
  have HQ2 := Lib.hid hq2
  have hrg := rpregion_any n p q a6 a7 c6 c7 es (corT es n) w5 hS5.q.e hS5.q.i (hT.below hS5.be)
  have hrx : cregX ⟨n, es, corT es n⟩ p q = (castL (selL n (regB es n (corT es n) p q)), 0) := by
    unfold cregX
    rw [if_neg (by rw [crE_ok hv hp hqn hne]; simp)]
    dsimp only
    simp only [Int.toNat_natCast]
  rw [hrx] at hrg
  obtain ⟨x0, x1, x2⟩ := cells3 hS5.x
  clear hrx
  have hRGl : (castL (selL n (regB es n (corT es n) p q))).length ≤ 64 := by rw [castL_length]; exact Nat.le_trans (selL_len _ _) (by omega)
  go_wp2_with fail
  try rw [HQ1.out]
  try rw [HQ2.out]
  refine hrg.mono ?_
  rintro _ w5' ⟨ar, cr, rfl, hir, -, hbr⟩
  dsimp only at hir
  have hS5' := hS5.below hbr
  clear hrg hS5 x0 x1 x2 hbr
  by_cases hm : (min (p : Int) q, max (p : Int) q) ∈ es
  · -- the edge is there
    have hin := rpinsert_any n p q a6 a7 c6 c7 es (corT es n) w5' hS5'.q.e hS5'.q.i (hT.below hS5'.be)
    rw [cins_there hv hp hqn hne hm] at hin
    have hdl := fun W h1 h2 h3 => rpdelete_any n p q a6 a7 c6 c7 es (corT es n) W h1 h2 h3
    rw [cdel_ok hv hp hqn hne hm] at hdl
    have hvf := hv.del (min (p : Int) q, max (p : Int) q)
    obtain ⟨S, hS1, hS2, hS3⟩ := less_in hv hp hqn hne hm
    have hok : crOk ⟨n, delE es (min (p : Int) q, max (p : Int) q), corT (delE es (min (p : Int) q, max (p : Int) q)) n⟩ = true := (crOk_iff _).2 ⟨n, hvf, rfl⟩
    unfold crN at hdl
    unfold Cr.zero at hin
    clear hm hvf
    generalize regB es n (corT es n) p q = RB at *
    have hlf := corT_length (delE es (min (p : Int) q, max (p : Int) q)) n
    have hll := corT_length es n
    have hlb := corT_bd hv
    generalize chgL n (corT es n) (corT (delE es (min (p : Int) q, max (p : Int) q)) n) = CH at *
    generalize corT (delE es (min (p : Int) q, max (p : Int) q)) n = lf at *
    generalize delE es (min (p : Int) q, max (p : Int) q) = fs at *
    generalize corT es n = l at *
    have HLF := Lib.hid hlf
    have HLL := Lib.hid hll
    have HLB := Lib.hid hlb
    have HS1 := Lib.hid hS1
    have HS2 := Lib.hid hS2
    have HS3 := Lib.hid hS3
    clear hlf hll hlb hS1 hS2 hS3
    obtain ⟨x0, x1, x2⟩ := cells3 hS5'.x
    go_wp2_with fail
    refine hin.mono ?_
    rintro _ w6 ⟨b8, d8, b9, d9, b10, d10, rfl, -, -, -, hb6⟩
    dsimp only [List.length_nil]
    obtain ⟨hcx6, hcb6⟩ := box_new w6 #[.int .i64 0, .slice b8 0 d8, .slice b9 0 d9] 62
    have hS6 := (hS5'.below hb6).below hcb6
    obtain ⟨w6', hw6⟩ : ∃ W : World, W = w6.alloc (.cells #[.int .i64 0, .slice b8 0 d8, .slice b9 0 d9] 62) := ⟨_, rfl⟩
    obtain ⟨X, hX⟩ : ∃ X, w6.heap.size = X := ⟨_, rfl⟩
    have h5X : w5'.heap.size ≤ X := by rw [← hX]; exact hb6.size
    have hE5 := hS5'.q.e
    have hI5 := hS5'.q.i
    have hb56 : Below w5'.heap.size w5' w6' := by rw [hw6]; exact hb6.trans (hcb6.mono hb6.size)
    have hQX : Q < X := by rw [← hX]; exact blk_lt (lit_next' hb6 hS5'.x)
    rw [← hw6] at hcx6 hS6
    rw [hX] at hcx6
    have HW6 := Lib.hid hw6
    have HX := Lib.hid hX
    clear hw6 hX hcb6 hb6 hS5' hin x0 x1 x2
    go_upto_region 10 with fail
    rw [← HW6.out, HX.out]
    obtain ⟨x0, x1, x2⟩ := cells3 hS6.x
    go_wp2_with fail
    refine (hdl w6' hS6.q.e hS6.q.i (hT.below hS6.be)).mono ?_
    rintro _ wd ⟨a8, c8, a9, c9, a10, c10, rfl, hqd, hid, had, hbd⟩
    dsimp only at hqd hid
    have hcxd := lit_next' hbd hcx6
    have hSd := hS6.below hbd
    obtain ⟨r0, r1, r2⟩ := cells3 hcxd
    obtain ⟨f0, f1, f2⟩ := frees3 hcxd
    have hXd : X < w6'.heap.size := blk_lt hcx6
    have hg7 := set3_grown wd X (.int .i64 n) (.slice a8 fs.length c8) (.slice a9 lf.length c9)
    have hcx7 := set3_at hcxd (.int .i64 n) (.slice a8 fs.length c8) (.slice a9 lf.length c9)
    have hb5d := hb56.trans (hbd.mono hb56.size)
    have hS7 : RbW w w.heap.size Q n es a6 c6 a7 c7 l (set3 wd X (.int .i64 n) (.slice a8 fs.length c8) (.slice a9 lf.length c9)) :=
      ⟨hSd.d.kept hg7 (fun g e => by cases e; have := hS6.bQ; omega), grown_blk hg7 hSd.x (fun e => by have := Option.some.inj e; omega),
        ⟨hE5.past hb5d hg7 h5X, hI5.past hb5d hg7 h5X, hS6.q.ea, hS6.q.ia⟩, hSd.be.grown hg7 hSd.be.size (fun k e => by cases e; have := hS6.bQ; have := hS6.wb; omega), hSd.bQ, hSd.wb⟩
    have hq7 := hqd.grown hg7 (fun k e => by cases e; exact hXd)
    have hi7 := hid.grown hg7 (fun k e n' c' p hp => by cases e; have := had p (Value.slice.inj hp).1; omega)
    have hr7 := hir.past hb5d hg7 h5X
    obtain ⟨w7, hw7⟩ : ∃ W : World, W = set3 wd X (.int .i64 n) (.slice a8 fs.length c8) (.slice a9 lf.length c9) := ⟨_, rfl⟩
    rw [← hw7] at hcx7 hS7 hq7 hi7 hr7
    unfold set3 at hw7
    have HW7 := Lib.hid hw7
    clear hw7 hqd hid hbd hS6 hSd hcxd hg7 hdl x0 x1 x2 hir hb5d
    go_upto_region 13 with fail
    rw [← HW7.out]
    clear r0 r1 r2 f0 f1 f2
    obtain ⟨x0, x1, x2⟩ := cells3 hcx7
    have hva := rpvalid_any n a8 a9 c8 c9 fs lf w7 hq7.e hq7.i (hT.below hS7.be)
    rw [hok] at hva
    go_wp2_with fail
    refine hva.mono ?_
    rintro _ w8 ⟨rfl, hb8⟩
    have hS8 := hS7.below hb8
    have hq8 := hq7.below hb8
    have hi8 := hi7.below hb8
    have hr8 := hr7.below hb8
    have hcx8 := lit_next' hb8 hcx7
    clear x0 x1 x2 hS7 hq7 hi7 hr7 hcx7 hb8 hva
    obtain ⟨x0, x1, x2⟩ := cells3 hcx8
    obtain ⟨y0, y1, y2⟩ := cells3 hS8.x
    have hleq : ((lf.length : Int) != (l.length : Int)) = false := by simp [HLF.out, HLL.out]
    have hin2 := rwithin_any a10 ar c10 cr CH (castL (selL n RB)) w8 hi8 hr8
    have hwin : decide (∀ x ∈ CH, x ∈ castL (selL n RB)) = true := decide_eq_true (by
      rw [HS3.out]
      intro x hx
      obtain ⟨v, hv1, rfl⟩ := List.mem_map.1 hx
      obtain ⟨hv2, hv3⟩ := List.mem_filter.1 hv1
      exact (mem_castL _ _).2 (List.mem_filter.2 ⟨hv2, HS1.out v hv3⟩))
    rw [hwin] at hin2
    clear hwin
    go_wp2_with (go_at_call 23; refine hin2.mono ?_; rintro _ w9 ⟨rfl, rfl⟩)
    go_loopw [101] (fun vi wr => ∃ t : Nat, t ≤ lf.length ∧ vi = .int .i64 t ∧ Below w8.heap.size w8 wr) (fun vi _ => lf.length - (intOf vi).toNat)
    case atStart => exact ⟨0, Nat.zero_le _, rfl, Below.refl _ _⟩
    case round =>
      obtain ⟨t, ht, rfl, hbt⟩ := hrel
      have hSt := hS8.below hbt
      have hqt := hq8.below hbt
      have hit := hi8.below hbt
      have hcxt := lit_next' hbt hcx8
      by_cases hlt : t < lf.length
      · have hlt3 : (t : Int) < lf.length := by omega
        have htn : t < n := by rw [← HLF.out]; exact hlt
        obtain ⟨b1, o1, v1, e1, hv1, -, -, u0⟩ := hqt.i.at t hlt
        subst e1
        obtain ⟨b2, o2, v2, e2, hv2, -, -, u1⟩ := hSt.q.i.at t (by rw [HLL.out]; exact htn)
        subst e2
        have hlt4 : (t : Int) < l.length := by rw [HLL.out]; omega
        obtain ⟨z0, z1, z2⟩ := cells3 hcxt
        obtain ⟨s0, s1, s2⟩ := cells3 hSt.x
        have hbd := HLB.out v2 (List.mem_of_getElem? hv2)
        have hv1' : v1 = if S t = true then v2 + (-1) else v2 := by
          have h1 := upL_get l S (-1) htn
          rw [← HS2.out, hv1, hv2] at h1
          exact h1
        have hhas := has_any a10 c10 CH (t : Int) 
        have hdec : decide ((t : Int) ∈ CH) = S t := by
          rw [Bool.eq_iff_iff, decide_eq_true_eq, HS3.out, mem_castL]
          unfold selL
          rw [List.mem_filter, List.mem_range]
          exact ⟨fun h => h.2, fun h => ⟨htn, h⟩⟩
        rw [hdec] at hhas
        have hbe8 := hSt.be
        cases hst : S t with
        | true =>
          rw [hst] at hhas hv1'
          simp only [if_true] at hv1'
          subst hv1'
          have hw1 : IntKind.i64.wrap (v2 + (-1) - v2) = -1 := by rw [show v2 + (-1) - v2 = -1 by omega]; rfl
          clear hv1 hv2 hdec hst hcxt hSt hbd
          go_wp2_with fail
          go_quiet (fail)
          go_wp2_with (go_at_call 52; refine (hhas _ ?_).mono ?_; exact IntsAt.below hit (Below.drewN (Below.refl _ _) _); rintro _ w9 ⟨rfl, rfl⟩)
          go_roundw
          case rel => exact ⟨t + 1, by omega, by go_num, hbt.drewN _⟩
          case measure => simp [intOf]; omega
        | false =>
          rw [hst] at hhas hv1'
          simp only [Bool.false_eq_true, if_false] at hv1'
          subst hv1'
          have hw1 : IntKind.i64.wrap (v1 - v1) = 0 := by rw [show v1 - v1 = 0 by omega]; rfl
          clear hv1 hv2 hdec hst hcxt hSt hbd
          go_wp2_with fail
          go_quiet (fail)
          go_wp2_with (go_at_call 52; refine (hhas _ ?_).mono ?_; exact IntsAt.below hit (Below.drewN (Below.refl _ _) _); rintro _ w9 ⟨rfl, rfl⟩)
          go_roundw
          case rel => exact ⟨t + 1, by omega, by go_num, hbt.drewN _⟩
          case measure => simp [intOf]; omega
      · have hlt4 : ¬ (t : Int) < lf.length := by omega
        have hbe := hSt.be
        go_wp2_with fail
        refine (awake11_any wr (hT.below hbe)).mono ?_
        rintro _ wc ⟨rfl, hbc⟩
        go_wp2_with fail
        go_ret
        exact ⟨rfl, hbe.trans (hbc.mono hbe.size)⟩
  · -- the edge is not there
    have hin := rpinsert_any n p q a6 a7 c6 c7 es (corT es n) w5' hS5'.q.e hS5'.q.i (hT.below hS5'.be)
    rw [cins_ok hv hp hqn hne hm] at hin
    have hvf := hv.ins _ (ends_pair hp hqn hne)
    obtain ⟨S, hS1, hS2, hS3⟩ := more_in hv hp hqn hne
    have hok : crOk ⟨n, insE es (min (p : Int) q, max (p : Int) q), corT (insE es (min (p : Int) q, max (p : Int) q)) n⟩ = true := (crOk_iff _).2 ⟨n, hvf, rfl⟩
    unfold crN at hin
    clear hm hvf
    generalize regB es n (corT es n) p q = RB at *
    have hlf := corT_length (insE es (min (p : Int) q, max (p : Int) q)) n
    have hll := corT_length es n
    have hlb := corT_bd hv
    generalize chgL n (corT es n) (corT (insE es (min (p : Int) q, max (p : Int) q)) n) = CH at *
    generalize corT (insE es (min (p : Int) q, max (p : Int) q)) n = lf at *
    generalize insE es (min (p : Int) q, max (p : Int) q) = fs at *
    generalize corT es n = l at *
    have HLF := Lib.hid hlf
    have HLL := Lib.hid hll
    have HLB := Lib.hid hlb
    have HS1 := Lib.hid hS1
    have HS2 := Lib.hid hS2
    have HS3 := Lib.hid hS3
    clear hlf hll hlb hS1 hS2 hS3
    obtain ⟨x0, x1, x2⟩ := cells3 hS5'.x
    go_wp2_with fail
    refine hin.mono ?_
    rintro _ w6 ⟨a8, c8, a9, c9, a10, c10, rfl, hq6, hi6, -, hb6⟩
    dsimp only at hq6 hi6
    obtain ⟨hcx7, hcb7⟩ := box_new w6 #[.int .i64 n, .slice a8 fs.length c8, .slice a9 lf.length c9] 62
    have hS7 := (hS5'.below hb6).below hcb7
    have hq7 := hq6.below hcb7
    have hi7 := hi6.below hcb7
    have hr7 := (hir.below hb6).below hcb7
    obtain ⟨w7, hw7⟩ : ∃ W : World, W = w6.alloc (.cells #[.int .i64 n, .slice a8 fs.length c8, .slice a9 lf.length c9] 62) := ⟨_, rfl⟩
    obtain ⟨X, hX⟩ : ∃ X, w6.heap.size = X := ⟨_, rfl⟩
    rw [← hw7] at hcx7 hS7 hq7 hi7 hr7
    rw [hX] at hcx7
    have HW7 := Lib.hid hw7
    have HX := Lib.hid hX
    clear hw7 hX hcb7 hq6 hi6 hb6 hS5' hin x0 x1 x2 hir
    go_upto_region 10 with fail
    rw [← HW7.out, HX.out]
    obtain ⟨x0, x1, x2⟩ := cells3 hcx7
    have hva := rpvalid_any n a8 a9 c8 c9 fs lf w7 hq7.e hq7.i (hT.below hS7.be)
    rw [hok] at hva
    go_wp2_with fail
    refine hva.mono ?_
    rintro _ w8 ⟨rfl, hb8⟩
    have hS8 := hS7.below hb8
    have hq8 := hq7.below hb8
    have hi8 := hi7.below hb8
    have hr8 := hr7.below hb8
    have hcx8 := lit_next' hb8 hcx7
    clear x0 x1 x2 hS7 hq7 hi7 hr7 hcx7 hb8 hva
    obtain ⟨x0, x1, x2⟩ := cells3 hcx8
    obtain ⟨y0, y1, y2⟩ := cells3 hS8.x
    have hleq : ((lf.length : Int) != (l.length : Int)) = false := by simp [HLF.out, HLL.out]
    have hin2 := rwithin_any a10 ar c10 cr CH (castL (selL n RB)) w8 hi8 hr8
    have hwin : decide (∀ x ∈ CH, x ∈ castL (selL n RB)) = true := decide_eq_true (by
      rw [HS3.out]
      intro x hx
      obtain ⟨v, hv1, rfl⟩ := List.mem_map.1 hx
      obtain ⟨hv2, hv3⟩ := List.mem_filter.1 hv1
      exact (mem_castL _ _).2 (List.mem_filter.2 ⟨hv2, HS1.out v hv3⟩))
    rw [hwin] at hin2
    clear hwin
    go_wp2_with (go_at_call 23; refine hin2.mono ?_; rintro _ w9 ⟨rfl, rfl⟩)
    go_loopw [101] (fun vi wr => ∃ t : Nat, t ≤ lf.length ∧ vi = .int .i64 t ∧ Below w8.heap.size w8 wr) (fun vi _ => lf.length - (intOf vi).toNat)
    case atStart => exact ⟨0, Nat.zero_le _, rfl, Below.refl _ _⟩
    case round =>
      obtain ⟨t, ht, rfl, hbt⟩ := hrel
      have hSt := hS8.below hbt
      have hqt := hq8.below hbt
      have hit := hi8.below hbt
      have hcxt := lit_next' hbt hcx8
      by_cases hlt : t < lf.length
      · have hlt3 : (t : Int) < lf.length := by omega
        have htn : t < n := by rw [← HLF.out]; exact hlt
        obtain ⟨b1, o1, v1, e1, hv1, -, -, u0⟩ := hqt.i.at t hlt
        subst e1
        obtain ⟨b2, o2, v2, e2, hv2, -, -, u1⟩ := hSt.q.i.at t (by rw [HLL.out]; exact htn)
        subst e2
        have hlt4 : (t : Int) < l.length := by rw [HLL.out]; omega
        obtain ⟨z0, z1, z2⟩ := cells3 hcxt
        obtain ⟨s0, s1, s2⟩ := cells3 hSt.x
        have hbd := HLB.out v2 (List.mem_of_getElem? hv2)
        have hv1' : v1 = if S t = true then v2 + (1) else v2 := by
          have h1 := upL_get l S (1) htn
          rw [← HS2.out, hv1, hv2] at h1
          exact h1
        have hhas := has_any a10 c10 CH (t : Int) 
        have hdec : decide ((t : Int) ∈ CH) = S t := by
          rw [Bool.eq_iff_iff, decide_eq_true_eq, HS3.out, mem_castL]
          unfold selL
          rw [List.mem_filter, List.mem_range]
          exact ⟨fun h => h.2, fun h => ⟨htn, h⟩⟩
        rw [hdec] at hhas
        have hbe8 := hSt.be
        cases hst : S t with
        | true =>
          rw [hst] at hhas hv1'
          simp only [if_true] at hv1'
          subst hv1'
          have hw1 : IntKind.i64.wrap (v2 + (1) - v2) = 1 := by rw [show v2 + (1) - v2 = 1 by omega]; rfl
          clear hv1 hv2 hdec hst hcxt hSt hbd
          go_wp2_with fail
          go_quiet (fail)
          go_wp2_with (go_at_call 52; refine (hhas _ ?_).mono ?_; exact IntsAt.below hit (Below.drewN (Below.refl _ _) _); rintro _ w9 ⟨rfl, rfl⟩)
          go_roundw
          case rel => exact ⟨t + 1, by omega, by go_num, hbt.drewN _⟩
          case measure => simp [intOf]; omega
        | false =>
          rw [hst] at hhas hv1'
          simp only [Bool.false_eq_true, if_false] at hv1'
          subst hv1'
          have hw1 : IntKind.i64.wrap (v1 - v1) = 0 := by rw [show v1 - v1 = 0 by omega]; rfl
          clear hv1 hv2 hdec hst hcxt hSt hbd
          go_wp2_with fail
          go_quiet (fail)
          go_wp2_with (go_at_call 52; refine (hhas _ ?_).mono ?_; exact IntsAt.below hit (Below.drewN (Below.refl _ _) _); rintro _ w9 ⟨rfl, rfl⟩)
          go_roundw
          case rel => exact ⟨t + 1, by omega, by go_num, hbt.drewN _⟩
          case measure => simp [intOf]; omega
      · have hlt4 : ¬ (t : Int) < lf.length := by omega
        have hbe := hSt.be
        go_wp2_with fail
        refine (awake11_any wr (hT.below hbe)).mono ?_
        rintro _ wc ⟨rfl, hbc⟩
        go_wp2_with fail
        go_ret
        exact ⟨rfl, hbe.trans (hbc.mono hbe.size)⟩
end Go.Proofs.YtkknknehchnccaaDoor
