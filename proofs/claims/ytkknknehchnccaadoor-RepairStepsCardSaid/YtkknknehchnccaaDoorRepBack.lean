/- The walk of the law RepairBack. Printed by wip/mkreplaw.py. -/
import Derived.Test.YtkknknehchnccaaDoorRefRep
import Derived.Test.YtkknknehchnccaaDoorMkGraph
namespace Go.Proofs.YtkknknehchnccaaDoor
open Go.RowKit Go.BigFrame

theorem crE_ok {n p q : Nat} {es : List E2} (hv : Valid n es) (hp : p < n) (hq : q < n) (hne : p ≠ q) : crE ⟨n, es, corT es n⟩ p q = 0 := by
  unfold crE
  rw [(crOk_iff _).2 ⟨n, hv, rfl⟩, if_neg (by simp), if_pos]
  rw [endsB_iff]
  show (p : Int) ≠ q ∧ _ ∧ max (p : Int) q < (n : Int)
  omega
theorem cins_ok {n p q : Nat} {es : List E2} (hv : Valid n es) (hp : p < n) (hq : q < n) (hne : p ≠ q) (hno : (min (p : Int) q, max (p : Int) q) ∉ es) :
    cinsX ⟨n, es, corT es n⟩ p q = (crN n (insE es (min (p : Int) q, max (p : Int) q)), chgL n (corT es n) (corT (insE es (min (p : Int) q, max (p : Int) q)) n), 0) := by
  unfold cinsX
  rw [if_neg (by rw [crE_ok hv hp hq hne]; simp)]
  dsimp only
  rw [if_neg hno, Int.toNat_natCast]
theorem cins_there {n p q : Nat} {es : List E2} (hv : Valid n es) (hp : p < n) (hq : q < n) (hne : p ≠ q) (hm : (min (p : Int) q, max (p : Int) q) ∈ es) : cinsX ⟨n, es, corT es n⟩ p q = (Cr.zero, [], 15) := by
  unfold cinsX
  rw [if_neg (by rw [crE_ok hv hp hq hne]; simp)]
  dsimp only
  rw [if_pos hm]
theorem cdel_ok {n p q : Nat} {es : List E2} (hv : Valid n es) (hp : p < n) (hq : q < n) (hne : p ≠ q) (hm : (min (p : Int) q, max (p : Int) q) ∈ es) :
    cdelX ⟨n, es, corT es n⟩ p q = (crN n (delE es (min (p : Int) q, max (p : Int) q)), chgL n (corT es n) (corT (delE es (min (p : Int) q, max (p : Int) q)) n), 0) := by
  unfold cdelX
  rw [if_neg (by rw [crE_ok hv hp hq hne]; simp)]
  dsimp only
  rw [if_pos hm, Int.toNat_natCast]
/-- the next node but one, round and round -/
theorem other_node (n p : Nat) (y : Int) (hp : p < n) (hy0 : 0 ≤ y) (hy : y < (n : Int) - 1) : ∃ q : Nat, ((p : Int) + 1 + y).tmod n = q ∧ ((p : Int) + 1 + y) % n = q ∧ q < n ∧ p ≠ q := by
  obtain ⟨z, rfl⟩ := Int.eq_ofNat_of_zero_le hy0
  have e : ((p : Int) + 1 + z) % n = (((p + 1 + z) % n : Nat) : Int) := by simp
  refine ⟨(p + 1 + z) % n, ?_, e, Nat.mod_lt _ (by omega), ?_⟩
  · rw [Int.tmod_eq_emod_of_nonneg (by omega)]; exact e
  · by_cases h : p + 1 + z < n
    · rw [Nat.mod_eq_of_lt h]; omega
    · rw [Nat.mod_eq_sub_mod (by omega), Nat.mod_eq_of_lt (by omega)]; omega
/-- the graph with its numbers in a box, and the deck -/
structure RbW (w0 : World) (b Q n : Nat) (es : List E2) (a : Option Addr) (cap : Nat) (a2 : Option Addr) (c2 : Nat) (l : List Int) (W : World) : Prop where
  d : DeckAt W b
  x : W.heap[Q]? = some (.cells #[.int .i64 n, .slice a es.length cap, .slice a2 l.length c2] 62 (0, 0))
  q : CIn W (b + 1) a cap es a2 c2 l
  be : Below w0.heap.size w0 W
  bQ : b < Q
  wb : w0.heap.size ≤ b
section
variable {w0 W W' : World} {b Q n : Nat} {es : List E2} {a a2 : Option Addr} {cap c2 : Nat} {l : List Int}
theorem deck_below {w w' : World} {b : Nat} (h : DeckAt w b) (hb : Below w.heap.size w w') : DeckAt w' b := h.kept (grown_of_below hb) (fun _ e => by cases e)
theorem EdgesAt.past {w1 w2 w3 : World} {v : Value} {k : Nat} {es : List E2} (h : EdgesAt w1 v es) (hb : Below w1.heap.size w1 w2) (hg : w2.grownBy w3 (some k)) (hk : w1.heap.size ≤ k) : EdgesAt w3 v es :=
  h.map fun b o x hx _ => hg.cell ((hb.cell (p := ⟨b, o, none⟩) (cell_lt hx)).trans hx) (fun e => by have := cell_lt hx; have := Option.some.inj e; dsimp only at this; omega)
theorem IntsAt.past {w1 w2 w3 : World} {v : Value} {k : Nat} {l : List Int} (h : IntsAt w1 v l) (hb : Below w1.heap.size w1 w2) (hg : w2.grownBy w3 (some k)) (hk : w1.heap.size ≤ k) : IntsAt w3 v l :=
  h.map fun b o x hx _ => hg.cell ((hb.cell (p := ⟨b, o, none⟩) (cell_lt hx)).trans hx) (fun e => by have := cell_lt hx; have := Option.some.inj e; dsimp only at this; omega)
theorem RbW.below (h : RbW w0 b Q n es a cap a2 c2 l W) (hb : Below W.heap.size W W') : RbW w0 b Q n es a cap a2 c2 l W' := ⟨deck_below h.d hb, lit_next' hb h.x, h.q.below hb, h.be.trans (hb.mono h.be.size), h.bQ, h.wb⟩
theorem RbW.next (h : RbW w0 b Q n es a cap a2 c2 l W) (hd : DeckAt W' b) (hg : W.grownBy W' (some b)) : RbW w0 b Q n es a cap a2 c2 l W' :=
  ⟨hd, grown_blk hg h.x (fun e => by have := Option.some.inj e; have := h.bQ; omega), h.q.grown hg (fun k e => by cases e; omega), h.be.grown hg h.be.size (fun k e => by cases e; exact h.wb), h.bQ, h.wb⟩
end
set_option maxRecDepth 100000 in
set_option maxHeartbeats 12800000 in
theorem repairBack_law (a : Option Addr) (len cap : Nat) (w : World) (hl : ListAt w a len) (hT : TzAt w) :
    Calls Tryd.prog 7 #[.slice a len cap] w fun e w' => e = .returned (.bool true) ∧ Below w.heap.size w w' := by
  have hdk := deck_new (cap := cap) hl
  have hb1 : Below w.heap.size w (w.alloc (.cells #[.slice a len cap, .int .i64 0] 86)) := (Below.refl _ _).alloc (Nat.le_refl _) _
  go_enter Tryd.func7, Tryd.ntmps7
  go_wp2_with (first
    | (go_at_call 13; refine (new_any _ _ _ _).mono ?_; rintro e w' ⟨rfl, rfl⟩)
    | (go_at_call 12; refine (mkgraph_any w.heap.size 9 _ hdk (by omega) (by omega)).mono ?_; rintro e w2 ⟨n0, es, a2, cap2, rfl, he2, hv, hn9, hd2, hg2, ho2⟩))
  have hb2 : Below w.heap.size w w2 := below_deck hb1 hg2 (Nat.le_refl _) hb1.size
  obtain ⟨n, rfl⟩ := Int.eq_ofNat_of_zero_le hv.1
  have hop := ropen11_any n a2 cap2 es _ he2
  have hox : copX n es = (crN n es, 0) := by unfold copX; rw [(valid_iff _ _).2 hv, if_neg (by simp)]; rfl
  rw [hox] at hop
  have hz2 := hd2.lt
  refine hop.mono ?_
  rintro e w3 ⟨a6, c6, a7, c7, rfl, hq3, hb3⟩
  unfold crN at hq3 ⊢
  dsimp only at hq3 ⊢
  have hd3 := deck_below hd2 hb3
  have hb23 := hb2.trans (hb3.mono hb2.size)
  have hz3 := hb3.size
  obtain ⟨hcx, hcb⟩ := box_new w3 #[.int .i64 n, .slice a6 es.length c6, .slice a7 (corT es n).length c7] 62
  have hS0 : RbW w w.heap.size w3.heap.size n es a6 c6 a7 c7 (corT es n) (w3.alloc (.cells #[.int .i64 n, .slice a6 es.length c6, .slice a7 (corT es n).length c7] 62)) :=
    ⟨hd3.alloc _, hcx, (hq3.below hcb).mono (by omega), hb23.alloc hb23.size _, by omega, Nat.le_refl _⟩
  obtain ⟨W0, hW0⟩ : ∃ W : World, W = w3.alloc (.cells #[.int .i64 n, .slice a6 es.length c6, .slice a7 (corT es n).length c7] 62) := ⟨_, rfl⟩
  obtain ⟨Q, hQ⟩ : ∃ Q, w3.heap.size = Q := ⟨_, rfl⟩
  rw [← hW0, hQ] at hS0
  have HW0 := Lib.hid hW0
  have HQ := Lib.hid hQ
  have hn0 : n ≤ 9 := by omega
  clear hW0 hQ hcx hcb hz3 hb23 hd3 hq3 hb3 hz2 hox hop hd2 hg2 ho2 he2 hb2 hb1 hdk hn9 hl
  go_upto_region 3 with fail
  rw [← HW0.out, HQ.out]
  obtain ⟨x0, x1, x2⟩ := cells3 hS0.x
  by_cases hn2 : n < 2
  · have d1 : decide ((n : Int) < 2) = true := by simp; omega
    have haw := awake11_any W0 (hT.below hS0.be)
    have hbe := hS0.be
    clear hn2
    go_wp2_with fail
    refine haw.mono ?_
    rintro e w4 ⟨rfl, hb4⟩
    go_wp2_with fail
    go_ret
    exact ⟨rfl, hbe.trans (hb4.mono hbe.size)⟩
  have d1 : decide ((n : Int) < 2) = false := by simp; omega
  go_wp2_with fail
  refine (next_any w.heap.size (n : Int) _ hS0.d (by omega) (by omega)).mono ?_
  rintro _ w4 ⟨u, hu0, hu1, rfl, hd4, hg4⟩
  have hS4 := hS0.next hd4 hg4
  obtain ⟨p, rfl⟩ := Int.eq_ofNat_of_zero_le hu0
  have hp : p < n := by omega
  have hS4d := hS4.below (Below.refl w4.heap.size w4).drew
  clear hS0 hd4 hg4 x0 x1 x2 hu0 hu1
  have hcx : ∀ W : World, RbW w w.heap.size Q n es a6 c6 a7 c7 (corT es n) W → W.cell? ⟨Q, 0, none⟩ = some (.int .i64 n) := fun W h => (cells3 h.x).1
  have hn1 : IntKind.i64.wrap ((n : Int) - 1) = (n : Int) - 1 := IntWalk.i64_in _ (by omega)
  have hp1 : IntKind.i64.wrap ((p : Int) + 1) = (p : Int) + 1 := IntWalk.i64_in _ (by omega)
  have hnz : ((n : Int) == 0) = false := by simp; omega
  have hnz2 : ¬ (n : Int) = 0 := by omega
  have hnz3 : ¬ n = 0 := by omega
  have hnz4 : (n == 0) = false := by simpa using hnz3
  have hnz5 : (2 : Int) ≤ n := by omega
  go_wp2_with fail
  go_region_held3 (fun w' => w'.cell? ⟨Q, 0, none⟩ = some (.int .i64 n))
    (first
      | with_reducible exact hcx _ hS5
      | with_reducible exact hcx _ hS4d)
    (first
      | (go_at_call 33; (with_reducible refine (next_any w.heap.size ((n : Int) - 1) w4.drew hS4d.d (by omega) (by omega)).mono ?_); rintro _ w5 ⟨y, hy0, hy1, rfl, hd5, hg5⟩; have hS5 := hS4d.next hd5 hg5; have hw1 : IntKind.i64.wrap ((p : Int) + 1 + y) = (p : Int) + 1 + y := IntWalk.i64_in _ (by omega); obtain ⟨q, hq1, hq2, hqn, hne⟩ := other_node n p y hp hy0 hy1))
  clear hS4 hS4d hd5 hg5 hcx hnz hp1 hn1
  have HQ1 := Lib.hid hq1
  have HQ2 := Lib.hid hq2
  by_cases hm : (min (p : Int) q, max (p : Int) q) ∈ es
  · -- the edge is there
    have hin := rpinsert_any n p q a6 a7 c6 c7 es (corT es n) w5 hS5.q.e hS5.q.i (hT.below hS5.be)
    rw [cins_there hv hp hqn hne hm] at hin
    have hdl := fun W h1 h2 h3 => rpdelete_any n p q a6 a7 c6 c7 es (corT es n) W h1 h2 h3
    rw [cdel_ok hv hp hqn hne hm] at hdl
    have hvf := hv.del (min (p : Int) q, max (p : Int) q)
    have hbk := back_del hv hp hqn hne hm
    have hde := fun a c a' c' W h1 h2 h3 => rpinsert_any n q p a a' c c' (delE es (min (p : Int) q, max (p : Int) q)) (corT (delE es (min (p : Int) q, max (p : Int) q)) n) W h1 h2 h3
    rw [show (⟨n, delE es (min (p : Int) q, max (p : Int) q), corT (delE es (min (p : Int) q, max (p : Int) q)) n⟩ : Cr) = crN n (delE es (min (p : Int) q, max (p : Int) q)) from rfl, hbk] at hde
    unfold crN at hdl hde
    unfold Cr.zero at hin
    clear hbk hm hvf
    generalize chgL n (corT es n) (corT (delE es (min (p : Int) q, max (p : Int) q)) n) = CH at *
    generalize corT (delE es (min (p : Int) q, max (p : Int) q)) n = lf at *
    generalize delE es (min (p : Int) q, max (p : Int) q) = fs at *
    generalize corT es n = l at *
    obtain ⟨x0, x1, x2⟩ := cells3 hS5.x
    go_wp2_with fail
    try rw [HQ1.out]
    try rw [HQ2.out]
    refine hin.mono ?_
    rintro _ w6 ⟨b8, d8, b9, d9, b10, d10, rfl, -, -, -, hb6⟩
    dsimp only [List.length_nil]
    obtain ⟨hcx6, hcb6⟩ := box_new w6 #[.int .i64 0, .slice b8 0 d8, .slice b9 0 d9] 62
    have hS6 := (hS5.below hb6).below hcb6
    obtain ⟨w6', hw6⟩ : ∃ W : World, W = w6.alloc (.cells #[.int .i64 0, .slice b8 0 d8, .slice b9 0 d9] 62) := ⟨_, rfl⟩
    obtain ⟨X, hX⟩ : ∃ X, w6.heap.size = X := ⟨_, rfl⟩
    have h5X : w5.heap.size ≤ X := by rw [← hX]; exact hb6.size
    have hE5 := hS5.q.e
    have hI5 := hS5.q.i
    have hb56 : Below w5.heap.size w5 w6' := by rw [hw6]; exact hb6.trans (hcb6.mono hb6.size)
    have hQX : Q < X := by rw [← hX]; exact blk_lt (lit_next' hb6 hS5.x)
    rw [← hw6] at hcx6 hS6
    rw [hX] at hcx6
    have HW6 := Lib.hid hw6
    have HX := Lib.hid hX
    clear hw6 hX hcb6 hb6 hS5 hin x0 x1 x2
    go_upto_region 8 with fail
    rw [← HW6.out, HX.out]
    obtain ⟨x0, x1, x2⟩ := cells3 hS6.x
    go_wp2_with fail
    refine (hdl w6' hS6.q.e hS6.q.i (hT.below hS6.be)).mono ?_
    rintro _ wd ⟨a8, c8, a9, c9, a10, c10, rfl, hqd, hid, had, hbd⟩
    dsimp only at hqd hid
    have hcxd := lit_next' hbd hcx6
    have hSd := hS6.below hbd
    obtain ⟨r0, r1, r2⟩ := cells3 hcxd
    obtain ⟨f0, f1, f2⟩ := frees3 hcxd
    have hXd : X < w6'.heap.size := blk_lt hcx6
    have hg7 := set3_grown wd X (.int .i64 n) (.slice a8 fs.length c8) (.slice a9 lf.length c9)
    have hcx7 := set3_at hcxd (.int .i64 n) (.slice a8 fs.length c8) (.slice a9 lf.length c9)
    have hS7 : RbW w w.heap.size Q n es a6 c6 a7 c7 l (set3 wd X (.int .i64 n) (.slice a8 fs.length c8) (.slice a9 lf.length c9)) :=
      ⟨hSd.d.kept hg7 (fun g e => by cases e; have := hS6.bQ; omega), grown_blk hg7 hSd.x (fun e => by have := Option.some.inj e; omega),
        ⟨hE5.past (hb56.trans (hbd.mono hb56.size)) hg7 h5X, hI5.past (hb56.trans (hbd.mono hb56.size)) hg7 h5X, hS6.q.ea, hS6.q.ia⟩, hSd.be.grown hg7 hSd.be.size (fun k e => by cases e; have := hS6.bQ; have := hS6.wb; omega), hSd.bQ, hSd.wb⟩
    have hq7 := hqd.grown hg7 (fun k e => by cases e; exact hXd)
    have hi7 := hid.grown hg7 (fun k e n' c' p hp => by cases e; have := had p (Value.slice.inj hp).1; omega)
    obtain ⟨w7, hw7⟩ : ∃ W : World, W = set3 wd X (.int .i64 n) (.slice a8 fs.length c8) (.slice a9 lf.length c9) := ⟨_, rfl⟩
    rw [← hw7] at hcx7 hS7 hq7 hi7
    unfold set3 at hw7
    have HW7 := Lib.hid hw7
    clear hw7 hqd hid hbd hS6 hSd hcxd hg7 hdl x0 x1 x2
    go_upto_region 10 with fail
    rw [← HW7.out]
    clear r0 r1 r2 f0 f1 f2
    obtain ⟨x0, x1, x2⟩ := cells3 hcx7
    go_wp2_with fail
    refine (hde a8 c8 a9 c9 w7 hq7.e hq7.i (hT.below hS7.be)).mono ?_
    rintro _ w8 ⟨a11, c11, a12, c12, a13, c13, rfl, hq8, hi8, -, hb8⟩
    dsimp only at hq8 hi8
    obtain ⟨hcx9, hcb9⟩ := box_new w8 #[.int .i64 n, .slice a11 es.length c11, .slice a12 l.length c12] 62
    have hS9 := (hS7.below hb8).below hcb9
    have hq9 := hq8.below hcb9
    have hi9 := hi8.below hcb9
    have hj9 := (hi7.below hb8).below hcb9
    obtain ⟨w9, hw9⟩ : ∃ W : World, W = w8.alloc (.cells #[.int .i64 n, .slice a11 es.length c11, .slice a12 l.length c12] 62) := ⟨_, rfl⟩
    obtain ⟨Y, hY⟩ : ∃ X, w8.heap.size = X := ⟨_, rfl⟩
    rw [← hw9] at hcx9 hS9 hq9 hi9 hj9
    rw [hY] at hcx9
    have HW9 := Lib.hid hw9
    have HY := Lib.hid hY
    clear hw9 hY hcb9 hq8 hi8 hb8 hS7 hde x0 x1 x2 hq7 hi7 hcx7
    go_upto_region 11 with fail
    rw [← HW9.out, HY.out]
    obtain ⟨x0, x1, x2⟩ := cells3 hS9.x
    obtain ⟨y0, y1, y2⟩ := cells3 hcx9
    have hs1 := rsame11_same n a11 a12 a6 a7 c11 c12 c6 c7 es l w9 hq9.e hq9.i hS9.q.e hS9.q.i
    go_wp2_with fail
    refine hs1.mono ?_
    rintro _ wa ⟨rfl, hba⟩
    have hs2 := isame_same a10 a13 c10 c13 CH wa (hj9.below hba) (hi9.below hba)
    go_wp2_with fail
    refine hs2.mono ?_
    rintro _ wb ⟨rfl, hbb⟩
    have hbe := hS9.be.trans ((hba.trans (hbb.mono hba.size)).mono hS9.be.size)
    go_wp2_with fail
    refine (awake11_any wb (hT.below hbe)).mono ?_
    rintro _ wc ⟨rfl, hbc⟩
    go_wp2_with fail
    go_ret
    exact ⟨rfl, hbe.trans (hbc.mono hbe.size)⟩
  · -- the edge is not there
    have hin := rpinsert_any n p q a6 a7 c6 c7 es (corT es n) w5 hS5.q.e hS5.q.i (hT.below hS5.be)
    rw [cins_ok hv hp hqn hne hm] at hin
    have hvf := hv.ins _ (ends_pair hp hqn hne)
    have hbk := back_ins hv hp hqn hne hm
    have hde := fun a c a' c' W h1 h2 h3 => rpdelete_any n q p a a' c c' (insE es (min (p : Int) q, max (p : Int) q)) (corT (insE es (min (p : Int) q, max (p : Int) q)) n) W h1 h2 h3
    rw [show (⟨n, insE es (min (p : Int) q, max (p : Int) q), corT (insE es (min (p : Int) q, max (p : Int) q)) n⟩ : Cr) = crN n (insE es (min (p : Int) q, max (p : Int) q)) from rfl, hbk] at hde
    unfold crN at hin hde
    clear hbk hm hvf
    generalize chgL n (corT es n) (corT (insE es (min (p : Int) q, max (p : Int) q)) n) = CH at *
    generalize corT (insE es (min (p : Int) q, max (p : Int) q)) n = lf at *
    generalize insE es (min (p : Int) q, max (p : Int) q) = fs at *
    generalize corT es n = l at *
    obtain ⟨x0, x1, x2⟩ := cells3 hS5.x
    rw [HQ1.out] at *
    go_wp2_with fail
    try rw [HQ1.out]
    try rw [HQ2.out]
    refine hin.mono ?_
    rintro _ w6 ⟨a8, c8, a9, c9, a10, c10, rfl, hq6, hi6, -, hb6⟩
    dsimp only at hq6 hi6
    obtain ⟨hcx7, hcb7⟩ := box_new w6 #[.int .i64 n, .slice a8 fs.length c8, .slice a9 lf.length c9] 62
    have hS7 := (hS5.below hb6).below hcb7
    have hq7 := hq6.below hcb7
    have hi7 := hi6.below hcb7
    obtain ⟨w7, hw7⟩ : ∃ W : World, W = w6.alloc (.cells #[.int .i64 n, .slice a8 fs.length c8, .slice a9 lf.length c9] 62) := ⟨_, rfl⟩
    obtain ⟨X, hX⟩ : ∃ X, w6.heap.size = X := ⟨_, rfl⟩
    rw [← hw7] at hcx7 hS7 hq7 hi7
    rw [hX] at hcx7
    have HW7 := Lib.hid hw7
    have HX := Lib.hid hX
    clear hw7 hX hcb7 hq6 hi6 hb6 hS5 hin x0 x1 x2
    go_upto_region 8 with fail
    rw [← HW7.out, HX.out]
    obtain ⟨x0, x1, x2⟩ := cells3 hcx7
    go_wp2_with fail
    refine (hde a8 c8 a9 c9 w7 hq7.e hq7.i (hT.below hS7.be)).mono ?_
    rintro _ w8 ⟨a11, c11, a12, c12, a13, c13, rfl, hq8, hi8, -, hb8⟩
    dsimp only at hq8 hi8
    obtain ⟨hcx9, hcb9⟩ := box_new w8 #[.int .i64 n, .slice a11 es.length c11, .slice a12 l.length c12] 62
    have hS9 := (hS7.below hb8).below hcb9
    have hq9 := hq8.below hcb9
    have hi9 := hi8.below hcb9
    have hj9 := (hi7.below hb8).below hcb9
    obtain ⟨w9, hw9⟩ : ∃ W : World, W = w8.alloc (.cells #[.int .i64 n, .slice a11 es.length c11, .slice a12 l.length c12] 62) := ⟨_, rfl⟩
    obtain ⟨Y, hY⟩ : ∃ X, w8.heap.size = X := ⟨_, rfl⟩
    rw [← hw9] at hcx9 hS9 hq9 hi9 hj9
    rw [hY] at hcx9
    have HW9 := Lib.hid hw9
    have HY := Lib.hid hY
    clear hw9 hY hcb9 hq8 hi8 hb8 hS7 hde x0 x1 x2 hq7 hi7 hcx7
    go_upto_region 13 with fail
    rw [← HW9.out, HY.out]
    obtain ⟨x0, x1, x2⟩ := cells3 hS9.x
    obtain ⟨y0, y1, y2⟩ := cells3 hcx9
    have hs1 := rsame11_same n a11 a12 a6 a7 c11 c12 c6 c7 es l w9 hq9.e hq9.i hS9.q.e hS9.q.i
    go_wp2_with fail
    refine hs1.mono ?_
    rintro _ wa ⟨rfl, hba⟩
    have hs2 := isame_same a10 a13 c10 c13 CH wa (hj9.below hba) (hi9.below hba)
    go_wp2_with fail
    refine hs2.mono ?_
    rintro _ wb ⟨rfl, hbb⟩
    have hbe := hS9.be.trans ((hba.trans (hbb.mono hba.size)).mono hS9.be.size)
    go_wp2_with fail
    refine (awake11_any wb (hT.below hbe)).mono ?_
    rintro _ wc ⟨rfl, hbc⟩
    go_wp2_with fail
    go_ret
    exact ⟨rfl, hbe.trans (hbc.mono hbe.size)⟩
end Go.Proofs.YtkknknehchnccaaDoor
