/- The walk of the law SquaresKept. -/
import Derived.Test.YtekbpoppajbljaaDoorSqInsDel
namespace Go.Proofs.YtekbpoppajbljaaDoor
open Go.RowKit Go.BigFrame

theorem sqOk_quad {n : Nat} {es : List E2} (hv : Valid n es) : sqOk ⟨n, es, wedS es n, sqT es n n / 4, sqL es n⟩ = true := (sqOk_iff _).2 ⟨n, hv, rfl⟩
theorem ins_ok_any (n p q : Nat) (a a2 : Option Addr) (cap c2 : Nat) (es : List E2) (w : World) (hv : Valid n es) (hq : QIn w 0 a cap es a2 c2 (sqL es n)) (hT : TzAt w) (hE : (addX n es p q).2.2 = 0) :
    Calls Tryd.prog 32 #[.agg #[.int .i64 n, .slice a es.length cap, .int .i64 (wedS es n), .int .i64 (sqT es n n / 4), .slice a2 n c2], .int .i64 p, .int .i64 q] w fun e w' => ∃ a6 c6 a7 c7, e = .returned (.tuple #[.agg #[.int .i64 n, .slice a6 (insE es (min (p : Int) q, max (p : Int) q)).length c6, .int .i64 (wedS (insE es (min (p : Int) q, max (p : Int) q)) n), .int .i64 (sqT (insE es (min (p : Int) q, max (p : Int) q)) n n / 4), .slice a7 n c7], .int .i64 ((ovN es p q).length : Int), .int .i64 0]) ∧
      QIn w' w.heap.size a6 c6 (insE es (min (p : Int) q, max (p : Int) q)) a7 c7 (sqL (insE es (min (p : Int) q, max (p : Int) q)) n) ∧ Below w.heap.size w w' := by
  have h := sqinsert_any n (wedS es n) (sqT es n n / 4) a a2 cap c2 es (sqL es n) p q w hq.e hq.i (by have := hv.length_le; omega) hT
  have e : insX ⟨n, es, wedS es n, sqT es n n / 4, sqL es n⟩ p q = (quadN n (insE es (min (p : Int) q, max (p : Int) q)), ((ovN es p q).length : Int), 0) := by
    unfold insX
    rw [if_pos (sqOk_quad hv)]
    dsimp only
    obtain ⟨-, -, -, he⟩ := addX_ok hE
    rw [he, if_neg (by simp)]
    rfl
  rw [e, sqL_length] at h
  refine h.mono ?_
  rintro e w' ⟨a6, c6, a7, c7, rfl, h1, h2⟩
  exact ⟨a6, c6, a7, c7, by unfold quadN; dsimp only; rw [sqL_length], h1, h2⟩
theorem ins_no_any (n p q : Nat) (a a2 : Option Addr) (cap c2 : Nat) (es : List E2) (w : World) (hv : Valid n es) (hq : QIn w 0 a cap es a2 c2 (sqL es n)) (hT : TzAt w) (hE : (addX n es p q).2.2 ≠ 0) :
    Calls Tryd.prog 32 #[.agg #[.int .i64 n, .slice a es.length cap, .int .i64 (wedS es n), .int .i64 (sqT es n n / 4), .slice a2 n c2], .int .i64 p, .int .i64 q] w fun e w' => ∃ a6 c6 a7 c7, e = .returned (.tuple #[.agg #[.int .i64 0, .slice a6 0 c6, .int .i64 0, .int .i64 0, .slice a7 0 c7], .int .i64 0, .int .i64 (addX n es p q).2.2]) ∧ Below w.heap.size w w' := by
  have h := sqinsert_any n (wedS es n) (sqT es n n / 4) a a2 cap c2 es (sqL es n) p q w hq.e hq.i (by have := hv.length_le; omega) hT
  have e : insX ⟨n, es, wedS es n, sqT es n n / 4, sqL es n⟩ p q = (Qd.zero, 0, (addX n es p q).2.2) := by
    unfold insX
    rw [if_pos (sqOk_quad hv)]
    dsimp only
    rw [if_pos hE]
  rw [e, sqL_length] at h
  refine h.mono ?_
  rintro e w' ⟨a6, c6, a7, c7, rfl, -, h2⟩
  exact ⟨a6, c6, a7, c7, rfl, h2⟩
theorem del_ok_any (n p q : Nat) (a a2 : Option Addr) (cap c2 : Nat) (es gs : List E2) (w : World) (hv : Valid n es) (hq : QIn w 0 a cap es a2 c2 (sqL es n)) (hT : TzAt w) (hE : remX n es p q = ((n : Int), gs, 0)) :
    Calls Tryd.prog 33 #[.agg #[.int .i64 n, .slice a es.length cap, .int .i64 (wedS es n), .int .i64 (sqT es n n / 4), .slice a2 n c2], .int .i64 p, .int .i64 q] w fun e w' => ∃ a6 c6 a7 c7, e = .returned (.tuple #[.agg #[.int .i64 n, .slice a6 gs.length c6, .int .i64 (wedS gs n), .int .i64 (sqT gs n n / 4), .slice a7 n c7], .int .i64 ((ovN gs p q).length : Int), .int .i64 0]) ∧
      QIn w' w.heap.size a6 c6 gs a7 c7 (sqL gs n) ∧ Below w.heap.size w w' := by
  have h := sqdelete_any n (wedS es n) (sqT es n n / 4) a a2 cap c2 es (sqL es n) p q w hq.e hq.i (by have := hv.length_le; omega) hT
  have e : delX ⟨n, es, wedS es n, sqT es n n / 4, sqL es n⟩ p q = (quadN n gs, ((ovN gs p q).length : Int), 0) := by
    unfold delX
    rw [if_pos (sqOk_quad hv)]
    dsimp only
    rw [hE, if_neg (by simp)]
    rfl
  rw [e, sqL_length] at h
  refine h.mono ?_
  rintro e w' ⟨a6, c6, a7, c7, rfl, h1, h2⟩
  exact ⟨a6, c6, a7, c7, by unfold quadN; dsimp only; rw [sqL_length], h1, h2⟩
theorem endsB_of {n : Nat} {u v : Int} (h : u ≠ v ∧ 0 ≤ min u v ∧ max u v < n) : endsB n u v = true := endsB_iff.2 h
/-- what has come goes again -/
theorem rem_back {n : Nat} {es : List E2} {u v : Int} (hv : Valid n (insE es (min u v, max u v))) (h : u ≠ v ∧ 0 ≤ min u v ∧ max u v < n) (hno : (min u v, max u v) ∉ es) : remX n (insE es (min u v, max u v)) u v = ((n : Int), es, 0) := by
  unfold remX chgE
  rw [(valid_iff _ _).2 hv, if_neg (show ¬ ((0 : Int) ≠ 0) by simp), if_pos (endsB_of h), if_neg (show ¬ ((0 : Int) ≠ 0) by simp), if_pos ((insE_mem _ _ _).2 (.inr rfl)), del_ins _ _ hno]
theorem add_there {n : Nat} {es : List E2} {u v : Int} (hE : (addX n es u v).2.2 = 15) (hv : Valid n es) : (u ≠ v ∧ 0 ≤ min u v ∧ max u v < n) ∧ (min u v, max u v) ∈ es := by
  unfold addX chgE at hE
  rw [(valid_iff _ _).2 hv, if_neg (show ¬ ((0 : Int) ≠ 0) by simp)] at hE
  by_cases h : endsB n u v = true
  · rw [if_pos h, if_neg (show ¬ ((0 : Int) ≠ 0) by simp)] at hE
    by_cases hm : (min u v, max u v) ∈ es
    · exact ⟨endsB_iff.1 h, hm⟩
    · rw [if_neg hm] at hE; cases hE
  · rw [if_neg h, if_pos (by simp)] at hE; cases hE
theorem rem_there {n : Nat} {es : List E2} {u v : Int} (hv : Valid n es) (h : u ≠ v ∧ 0 ≤ min u v ∧ max u v < n) (hm : (min u v, max u v) ∈ es) : remX n es u v = ((n : Int), delE es (min u v, max u v), 0) := by
  unfold remX chgE
  rw [(valid_iff _ _).2 hv, if_neg (show ¬ ((0 : Int) ≠ 0) by simp), if_pos (endsB_of h), if_neg (show ¬ ((0 : Int) ≠ 0) by simp), if_pos hm]
/-- the graph with its numbers in a box, and the deck -/
structure KqW (w0 : World) (b Q n : Nat) (es : List E2) (a : Option Addr) (cap : Nat) (a2 : Option Addr) (c2 : Nat) (W : World) : Prop where
  d : DeckAt W b
  x : W.heap[Q]? = some (.cells #[.int .i64 n, .slice a es.length cap, .int .i64 (wedS es n), .int .i64 (sqT es n n / 4), .slice a2 n c2] 46 (0, 0))
  q : QIn W (b + 1) a cap es a2 c2 (sqL es n)
  be : Below w0.heap.size w0 W
  bQ : b < Q
  wb : w0.heap.size ≤ b
theorem QIn.after {w w' : World} {b : Nat} {a : Option Addr} {cap : Nat} {es : List E2} {a2 : Option Addr} {c2 : Nat} {ns : List Int} {r : Option Nat} (h : QIn w b a cap es a2 c2 ns) (hg : w.grownBy w' r) (hr : ∀ k, r = some k → (∀ p, a = some p → p.block ≠ k) ∧ ∀ p, a2 = some p → p.block ≠ k) : QIn w' b a cap es a2 c2 ns :=
  ⟨h.e.grown hg (fun g e _ _ p ep => (hr g e).1 p (Value.slice.inj ep).1), h.i.grown hg (fun g e _ _ p ep => (hr g e).2 p (Value.slice.inj ep).1), h.ea, h.ia⟩
section
variable {w0 W W' : World} {b Q n : Nat} {es : List E2} {a a2 : Option Addr} {cap c2 : Nat}
theorem deck_below {w w' : World} {b : Nat} (h : DeckAt w b) (hb : Below w.heap.size w w') : DeckAt w' b := h.kept (grown_of_below hb) (fun _ e => by cases e)
theorem KqW.below (h : KqW w0 b Q n es a cap a2 c2 W) (hb : Below W.heap.size W W') : KqW w0 b Q n es a cap a2 c2 W' := ⟨deck_below h.d hb, lit_next' hb h.x, h.q.below hb, h.be.trans (hb.mono h.be.size), h.bQ, h.wb⟩
theorem KqW.alloc (h : KqW w0 b Q n es a cap a2 c2 W) (o : Obj) : KqW w0 b Q n es a cap a2 c2 (W.alloc o) := h.below ((Below.refl _ _).alloc (Nat.le_refl _) _)
theorem KqW.next (h : KqW w0 b Q n es a cap a2 c2 W) (hd : DeckAt W' b) (hg : W.grownBy W' (some b)) : KqW w0 b Q n es a cap a2 c2 W' :=
  ⟨hd, grown_blk hg h.x (fun e => by have := Option.some.inj e; have := h.bQ; omega), h.q.grown hg (fun k e => by cases e; omega), h.be.grown hg h.be.size (fun k e => by cases e; exact h.wb), h.bQ, h.wb⟩
/-- a new graph with its numbers is laid in another box -/
theorem KqW.other {fs : List E2} {a6 a7 : Option Addr} {c6 c7 : Nat} (h : KqW w0 b Q n es a cap a2 c2 W) (hb : Below W.heap.size W W') (hq : QIn W' W.heap.size a6 c6 fs a7 c7 (sqL fs n)) :
    KqW w0 b Q n es a cap a2 c2 (W'.alloc (.cells #[.int .i64 n, .slice a6 fs.length c6, .int .i64 (wedS fs n), .int .i64 (sqT fs n n / 4), .slice a7 n c7] 46)) ∧
    KqW w0 b W'.heap.size n fs a6 c6 a7 c7 (W'.alloc (.cells #[.int .i64 n, .slice a6 fs.length c6, .int .i64 (wedS fs n), .int .i64 (sqT fs n n / 4), .slice a7 n c7] 46)) ∧ (∀ p, a6 = some p → p.block ≠ Q) ∧ (∀ p, a7 = some p → p.block ≠ Q) ∧ Q < W'.heap.size := by
  have h1 := (h.below hb).alloc (.cells #[.int .i64 n, .slice a6 fs.length c6, .int .i64 (wedS fs n), .int .i64 (sqT fs n n / 4), .slice a7 n c7] 46)
  have hbA := (Below.refl W'.heap.size W').alloc (Nat.le_refl _) (.cells #[.int .i64 n, .slice a6 fs.length c6, .int .i64 (wedS fs n), .int .i64 (sqT fs n n / 4), .slice a7 n c7] 46)
  have hQ := blk_lt h.x
  have hs := hb.size
  have hbQ := h.bQ
  exact ⟨h1, ⟨h1.d, heap_alloc_new _ _, (hq.below hbA).mono (by omega), h1.be, by omega, h.wb⟩, (fun p hp => by have := hq.ea p hp; omega), (fun p hp => by have := hq.ia p hp; omega), by omega⟩
/-- it is stored to the first box -/
theorem KqW.put {R : Nat} {fs : List E2} {a6 a7 : Option Addr} {c6 c7 : Nat} (h : KqW w0 b Q n es a cap a2 c2 W) (k : KqW w0 b R n fs a6 c6 a7 c7 W) (h6 : ∀ p, a6 = some p → p.block ≠ Q) (h7 : ∀ p, a7 = some p → p.block ≠ Q) :
    KqW w0 b Q n fs a6 c6 a7 c7 (set5 W Q (.int .i64 n) (.slice a6 fs.length c6) (.int .i64 (wedS fs n)) (.int .i64 (sqT fs n n / 4)) (.slice a7 n c7)) := by
  have hg := set5_grown W Q (.int .i64 n) (.slice a6 fs.length c6) (.int .i64 (wedS fs n)) (.int .i64 (sqT fs n n / 4)) (.slice a7 n c7)
  have hbQ := h.bQ
  have hwb := h.wb
  exact ⟨h.d.kept hg (fun g e => by cases e; exact hbQ), set5_at h.x _ _ _ _ _, k.q.after hg (fun g e => by cases e; exact ⟨h6, h7⟩), h.be.grown hg h.be.size (fun g e => by cases e; omega), hbQ, hwb⟩
end
theorem deg_oc {n : Nat} {es : List E2} (hv : Valid n es) (p : Nat) : ((neighS es p).length : Int) = oc64 (rowN es p : Int) := by
  rw [oc_K hv, deg_sum hv]
  unfold dK
  rw [sumN_K]
  refine sumK_congr n fun x _ => ?_
  show ind (adjK es p x) = _
  cases adjK es p x <;> rfl
theorem kept_nums {X X' Y Y' D1 D2 : Int} {L : Nat} (hw : X' = X + D1 + D2) (hc : Y' = Y + (L : Int)) (hL : L ≤ 4096) (hX : 0 ≤ X ∧ X ≤ 1125899906842624) (hY : 0 ≤ Y ∧ Y ≤ 1125899906842624) (h1 : 0 ≤ D1 ∧ D1 ≤ 127) (h2 : 0 ≤ D2 ∧ D2 ≤ 127) :
    IntKind.i64.wrap (X + D1) = X + D1 ∧ IntKind.i64.wrap (X + D1 + D2) = X + D1 + D2 ∧ IntKind.i64.wrap (Y + (L : Int)) = Y + (L : Int) ∧ (X' != X + D1 + D2) = false ∧ (Y' != Y + (L : Int)) = false :=
  ⟨IntWalk.i64_in _ (by omega), IntWalk.i64_in _ (by omega), IntWalk.i64_in _ (by omega), by simp; omega, by simp; omega⟩
theorem kept_back {Y Y' : Int} {L : Nat} (hc : Y = Y' + (L : Int)) (hL : L ≤ 4096) : IntKind.i64.wrap (Y - Y') = Y - Y' ∧ ((L : Int) != Y - Y') = false :=
  ⟨IntWalk.i64_in _ (by omega), by simp; omega⟩
set_option maxRecDepth 100000 in
set_option maxHeartbeats 12800000 in
theorem kept_law (a : Option Addr) (len cap : Nat) (w : World) (hl : ListAt w a len) (hT : TzAt w) :
    Calls Tryd.prog 7 #[.slice a len cap] w fun e w' => e = .returned (.bool true) ∧ Below w.heap.size w w' := by
  by_cases hfew : len ≤ 500
  case neg =>
    have hd : decide (len ≤ 500) = false := by simpa using hfew
    go_enter Tryd.func7, Tryd.ntmps7
    go_wp2_with (first
      | (go_at_call 9; refine (few_any _ _ _ _).mono ?_; rintro e w' ⟨rfl, rfl⟩)
      | (go_at_call 26; refine (awake30_any _ hT).mono ?_; rintro e w' ⟨rfl, hb⟩))
    go_ret
    exact ⟨rfl, hb⟩
  case pos =>
  have hd : decide (len ≤ 500) = true := by simpa using hfew
  have hdk := deck_new (cap := cap) hl
  have hb1 : Below w.heap.size w (w.alloc (.cells #[.slice a len cap, .int .i64 0] 64)) := (Below.refl _ _).alloc (Nat.le_refl _) _
  go_enter Tryd.func7, Tryd.ntmps7
  go_wp2_with (first
    | (go_at_call 9; refine (few_any _ _ _ _).mono ?_; rintro e w' ⟨rfl, rfl⟩)
    | (go_at_call 12; refine (new_any _ _ _ _).mono ?_; rintro e w' ⟨rfl, rfl⟩)
    | (go_at_call 11; refine (mkgraph_any w.heap.size 7 _ hdk (by omega) (by omega)).mono ?_; rintro e w2 ⟨n0, es, a2, cap2, rfl, he2, hv, hn7, hd2, hg2, ho2⟩))
  have hb2 : Below w.heap.size w w2 := below_deck hb1 hg2 (Nat.le_refl _) hb1.size
  obtain ⟨n, rfl⟩ := Int.eq_ofNat_of_zero_le hv.1
  have hel := hv.length_le
  have hop := sqopen_any n a2 cap2 es _ he2 (by omega) (hT.below hb2)
  have hox : openX n es = (quadN n es, 0) := by unfold openX; rw [(valid_iff _ _).2 hv, if_neg (by simp)]; rfl
  rw [hox] at hop
  have hz2 := hd2.lt
  refine hop.mono ?_
  rintro e w3 ⟨a6, c6, a7, c7, rfl, hq3, hb3⟩
  have hd3 := deck_below hd2 hb3
  have hb23 := hb2.trans (hb3.mono hb2.size)
  have hz3 := hb3.size
  have hq3' := hq3.below ((Below.refl w3.heap.size w3).alloc (Nat.le_refl _) (.cells #[.int .i64 n, .slice a6 es.length c6, .int .i64 (wedS es n), .int .i64 (sqT es n n / 4), .slice a7 n c7] 46))
  have hS : KqW w w.heap.size w3.heap.size n es a6 c6 a7 c7 (w3.alloc (.cells #[.int .i64 n, .slice a6 es.length c6, .int .i64 (wedS es n), .int .i64 (sqT es n n / 4), .slice a7 n c7] 46)) :=
    ⟨hd3.alloc _, heap_alloc_new _ _, hq3'.mono (by omega), hb23.alloc hb23.size _, by omega, Nat.le_refl _⟩
  obtain ⟨Q, hQ⟩ : ∃ Q, w3.heap.size = Q := ⟨_, rfl⟩
  unfold quadN
  dsimp only
  rw [sqL_length]
  clear hox hop hd3 hb23 hq3' hq3 hb3 hd2 hg2 ho2 he2 hb2 hb1 hdk
  go_wp2_with fail
  try rw [hQ]
  rw [hQ] at hS
  have hSS := Lib.hid hS
  have hvh := Lib.hid hv
  have hn0 : n ≤ 7 := by omega
  clear hS hv hel hz2 hz3 hQ hn7
  clear hl
  go_loopw [6] (fun i wr => ∃ k : Nat, k ≤ 10 ∧ i = .int .i64 k ∧ ∃ (n : Nat) (es : List E2) (a : Option Addr) (cap : Nat) (a2 : Option Addr) (c2 : Nat), Valid n es ∧ n ≤ 7 ∧ KqW w w.heap.size Q n es a cap a2 c2 wr) (fun i _ => 10 - (intOf i).toNat)
  case atStart => exact ⟨0, by omega, rfl, n, es, a6, c6, a7, c7, hvh.out, hn0, hSS.out⟩
  case round =>
    clear hSS hvh hn0
    obtain ⟨k, hk, rfl, n, es, a, cap, a2, c2, hv, hn7, hS⟩ := hrel
    by_cases hlt : k < 10
    · have dk : decide ((k : Int) < 10) = true := by simp; omega
      go_wp2_with fail
      refine (next_any w.heap.size 7 _ hS.d (by omega) (by omega)).mono ?_
      rintro _ w4 ⟨u, hu0, hu1, rfl, hd4, hg4⟩
      have hS4 := hS.next hd4 hg4
      clear hS hd4 hg4
      go_wp2_with fail
      refine (next_any w.heap.size 7 _ hS4.d (by omega) (by omega)).mono ?_
      rintro _ w5 ⟨v, hv0, hv1, rfl, hd5, hg5⟩
      have hS5 := hS4.next hd5 hg5
      clear hS4 hd5 hg5
      obtain ⟨p, rfl⟩ := Int.eq_ofNat_of_zero_le hu0
      obtain ⟨q, rfl⟩ := Int.eq_ofNat_of_zero_le hv0
      obtain ⟨g0, g1, g2, g3, g4⟩ := cells5 hS5.x
      have hm64 : n ≤ 64 := by omega
      by_cases hE : (addX n es p q).2.2 = 0
      · obtain ⟨-, hen, hno, -⟩ := addX_ok hE
        obtain ⟨hvf, hK⟩ := kept_ins hv hen hno
        have hin := ins_ok_any n p q a a2 cap c2 es w5 hv (hS5.q.mono (Nat.zero_le _)) (hT.below hS5.be) hE
        have hrb := rem_back hvf hen hno
        obtain ⟨F, hF⟩ : ∃ F, insE es (min (p : Int) q, max (p : Int) q) = F := ⟨_, rfl⟩
        rw [hF] at hvf hK hin hrb
        rw [Int.toNat_natCast, Int.toNat_natCast] at hK
        clear hF hE hen hno
        go_wp2_with fail
        refine hin.mono ?_
        rintro _ w6 ⟨a6, c6, a7, c7, rfl, hq6, hb6⟩
        obtain ⟨hA6, hX6, hoe, hoi, hQX⟩ := hS5.other hb6 hq6
        clear hin hq6 hb6 hS5 g0 g1 g2 g3 g4
        obtain ⟨x0, x1, x2, x3, x4⟩ := cells5 hX6.x
        have hdl := del_ok_any n p q a6 a7 c6 c7 F es _ hvf (hX6.q.mono (Nat.zero_le _)) (hT.below hX6.be) hrb
        go_wp2_with fail
        refine hdl.mono ?_
        rintro _ w7 ⟨a8, c8, a9, c9, rfl, hq7, hb7⟩
        obtain ⟨hX7, hY7, -, -, hXY⟩ := hX6.other hb7 hq7
        have hA7 := (hA6.below hb7).alloc (.cells #[.int .i64 n, .slice a8 es.length c8, .int .i64 (wedS es n), .int .i64 (sqT es n n / 4), .slice a9 n c9] 46)
        obtain ⟨RX, hRX⟩ : ∃ R, w6.heap.size = R := ⟨_, rfl⟩
        obtain ⟨RY, hRY⟩ : ∃ R, w7.heap.size = R := ⟨_, rfl⟩
        clear hdl hq7 hb7 hA6 hX6 x0 x1 x2 x3 x4 hrb
        have hw := hK.wed
        have hc := hK.cnt
        have hOL := ovN_len es p q
        obtain ⟨hWb, hCb⟩ := num_bd (es := es) hm64
        obtain ⟨g0, g1, g2, g3, g4⟩ := cells5 hA7.x
        obtain ⟨x0, x1, x2, x3, x4⟩ := cells5 hX7.x
        obtain ⟨y0, y1, y2, y3, y4⟩ := cells5 hY7.x
        have hdu := fun W h => degree_any n a cap es p W h hv
        have hdv := fun W h => degree_any n a cap es q W h hv
        rw [deg_oc hv] at hdu hdv
        have hou := oc64_bd (rowN es p : Int)
        have hov := oc64_bd (rowN es q : Int)
        have hvl := fun W h h2 t => sqvalid_any n (wedS F n) (sqT F n n / 4) a6 a7 c6 c7 F (sqL F n) W h h2 t
        rw [sqOk_quad hvf, sqL_length] at hvl
        have hil := fun W h h2 => lints_any a9 a2 c9 c2 (sqL es n) W h h2
        rw [sqL_length] at hil
        have hAq := hA7.q
        have hXq := hX7.q
        have hYq := hY7.q
        have hnn := sqL_length es n
        have hnf := sqL_length F n
        have hAH := Lib.hid hA7
        have hXH := Lib.hid hX7
        have hbe7 := hA7.be
        have hai := hAq.i
        rw [hnn] at hai
        have hyi := hYq.i
        rw [hnn] at hyi
        have hxi := hXq.i
        rw [hnf] at hxi
        have hae := hAq.e
        have hxe := hXq.e
        obtain ⟨W7, hW7⟩ : ∃ W : World, W = w7.alloc (.cells #[.int .i64 n, .slice a8 es.length c8, .int .i64 (wedS es n), .int .i64 (sqT es n n / 4), .slice a9 n c9] 46) := ⟨_, rfl⟩
        have hAH7 : Hid (KqW w w.heap.size Q n es a cap a2 c2 W7) := by show KqW _ _ _ _ _ _ _ _ _ _; rw [hW7]; exact hAH.out
        have hXH7 : Hid (KqW w w.heap.size w6.heap.size n F a6 c6 a7 c7 W7) := by show KqW _ _ _ _ _ _ _ _ _ _; rw [hW7]; exact hXH.out
        go_wp2_with fail
        rw [← hW7] at g0 g1 g2 g3 g4 x0 x1 x2 x3 x4 y0 y1 y2 y3 y4 hai hyi hxi hae hxe hbe7 ⊢
        clear hA7 hX7 hY7 hAq hXq hYq hAH hXH hW7
        rw [hRX] at x0 x1 x2 x3 x4 hXH7
        rw [hRY] at y0 y1 y2 y3 y4
        try rw [hRX]
        try rw [hRY]
        clear hRX hRY
        have HTT := Lib.hid hvf
        obtain ⟨D1, hD1⟩ : ∃ D, oc64 (rowN es p : Int) = D := ⟨_, rfl⟩
        obtain ⟨D2, hD2⟩ : ∃ D, oc64 (rowN es q : Int) = D := ⟨_, rfl⟩
        rw [hD1] at hdu hou hw
        rw [hD2] at hdv hov hw
        obtain ⟨L, hL⟩ : ∃ L, (ovN es p q).length = L := ⟨_, rfl⟩
        rw [hL] at hOL hc
        try rw [hL]
        clear hL hD1 hD2 hK hv hvf
        obtain ⟨X', hX'⟩ : ∃ X, wedS F n = X := ⟨_, rfl⟩
        obtain ⟨Y', hY'⟩ : ∃ X, sqT F n n / 4 = X := ⟨_, rfl⟩
        obtain ⟨X, hX⟩ : ∃ X, wedS es n = X := ⟨_, rfl⟩
        obtain ⟨Y, hY⟩ : ∃ X, sqT es n n / 4 = X := ⟨_, rfl⟩
        rw [hX'] at x2 hw hvl
        rw [hY'] at x3 hc hvl
        rw [hX] at g2 y2 hw hWb
        rw [hY] at g3 y3 hc hCb
        try rw [hX']
        try rw [hY']
        try rw [hX]
        try rw [hY]
        have HX' := Lib.hid hX'
        have HY' := Lib.hid hY'
        clear hX hY hX' hY'
        obtain ⟨v1, v2, v3, e1, e2⟩ := kept_nums hw hc hOL hWb hCb hou hov
        clear hw hc hOL hWb hCb hou hov
        have xt : ∀ (g j : Nat) (v : Value), W7.cell? ⟨g, j, none⟩ = some v → ∀ z : Ext W7.heap.size W7, z.world.cell? ⟨g, j, none⟩ = some v := fun g j v h z => (z.below.cell (p := ⟨g, j, none⟩) (cell_lt h)).trans h
        have ga0 := xt _ _ _ g0
        have ga1 := xt _ _ _ g1
        have ga2 := xt _ _ _ g2
        have ga3 := xt _ _ _ g3
        have ga4 := xt _ _ _ g4
        have xa0 := xt _ _ _ x0
        have xa1 := xt _ _ _ x1
        have xa2 := xt _ _ _ x2
        have xa3 := xt _ _ _ x3
        have xa4 := xt _ _ _ x4
        have ya2 := xt _ _ _ y2
        have ya3 := xt _ _ _ y3
        have ya4 := xt _ _ _ y4
        have hduz := fun z : Ext W7.heap.size W7 => hdu z.world (hae.below z.below)
        have hdvz := fun z : Ext W7.heap.size W7 => hdv z.world (hae.below z.below)
        have hvlz := fun z : Ext W7.heap.size W7 => hvl z.world (hxe.below z.below) (hxi.below z.below) ((hT.below hbe7).below z.below)
        have hilz := fun z : Ext W7.heap.size W7 => hil z.world (hyi.below z.below) (hai.below z.below)
        clear xt g0 g1 g2 g3 g4 x0 x1 x2 x3 x4 y0 y1 y2 y3 y4 hdu hdv hvl hil hai hyi hxi hae hxe
        refine wp_region_ext W7.heap.size W7 (by kernel_rfl) (by kernel_rfl) (Below.refl _ _) ?_
        try simp only [List.append_eq, List.cons_append, List.nil_append]
        repeat (any_goals (go_big_quiet_step (first | (go_at_call 34; (with_reducible exact Calls.ext_of (Nat.le_refl _) (hduz _))) | (go_at_call 34; (with_reducible exact Calls.ext_of (Nat.le_refl _) (hdvz _))) | (go_at_call 35; (with_reducible exact Calls.ext_of (Nat.le_refl _) (hvlz _))) | (go_at_call 36; (with_reducible exact Calls.ext_of (Nat.le_refl _) (hilz _))))))
        refine wpQuiet_nil ?_
        rintro _ ⟨⟨wq, hq⟩, rfl⟩
        clear ga0 ga1 ga2 ga3 ga4 xa0 xa1 xa2 xa3 xa4 ya2 ya3 ya4 hduz hdvz hvlz hilz
        have hA9 := hAH7.out.below hq
        have hX9 := hXH7.out.below hq
        have hP := Lib.hid (hA9.put hX9 hoe hoi)
        obtain ⟨g0, g1, g2, g3, g4⟩ := cells5 hA9.x
        obtain ⟨f0, f1, f2, f3, f4⟩ := frees5 hA9.x
        obtain ⟨x0, x1, x2, x3, x4⟩ := cells5 hX9.x
        clear hA9 hX9 hAH7 hXH7
        go_wp2_with fail
        go_roundw
        case rel => exact ⟨k + 1, by omega, by go_num, n, F, a6, c6, a7, c7, HTT.out, hn7, hP.out⟩
        case measure => simp [intOf]; omega
      · have hin := ins_no_any n p q a a2 cap c2 es w5 hv (hS5.q.mono (Nat.zero_le _)) (hT.below hS5.be) hE
        obtain ⟨E, hEE⟩ : ∃ E, (addX n es p q).2.2 = E := ⟨_, rfl⟩
        rw [hEE] at hin hE
        have dE : (E == 0) = false := by simpa using hE
        go_wp2_with fail
        refine hin.mono ?_
        rintro _ w6 ⟨a6, c6, a7, c7, rfl, hb6⟩
        have hS6 := (hS5.below hb6).alloc (.cells #[.int .i64 0, .slice a6 0 c6, .int .i64 0, .int .i64 0, .slice a7 0 c7] 46)
        clear hin hb6 hS5 g0 g1 g2 g3 g4 hE
        by_cases h15 : E = 15
        · subst h15
          obtain ⟨hen, hmem⟩ := add_there hEE hv
          have hrt := rem_there hv hen hmem
          obtain ⟨hvf, hK⟩ := kept_del hv hen hmem
          obtain ⟨G, hG⟩ : ∃ G, delE es (min (p : Int) q, max (p : Int) q) = G := ⟨_, rfl⟩
          rw [hG] at hrt hvf hK
          rw [Int.toNat_natCast, Int.toNat_natCast] at hK
          clear hG hEE hen hmem
          go_wp2_with fail
          refine (next_any w.heap.size 2 _ hS6.d (by omega) (by omega)).mono ?_
          rintro _ w7 ⟨c, hc0, hc1, rfl, hd7, hg7⟩
          have hS7 := hS6.next hd7 hg7
          clear hS6 hd7 hg7
          by_cases hc : c = 1
          · subst hc
            obtain ⟨g0, g1, g2, g3, g4⟩ := cells5 hS7.x
            have hdl := del_ok_any n p q a a2 cap c2 es G w7 hv (hS7.q.mono (Nat.zero_le _)) (hT.below hS7.be) hrt
            go_wp2_with fail
            refine hdl.mono ?_
            rintro _ w8 ⟨a8, c8, a9, c9, rfl, hq8, hb8⟩
            obtain ⟨hA8, hX8, hoe, hoi, hQX⟩ := hS7.other hb8 hq8
            clear hdl hq8 hb8 hS7 g0 g1 g2 g3 g4 hrt
            have hcn := hK.cnt
            have hOL := ovN_len G p q
            obtain ⟨v3, e2⟩ := kept_back hcn hOL
            have hvl := fun W h h2 t => sqvalid_any n (wedS G n) (sqT G n n / 4) a8 a9 c8 c9 G (sqL G n) W h h2 t
            rw [sqOk_quad hvf, sqL_length] at hvl
            have hnf := sqL_length G n
            obtain ⟨g0, g1, g2, g3, g4⟩ := cells5 hA8.x
            obtain ⟨x0, x1, x2, x3, x4⟩ := cells5 hX8.x
            have HTT := Lib.hid hvf
            clear hcn hOL hK hv hvf
            go_wp2_with fail
            refine (hvl _ hX8.q.e (by have := hX8.q.i; rw [hnf] at this; exact this) (hT.below hX8.be)).mono ?_
            rintro _ w9 ⟨rfl, hb9⟩
            have hA9 := hA8.below hb9
            have hX9 := hX8.below hb9
            have hP := Lib.hid (hA9.put hX9 hoe hoi)
            clear hvl g0 g1 g2 g3 g4 x0 x1 x2 x3 x4 hA8 hX8 hb9 v3 e2
            obtain ⟨g0, g1, g2, g3, g4⟩ := cells5 hA9.x
            obtain ⟨f0, f1, f2, f3, f4⟩ := frees5 hA9.x
            obtain ⟨x0, x1, x2, x3, x4⟩ := cells5 hX9.x
            clear hA9 hX9
            go_wp2_with fail
            go_roundw
            case rel => exact ⟨k + 1, by omega, by go_num, n, G, a8, c8, a9, c9, HTT.out, hn7, hP.out⟩
            case measure => simp [intOf]; omega
          · have dc : (c == 1) = false := by simpa using hc
            clear hc
            go_wp2_with fail
            go_roundw
            case rel => exact ⟨k + 1, by omega, by go_num, n, es, a, cap, a2, c2, hv, hn7, hS7⟩
            case measure => simp [intOf]; omega
        · have d15 : (E == 15) = false := by simpa using h15
          clear h15 hEE
          go_wp2_with fail
          go_roundw
          case rel => exact ⟨k + 1, by omega, by go_num, n, es, a, cap, a2, c2, hv, hn7, hS6⟩
          case measure => simp [intOf]; omega
    · obtain rfl : k = 10 := by omega
      obtain ⟨g0, g1, g2, g3, g4⟩ := cells5 hS.x
      have hvl := fun W h h2 t => sqvalid_any n (wedS es n) (sqT es n n / 4) a a2 cap c2 es (sqL es n) W h h2 t
      rw [sqOk_quad hv, sqL_length] at hvl
      have hnf := sqL_length es n
      go_wp2_with fail
      refine (hvl _ hS.q.e (by have := hS.q.i; rw [hnf] at this; exact this) (hT.below hS.be)).mono ?_
      rintro _ w9 ⟨rfl, hb9⟩
      have hb09 := hS.be.trans (hb9.mono hS.be.size)
      clear g0 g1 g2 g3 g4 hvl
      go_wp2_with fail
      refine (awake30_any _ (hT.below hb09)).mono ?_
      rintro _ w10 ⟨rfl, hb10⟩
      go_wp2_with fail
      go_ret
      exact ⟨rfl, hb09.trans (hb10.mono hb09.size)⟩
end Go.Proofs.YtekbpoppajbljaaDoor
