/- The contract of rounds.deliver, in a world of one's own (printed by wip/mkdlv.py). -/
import Derived.Test.YtdkmdcdoiaelfaaGreatRdAwk
namespace Go.Proofs.YtdkmdcdoiaelfaaGreat
open Go.RowKit Go.BigFrame

set_option maxRecDepth 100000 in
theorem dlv1_any (v n cK cB A9 A10 gK gB : Nat) (a b : Int) (W : World) (hv : v < n) (h1 : W.cell? ⟨A10, 5, none⟩ = some (.slice (some ⟨gK, 0, none⟩) n cK)) (h2 : W.cell? ⟨A9, 0, none⟩ = some (.slice (some ⟨gB, 0, none⟩) n cB)) (h3 : W.cell? ⟨gK, v, none⟩ = some (.int .i64 a)) (h4 : W.cell? ⟨gB, v, none⟩ = some (.int .i64 b)) :
    Calls Tryz.prog 80 #[.int .i64 (v : Int), .pointer (some ⟨A10, 0, none⟩), .pointer (some ⟨A9, 0, none⟩)] W fun e W' => e = .returned (.bool (decide (a < b))) ∧ ∃ m, W' = W.drewN m := by
  have hv3 : (v : Int) < n := by omega
  go_enter Tryz.func80, Tryz.ntmps80
  go_wp2_with fail
  go_region
  go_wp2_with fail
  go_ret
  exact ⟨rfl, 1, rfl⟩
/-- a box that is not empty, and its first message -/
theorem ownsM_cons {w : World} {lo : Nat} {v : Value} {m : Msg} {r : List Msg} (h : w.ownsRow lo 89 encM.k v (m :: r).length (flatR encM (m :: r))) (hl : r.length ≤ 1000000) : ∃ g cap, v = .slice (some ⟨g, 0, none⟩) (r.length + 1) cap ∧ r.length + 1 ≤ cap ∧ lo ≤ g ∧ g < w.heap.size ∧ w.cell? ⟨g, 0, none⟩ = some (.int .i64 m.1) ∧ w.cell? ⟨g, 1, none⟩ = some (.int .i64 m.2.1) ∧ w.cell? ⟨g, 2, none⟩ = some (.bool m.2.2) ∧ RowAt encM w (.slice (some ⟨g, 3, none⟩) r.length (cap - 1)) r := by
  have hlt := h.lt
  obtain ⟨a, cap, rfl, hR, -⟩ := RowAt.of_owns h (by simp; omega)
  have hcap : (m :: r).length ≤ cap := by obtain ⟨_, _, e, hc, _⟩ := hR; cases e; exact hc
  have hsh := h.2
  rcases hsh with ⟨e, _⟩ | ⟨g, cp, cur, e, hb, _⟩
  · cases e
  · cases e
    obtain ⟨b, off, x, y, z, e2, hm, c0, c1, c2⟩ := msg_at hR 0 (by simp)
    cases e2
    have hd := hR.drop (E := encM) 1 (cap - 1) (by simp at hcap ⊢; omega)
    have hg := hlt g rfl
    simp at hm
    subst hm
    refine ⟨g, cap, rfl, hcap, hg.1, hg.2, ?_, ?_, ?_, ?_⟩
    · simpa using c0
    · simpa using c1
    · simpa using c2
    · have e3 : 0 + 1 * encM.k = 3 := rfl
      rw [e3] at hd
      simpa using hd
theorem GW.turnK {w w' : World} {lo : Nat} {I : Ix → Prop} {ad : Ix → Nat × Nat} {vs : Ix → Value} {K N : Nat → List Int} {B : Nat → Nat → List Msg} {j : Nat} {l : List Int} (h : GW w lo I ad vs K N B) (hi : I (0, j)) (hg : w.grownBy w' (vs (0, j)).ownBlock) (hown : w'.ownsRow lo 3 1 (vs (0, j)) l.length (intsV l)) : GW w' lo I ad vs (fun t => if t = j then l else K t) N B := by
  refine (GridA.turn h hi hg hown).congr (fun x _ => ?_) (fun x _ => ?_)
  all_goals
    obtain ⟨a, b⟩ := x
    unfold updX
    match a with
    | 0 =>
      by_cases e : b = j
      · subst e; rw [if_pos rfl]; simp [lenF, csF]
      · rw [if_neg (fun q => e (Prod.mk.inj q).2)]; simp [lenF, csF, e]
    | 1 => rw [if_neg (fun q => by have := (Prod.mk.inj q).1; omega)]; rfl
    | r + 2 => rw [if_neg (fun q => by have := (Prod.mk.inj q).1; omega)]; rfl
theorem GW.congrKB {w : World} {lo : Nat} {I : Ix → Prop} {ad : Ix → Nat × Nat} {vs : Ix → Value} {K K' N : Nat → List Int} {B B' : Nat → Nat → List Msg} (h : GW w lo I ad vs K N B) (hk : ∀ t, I (0, t) → K t = K' t) (hb : ∀ r t, I (r + 2, t) → B r t = B' r t) : GW w lo I ad vs K' N B' := by
  refine GridA.congr h (fun x hx => ?_) (fun x hx => ?_)
  all_goals
    obtain ⟨a, b⟩ := x
    match a with
    | 0 => simp [lenF, csF, hk b hx]
    | 1 => rfl
    | r + 2 => simp [lenF, csF, hb r b hx]
/-- the blocks of a world of one's own -/
def OwnD (P KB : Nat) (R : Nat → Nat) (vs : Ix → Value) (b : Nat) : Prop := ∃ x, CpI P P 0 x ∧ ((CpA KB R x).1 = b ∨ (vs x).ownBlock = some b)
set_option linter.unusedSimpArgs false in
set_option maxRecDepth 100000 in
set_option maxHeartbeats 6400000 in
theorem rddeliver_any (n P i j lo KB BB cK cB : Nat) (R cR : Nat → Nat) (vs : Ix → Value) (k0 k2 : Int) (e1 e3 e4 e5 : Option Addr) (l1 l3 l4 l5 c1 c3 c4 c5 : Nat) (es : List E2) (ow : Nat → Nat) (ao aN : Option Addr) (co cN : Nat) (Q : Nat → Prop) (W : WdP) (m : Msg) (r : List Msg) (w : World)
    (hn : n ≤ 64) (hP : P ≤ 64) (how : ∀ v, v < n → ow v < P) (hi : i < P) (hj : j < P) (hb : W.bx i j = m :: r) (hV : VldP n P W) (hbl : ∀ a b, a < P → b < P → (W.bx a b).length ≤ 900000)
    (hOW : OwnW w lo P KB BB cK cB R cR vs W.kn W.bx) (hlo : lo ≤ w.heap.size) (hO : IntsAt w (.slice ao n co) (owI n ow)) (hol : LowV lo (.slice ao n co)) (hN : RowsX Q w (.slice aN n cN) (nearL es n)) (hQ : ∀ b, Q b → ¬ OwnD P KB R vs b ∧ b < w.heap.size) :
    Calls Tryz.prog 59 #[.agg #[.int .i64 k0, .slice e1 l1 c1, .int .i64 k2, .slice e3 l3 c3, .slice e4 l4 c4, .slice (some ⟨KB, 0, none⟩) P cK, .slice (some ⟨BB, 0, none⟩) P cB], .agg #[.int .i64 (P : Int), .slice ao n co, .slice e5 l5 c5, .slice aN n cN], .int .i64 (i : Int), .int .i64 (j : Int)] w fun e w' => e = .returned (.tuple #[]) ∧ ∃ vs', OwnW w' lo P KB BB cK cB R cR vs' (dlvP es n P ow W i j).kn (dlvP es n P ow W i j).bx ∧ Fr (OwnD P KB R vs) w w' ∧ ∀ x, CpI P P 0 x → ∀ b, (vs' x).ownBlock = some b → OwnD P KB R vs b ∨ w.heap.size ≤ b := by
  have hi3 : (i : Int) < P := by omega
  have hj3 : (j : Int) < P := by omega
  obtain ⟨hij, hm0, hm1, -, hm3, hm4⟩ := hV.msg i j hi hj m (by rw [hb]; exact List.mem_cons_self)
  have hbi := cpI_box hi hj
  obtain ⟨u, hu⟩ : ∃ u : Nat, m.1 = (u : Int) := ⟨m.1.toNat, by omega⟩
  have hun : u < n := by omega
  have hun3 : (u : Int) < n := by omega
  have hrl : r.length ≤ 900000 := by have := hbl i j hi hj; rw [hb] at this; simp at this; omega
  -- the two boxes
  obtain ⟨hX0, hb0⟩ := boxG_new w #[.int .i64 k0, .slice e1 l1 c1, .int .i64 k2, .slice e3 l3 c3, .slice e4 l4 c4, .slice (some ⟨KB, 0, none⟩) P cK, .slice (some ⟨BB, 0, none⟩) P cB] 36
  obtain ⟨w1, hw1⟩ : ∃ V : World, V = w.alloc (.cells #[.int .i64 k0, .slice e1 l1 c1, .int .i64 k2, .slice e3 l3 c3, .slice e4 l4 c4, .slice (some ⟨KB, 0, none⟩) P cK, .slice (some ⟨BB, 0, none⟩) P cB] 36) := ⟨_, rfl⟩
  have hz1 : w1.heap.size = w.heap.size + 1 := by rw [hw1]; simp
  rw [← hw1] at hX0 hb0
  obtain ⟨hY0, hb1⟩ := boxG_new w1 #[.int .i64 (P : Int), .slice ao n co, .slice e5 l5 c5, .slice aN n cN] 70
  obtain ⟨wA, hwA⟩ : ∃ V : World, V = w1.alloc (.cells #[.int .i64 (P : Int), .slice ao n co, .slice e5 l5 c5, .slice aN n cN] 70) := ⟨_, rfl⟩
  have hzA : wA.heap.size = w.heap.size + 1 + 1 := by rw [hwA]; simp [hz1]
  rw [← hwA] at hY0 hb1
  have hX1 := lit_next' hb1 hX0
  have hbA := hb0.trans (hb1.mono hb0.size)
  obtain ⟨X, hX⟩ : ∃ X, w.heap.size = X := ⟨_, rfl⟩
  rw [hz1] at hY0
  rw [hX] at hX1 hY0 hzA
  have hwA2 : wA = (w.alloc (.cells #[.int .i64 k0, .slice e1 l1 c1, .int .i64 k2, .slice e3 l3 c3, .slice e4 l4 c4, .slice (some ⟨KB, 0, none⟩) P cK, .slice (some ⟨BB, 0, none⟩) P cB] 36)).alloc (.cells #[.int .i64 (P : Int), .slice ao n co, .slice e5 l5 c5, .slice aN n cN] 70) := by rw [hwA, hw1]
  have HWA := Lib.hid hwA2
  have hGA := hOW.grid.below hbA
  have houtA : ∀ r, r < P → wA.cell? ⟨BB, r, none⟩ = some (.slice (some ⟨R r, 0, none⟩) P (cR r)) := fun r hr => (hbA.cell (p := ⟨BB, r, none⟩) (cell_lt (hOW.out r hr).1)).trans (hOW.out r hr).1
  have hOA := hO.below hbA
  have hNA := hN.below hbA
  have hBBl : BB < X := by rw [← hX]; exact cell_lt (hOW.out i hi).1
  have hRl : ∀ r, r < P → R r < X := fun r hr => by rw [← hX]; exact hOW.grid.lt (r + 2, j) (cpI_box hr hj)
  have hKBl : KB < X := by rw [← hX]; exact hOW.grid.lt (0, j) (.inl ⟨rfl, hj⟩)
  have hvl : ∀ x, CpI P P 0 x → ∀ b, (vs x).ownBlock = some b → b < X := fun x hx b e => by rw [← hX]; exact ((hOW.grid.own x hx).lt b e).2
  clear hX0 hb0 hb1 hz1 hw1 hwA hwA2 w1
  -- the message
  have hownM := GW.box (r := i) (t := j) hGA hbi
  rw [hb] at hownM
  obtain ⟨g, cap, hvM, hcap, hgl, hgs, m0, m1, m2, hrow⟩ := ownsM_cons hownM (by omega)
  rw [hu] at m0
  have cM := hGA.cell _ hbi
  rw [hvM] at cM
  change wA.cell? ⟨R i, j, none⟩ = _ at cM
  have cBB := houtA i hi
  have x6 : wA.cell? ⟨X, 6, none⟩ = some (.slice (some ⟨BB, 0, none⟩) P cB) := cell_blk hX1
  have hgX : g < X := hvl _ hbi g (by rw [hvM]; rfl)
  obtain ⟨hM0, hbB⟩ := boxG_new wA #[.int .i64 (u : Int), .int .i64 m.2.1, .bool m.2.2] 89
  obtain ⟨wB, hwB⟩ : ∃ V : World, V = wA.alloc (.cells #[.int .i64 (u : Int), .int .i64 m.2.1, .bool m.2.2] 89) := ⟨_, rfl⟩
  have hzB : wB.heap.size = wA.heap.size + 1 := by rw [hwB]; simp
  rw [← hwB] at hM0 hbB
  rw [hzA] at hM0 hzB
  have HWB := Lib.hid hwB
  have hXB := lit_next' hbB hX1
  have hYB := lit_next' hbB hY0
  clear hwB hm0 hm1
  have HU := Lib.hid hu
  clear hu
  go_enter Tryz.func59, Tryz.ntmps59
  go_wp2_with (rw [← HWA.out])
  go_upto_region 2 with fail
  rw [← HWB.out]
  have b6 : wB.cell? ⟨X, 6, none⟩ = some (.slice (some ⟨BB, 0, none⟩) P cB) := cell_blk hXB
  have bBB := (hbB.cell (p := ⟨BB, i, none⟩) (cell_lt cBB)).trans cBB
  have bM := (hbB.cell (p := ⟨R i, j, none⟩) (cell_lt cM)).trans cM
  have h1le : (1 : Int) ≤ (r.length : Int) + 1 := by omega
  obtain ⟨ga, hga⟩ : ∃ a : Option Addr, (if cap = 1 then some ⟨g, 0, none⟩ else some ⟨g, 3, none⟩) = a := ⟨_, rfl⟩
  have hrowB : RowAt encM wB (.slice ga r.length (cap - 1)) r := by
    rw [← hga]
    by_cases e : cap = 1
    · rw [if_pos e]
      obtain rfl : r = [] := List.eq_nil_of_length_eq_zero (by omega)
      exact RowAt.void (by simp)
    · rw [if_neg e]; exact hrow.below hbB
  refine wp_region_heldK (k := 17) (S := fun b W => match b with | false => (W.cell? ⟨X, 6, none⟩ = some (.slice (some ⟨BB, 0, none⟩) P cB) ∧ W.cell? ⟨BB, i, none⟩ = some (.slice (some ⟨R i, 0, none⟩) P (cR i)) ∧ W.cell? ⟨R i, j, none⟩ = some (.slice (some ⟨g, 0, none⟩) (r.length + 1) cap)) | true => True) (by kernel_rfl) ?_
  have hS0 : (wB.drew.cell? ⟨X, 6, none⟩ = some (.slice (some ⟨BB, 0, none⟩) P cB) ∧ wB.drew.cell? ⟨BB, i, none⟩ = some (.slice (some ⟨R i, 0, none⟩) P (cR i)) ∧ wB.drew.cell? ⟨R i, j, none⟩ = some (.slice (some ⟨g, 0, none⟩) (r.length + 1) cap)) := ⟨b6, bBB, bM⟩
  refine tkA 0 (.pointer (some ⟨X, 6, none⟩)) true rfl (fun _ _ => trivial) false hS0 ?_
  refine tkA 1 (.slice (some ⟨BB, 0, none⟩) P cB) false rfl (fun _ _ => trivial) false hS0 ?_
  refine tkA 2 (.int .i64 (i : Int)) true rfl (fun _ _ => trivial) false hS0 ?_
  refine tkA 3 (.pointer (some ⟨BB, i, none⟩)) true rfl (fun _ _ => trivial) false hS0 ?_
  refine tkA 4 (.slice (some ⟨R i, 0, none⟩) P (cR i)) false rfl (fun _ _ => trivial) false hS0 ?_
  refine tkA 5 (.int .i64 (j : Int)) true rfl (fun _ _ => trivial) false hS0 ?_
  refine tkA 6 (.pointer (some ⟨X, 6, none⟩)) true rfl (fun _ _ => trivial) false hS0 ?_
  refine tkA 7 (.slice (some ⟨BB, 0, none⟩) P cB) false rfl (fun _ _ => trivial) false hS0 ?_
  refine tkA 8 (.int .i64 (i : Int)) true rfl (fun _ _ => trivial) false hS0 ?_
  refine tkA 9 (.pointer (some ⟨BB, i, none⟩)) true rfl (fun _ _ => trivial) false hS0 ?_
  refine tkA 10 (.slice (some ⟨R i, 0, none⟩) P (cR i)) false rfl (fun _ _ => trivial) false hS0 ?_
  refine tkA 11 (.int .i64 (j : Int)) true rfl (fun _ _ => trivial) false hS0 ?_
  refine tkA 12 (.pointer (some ⟨R i, j, none⟩)) true rfl (fun _ _ => trivial) false hS0 ?_
  refine tkA 13 (.slice (some ⟨g, 0, none⟩) (r.length + 1) cap) false rfl (fun _ _ => trivial) false hS0 ?_
  refine tkA 14 (.slice ga r.length (cap - 1)) true rfl (fun _ _ => trivial) false hS0 ?_
  try simp only [Act.put, List.setIfInBounds_toArray, List.set_cons_zero, List.set_cons_succ]
  refine wpAnyK_one (i := 15) (by kernel_rfl) rfl (by rfl) (b := false) (by kernel_rfl) (fun K hK => ?_)
  go_simp
  go_at_call 69
  refine (msgclone_any _ r wB.drew (hrowB.below (Below.refl _ _).drew) (by omega)).mono ?_
  rintro e wC ⟨xC, rfl, hownC, hbC'⟩
  have hbC : Below wB.heap.size wB wC := (Below.refl wB.heap.size wB).drew.trans hbC'
  obtain ⟨aC, cC, hxC⟩ := owns_shape hownC
  subst hxC
  have hS1 : (wC.cell? ⟨X, 6, none⟩ = some (.slice (some ⟨BB, 0, none⟩) P cB) ∧ wC.cell? ⟨BB, i, none⟩ = some (.slice (some ⟨R i, 0, none⟩) P (cR i)) ∧ wC.cell? ⟨R i, j, none⟩ = some (.slice (some ⟨g, 0, none⟩) (r.length + 1) cap)) := ⟨(hbC.cell (p := ⟨X, 6, none⟩) (cell_lt b6)).trans b6, (hbC.cell (p := ⟨BB, i, none⟩) (cell_lt bBB)).trans bBB, (hbC.cell (p := ⟨R i, j, none⟩) (cell_lt bM)).trans bM⟩
  dsimp only
  refine hK.out _ _ hS1 ?_
  try simp only [Act.put, List.setIfInBounds_toArray, List.set_cons_zero, List.set_cons_succ]
  refine tkA 16 (.pointer (some ⟨R i, j, none⟩)) true rfl (fun _ _ => trivial) false hS1 ?_
  try simp only [Act.put, List.setIfInBounds_toArray, List.set_cons_zero, List.set_cons_succ]
  have hGC := GridA.below hGA (hbB.trans (hbC.mono hbB.size))
  have fRC : wC.frozen? ⟨R i, j, none⟩ = false := hGC.free _ hbi
  have cRC := hS1.2.2
  refine wpAnyK_one (i := 17) (by kernel_rfl) rfl (by rfl) (b := true) (by kernel_rfl) (fun K hK => ?_)
  go_simp
  refine hK.out _ _ trivial (wpAnyK_done (by kernel_rfl) ?_ _)
  -- the channel has one message less
  have hzd : wB.drew.heap.size = wB.heap.size := rfl
  have hbAC := hbB.trans (hbC.mono hbB.size)
  have hCl := hownC.lt
  have hGD := GW.step (v := .slice aC r.length cC) (l := r) hGA hbi (grown_none (grown_of_below hbAC)) (owns_base hownC (by omega)) (fun b e => .inr (by have := (hCl b e).1; omega))
  obtain ⟨vs1, hvs1⟩ : ∃ f, updX vs (i + 2, j) (.slice aC r.length cC) = f := ⟨_, rfl⟩
  rw [hvs1] at hGD
  change GW (wC.setCell ⟨R i, j, none⟩ (.slice aC r.length cC)) lo (CpI P P 0) (CpA KB R) vs1 W.kn (fun _ => []) _ at hGD
  obtain ⟨wD, hwD⟩ : ∃ V : World, V = wC.setCell ⟨R i, j, none⟩ (.slice aC r.length cC) := ⟨_, rfl⟩
  have hgD : wC.grownBy (wC.setCell ⟨R i, j, none⟩ (.slice aC r.length cC)) (some (R i)) := grown_store
  rw [← hwD] at hGD hgD
  have HWD := Lib.hid hwD
  have hoI : OwnD P KB R vs (R i) := ⟨(i + 2, j), hbi, .inl rfl⟩
  have hodl : ∀ b, OwnD P KB R vs b → lo ≤ b ∧ b < X := fun b h => by
    obtain ⟨x, hx, h | h⟩ := h
    · rw [← h, ← hX]; exact ⟨hOW.grid.low x hx, hOW.grid.lt x hx⟩
    · rw [← hX]; exact (hOW.grid.own x hx).lt b h
  have hFD : Fr (OwnD P KB R vs) w wD := (Fr.of_below (hbA.trans (hbAC.mono hbA.size))).grown hgD (fun b e => .inl (by have e1 : R i = b := Option.some.inj e; rw [← e1]; exact hoI))
  have hv1 : ∀ x, CpI P P 0 x → x ≠ (i + 2, j) → vs1 x = vs x := fun x _ hne => by rw [← hvs1]; unfold updX; rw [if_neg hne]
  have hv1o : ∀ x, CpI P P 0 x → ∀ b, (vs1 x).ownBlock = some b → OwnD P KB R vs b ∨ w.heap.size ≤ b := fun x hx b e => by
    by_cases hne : x = (i + 2, j)
    · rw [← hvs1] at e
      unfold updX at e
      rw [if_pos hne] at e
      right
      have := (hCl b e).1
      omega
    · rw [hv1 x hx hne] at e
      exact .inl ⟨x, hx, .inr e⟩
  have hRi := hRl i hi
  have hXD := grown_blk hgD (lit_next' hbC hXB) (fun e => by have e1 : X = R i := Option.some.inj e; omega)
  have hYD := grown_blk hgD (lit_next' hbC hYB) (fun e => by have e1 : X + 1 = R i := Option.some.inj e; omega)
  have hMD := grown_blk hgD (lit_next' hbC hM0) (fun e => by have e1 : X + 1 + 1 = R i := Option.some.inj e; omega)
  have hBBn : R i ≠ BB := hOW.offA (i + 2, j) hbi
  have houtD : ∀ r, r < P → wD.cell? ⟨BB, r, none⟩ = some (.slice (some ⟨R r, 0, none⟩) P (cR r)) := fun r hr => hgD.cell ((hbAC.cell (p := ⟨BB, r, none⟩) (cell_lt (houtA r hr))).trans (houtA r hr)) (fun e => hBBn (Option.some.inj e).symm)
  have hzD : wC.heap.size ≤ wD.heap.size := hgD.size
  have hzC := hbC.size
  have h0j : CpI P P 0 (0, j) := .inl ⟨rfl, hj⟩
  have hKl := hV.len j hj
  -- what the worker knew
  have hownK := GW.kn (t := j) hGD h0j
  rw [hKl] at hownK
  have hcK := hGD.cell _ h0j
  change wD.cell? ⟨KB, j, none⟩ = _ at hcK
  have hev0 : vs1 (0, j) = vs (0, j) := hv1 _ h0j (fun e => by have := (Prod.mk.inj e).1; omega)
  obtain ⟨gK, cpK, hvK, hgKlo, hcpK, hgKs, hfK, hcells⟩ := ownsI_at hownK (by omega)
  have hgKX : gK < X := hvl (0, j) h0j gK (by rw [← hev0, hvK]; rfl)
  have hgKo : OwnD P KB R vs gK := ⟨(0, j), h0j, .inr (by rw [← hev0, hvK]; rfl)⟩
  rw [hvK] at hcK hownK
  clear hS0 hS1 b6 bBB bM cBB cM x6 m0 m1 m2 fRC cRC hownC hCl hownM hrow hrowB hXB hYB hM0 hGC hbC' hX1 hY0
  have x5 : wD.cell? ⟨X, 5, none⟩ = some (.slice (some ⟨KB, 0, none⟩) P cK) := cell_blk hXD
  obtain ⟨_, _, eK, hiK, -⟩ := IntsAt.of_owns (xs := W.kn j) (by rw [hKl]; exact hownK) (by omega)
  rw [hKl] at eK hiK
  cases eK
  have hcl := iclone_any (some ⟨gK, 0, none⟩) cpK (W.kn j) wD (by rw [hKl]; exact hiK) (by omega)
  rw [hKl] at hcl
  clear hga hwD
  rw [← HWD.out]
  go_wp2_with fail
  refine hcl.mono ?_
  rintro e wE ⟨xE, rfl, hownE, hbE⟩
  obtain ⟨gB, cpB, hvB, hgBlo, hcpB, hgBs, hfB, hcellB⟩ := ownsI_at hownE (by omega)
  subst hvB
  obtain ⟨hF0, hbF⟩ := boxG_new wE #[.slice (some ⟨gB, 0, none⟩) n cpB] 22
  obtain ⟨wF, hwF⟩ : ∃ V : World, V = wE.alloc (.cells #[.slice (some ⟨gB, 0, none⟩) n cpB] 22) := ⟨_, rfl⟩
  have hzF : wF.heap.size = wE.heap.size + 1 := by rw [hwF]; simp
  rw [← hwF] at hF0 hbF
  have hbDF := hbE.trans (hbF.mono hbE.size)
  have hGF := GridA.below hGD hbDF
  have hXF := lit_next' hbDF hXD
  have hYF := lit_next' hbDF hYD
  have hMF := lit_next' hbDF hMD
  have houtF : ∀ r, r < P → wF.cell? ⟨BB, r, none⟩ = some (.slice (some ⟨R r, 0, none⟩) P (cR r)) := fun r hr => (hbDF.cell (p := ⟨BB, r, none⟩) (cell_lt (houtD r hr))).trans (houtD r hr)
  have hFF : Fr (OwnD P KB R vs) w wF := hFD.trans (Fr.of_below (D := fun _ => False) hbDF) (fun b h => h.elim)
  have hcellF : ∀ v y, (W.kn j)[v]? = some y → wF.cell? ⟨gB, v, none⟩ = some (.int .i64 y) := fun v y h => (hbF.cell (p := ⟨gB, v, none⟩) (cell_lt (hcellB v y h))).trans (hcellB v y h)
  have hzE := hbE.size
  obtain ⟨Bf, hBf⟩ : ∃ B, wE.heap.size = B := ⟨_, rfl⟩
  rw [hBf] at hF0 hzF hgBs hzE
  have HWF := Lib.hid hwF
  have hcKF := (hbDF.cell (p := ⟨KB, j, none⟩) (cell_lt hcK)).trans hcK
  have hownKF := hownK.kept (grown_of_below hbDF) (Classical.em _)
  have hkd : (W.kn j)[u]? = some ((W.kn j).getD u 0) := by rw [List.getD_eq_getElem?_getD, List.getElem?_eq_getElem (show u < (W.kn j).length by omega)]; rfl
  have hcu := (hbDF.cell (p := ⟨gK, u, none⟩) (cell_lt (hcells u _ hkd))).trans (hcells u _ hkd)
  obtain ⟨xk, hxk⟩ : ∃ x, (W.kn j).getD u 0 = x := ⟨_, rfl⟩
  rw [hxk] at hcu
  have hfu : wF.frozen? ⟨gK, u, none⟩ = false := (heap_cell (hbDF.block gK hgKs)).2.trans (hfK u)
  clear hwF x5 hcl hownE hcells hcellB hbF hXD hYD hMD houtD hcK
  go_upto_region 4 with fail
  rw [← HWF.out]
  have x5 : wF.cell? ⟨X, 5, none⟩ = some (.slice (some ⟨KB, 0, none⟩) P cK) := cell_blk hXF
  have z0 : wF.cell? ⟨X + 1 + 1, 0, none⟩ = some (.int .i64 (u : Int)) := cell_blk hMF
  have z1 : wF.cell? ⟨X + 1 + 1, 1, none⟩ = some (.int .i64 m.2.1) := cell_blk hMF
  refine wp_region_heldK (k := 20) (S := fun b W => match b with | false => (W.cell? ⟨X, 5, none⟩ = some (.slice (some ⟨KB, 0, none⟩) P cK) ∧ W.cell? ⟨KB, j, none⟩ = some (.slice (some ⟨gK, 0, none⟩) n cpK) ∧ W.cell? ⟨X + 1 + 1, 0, none⟩ = some (.int .i64 (u : Int)) ∧ W.cell? ⟨X + 1 + 1, 1, none⟩ = some (.int .i64 m.2.1) ∧ W.cell? ⟨gK, u, none⟩ = some (.int .i64 xk)) | true => True) (by kernel_rfl) ?_
  have hS0 : (wF.drew.cell? ⟨X, 5, none⟩ = some (.slice (some ⟨KB, 0, none⟩) P cK) ∧ wF.drew.cell? ⟨KB, j, none⟩ = some (.slice (some ⟨gK, 0, none⟩) n cpK) ∧ wF.drew.cell? ⟨X + 1 + 1, 0, none⟩ = some (.int .i64 (u : Int)) ∧ wF.drew.cell? ⟨X + 1 + 1, 1, none⟩ = some (.int .i64 m.2.1) ∧ wF.drew.cell? ⟨gK, u, none⟩ = some (.int .i64 xk)) := ⟨x5, hcKF, z0, z1, hcu⟩
  refine tkA 0 (.pointer (some ⟨X, 5, none⟩)) true rfl (fun _ _ => trivial) false hS0 ?_
  refine tkA 1 (.slice (some ⟨KB, 0, none⟩) P cK) false rfl (fun _ _ => trivial) false hS0 ?_
  refine tkA 2 (.int .i64 (j : Int)) true rfl (fun _ _ => trivial) false hS0 ?_
  refine tkA 3 (.pointer (some ⟨KB, j, none⟩)) true rfl (fun _ _ => trivial) false hS0 ?_
  refine tkA 4 (.slice (some ⟨gK, 0, none⟩) n cpK) false rfl (fun _ _ => trivial) false hS0 ?_
  refine tkA 5 (.pointer (some ⟨X + 1 + 1, 0, none⟩)) true rfl (fun _ _ => trivial) false hS0 ?_
  refine tkA 6 (.int .i64 (u : Int)) false rfl (fun _ _ => trivial) false hS0 ?_
  refine tkA 7 (.pointer (some ⟨X, 5, none⟩)) true rfl (fun _ _ => trivial) false hS0 ?_
  refine tkA 8 (.slice (some ⟨KB, 0, none⟩) P cK) false rfl (fun _ _ => trivial) false hS0 ?_
  refine tkA 9 (.int .i64 (j : Int)) true rfl (fun _ _ => trivial) false hS0 ?_
  refine tkA 10 (.pointer (some ⟨KB, j, none⟩)) true rfl (fun _ _ => trivial) false hS0 ?_
  refine tkA 11 (.slice (some ⟨gK, 0, none⟩) n cpK) false rfl (fun _ _ => trivial) false hS0 ?_
  refine tkA 12 (.pointer (some ⟨X + 1 + 1, 0, none⟩)) true rfl (fun _ _ => trivial) false hS0 ?_
  refine tkA 13 (.int .i64 (u : Int)) false rfl (fun _ _ => trivial) false hS0 ?_
  refine tkA 14 (.pointer (some ⟨gK, u, none⟩)) true rfl (fun _ _ => trivial) false hS0 ?_
  refine tkA 15 (.int .i64 xk) false rfl (fun _ _ => trivial) false hS0 ?_
  refine tkA 16 (.pointer (some ⟨X + 1 + 1, 1, none⟩)) true rfl (fun _ _ => trivial) false hS0 ?_
  refine tkA 17 (.int .i64 m.2.1) false rfl (fun _ _ => trivial) false hS0 ?_
  try simp only [Act.put, List.setIfInBounds_toArray, List.set_cons_zero, List.set_cons_succ]
  refine wpAnyK_one (i := 18) (by kernel_rfl) rfl (by rfl) (b := false) (by kernel_rfl) (fun K hK => ?_)
  go_simp
  refine hK.out _ _ hS0 ?_
  try simp only [Act.put, List.setIfInBounds_toArray, List.set_cons_zero, List.set_cons_succ]
  refine tkA 19 (.pointer (some ⟨gK, u, none⟩)) true rfl (fun _ _ => trivial) false hS0 ?_
  try simp only [Act.put, List.setIfInBounds_toArray, List.set_cons_zero, List.set_cons_succ]
  have cud : wF.drew.cell? ⟨gK, u, none⟩ = some (.int .i64 xk) := hcu
  have fud : wF.drew.frozen? ⟨gK, u, none⟩ = false := hfu
  refine wpAnyK_one (i := 20) (by kernel_rfl) rfl (by rfl) (b := true) (by kernel_rfl) (fun K hK => ?_)
  go_simp
  refine hK.out _ _ trivial (wpAnyK_done (by kernel_rfl) ?_ _)
  obtain ⟨q1, hl1⟩ : ∃ l, (W.kn j).set u (min xk m.2.1) = l := ⟨_, rfl⟩
  have hll : q1.length = n := by rw [← hl1, List.length_set]; exact hKl
  have hownG0 := ownsI_set hownKF u (min xk m.2.1)
  rw [hl1] at hownG0
  have hgG0 : wF.grownBy (wF.setCell ⟨gK, u, none⟩ (.int .i64 (min xk m.2.1))) (some gK) := grown_store
  have hbd : Below (wF.setCell ⟨gK, u, none⟩ (.int .i64 (min xk m.2.1))).heap.size (wF.setCell ⟨gK, u, none⟩ (.int .i64 (min xk m.2.1))) (wF.setCell ⟨gK, u, none⟩ (.int .i64 (min xk m.2.1))).drew := (Below.refl _ _).drew
  have hgFG := grown_trans hgG0 (grown_none (r := some gK) (grown_of_below hbd))
  have hownG := hownG0.kept (grown_of_below hbd) (Classical.em _)
  obtain ⟨wG, hwG⟩ : ∃ V : World, V = (wF.setCell ⟨gK, u, none⟩ (.int .i64 (min xk m.2.1))).drew := ⟨_, rfl⟩
  rw [← hwG] at hownG hgFG
  have HWG := Lib.hid hwG
  have hGG := GW.turnK (l := q1) hGF h0j (by rw [hvK]; exact hgFG) (by rw [hvK, hll]; exact hownG)
  have hFG : Fr (OwnD P KB R vs) w wG := hFF.grown hgFG (fun b e => .inl (by have e1 : gK = b := Option.some.inj e; rw [← e1]; exact hgKo))
  have hXG := grown_blk hgFG hXF (fun e => by have e1 : X = gK := Option.some.inj e; omega)
  have hYG := grown_blk hgFG hYF (fun e => by have e1 : X + 1 = gK := Option.some.inj e; omega)
  have hBG := grown_blk hgFG hF0 (fun e => by have e1 : Bf = gK := Option.some.inj e; omega)
  have hoff := GridA.off hGD (0, j)
  have hgKB : BB ≠ gK := fun e => hOW.offV (0, j) h0j (by rw [← hev0, hvK, e]; rfl)
  have hgKK : KB ≠ gK := fun e => hoff (0, j) h0j h0j (by rw [hvK, ← e]; rfl)
  have houtG : ∀ r, r < P → wG.cell? ⟨BB, r, none⟩ = some (.slice (some ⟨R r, 0, none⟩) P (cR r)) := fun r hr => hgFG.cell (houtF r hr) (fun e => hgKB (Option.some.inj e))
  have hcKG := hgFG.cell hcKF (fun e => hgKK (Option.some.inj e))
  have hgBn : gB ≠ gK := by omega
  have hcellG : ∀ v y, (W.kn j)[v]? = some y → wG.cell? ⟨gB, v, none⟩ = some (.int .i64 y) := fun v y h => hgFG.cell (hcellF v y h) (fun e => hgBn (Option.some.inj e))
  clear hwG hS0 x5 z0 z1 hcu hfu cud fud hownG0 hgG0 hbd hownKF hXF hYF hMF hF0 houtF hcKF hcellF hGF hGD
  rw [← HWG.out]
  go_upto_region 5 with fail
  have x5 : wG.cell? ⟨X, 5, none⟩ = some (.slice (some ⟨KB, 0, none⟩) P cK) := cell_blk hXG
  obtain ⟨y0, y1, y2, y3⟩ := cells4 hYG
  refine wp_region_heldK (k := 9) (S := fun b W => match b with | false => (W.cell? ⟨X, 5, none⟩ = some (.slice (some ⟨KB, 0, none⟩) P cK) ∧ W.cell? ⟨KB, j, none⟩ = some (.slice (some ⟨gK, 0, none⟩) n cpK) ∧ W.cell? ⟨X + 1, 0, none⟩ = some (.int .i64 (P : Int)) ∧ W.cell? ⟨X + 1, 1, none⟩ = some (.slice ao n co) ∧ W.cell? ⟨X + 1, 2, none⟩ = some (.slice e5 l5 c5) ∧ W.cell? ⟨X + 1, 3, none⟩ = some (.slice aN n cN)) | true => True) (by kernel_rfl) ?_
  have hS0 : (wG.drew.cell? ⟨X, 5, none⟩ = some (.slice (some ⟨KB, 0, none⟩) P cK) ∧ wG.drew.cell? ⟨KB, j, none⟩ = some (.slice (some ⟨gK, 0, none⟩) n cpK) ∧ wG.drew.cell? ⟨X + 1, 0, none⟩ = some (.int .i64 (P : Int)) ∧ wG.drew.cell? ⟨X + 1, 1, none⟩ = some (.slice ao n co) ∧ wG.drew.cell? ⟨X + 1, 2, none⟩ = some (.slice e5 l5 c5) ∧ wG.drew.cell? ⟨X + 1, 3, none⟩ = some (.slice aN n cN)) := ⟨x5, hcKG, y0, y1, y2, y3⟩
  refine tkA 0 (.agg #[.int .i64 (P : Int), .slice ao n co, .slice e5 l5 c5, .slice aN n cN]) false rfl (fun _ _ => trivial) false hS0 ?_
  refine tkA 1 (.int .i64 (j : Int)) true rfl (fun _ _ => trivial) false hS0 ?_
  refine tkA 2 (.pointer (some ⟨X, 5, none⟩)) true rfl (fun _ _ => trivial) false hS0 ?_
  refine tkA 3 (.slice (some ⟨KB, 0, none⟩) P cK) false rfl (fun _ _ => trivial) false hS0 ?_
  refine tkA 4 (.int .i64 (j : Int)) true rfl (fun _ _ => trivial) false hS0 ?_
  refine tkA 5 (.pointer (some ⟨KB, j, none⟩)) true rfl (fun _ _ => trivial) false hS0 ?_
  refine tkA 6 (.slice (some ⟨gK, 0, none⟩) n cpK) false rfl (fun _ _ => trivial) false hS0 ?_
  refine tkA 7 (.agg #[.int .i64 (P : Int), .slice ao n co, .slice e5 l5 c5, .slice aN n cN, .int .i64 (j : Int), .slice (some ⟨gK, 0, none⟩) n cpK]) true rfl (fun _ _ => trivial) false hS0 ?_
  try simp only [Act.put, List.setIfInBounds_toArray, List.set_cons_zero, List.set_cons_succ]
  refine wpAnyK_one (i := 8) (by kernel_rfl) rfl (by rfl) (b := false) (by kernel_rfl) (fun K hK => ?_)
  go_simp
  refine hK.out _ _ (show ((wG.drew.alloc (.cells #[.int .i64 0, .slice none 0 0, .slice none 0 0, .slice none 0 0, .int .i64 0, .slice none 0 0] 74)).cell? ⟨X, 5, none⟩ = some (.slice (some ⟨KB, 0, none⟩) P cK) ∧ (wG.drew.alloc (.cells #[.int .i64 0, .slice none 0 0, .slice none 0 0, .slice none 0 0, .int .i64 0, .slice none 0 0] 74)).cell? ⟨KB, j, none⟩ = some (.slice (some ⟨gK, 0, none⟩) n cpK) ∧ (wG.drew.alloc (.cells #[.int .i64 0, .slice none 0 0, .slice none 0 0, .slice none 0 0, .int .i64 0, .slice none 0 0] 74)).cell? ⟨X + 1, 0, none⟩ = some (.int .i64 (P : Int)) ∧ (wG.drew.alloc (.cells #[.int .i64 0, .slice none 0 0, .slice none 0 0, .slice none 0 0, .int .i64 0, .slice none 0 0] 74)).cell? ⟨X + 1, 1, none⟩ = some (.slice ao n co) ∧ (wG.drew.alloc (.cells #[.int .i64 0, .slice none 0 0, .slice none 0 0, .slice none 0 0, .int .i64 0, .slice none 0 0] 74)).cell? ⟨X + 1, 2, none⟩ = some (.slice e5 l5 c5) ∧ (wG.drew.alloc (.cells #[.int .i64 0, .slice none 0 0, .slice none 0 0, .slice none 0 0, .int .i64 0, .slice none 0 0] 74)).cell? ⟨X + 1, 3, none⟩ = some (.slice aN n cN)) from ⟨cell_alloc hS0.1, cell_alloc hS0.2.1, cell_alloc hS0.2.2.1, cell_alloc hS0.2.2.2.1, cell_alloc hS0.2.2.2.2.1, cell_alloc hS0.2.2.2.2.2⟩) ?_
  try simp only [Act.put, List.setIfInBounds_toArray, List.set_cons_zero, List.set_cons_succ]
  refine wpAnyK_one (i := 9) (by kernel_rfl) rfl (by rfl) (b := true) (by kernel_rfl) (fun K hK => ?_)
  go_simp
  refine hK.out _ _ trivial (wpAnyK_done (by kernel_rfl) ?_ _)
  obtain ⟨hH0', hbH0⟩ := boxG_new wG #[.int .i64 (P : Int), .slice ao n co, .slice e5 l5 c5, .slice aN n cN, .int .i64 (j : Int), .slice (some ⟨gK, 0, none⟩) n cpK] 74
  have hH0 : ((wG.alloc (.cells #[.int .i64 (P : Int), .slice ao n co, .slice e5 l5 c5, .slice aN n cN, .int .i64 (j : Int), .slice (some ⟨gK, 0, none⟩) n cpK] 74)).drew).heap[wG.heap.size]? = _ := hH0'
  have hbH := hbH0.drew
  obtain ⟨wH, hwH⟩ : ∃ V : World, V = (wG.alloc (.cells #[.int .i64 (P : Int), .slice ao n co, .slice e5 l5 c5, .slice aN n cN, .int .i64 (j : Int), .slice (some ⟨gK, 0, none⟩) n cpK] 74)).drew := ⟨_, rfl⟩
  have hzH : wH.heap.size = wG.heap.size + 1 := by rw [hwH]; show (wG.alloc _).heap.size = _; simp
  rw [← hwH] at hH0 hbH
  have hGH := GridA.below hGG hbH
  have hXH := lit_next' hbH hXG
  have hBH := lit_next' hbH hBG
  have hFH : Fr (OwnD P KB R vs) w wH := hFG.trans (Fr.of_below (D := fun _ => False) hbH) (fun b h => h.elim)
  have houtH : ∀ r, r < P → wH.cell? ⟨BB, r, none⟩ = some (.slice (some ⟨R r, 0, none⟩) P (cR r)) := fun r hr => (hbH.cell (p := ⟨BB, r, none⟩) (cell_lt (houtG r hr))).trans (houtG r hr)
  have hcellH : ∀ v y, (W.kn j)[v]? = some y → wH.cell? ⟨gB, v, none⟩ = some (.int .i64 y) := fun v y h => (hbH.cell (p := ⟨gB, v, none⟩) (cell_lt (hcellG v y h))).trans (hcellG v y h)
  have hzG : wF.heap.size ≤ wG.heap.size := hgFG.size
  have hownH := hownG.kept (grown_of_below hbH) (Classical.em _)
  have hOH := hFH.ints hO (fun n' c' p e h => by have := hol n' c' p e; have := hodl _ h; omega)
  have hNH := hFH.rows hN (fun b hq => (hQ b hq).1)
  obtain ⟨A, hA⟩ : ∃ A, wG.heap.size = A := ⟨_, rfl⟩
  rw [hA] at hH0 hzH
  have HWH := Lib.hid hwH
  clear hwH hS0 x5 y0 y1 y2 y3 hH0' hbH0 hXG hYG hBG houtG hcellG hcKG hownG hGG
  have hSW : SetW wH lo n es ow ao aN (some ⟨gK, 0, none⟩) co cN cpK q1 := ⟨hownH, hOH, fun b e n' c p ep => by
    have e1 : gK = b := Option.some.inj e
    have h1 := hol n' c p ep
    have h2 := hodl gK hgKo
    omega, hNH.imp (fun b hq e => (hQ b hq).1 (by have e1 : gK = b := Option.some.inj e; rw [← e1]; exact hgKo))⟩
  have hset := rdsettle_any n j P (.slice e5 l5 c5) es ow ao aN (some ⟨gK, 0, none⟩) co cN cpK lo q1 wH hn hSW
  obtain ⟨h0, h1, h2, h3, h4, h5⟩ := cells6 hH0
  rw [← HWH.out, hA]
  go_wp2_with fail
  refine hset.mono ?_
  rintro e wI ⟨rfl, hownI, hgI⟩
  obtain ⟨q2, hq2⟩ : ∃ q, setX es n ow j q1 = q := ⟨_, rfl⟩
  rw [hq2] at hownI
  have hq2l : q2.length = n := by rw [← hq2]; exact (setX_dn q1).1.trans hll
  have hgI' : wH.grownBy wI (some gK) := hgI
  have hGI := GW.turnK (l := q2) hGH h0j (by rw [hvK]; exact hgI) (by rw [hvK, hq2l]; exact hownI)
  have hFI : Fr (OwnD P KB R vs) w wI := hFH.grown hgI' (fun b e => .inl (by have e1 : gK = b := Option.some.inj e; rw [← e1]; exact hgKo))
  have hzI := hgI'.size
  have hXI := grown_blk hgI' hXH (fun e => by have e1 : X = gK := Option.some.inj e; omega)
  have hBI := grown_blk hgI' hBH (fun e => by have e1 : Bf = gK := Option.some.inj e; omega)
  have hAI := grown_blk hgI' hH0 (fun e => by have e1 : A = gK := Option.some.inj e; omega)
  have houtI : ∀ r, r < P → wI.cell? ⟨BB, r, none⟩ = some (.slice (some ⟨R r, 0, none⟩) P (cR r)) := fun r hr => hgI'.cell (houtH r hr) (fun e => hgKB (Option.some.inj e))
  have hcellI : ∀ v y, (W.kn j)[v]? = some y → wI.cell? ⟨gB, v, none⟩ = some (.int .i64 y) := fun v y h => hgI'.cell (hcellH v y h) (fun e => hgBn (Option.some.inj e))
  have hbJ : Below wI.heap.size wI wI.drew := (Below.refl _ _).drew
  have hFJ : Fr (OwnD P KB R vs) w wI.drew := hFI.trans (Fr.of_below (D := fun _ => False) hbJ) (fun b h => h.elim)
  have hGJ := GridA.below hGI hbJ
  have hOJ := hFJ.ints hO (fun n' c' p e h => by have := hol n' c' p e; have := hodl _ h; omega)
  have hNJ := hFJ.rows hN (fun b hq => (hQ b hq).1)
  have htD : ∀ b, tellD (R j) P j vs1 b → OwnD P KB R vs b := fun b h => by
    rcases h with h | ⟨t, ht, h⟩
    · rw [h]; exact ⟨(j + 2, j), cpI_box hj hj, .inl rfl⟩
    · rw [hv1 (j + 2, t) (cpI_box hj ht) (fun e => hij (by have := (Prod.mk.inj e).1; omega))] at h
      exact ⟨(j + 2, t), cpI_box hj ht, .inr h⟩
  have hgKd : ¬ tellD (R j) P j vs1 gK := fun h => by
    rcases h with h | ⟨t, ht, h⟩
    · exact GridA.off hGI (0, j) (j + 2, j) h0j (cpI_box hj hj) (by rw [hvK, h]; rfl)
    · exact GridA.apart hGI (j + 2, t) (0, j) (cpI_box hj ht) h0j (fun e => by have := (Prod.mk.inj e).1; omega) gK h (by rw [hvK]; rfl)
  have hXd : ∀ b, tellD (R j) P j vs1 b → b < X := fun b h => (hodl b (htD b h)).2
  have hcq : ∀ k, k < n → wI.drew.cell? ⟨gK, k, none⟩ = some (.int .i64 (q2.getD k 0)) := fun k hk => by
    obtain ⟨g', cap', e', -, -, -, -, hc⟩ := ownsI_at hownI (by omega)
    cases e'
    exact hc k _ (by rw [List.getD_eq_getElem?_getD, List.getElem?_eq_getElem (show k < q2.length by omega)]; rfl)
  have hzB0 : X ≤ gB := by have := hFD.size; omega
  have htl := rdtellD_any n P j j (R j) (cR j) gK Bf A (.slice e5 l5 c5) es ow ao aN (some ⟨gK, 0, none⟩) co cN cpK lo q2 (fun v => decide (q2.getD v 0 < (W.kn j).getD v 0)) (CpI P P 0) (CpA KB R) vs1 _ _ _ Q wI.drew hn hP how (by have := hFJ.size; omega) hGJ (fun t ht => cpI_box hj ht) (fun t _ => rfl) (hOW.out j hj).2 (by have := hFJ.size; have := hRl j hj; omega) hOJ (fun n' c p e h => by have := hol n' c p e; have := hodl _ (htD _ h); omega) hNJ (fun b hq h => (hQ b hq).1 (htD b h)) (fun k hk => ⟨rfl, hcq k hk⟩) hgKd hcpK (fun t ht => by
      show (if j = i ∧ t = j then r else W.bx j t).length ≤ 1000000
      rw [if_neg (fun q => hij q.1.symm)]
      have := hbl j t hj ht
      omega) (fun v hv V hFV => dlv1_any v n cpK cpB Bf A gK gB (q2.getD v 0) ((W.kn j).getD v 0) V hv (hFV.cell (show wI.drew.cell? ⟨A, 5, none⟩ = _ from cell_blk hAI) (fun h => by have := hXd _ h; omega)) (hFV.cell (show wI.drew.cell? ⟨Bf, 0, none⟩ = _ from cell_blk hBI) (fun h => by have := hXd _ h; omega)) (hFV.cell (hcq v hv) hgKd) (hFV.cell (show wI.drew.cell? ⟨gB, v, none⟩ = _ from hcellI v _ (by rw [List.getD_eq_getElem?_getD, List.getElem?_eq_getElem (show v < (W.kn j).length by omega)]; rfl)) (fun h => by have := hXd _ h; omega)))
  clear h0 h1 h2 h3 h4 h5 hset hSW hownH hOH hNH hXH hBH hH0 houtH hcellH hGH
  go_upto_region 7 with fail
  have x6 : wI.cell? ⟨X, 6, none⟩ = some (.slice (some ⟨BB, 0, none⟩) P cB) := cell_blk hXI
  obtain ⟨h0, h1, h2, h3, h4, h5⟩ := cells6 hAI
  have cBBj := houtI j hj
  refine wp_region_heldK (k := 7) (S := fun _ W => (W.cell? ⟨X, 6, none⟩ = some (.slice (some ⟨BB, 0, none⟩) P cB) ∧ W.cell? ⟨BB, j, none⟩ = some (.slice (some ⟨R j, 0, none⟩) P (cR j)) ∧ W.cell? ⟨A, 0, none⟩ = some (.int .i64 (P : Int)) ∧ W.cell? ⟨A, 1, none⟩ = some (.slice ao n co) ∧ W.cell? ⟨A, 2, none⟩ = some (.slice e5 l5 c5) ∧ W.cell? ⟨A, 3, none⟩ = some (.slice aN n cN) ∧ W.cell? ⟨A, 4, none⟩ = some (.int .i64 (j : Int)) ∧ W.cell? ⟨A, 5, none⟩ = some (.slice (some ⟨gK, 0, none⟩) n cpK))) (by kernel_rfl) ?_
  have hS0 : (wI.drew.cell? ⟨X, 6, none⟩ = some (.slice (some ⟨BB, 0, none⟩) P cB) ∧ wI.drew.cell? ⟨BB, j, none⟩ = some (.slice (some ⟨R j, 0, none⟩) P (cR j)) ∧ wI.drew.cell? ⟨A, 0, none⟩ = some (.int .i64 (P : Int)) ∧ wI.drew.cell? ⟨A, 1, none⟩ = some (.slice ao n co) ∧ wI.drew.cell? ⟨A, 2, none⟩ = some (.slice e5 l5 c5) ∧ wI.drew.cell? ⟨A, 3, none⟩ = some (.slice aN n cN) ∧ wI.drew.cell? ⟨A, 4, none⟩ = some (.int .i64 (j : Int)) ∧ wI.drew.cell? ⟨A, 5, none⟩ = some (.slice (some ⟨gK, 0, none⟩) n cpK)) := ⟨x6, cBBj, h0, h1, h2, h3, h4, h5⟩
  refine tkA 0 (.agg #[.int .i64 (P : Int), .slice ao n co, .slice e5 l5 c5, .slice aN n cN, .int .i64 (j : Int), .slice (some ⟨gK, 0, none⟩) n cpK]) true rfl (fun _ h => h) false hS0 ?_
  refine tkA 1 (.pointer (some ⟨X, 6, none⟩)) true rfl (fun _ h => h) false hS0 ?_
  refine tkA 2 (.slice (some ⟨BB, 0, none⟩) P cB) true rfl (fun _ h => h) false hS0 ?_
  refine tkA 3 (.int .i64 (j : Int)) true rfl (fun _ h => h) false hS0 ?_
  refine tkA 4 (.pointer (some ⟨BB, j, none⟩)) true rfl (fun _ h => h) false hS0 ?_
  refine tkA 5 (.slice (some ⟨R j, 0, none⟩) P (cR j)) true rfl (fun _ h => h) false hS0 ?_
  refine tkA 6 (.func (.func 80) #[] #[.pointer (some ⟨A, 0, none⟩), .pointer (some ⟨Bf, 0, none⟩)]) true rfl (fun _ h => h) false hS0 ?_
  try simp only [Act.put, List.setIfInBounds_toArray, List.set_cons_zero, List.set_cons_succ]
  refine wpAnyK_one (i := 7) (by kernel_rfl) rfl (by rfl) (b := true) (by kernel_rfl) (fun K hK => ?_)
  go_simp
  go_at_call 37
  refine htl.mono ?_
  rintro e wK ⟨rfl, vs', hGK, hFT, hfr, hsame⟩
  dsimp only
  have hXt : ∀ b, X ≤ b → ¬ tellD (R j) P j vs1 b := fun b hb h => by have := hXd b h; omega
  have hBBo : ¬ OwnD P KB R vs BB := fun ⟨x, hx, h⟩ => h.elim (hOW.offA x hx) (hOW.offV x hx)
  have hBBt : ¬ tellD (R j) P j vs1 BB := fun h => hBBo (htD _ h)
  refine hK.out _ _ (show (wK.cell? ⟨X, 6, none⟩ = some (.slice (some ⟨BB, 0, none⟩) P cB) ∧ wK.cell? ⟨BB, j, none⟩ = some (.slice (some ⟨R j, 0, none⟩) P (cR j)) ∧ wK.cell? ⟨A, 0, none⟩ = some (.int .i64 (P : Int)) ∧ wK.cell? ⟨A, 1, none⟩ = some (.slice ao n co) ∧ wK.cell? ⟨A, 2, none⟩ = some (.slice e5 l5 c5) ∧ wK.cell? ⟨A, 3, none⟩ = some (.slice aN n cN) ∧ wK.cell? ⟨A, 4, none⟩ = some (.int .i64 (j : Int)) ∧ wK.cell? ⟨A, 5, none⟩ = some (.slice (some ⟨gK, 0, none⟩) n cpK)) from ⟨hFT.cell hS0.1 (hXt _ (Nat.le_refl _)), hFT.cell hS0.2.1 hBBt, hFT.cell hS0.2.2.1 (hXt _ (by omega)), hFT.cell hS0.2.2.2.1 (hXt _ (by omega)), hFT.cell hS0.2.2.2.2.1 (hXt _ (by omega)), hFT.cell hS0.2.2.2.2.2.1 (hXt _ (by omega)), hFT.cell hS0.2.2.2.2.2.2.1 (hXt _ (by omega)), hFT.cell hS0.2.2.2.2.2.2.2 (hXt _ (by omega))⟩) (wpAnyK_done (by kernel_rfl) ?_ _)
  have hFK : Fr (OwnD P KB R vs) w wK := hFJ.trans hFT (fun b h => .inl (htD b h))
  have houtK : ∀ r, r < P → wK.cell? ⟨BB, r, none⟩ = some (.slice (some ⟨R r, 0, none⟩) P (cR r)) := fun r hr => hFT.cell (show wI.drew.cell? ⟨BB, r, none⟩ = _ from houtI r hr) hBBt
  have hJs : w.heap.size ≤ wI.drew.heap.size := hFJ.size
  have hvo : ∀ x, CpI P P 0 x → ∀ b, (vs' x).ownBlock = some b → OwnD P KB R vs b ∨ w.heap.size ≤ b := fun x hx b e => by
    by_cases ht : ∃ t, t < P ∧ x = (j + 2, t)
    · obtain ⟨t, ht, rfl⟩ := ht
      rcases hfr t ht b e with h | h
      · exact .inl (htD b h)
      · right; omega
    · rw [hsame x (fun t ht' e2 => ht ⟨t, ht', e2⟩)] at e
      exact hv1o x hx b e
  have hq2e : q2 = lrnL es n ow j (W.kn j) m := by
    unfold lrnL
    have hun2 : m.1.toNat = u := by have := HU.out; omega
    rw [hun2, hxk, hl1, hq2]
  have hgrid := GW.congrKB (K' := (dlvP es n P ow W i j).kn) (B' := (dlvP es n P ow W i j).bx) hGK (fun t ht => by
    rw [dlv_kn hb, ← hq2e]
    by_cases e : t = j
    · rw [if_pos e, if_pos e]
    · rw [if_neg e, if_neg e, if_neg e]) (fun a b hab => by
    rw [dlv_bx hb, ← hq2e]
    by_cases e : a = j
    · rw [if_pos e, if_pos e, e]
    · rw [if_neg e, if_neg e, List.append_nil])
  have hOWK : OwnW wK lo P KB BB cK cB R cR vs' (dlvP es n P ow W i j).kn (dlvP es n P ow W i j).bx := ⟨hgrid, fun r hr => ⟨houtK r hr, (hOW.out r hr).2⟩, hOW.cK, hOW.cB, hOW.low, hOW.offA, fun x hx e => by
    rcases hvo x hx BB e with h | h
    · exact hBBo h
    · omega⟩
  go_end0
  exact ⟨rfl, vs', hOWK, hFK, hvo⟩
end Go.Proofs.YtdkmdcdoiaelfaaGreat
