/- history.Between: the changes that lead from one state to another one. -/
import Derived.Test.YtpblaoeaeljmhaaHisBetP
import Derived.Test.YtpblaoeaeljmhaaLkChg
namespace Go.Proofs.Ytpblaoeaeljmhaa
open Go.RowKit Go.BigFrame

def betX (n m : Int) (A B : List Lk) (t : Int) : List Ev × Int := if stS n A ≠ 0 then ([], stS n A) else if stS m B ≠ 0 then ([], stS m B) else if n ≠ m then ([], 6) else if t < 0 ∨ 1048576 < t then ([], 9) else (mrg t A B, 0)
def BetPost (w : World) (r : List Ev × Int) (e : Ending) (w' : World) : Prop :=
  ∃ a c, e = .returned (.tuple #[.slice a r.1.length c, .int .i64 r.2]) ∧ RowAt encEv w' (.slice a r.1.length c) r.1 ∧ Below w.heap.size w w'
def lenV : Value → Nat
  | .slice _ n _ => n
  | _ => 0
/-- links from a place on -/
structure LkRow (W : World) (a : Option Addr) (m c : Nat) (X : List Lk) : Prop where
  len : X.length = m
  row : RowAt encLk W (.slice a m c) X
theorem LkRow.below {W W' : World} {a : Option Addr} {m c : Nat} {X : List Lk} (h : LkRow W a m c X) (hb : Below W.heap.size W W') : LkRow W' a m c X := ⟨h.len, h.row.below hb⟩
theorem LkRow.void {W : World} {a : Option Addr} {m c : Nat} {X : List Lk} (h : LkRow W a m c X) (hm : m = 0) : X = [] := by have := h.len; rw [hm] at this; exact List.length_eq_zero_iff.1 this
set_option maxRecDepth 100000 in
theorem LkRow.cons {W : World} {a : Option Addr} {m c : Nat} {X : List Lk} (h : LkRow W a m c X) (hm : 0 < m) :
    ∃ b off x X' a', a = some ⟨b, off, none⟩ ∧ X = x :: X' ∧ m ≤ c ∧ W.cell? ⟨b, off, none⟩ = some (.int .i64 x.u) ∧ W.cell? ⟨b, off + 1, none⟩ = some (.int .i64 x.v) ∧ W.cell? ⟨b, off + 2, none⟩ = some (.int .i64 x.weight) ∧ W.cell? ⟨b, off + 3, none⟩ = some (.int .i64 x.label) ∧ W.cell? ⟨b, off + 4, none⟩ = some (.int .i64 x.sign) ∧ W.cell? ⟨b, off + 5, none⟩ = some (.int .i64 x.time) ∧
      (∀ W2, (Instr.slice 33 (.slice (some ⟨b, off, none⟩) m c) (some (.int .i64 1)) none none).run Try.prog W2 = .ok (.slice a' (m - 1) (c - 1)) W2) ∧ LkRow W a' (m - 1) (c - 1) X' := by
  obtain ⟨hl, hr⟩ := h
  subst hl
  obtain ⟨b, off, x, rfl, hx, hcap, c0, c1, c2, c3, c4, c5⟩ := lk_at hr 0 hm
  rw [Nat.zero_mul, Nat.add_zero] at c0 c1 c2 c3 c4 c5
  cases X with
  | nil => simp at hm
  | cons y X' =>
    obtain rfl : y = x := by simpa using hx
    have hrun : ∀ W2, (Instr.slice 33 (.slice (some ⟨b, off, none⟩) (y :: X').length c) (some (.int .i64 1)) none none).run Try.prog W2 = .ok (.slice (if c = 1 then some ⟨b, off, none⟩ else some ⟨b, off + 6, none⟩) ((y :: X').length - 1) (c - 1)) W2 := fun W2 => by
      have h1 := run_slice_l (P := Try.prog) (w := W2) 33 (some ⟨b, off, none⟩) (y :: X').length c Try.underlying33 .i64 1 (by omega) (by simp; omega)
      have hz : (sizeOf (Try.prog.elem 33)).run Try.prog W2 = .ok 6 W2 := by kernel_rfl
      rw [h1, hz]
      by_cases hc : c = 1 <;> simp [Result.andThen, sliced, Addr.add, hc]
    obtain ⟨a', ha'⟩ : ∃ a', (if c = 1 then some (⟨b, off, none⟩ : Addr) else some ⟨b, off + 6, none⟩) = a' := ⟨_, rfl⟩
    rw [ha'] at hrun
    refine ⟨b, off, y, X', a', rfl, rfl, hcap, c0, c1, c2, c3, c4, c5, hrun, by simp, ?_⟩
    by_cases hc : c = 1
    · rw [if_pos hc] at ha'
      have hX : X' = [] := by simp at hcap; exact List.length_eq_zero_iff.1 (by omega)
      subst ha' hX hc
      exact RowAt.void (fun h => by cases h)
    · rw [if_neg hc] at ha'
      subst ha'
      have := hr.drop 1 (c - 1) (by omega)
      exact this
theorem mrg_cc (t : Int) (x : Lk) (xs : List Lk) (y : Lk) (ys : List Lk) : mrg t (x :: xs) (y :: ys) = if lkB x y = true then cutEv x t :: mrg t xs (y :: ys) else if sameE x y = true then (if sameA x y = true then mrg t xs ys else setEv y t :: mrg t xs ys) else setEv y t :: mrg t (x :: xs) ys := by rw [mrg]
/-- two states in one block -/
theorem cells4b {w : World} {g T : Nat} {c0 c1 c2 c3 : Value} (h : w.heap[g]? = some (.cells #[c0, c1, c2, c3] T (0, 0))) : w.cell? ⟨g, 0 * 2, none⟩ = some c0 ∧ w.cell? ⟨g, 0 * 2 + 1, none⟩ = some c1 ∧ w.cell? ⟨g, 1 * 2, none⟩ = some c2 ∧ w.cell? ⟨g, 1 * 2 + 1, none⟩ = some c3 :=
  ⟨by rw [cell_blk h]; rfl, by rw [cell_blk h]; rfl, by rw [cell_blk h]; rfl, by rw [cell_blk h]; rfl⟩
set_option maxRecDepth 100000 in
set_option maxHeartbeats 6400000 in
theorem between_any (n m : Int) (A B : List Lk) (t : Int) (aA aB : Option Addr) (cA cB : Nat) (w : World) (hA : RowAt encLk w (.slice aA A.length cA) A) (hB : RowAt encLk w (.slice aB B.length cB) B) :
    Calls Try.prog 25 #[.agg #[.int .i64 n, .slice aA A.length cA], .agg #[.int .i64 m, .slice aB B.length cB], .int .i64 t] w (BetPost w (betX n m A B t)) := by
  have hb1 := (Below.refl w.heap.size w).alloc (Nat.le_refl _) (.cells #[.int .i64 n, .slice aA A.length cA] 35)
  have hb2 := (Below.refl _ (w.alloc (.cells #[.int .i64 n, .slice aA A.length cA] 35))).alloc (Nat.le_refl _) (.cells #[.int .i64 m, .slice aB B.length cB] 35)
  have hP1 := lk_next hb2 (heap_alloc_new w (.cells #[.int .i64 n, .slice aA A.length cA] 35))
  have hQ1 := heap_alloc_new (w.alloc (.cells #[.int .i64 n, .slice aA A.length cA] 35)) (.cells #[.int .i64 m, .slice aB B.length cB] 35)
  have hz1 : (w.alloc (.cells #[.int .i64 n, .slice aA A.length cA] 35)).heap.size = w.heap.size + 1 := by simp
  rw [hz1] at hQ1
  have hbw := hb1.trans (hb2.mono hb1.size)
  have hA1 := hA.below hbw
  have hB1 := hB.below hbw
  have hlA := hA.small
  have hlB := hB.small
  obtain ⟨R, hR⟩ : ∃ R, betX n m A B t = R := ⟨_, rfl⟩
  rw [hR]
  have HR := Lib.hid hR
  have bX := (Below.refl _ ((w.alloc (.cells #[.int .i64 n, .slice aA A.length cA] 35)).alloc (.cells #[.int .i64 m, .slice aB B.length cB] 35))).alloc (Nat.le_refl _) (.cells #[.int .i64 n, .slice aA A.length cA, .int .i64 m, .slice aB B.length cB] 35)
  have hX1 := heap_alloc_new ((w.alloc (.cells #[.int .i64 n, .slice aA A.length cA] 35)).alloc (.cells #[.int .i64 m, .slice aB B.length cB] 35)) (.cells #[.int .i64 n, .slice aA A.length cA, .int .i64 m, .slice aB B.length cB] 35)
  have hz2 : ((w.alloc (.cells #[.int .i64 n, .slice aA A.length cA] 35)).alloc (.cells #[.int .i64 m, .slice aB B.length cB] 35)).heap.size = w.heap.size + 2 := by simp
  rw [hz2] at hX1
  have hP2 := lk_next bX hP1
  have hQ2 := lk_next bX hQ1
  have hA2 := hA1.below bX
  have hB2 := hB1.below bX
  have hbw2 := hbw.trans (bX.mono hbw.size)
  clear hR hb1 hb2 hz1 hz2 bX hA hB hP1 hQ1 hA1 hB1 hbw
  go_enter Try.func25, Try.ntmps25
  go_wp2_with fail
  obtain ⟨X, hXX⟩ : ∃ X, w.heap.size + 1 + 1 = X := ⟨_, rfl⟩
  obtain ⟨Q, hQQ⟩ : ∃ Q, w.heap.size + 1 = Q := ⟨_, rfl⟩
  obtain ⟨P, hPP⟩ : ∃ P, w.heap.size = P := ⟨_, rfl⟩
  obtain ⟨w1, hw1⟩ : ∃ W : World, ((w.alloc (.cells #[.int .i64 n, .slice aA A.length cA] 35)).alloc (.cells #[.int .i64 m, .slice aB B.length cB] 35)).alloc (.cells #[.int .i64 n, .slice aA A.length cA, .int .i64 m, .slice aB B.length cB] 35) = W := ⟨_, rfl⟩
  rw [hw1] at hX1 hP2 hQ2 hA2 hB2 hbw2 ⊢
  rw [show w.heap.size + 2 = X from hXX] at hX1
  rw [hQQ] at hQ2
  try rw [hXX]
  try rw [hQQ]
  rw [hPP] at hP2 ⊢
  have HPP := Lib.hid hPP
  clear hXX hQQ hw1 hPP
  go_loopw [19] (fun vi wr => ∃ q : Nat, q ≤ 2 ∧ vi = .int .i64 q ∧ Below w1.heap.size w1 wr ∧ Hid ((1 ≤ q → stS n A = 0) ∧ (2 ≤ q → stS m B = 0))) (fun vi _ => 2 - (intOf vi).toNat)
  case atStart => exact ⟨0, Nat.zero_le _, rfl, Below.refl _ _, ⟨fun h => by omega, fun h => by omega⟩⟩
  case round =>
    obtain ⟨q, hq, rfl, hbr, HZ⟩ := hrel
    by_cases hq2 : q < 2
    · have hq3 : (q : Int) < 2 := by omega
      have hq4 : decide ((q : Int) < 2) = true := decide_eq_true hq3
      obtain ⟨m', L, aL, cL, c0, c1, hL, HS⟩ : ∃ (m' : Int) (L : List Lk) (aL : Option Addr) (cL : Nat), wr.cell? ⟨X, q * 2, none⟩ = some (.int .i64 m') ∧ wr.cell? ⟨X, q * 2 + 1, none⟩ = some (.slice aL L.length cL) ∧ RowAt encLk wr (.slice aL L.length cL) L ∧ Hid ((stS m' L = 0 → ((1 ≤ q + 1 → stS n A = 0) ∧ (2 ≤ q + 1 → stS m B = 0))) ∧ (stS m' L ≠ 0 → R = ([], stS m' L))) := by
        obtain ⟨k0, k1, k2, k3⟩ := cells4b (lk_next hbr hX1)
        obtain ⟨z1, z2⟩ := HZ.out
        have hR := HR.out
        unfold betX at hR
        rcases (by omega : q = 0 ∨ q = 1) with rfl | rfl
        · refine ⟨_, _, _, _, k0, k1, hA2.below hbr, fun h => ⟨fun _ => h, fun h2 => by omega⟩, fun h => by rw [if_pos h] at hR; exact hR.symm⟩
        · refine ⟨_, _, _, _, k2, k3, hB2.below hbr, fun h => ⟨fun _ => z1 (by omega), fun h2 => h⟩, fun h => by rw [if_neg (by rw [z1 (by omega)]; simp), if_pos h] at hR; exact hR.symm⟩
      obtain ⟨Z, hZ⟩ : ∃ Z, stS m' L = Z := ⟨_, rfl⟩
      have bP := (Below.refl _ wr).alloc (Nat.le_refl _) (.cells #[.int .i64 m', .slice aL L.length cL] 35)
      have hPn := heap_alloc_new wr (.cells #[.int .i64 m', .slice aL L.length cL] 35)
      have hck := lcheck_any m' aL cL L _ (hL.below bP)
      rw [hZ] at HS hck
      have hbx := hbr.trans (bP.mono hbr.size)
      have x0 := cell_blk (j := 0) hPn
      have x1 := cell_blk (j := 1) hPn
      clear hZ HZ hL bP hPn
      by_cases hz : Z = 0
      · have HZ := Lib.hid (HS.out.1 hz)
        subst hz
        clear HS
        go_wp2_with fail
        refine hck.mono ?_
        rintro _ w3 ⟨rfl, hb3⟩
        go_wp2_with fail
        go_roundw
        case rel =>
          have hbe := hbx.trans (hb3.mono hbx.size)
          first | exact ⟨q + 1, by omega, by go_num, hbe, HZ⟩ | ((repeat apply Exists.intro); exact ⟨⟨q + 1, by omega, by go_num, hbe, HZ⟩, rfl⟩)
        case measure => simp [intOf]; omega
      · have hR := HS.out.2 hz
        subst hR
        have d1 : (Z == 0) = false := by simpa using hz
        have d2 : (Z != 0) = true := by simpa using hz
        clear HS
        go_wp2_with fail
        refine hck.mono ?_
        rintro _ w3 ⟨rfl, hb3⟩
        go_wp2_with fail
        go_ret2
        have hbe := hbx.trans (hb3.mono hbx.size)
        exact ⟨none, 0, rfl, RowAt.nil _, hbw2.trans (hbe.mono hbw2.size)⟩
    · obtain rfl : q = 2 := by omega
      obtain ⟨z1, z2⟩ := HZ.out
      have hvA := (stS_iff n A).1 (z1 (by omega))
      have hvB := (stS_iff m B).1 (z2 (by omega))
      have hR := HR.out
      unfold betX at hR
      rw [if_neg (by rw [z1 (by omega)]; simp), if_neg (by rw [z2 (by omega)]; simp)] at hR
      have hPr := lk_next hbr hP2
      have hQr := lk_next hbr hQ2
      have hAr := hA2.below hbr
      have hBr := hB2.below hbr
      have hbr0 := hbw2.trans (hbr.mono hbw2.size)
      have hlA4 := hvA.length_le
      have hlB4 := hvB.length_le
      clear z1 z2 HZ HR hX1 hP2 hQ2 hA2 hB2 hbw2 hbr hvA hvB
      have p0 := cell_blk (j := 0) hPr
      have p1 := cell_blk (j := 1) hPr
      have q0 := cell_blk (j := 0) hQr
      have q1 := cell_blk (j := 1) hQr
      by_cases hnm : n = m
      case neg =>
        rw [if_pos hnm] at hR
        subst hR
        have d1 : (n == m) = false := by simpa using hnm
        have d2 : (n != m) = true := by simpa using hnm
        go_wp2_with fail
        go_ret2
        exact ⟨none, 0, rfl, RowAt.nil _, hbr0⟩
      subst hnm
      rw [if_neg (by simp)] at hR
      by_cases ht0 : t < 0
      · rw [if_pos (.inl ht0)] at hR
        subst hR
        go_wp2_with fail
        go_ret2
        exact ⟨none, 0, rfl, RowAt.nil _, hbr0⟩
      by_cases ht1 : 1048576 < t
      · rw [if_pos (.inr ht1)] at hR
        subst hR
        go_wp2_with fail
        go_ret2
        exact ⟨none, 0, rfl, RowAt.nil _, hbr0⟩
      rw [if_neg (by omega)] at hR
      subst hR
      go_wp2_with fail
      --LOOP<
      go_quiet (fail)

      obtain ⟨w2, hw2⟩ : ∃ W : World, W = wr.drewN nq := ⟨_, rfl⟩
      have hA2 : LkRow w2 aA A.length cA A := ⟨rfl, by rw [hw2]; exact hAr.below ((Below.refl _ _).drewN _)⟩
      have hB2 : LkRow w2 aB B.length cB B := ⟨rfl, by rw [hw2]; exact hBr.below ((Below.refl _ _).drewN _)⟩
      have hb02 : Below w.heap.size w w2 := by rw [hw2]; exact hbr0.drewN _
      rw [← hw2]
      obtain ⟨RES, hRES⟩ : ∃ r, mrg t A B = r := ⟨_, rfl⟩
      have HRES0 : Hid ([] ++ mrg t A B = RES) := by show _ = _; rw [List.nil_append]; exact hRES
      have HRR := Lib.hid hRES
      have HNN0 : Hid (0 + A.length + B.length ≤ 10000) := by show _ ≤ _; omega
      clear hw2 hRES hAr hBr hbr0 hPr hQr p0 p1 q0 q1 hq hq2
      go_wp2_with fail
      go_loopw [11, 12, 13] (fun vo vx vy wr => ∃ (ax : Option Addr) (mx cx : Nat) (X : List Lk) (ay : Option Addr) (my cy : Nat) (Y : List Lk) (out : List Ev) (ao : Option Addr) (no co : Nat), vx = .slice ax mx cx ∧ vy = .slice ay my cy ∧ vo = .slice ao no co ∧ LkRow w2 ax mx cx X ∧ LkRow w2 ay my cy Y ∧ wr.ownsRow w2.heap.size 52 encEv.k (.slice ao no co) no (flatR encEv out) ∧ Hid (no = out.length) ∧ Below w2.heap.size w2 wr ∧ Hid (no + mx + my ≤ 10000) ∧ Hid (out ++ mrg t X Y = RES)) (fun _ vx vy _ => lenV vx + lenV vy)
      case atStart => exact ⟨aA, A.length, cA, A, aB, B.length, cB, B, [], none, 0, 0, rfl, rfl, rfl, hA2, hB2, World.ownsRow_nil _ _ _ _, rfl, Below.refl _ _, HNN0, HRES0⟩
      case round =>
        clear hA2 hB2 HNN0 HRES0 hlA hlB hlA4 hlB4
        obtain ⟨ax, mx, cx, X, ay, my, cy, Y, out, ao, no, co, rfl, rfl, rfl, hX, hY, hownq, HNO, hbq, HN, HRES⟩ := hrel
        have hnb := HN.out
        by_cases hmx : 0 < mx
        · obtain ⟨bx, ox, x, X', ax', rfl, rfl, hcapx, x0, x1, x2, x3, x4, x5, hslx, hX'⟩ := hX.cons hmx
          have hmx3 : (0 : Int) < mx := by omega
          have hmx4 : (1 : Int) ≤ mx := by omega
          have hmx5 : decide ((0 : Int) < mx) = true := decide_eq_true hmx3
          obtain ⟨xu, xv, xw, xl, xs, xt⟩ := x
          dsimp only at x0 x1 x2 x3 x4 x5
          have hcx : Hid (∀ W, Below w2.heap.size w2 W → W.cell? ⟨bx, ox, none⟩ = some (.int .i64 xu) ∧ W.cell? ⟨bx, ox + 1, none⟩ = some (.int .i64 xv) ∧ W.cell? ⟨bx, ox + 2, none⟩ = some (.int .i64 xw) ∧ W.cell? ⟨bx, ox + 3, none⟩ = some (.int .i64 xl) ∧ W.cell? ⟨bx, ox + 4, none⟩ = some (.int .i64 xs) ∧ W.cell? ⟨bx, ox + 5, none⟩ = some (.int .i64 xt)) := by
            show ∀ W, _ → _
            intro W hb
            exact ⟨(hb.cell (p := ⟨bx, ox, none⟩) (cell_lt x0)).trans x0, (hb.cell (p := ⟨bx, ox + 1, none⟩) (cell_lt x0)).trans x1, (hb.cell (p := ⟨bx, ox + 2, none⟩) (cell_lt x0)).trans x2, (hb.cell (p := ⟨bx, ox + 3, none⟩) (cell_lt x0)).trans x3, (hb.cell (p := ⟨bx, ox + 4, none⟩) (cell_lt x0)).trans x4, (hb.cell (p := ⟨bx, ox + 5, none⟩) (cell_lt x0)).trans x5⟩
          clear x0 x1 x2 x3 x4 x5
          by_cases hmy : 0 < my
          · obtain ⟨by', oy, y, Y', ay', rfl, rfl, hcapy, y0, y1, y2, y3, y4, y5, hsly, hY'⟩ := hY.cons hmy
            have hmy3 : (0 : Int) < my := by omega
            have hmy4 : (1 : Int) ≤ my := by omega
            have hmy5 : decide ((0 : Int) < my) = true := decide_eq_true hmy3
            have hmy6 : ((my : Int) == 0) = false := by simp; omega
            have hmy7 : decide (my = 0) = false := by simp; omega
            obtain ⟨yu, yv, yw, yl, ys, yt⟩ := y
            dsimp only at y0 y1 y2 y3 y4 y5
            have hcy : Hid (∀ W, Below w2.heap.size w2 W → W.cell? ⟨by', oy, none⟩ = some (.int .i64 yu) ∧ W.cell? ⟨by', oy + 1, none⟩ = some (.int .i64 yv) ∧ W.cell? ⟨by', oy + 2, none⟩ = some (.int .i64 yw) ∧ W.cell? ⟨by', oy + 3, none⟩ = some (.int .i64 yl) ∧ W.cell? ⟨by', oy + 4, none⟩ = some (.int .i64 ys) ∧ W.cell? ⟨by', oy + 5, none⟩ = some (.int .i64 yt)) := by
              show ∀ W, _ → _
              intro W hb
              exact ⟨(hb.cell (p := ⟨by', oy, none⟩) (cell_lt y0)).trans y0, (hb.cell (p := ⟨by', oy + 1, none⟩) (cell_lt y0)).trans y1, (hb.cell (p := ⟨by', oy + 2, none⟩) (cell_lt y0)).trans y2, (hb.cell (p := ⟨by', oy + 3, none⟩) (cell_lt y0)).trans y3, (hb.cell (p := ⟨by', oy + 4, none⟩) (cell_lt y0)).trans y4, (hb.cell (p := ⟨by', oy + 5, none⟩) (cell_lt y0)).trans y5⟩
            clear y0 y1 y2 y3 y4 y5
            have hor0 := fun W => lorder_any ⟨xu, xv, xw, xl, xs, xt⟩ ⟨yu, yv, yw, yl, ys, yt⟩ W
            have hneg := lkO_neg ⟨xu, xv, xw, xl, xs, xt⟩ ⟨yu, yv, yw, yl, ys, yt⟩
            have hzer := lkO_zero ⟨xu, xv, xw, xl, xs, xt⟩ ⟨yu, yv, yw, yl, ys, yt⟩
            obtain ⟨o, ho⟩ : ∃ o, lkO ⟨xu, xv, xw, xl, xs, xt⟩ ⟨yu, yv, yw, yl, ys, yt⟩ = o := ⟨_, rfl⟩
            rw [ho] at hor0 hneg hzer
            unfold Lk.cells at hor0
            dsimp only at hor0 hzer
            have HOR := Lib.hid hor0
            have hmrg := mrg_cc t ⟨xu, xv, xw, xl, xs, xt⟩ X' ⟨yu, yv, yw, yl, ys, yt⟩ Y'
            clear hor0 ho
            go_upto_region 15 with fail
            by_cases hlt : o < 0
            · --CASE B
              rw [if_pos (hneg.1 hlt)] at hmrg
              have HM := Lib.hid hmrg
              have hlt2 : decide (o < 0) = true := decide_eq_true hlt
              clear hmrg hneg hzer
              have xk := fun z : Ext wr.heap.size wr => hcx.out z.world (hbq.trans (z.below.mono hbq.size))
              have yk := fun z : Ext wr.heap.size wr => hcy.out z.world (hbq.trans (z.below.mono hbq.size))
              have xk0 := fun z => (xk z).1
              have xk1 := fun z => (xk z).2.1
              have xk2 := fun z => (xk z).2.2.1
              have xk3 := fun z => (xk z).2.2.2.1
              have xk4 := fun z => (xk z).2.2.2.2.1
              have xk5 := fun z => (xk z).2.2.2.2.2
              have yk0 := fun z => (yk z).1
              have yk1 := fun z => (yk z).2.1
              have yk2 := fun z => (yk z).2.2.1
              have yk3 := fun z => (yk z).2.2.2.1
              have yk4 := fun z => (yk z).2.2.2.2.1
              have yk5 := fun z => (yk z).2.2.2.2.2
              have hor := fun z : Ext wr.heap.size wr => HOR.out z.world
              clear xk yk
              refine wp_region_ext wr.heap.size wr (by kernel_rfl) (by kernel_rfl) (Below.refl _ _) ?_
              try simp only [List.append_eq, List.cons_append, List.nil_append]
              repeat (any_goals (go_big_quiet_step ((go_at_call 41; exact Calls.ext_of (Nat.le_refl _) (hor _)))))
              refine wpQuiet_nil ?_
              rintro wr ⟨⟨_, hqq⟩, rfl⟩
              have hownq := hownq.kept (grown_of_below hqq) (Classical.em _)
              have hbq := hbq.trans (hqq.mono hbq.size)
              clear xk0 xk1 xk2 xk3 xk4 xk5 yk0 yk1 yk2 yk3 yk4 yk5 hor hqq
              obtain ⟨Y, hYe⟩ : ∃ Y, (⟨yu, yv, yw, yl, ys, yt⟩ :: Y' : List Lk) = Y := ⟨_, rfl⟩
              rw [hYe] at hY HM HRES
              obtain ⟨ay, haye⟩ : ∃ a : Option Addr, some ⟨by', oy, none⟩ = a := ⟨_, rfl⟩
              rw [haye] at hY ⊢
              clear hYe haye hsly hY' hcy HOR hlt hlt2 hmy3 hmy4 hmy5 hmy6 hmy7 hcapy hmy
              have hg := fun W => gone_any ⟨xu, xv, xw, xl, xs, xt⟩ t W
              unfold cutEv Lk.cells Ev.cells at hg
              dsimp only at hg
              have hres : mrg t (⟨xu, xv, xw, xl, xs, xt⟩ :: X') (Y) = cutEv ⟨xu, xv, xw, xl, xs, xt⟩ t :: mrg t X' (Y) := HM.out
              have HRS : Hid (out ++ [cutEv ⟨xu, xv, xw, xl, xs, xt⟩ t] ++ mrg t X' (Y) = RES) := (show _ = _ by rw [← HRES.out, hres]; simp)
              have HNN : Hid (no + 1 + (mx - 1) + my ≤ 10000) := (show _ ≤ _ by have := HN.out; omega)
              have hnn := HN.out
              have hX'd := hX'
              clear hres HM HRES HN
              go_wp2_with fail
              have hownd : wr.drew.ownsRow w2.heap.size 52 encEv.k (.slice ao no co) no (flatR encEv out) := hownq
              have hbd : Below w2.heap.size w2 wr.drew := hbq.drew
              go_region_held3 (fun w' => w'.cell? ⟨bx, ox, none⟩ = some (.int .i64 xu) ∧ w'.cell? ⟨bx, ox + 1, none⟩ = some (.int .i64 xv) ∧ w'.cell? ⟨bx, ox + 2, none⟩ = some (.int .i64 xw) ∧ w'.cell? ⟨bx, ox + 3, none⟩ = some (.int .i64 xl) ∧ w'.cell? ⟨bx, ox + 4, none⟩ = some (.int .i64 xs) ∧ w'.cell? ⟨bx, ox + 5, none⟩ = some (.int .i64 xt))
                (first
                  | exact hcx.out _ hb6
                  | exact hcx.out _ hb5A
                  | exact hcx.out _ hb5
                  | exact hcx.out _ hbd)
                (first
                  | (refine step_app_rows evRT rfl (.tmp 73) (.tmp 79) rfl w2.heap.size _ _ out [cutEv ⟨xu, xv, xw, xl, xs, xt⟩ t] rfl (by rw [← HNO.out]; exact hown5A) rfl (by exact hlx5) (by rw [← HNO.out]; simp; omega) (by rw [← HNO.out]; simp; omega) (by exact hb5A.size) ?_; intro v6 w6 hown6 hg6; have hb6 := hb5A.grown hg6 hb5A.size (fun g e => (hown5A.lt g e).1))
                  | (go_at_call 42; (with_reducible refine (hg _).mono ?_); rintro e w5 ⟨rfl, hb5'⟩; have hb5 := hbd.trans (hb5'.mono hbd.size); have hown5A := (hownd.kept (grown_of_below hb5') (Classical.em _)).alloc (.cells #[.int .i64 2, .int .i64 t, .int .i64 xu, .int .i64 xv, .int .i64 0, .int .i64 0, .int .i64 0] 52); have hlx5 := rows_lit1 (E := encEv) w5 (cutEv ⟨xu, xv, xw, xl, xs, xt⟩ t) 52 #[.int .i64 2, .int .i64 t, .int .i64 xu, .int .i64 xv, .int .i64 0, .int .i64 0, .int .i64 0] rfl; have hb5A := hb5.alloc hb5.size (.cells #[.int .i64 2, .int .i64 t, .int .i64 xu, .int .i64 xv, .int .i64 0, .int .i64 0, .int .i64 0] 52)))
              all_goals
                have hl6 : (out ++ [cutEv ⟨xu, xv, xw, xl, xs, xt⟩ t]).length = no + 1 := by rw [List.length_append, ← HNO.out]; rfl
                rw [hl6] at hown6
                obtain ⟨a6, c6, rfl⟩ := owns_shape hown6
                have HNO6 : Hid (no + 1 = (out ++ [cutEv ⟨xu, xv, xw, xl, xs, xt⟩ t]).length) := hl6.symm
                clear hl6 hg6
                go_wp2_with fail
                go_roundw
                case rel =>
                  first
                    | exact ⟨ax', mx - 1, cx - 1, X', ay, my, cy, Y, _, a6, no + 1, c6, rfl, rfl, rfl, hX', hY, hown6, HNO6, hb6, HNN, HRS⟩
                    | ((repeat apply Exists.intro); exact ⟨⟨ax', mx - 1, cx - 1, X', ay, my, cy, Y, _, a6, no + 1, c6, rfl, rfl, rfl, hX', hY, hown6, HNO6, hb6, HNN, HRS⟩, rfl⟩)
                case measure => simp [lenV]; omega
            · have hnl : ¬ lkB ⟨xu, xv, xw, xl, xs, xt⟩ ⟨yu, yv, yw, yl, ys, yt⟩ = true := fun h => hlt (hneg.2 h)
              rw [if_neg hnl] at hmrg
              have hlt2 : decide (o < 0) = false := decide_eq_false hlt
              clear hneg hnl
              have xk := fun z : Ext wr.heap.size wr => hcx.out z.world (hbq.trans (z.below.mono hbq.size))
              have yk := fun z : Ext wr.heap.size wr => hcy.out z.world (hbq.trans (z.below.mono hbq.size))
              have xk0 := fun z => (xk z).1
              have xk1 := fun z => (xk z).2.1
              have xk2 := fun z => (xk z).2.2.1
              have xk3 := fun z => (xk z).2.2.2.1
              have xk4 := fun z => (xk z).2.2.2.2.1
              have xk5 := fun z => (xk z).2.2.2.2.2
              have yk0 := fun z => (yk z).1
              have yk1 := fun z => (yk z).2.1
              have yk2 := fun z => (yk z).2.2.1
              have yk3 := fun z => (yk z).2.2.2.1
              have yk4 := fun z => (yk z).2.2.2.2.1
              have yk5 := fun z => (yk z).2.2.2.2.2
              have hor := fun z : Ext wr.heap.size wr => HOR.out z.world
              clear xk yk
              refine wp_region_ext wr.heap.size wr (by kernel_rfl) (by kernel_rfl) (Below.refl _ _) ?_
              try simp only [List.append_eq, List.cons_append, List.nil_append]
              repeat (any_goals (go_big_quiet_step ((go_at_call 41; exact Calls.ext_of (Nat.le_refl _) (hor _)))))
              refine wpQuiet_nil ?_
              rintro wr ⟨⟨_, hqq⟩, rfl⟩
              have hownq := hownq.kept (grown_of_below hqq) (Classical.em _)
              have hbq := hbq.trans (hqq.mono hbq.size)
              clear xk0 xk1 xk2 xk3 xk4 xk5 yk0 yk1 yk2 yk3 yk4 yk5 hor hqq
              go_wp2_with fail
              by_cases hz : o = 0
              · --CASE C
                subst hz
                obtain ⟨he1, he2⟩ := hzer.1 rfl
                rw [if_pos (by rw [sameE_iff]; exact ⟨he1, he2⟩)] at hmrg
                clear hzer hlt hlt2
                subst xu
                subst xv
                have xk := fun z : Ext wr.heap.size wr => hcx.out z.world (hbq.trans (z.below.mono hbq.size))
                have yk := fun z : Ext wr.heap.size wr => hcy.out z.world (hbq.trans (z.below.mono hbq.size))
                have xk0 := fun z => (xk z).1
                have xk1 := fun z => (xk z).2.1
                have xk2 := fun z => (xk z).2.2.1
                have xk3 := fun z => (xk z).2.2.2.1
                have xk4 := fun z => (xk z).2.2.2.2.1
                have xk5 := fun z => (xk z).2.2.2.2.2
                have yk0 := fun z => (yk z).1
                have yk1 := fun z => (yk z).2.1
                have yk2 := fun z => (yk z).2.2.1
                have yk3 := fun z => (yk z).2.2.2.1
                have yk4 := fun z => (yk z).2.2.2.2.1
                have yk5 := fun z => (yk z).2.2.2.2.2
                have hor := fun z : Ext wr.heap.size wr => HOR.out z.world
                clear xk yk
                refine wp_region_ext wr.heap.size wr (by kernel_rfl) (by kernel_rfl) (Below.refl _ _) ?_
                try simp only [List.append_eq, List.cons_append, List.nil_append]
                repeat (any_goals (go_big_quiet_step ((go_at_call 41; exact Calls.ext_of (Nat.le_refl _) (hor _)))))
                refine wpQuiet_nil ?_
                rintro wr ⟨⟨_, hqq⟩, rfl⟩
                have hownq := hownq.kept (grown_of_below hqq) (Classical.em _)
                have hbq := hbq.trans (hqq.mono hbq.size)
                clear xk0 xk1 xk2 xk3 xk4 xk5 yk0 yk1 yk2 yk3 yk4 yk5 hor hqq
                obtain ⟨x0, x1, x2, x3, x4, x5⟩ := hcx.out _ hbq
                have hO := heap_alloc_new wr (.cells #[.int .i64 yu, .int .i64 yv, .int .i64 xw, .int .i64 xl, .int .i64 xs, .int .i64 xt] 62)
                have hbO := hbq.alloc hbq.size (.cells #[.int .i64 yu, .int .i64 yv, .int .i64 xw, .int .i64 xl, .int .i64 xs, .int .i64 xt] 62)
                have hownO := hownq.alloc (.cells #[.int .i64 yu, .int .i64 yv, .int .i64 xw, .int .i64 xl, .int .i64 xs, .int .i64 xt] 62)
                go_wp2_with fail
                obtain ⟨w5, hw5⟩ : ∃ W : World, wr.alloc (.cells #[.int .i64 yu, .int .i64 yv, .int .i64 xw, .int .i64 xl, .int .i64 xs, .int .i64 xt] 62) = W := ⟨_, rfl⟩
                obtain ⟨O, hOO⟩ : ∃ O, wr.heap.size = O := ⟨_, rfl⟩
                rw [hw5] at hO hbO hownO ⊢
                rw [hOO] at hO
                try rw [hOO]
                clear hw5 hOO x0 x1 x2 x3 x4 x5 hcx hslx HOR hownq hbq
                have x2 : w5.cell? ⟨O, 2, none⟩ = some (.int .i64 xw) := cell_blk (j := 2) hO
                have x3 : w5.cell? ⟨O, 3, none⟩ = some (.int .i64 xl) := cell_blk (j := 3) hO
                have x4 : w5.cell? ⟨O, 4, none⟩ = some (.int .i64 xs) := cell_blk (j := 4) hO
                obtain ⟨y0, y1, y2, y3, y4, y5⟩ := hcy.out _ hbO
                clear hO
                by_cases hew : xw = yw
                case neg =>
                  have e1 : (xw == yw) = false := by simpa using hew
                  have e2 : decide (xw = yw) = false := by simpa using hew
                  rw [if_neg (by simp [sameA, hew])] at hmrg
                  have HM := Lib.hid hmrg
                  clear hmrg hew
                  go_quiet (fail)
                  have hownq := hownO.kept (grown_of_below ((Below.refl _ w5).drewN nq)) (Classical.em _)
                  have hbq := hbO.drewN nq
                  obtain ⟨wr, hwr⟩ : ∃ W : World, w5.drewN nq = W := ⟨_, rfl⟩
                  rw [hwr] at hownq hbq ⊢
                  clear hwr e1 e2 hownO hbO x2 x3 x4 y0 y1 y2 y3 y4 y5
                  have HRS : Hid (out ++ [setEv ⟨yu, yv, yw, yl, ys, yt⟩ t] ++ mrg t X' Y' = RES) := (show _ = _ by rw [← HRES.out, HM.out]; simp)
                  have HNN : Hid (no + 1 + (mx - 1) + (my - 1) ≤ 10000) := (show _ ≤ _ by have := HN.out; omega)
                  have hnn := HN.out
                  clear HM HRES HN
                  go_wp2_with fail
                  have hownd : wr.drew.ownsRow w2.heap.size 52 encEv.k (.slice ao no co) no (flatR encEv out) := hownq
                  have hbd : Below w2.heap.size w2 wr.drew := hbq.drew
                  have hown5A := hownd.alloc (.cells #[.int .i64 1, .int .i64 t, .int .i64 yu, .int .i64 yv, .int .i64 yw, .int .i64 yl, .int .i64 ys] 52)
                  have hlx5 := rows_lit1 (E := encEv) wr.drew (setEv ⟨yu, yv, yw, yl, ys, yt⟩ t) 52 #[.int .i64 1, .int .i64 t, .int .i64 yu, .int .i64 yv, .int .i64 yw, .int .i64 yl, .int .i64 ys] rfl
                  have hb5A := hbd.alloc hbd.size (.cells #[.int .i64 1, .int .i64 t, .int .i64 yu, .int .i64 yv, .int .i64 yw, .int .i64 yl, .int .i64 ys] 52)
                  go_region_held3 (fun w' => w'.cell? ⟨by', oy, none⟩ = some (.int .i64 yu) ∧ w'.cell? ⟨by', oy + 1, none⟩ = some (.int .i64 yv) ∧ w'.cell? ⟨by', oy + 2, none⟩ = some (.int .i64 yw) ∧ w'.cell? ⟨by', oy + 3, none⟩ = some (.int .i64 yl) ∧ w'.cell? ⟨by', oy + 4, none⟩ = some (.int .i64 ys) ∧ w'.cell? ⟨by', oy + 5, none⟩ = some (.int .i64 yt))
                    (first
                      | exact hcy.out _ hb6
                      | exact hcy.out _ hb5A
                      | exact hcy.out _ hbd)
                    (first
                      | (refine step_app_rows evRT rfl (.tmp 129) (.tmp 152) rfl w2.heap.size _ _ out [setEv ⟨yu, yv, yw, yl, ys, yt⟩ t] rfl (by rw [← HNO.out]; exact hown5A) rfl (by exact hlx5) (by rw [← HNO.out]; simp; omega) (by rw [← HNO.out]; simp; omega) (by exact hb5A.size) ?_; intro v6 w6 hown6 hg6; have hb6 := hb5A.grown hg6 hb5A.size (fun g e => (hown5A.lt g e).1)))
                  all_goals
                    have hl6 : (out ++ [setEv ⟨yu, yv, yw, yl, ys, yt⟩ t]).length = no + 1 := by rw [List.length_append, ← HNO.out]; rfl
                    rw [hl6] at hown6
                    obtain ⟨a6, c6, rfl⟩ := owns_shape hown6
                    have HNO6 : Hid (no + 1 = (out ++ [setEv ⟨yu, yv, yw, yl, ys, yt⟩ t]).length) := hl6.symm
                    clear hl6 hg6
                    go_wp2_with fail
                    go_roundw
                    case rel =>
                      first
                        | exact ⟨ax', (mx - 1), (cx - 1), X', ay', my - 1, cy - 1, Y', _, a6, no + 1, c6, rfl, rfl, rfl, hX', hY', hown6, HNO6, hb6, HNN, HRS⟩
                        | ((repeat apply Exists.intro); exact ⟨⟨ax', (mx - 1), (cx - 1), X', ay', my - 1, cy - 1, Y', _, a6, no + 1, c6, rfl, rfl, rfl, hX', hY', hown6, HNO6, hb6, HNN, HRS⟩, rfl⟩)
                    case measure => simp [lenV]; omega
                case pos =>
                by_cases hel : xl = yl
                case neg =>
                  have e1 : (xl == yl) = false := by simpa using hel
                  have e2 : decide (xl = yl) = false := by simpa using hel
                  rw [if_neg (by simp [sameA, hel])] at hmrg
                  have HM := Lib.hid hmrg
                  clear hmrg hel
                  subst xw
                  go_quiet (fail)
                  have hownq := hownO.kept (grown_of_below ((Below.refl _ w5).drewN nq)) (Classical.em _)
                  have hbq := hbO.drewN nq
                  obtain ⟨wr, hwr⟩ : ∃ W : World, w5.drewN nq = W := ⟨_, rfl⟩
                  rw [hwr] at hownq hbq ⊢
                  clear hwr e1 e2 hownO hbO x2 x3 x4 y0 y1 y2 y3 y4 y5
                  have HRS : Hid (out ++ [setEv ⟨yu, yv, yw, yl, ys, yt⟩ t] ++ mrg t X' Y' = RES) := (show _ = _ by rw [← HRES.out, HM.out]; simp)
                  have HNN : Hid (no + 1 + (mx - 1) + (my - 1) ≤ 10000) := (show _ ≤ _ by have := HN.out; omega)
                  have hnn := HN.out
                  clear HM HRES HN
                  go_wp2_with fail
                  have hownd : wr.drew.ownsRow w2.heap.size 52 encEv.k (.slice ao no co) no (flatR encEv out) := hownq
                  have hbd : Below w2.heap.size w2 wr.drew := hbq.drew
                  have hown5A := hownd.alloc (.cells #[.int .i64 1, .int .i64 t, .int .i64 yu, .int .i64 yv, .int .i64 yw, .int .i64 yl, .int .i64 ys] 52)
                  have hlx5 := rows_lit1 (E := encEv) wr.drew (setEv ⟨yu, yv, yw, yl, ys, yt⟩ t) 52 #[.int .i64 1, .int .i64 t, .int .i64 yu, .int .i64 yv, .int .i64 yw, .int .i64 yl, .int .i64 ys] rfl
                  have hb5A := hbd.alloc hbd.size (.cells #[.int .i64 1, .int .i64 t, .int .i64 yu, .int .i64 yv, .int .i64 yw, .int .i64 yl, .int .i64 ys] 52)
                  go_region_held3 (fun w' => w'.cell? ⟨by', oy, none⟩ = some (.int .i64 yu) ∧ w'.cell? ⟨by', oy + 1, none⟩ = some (.int .i64 yv) ∧ w'.cell? ⟨by', oy + 2, none⟩ = some (.int .i64 yw) ∧ w'.cell? ⟨by', oy + 3, none⟩ = some (.int .i64 yl) ∧ w'.cell? ⟨by', oy + 4, none⟩ = some (.int .i64 ys) ∧ w'.cell? ⟨by', oy + 5, none⟩ = some (.int .i64 yt))
                    (first
                      | exact hcy.out _ hb6
                      | exact hcy.out _ hb5A
                      | exact hcy.out _ hbd)
                    (first
                      | (refine step_app_rows evRT rfl (.tmp 129) (.tmp 152) rfl w2.heap.size _ _ out [setEv ⟨yu, yv, yw, yl, ys, yt⟩ t] rfl (by rw [← HNO.out]; exact hown5A) rfl (by exact hlx5) (by rw [← HNO.out]; simp; omega) (by rw [← HNO.out]; simp; omega) (by exact hb5A.size) ?_; intro v6 w6 hown6 hg6; have hb6 := hb5A.grown hg6 hb5A.size (fun g e => (hown5A.lt g e).1)))
                  all_goals
                    have hl6 : (out ++ [setEv ⟨yu, yv, yw, yl, ys, yt⟩ t]).length = no + 1 := by rw [List.length_append, ← HNO.out]; rfl
                    rw [hl6] at hown6
                    obtain ⟨a6, c6, rfl⟩ := owns_shape hown6
                    have HNO6 : Hid (no + 1 = (out ++ [setEv ⟨yu, yv, yw, yl, ys, yt⟩ t]).length) := hl6.symm
                    clear hl6 hg6
                    go_wp2_with fail
                    go_roundw
                    case rel =>
                      first
                        | exact ⟨ax', (mx - 1), (cx - 1), X', ay', my - 1, cy - 1, Y', _, a6, no + 1, c6, rfl, rfl, rfl, hX', hY', hown6, HNO6, hb6, HNN, HRS⟩
                        | ((repeat apply Exists.intro); exact ⟨⟨ax', (mx - 1), (cx - 1), X', ay', my - 1, cy - 1, Y', _, a6, no + 1, c6, rfl, rfl, rfl, hX', hY', hown6, HNO6, hb6, HNN, HRS⟩, rfl⟩)
                    case measure => simp [lenV]; omega
                case pos =>
                by_cases hes : xs = ys
                case neg =>
                  have e1 : (xs == ys) = false := by simpa using hes
                  have e2 : decide (xs = ys) = false := by simpa using hes
                  rw [if_neg (by simp [sameA, hes])] at hmrg
                  have HM := Lib.hid hmrg
                  clear hmrg hes
                  subst xw
                  subst xl
                  go_quiet (fail)
                  have hownq := hownO.kept (grown_of_below ((Below.refl _ w5).drewN nq)) (Classical.em _)
                  have hbq := hbO.drewN nq
                  obtain ⟨wr, hwr⟩ : ∃ W : World, w5.drewN nq = W := ⟨_, rfl⟩
                  rw [hwr] at hownq hbq ⊢
                  clear hwr e1 e2 hownO hbO x2 x3 x4 y0 y1 y2 y3 y4 y5
                  have HRS : Hid (out ++ [setEv ⟨yu, yv, yw, yl, ys, yt⟩ t] ++ mrg t X' Y' = RES) := (show _ = _ by rw [← HRES.out, HM.out]; simp)
                  have HNN : Hid (no + 1 + (mx - 1) + (my - 1) ≤ 10000) := (show _ ≤ _ by have := HN.out; omega)
                  have hnn := HN.out
                  clear HM HRES HN
                  go_wp2_with fail
                  have hownd : wr.drew.ownsRow w2.heap.size 52 encEv.k (.slice ao no co) no (flatR encEv out) := hownq
                  have hbd : Below w2.heap.size w2 wr.drew := hbq.drew
                  have hown5A := hownd.alloc (.cells #[.int .i64 1, .int .i64 t, .int .i64 yu, .int .i64 yv, .int .i64 yw, .int .i64 yl, .int .i64 ys] 52)
                  have hlx5 := rows_lit1 (E := encEv) wr.drew (setEv ⟨yu, yv, yw, yl, ys, yt⟩ t) 52 #[.int .i64 1, .int .i64 t, .int .i64 yu, .int .i64 yv, .int .i64 yw, .int .i64 yl, .int .i64 ys] rfl
                  have hb5A := hbd.alloc hbd.size (.cells #[.int .i64 1, .int .i64 t, .int .i64 yu, .int .i64 yv, .int .i64 yw, .int .i64 yl, .int .i64 ys] 52)
                  go_region_held3 (fun w' => w'.cell? ⟨by', oy, none⟩ = some (.int .i64 yu) ∧ w'.cell? ⟨by', oy + 1, none⟩ = some (.int .i64 yv) ∧ w'.cell? ⟨by', oy + 2, none⟩ = some (.int .i64 yw) ∧ w'.cell? ⟨by', oy + 3, none⟩ = some (.int .i64 yl) ∧ w'.cell? ⟨by', oy + 4, none⟩ = some (.int .i64 ys) ∧ w'.cell? ⟨by', oy + 5, none⟩ = some (.int .i64 yt))
                    (first
                      | exact hcy.out _ hb6
                      | exact hcy.out _ hb5A
                      | exact hcy.out _ hbd)
                    (first
                      | (refine step_app_rows evRT rfl (.tmp 129) (.tmp 152) rfl w2.heap.size _ _ out [setEv ⟨yu, yv, yw, yl, ys, yt⟩ t] rfl (by rw [← HNO.out]; exact hown5A) rfl (by exact hlx5) (by rw [← HNO.out]; simp; omega) (by rw [← HNO.out]; simp; omega) (by exact hb5A.size) ?_; intro v6 w6 hown6 hg6; have hb6 := hb5A.grown hg6 hb5A.size (fun g e => (hown5A.lt g e).1)))
                  all_goals
                    have hl6 : (out ++ [setEv ⟨yu, yv, yw, yl, ys, yt⟩ t]).length = no + 1 := by rw [List.length_append, ← HNO.out]; rfl
                    rw [hl6] at hown6
                    obtain ⟨a6, c6, rfl⟩ := owns_shape hown6
                    have HNO6 : Hid (no + 1 = (out ++ [setEv ⟨yu, yv, yw, yl, ys, yt⟩ t]).length) := hl6.symm
                    clear hl6 hg6
                    go_wp2_with fail
                    go_roundw
                    case rel =>
                      first
                        | exact ⟨ax', (mx - 1), (cx - 1), X', ay', my - 1, cy - 1, Y', _, a6, no + 1, c6, rfl, rfl, rfl, hX', hY', hown6, HNO6, hb6, HNN, HRS⟩
                        | ((repeat apply Exists.intro); exact ⟨⟨ax', (mx - 1), (cx - 1), X', ay', my - 1, cy - 1, Y', _, a6, no + 1, c6, rfl, rfl, rfl, hX', hY', hown6, HNO6, hb6, HNN, HRS⟩, rfl⟩)
                    case measure => simp [lenV]; omega
                case pos =>
                  rw [if_pos (by simp [sameA, hew, hel, hes])] at hmrg
                  have HRS : Hid (out ++ mrg t X' Y' = RES) := (show _ = _ by rw [← HRES.out, hmrg])
                  have HNN : Hid (no + (mx - 1) + (my - 1) ≤ 10000) := (show _ ≤ _ by have := HN.out; omega)
                  subst xw
                  subst xl
                  subst xs
                  clear hmrg HRES HN
                  go_quiet (fail)
                  have hownq := hownO.kept (grown_of_below ((Below.refl _ w5).drewN nq)) (Classical.em _)
                  have hbq := hbO.drewN nq
                  clear hownO hbO x2 x3 x4 y0 y1 y2 y3 y4 y5 hcy
                  go_wp2_with fail
                  go_roundw
                  case rel =>
                    first
                      | exact ⟨ax', mx - 1, cx - 1, X', ay', my - 1, cy - 1, Y', out, ao, no, co, rfl, rfl, rfl, hX', hY', hownq, HNO, hbq, HNN, HRS⟩
                      | ((repeat apply Exists.intro); exact ⟨⟨ax', mx - 1, cx - 1, X', ay', my - 1, cy - 1, Y', out, ao, no, co, rfl, rfl, rfl, hX', hY', hownq, HNO, hbq, HNN, HRS⟩, rfl⟩)
                  case measure => simp [lenV]; omega
              · --CASE D
                have hz1 : (o == 0) = false := by simpa using hz
                have hz2 : decide (o = 0) = false := decide_eq_false hz
                have hns : ¬ sameE ⟨xu, xv, xw, xl, xs, xt⟩ ⟨yu, yv, yw, yl, ys, yt⟩ = true := fun h => hz (hzer.2 ((sameE_iff _ _).1 h))
                rw [if_neg hns] at hmrg
                have HM := Lib.hid hmrg
                clear hmrg hzer hns hz
                have xk := fun z : Ext wr.heap.size wr => hcx.out z.world (hbq.trans (z.below.mono hbq.size))
                have yk := fun z : Ext wr.heap.size wr => hcy.out z.world (hbq.trans (z.below.mono hbq.size))
                have xk0 := fun z => (xk z).1
                have xk1 := fun z => (xk z).2.1
                have xk2 := fun z => (xk z).2.2.1
                have xk3 := fun z => (xk z).2.2.2.1
                have xk4 := fun z => (xk z).2.2.2.2.1
                have xk5 := fun z => (xk z).2.2.2.2.2
                have yk0 := fun z => (yk z).1
                have yk1 := fun z => (yk z).2.1
                have yk2 := fun z => (yk z).2.2.1
                have yk3 := fun z => (yk z).2.2.2.1
                have yk4 := fun z => (yk z).2.2.2.2.1
                have yk5 := fun z => (yk z).2.2.2.2.2
                have hor := fun z : Ext wr.heap.size wr => HOR.out z.world
                clear xk yk
                refine wp_region_ext wr.heap.size wr (by kernel_rfl) (by kernel_rfl) (Below.refl _ _) ?_
                try simp only [List.append_eq, List.cons_append, List.nil_append]
                repeat (any_goals (go_big_quiet_step ((go_at_call 41; exact Calls.ext_of (Nat.le_refl _) (hor _)))))
                refine wpQuiet_nil ?_
                rintro wr ⟨⟨_, hqq⟩, rfl⟩
                have hownq := hownq.kept (grown_of_below hqq) (Classical.em _)
                have hbq := hbq.trans (hqq.mono hbq.size)
                clear xk0 xk1 xk2 xk3 xk4 xk5 yk0 yk1 yk2 yk3 yk4 yk5 hor hqq
                obtain ⟨XL, hXe⟩ : ∃ Y, (⟨xu, xv, xw, xl, xs, xt⟩ :: X' : List Lk) = Y := ⟨_, rfl⟩
                rw [hXe] at hX HM HRES
                obtain ⟨ax, haxe⟩ : ∃ a : Option Addr, some ⟨bx, ox, none⟩ = a := ⟨_, rfl⟩
                rw [haxe] at hX ⊢
                clear hXe haxe hslx hX' hcx HOR hlt hlt2 hz1 hz2 hmx3 hmx4 hmx5 hcapx
                have HRS : Hid (out ++ [setEv ⟨yu, yv, yw, yl, ys, yt⟩ t] ++ mrg t XL Y' = RES) := (show _ = _ by rw [← HRES.out, HM.out]; simp)
                have HNN : Hid (no + 1 + mx + (my - 1) ≤ 10000) := (show _ ≤ _ by have := HN.out; omega)
                have hnn := HN.out
                clear HM HRES HN
                go_wp2_with fail
                have hownd : wr.drew.ownsRow w2.heap.size 52 encEv.k (.slice ao no co) no (flatR encEv out) := hownq
                have hbd : Below w2.heap.size w2 wr.drew := hbq.drew
                have hown5A := hownd.alloc (.cells #[.int .i64 1, .int .i64 t, .int .i64 yu, .int .i64 yv, .int .i64 yw, .int .i64 yl, .int .i64 ys] 52)
                have hlx5 := rows_lit1 (E := encEv) wr.drew (setEv ⟨yu, yv, yw, yl, ys, yt⟩ t) 52 #[.int .i64 1, .int .i64 t, .int .i64 yu, .int .i64 yv, .int .i64 yw, .int .i64 yl, .int .i64 ys] rfl
                have hb5A := hbd.alloc hbd.size (.cells #[.int .i64 1, .int .i64 t, .int .i64 yu, .int .i64 yv, .int .i64 yw, .int .i64 yl, .int .i64 ys] 52)
                go_region_held3 (fun w' => w'.cell? ⟨by', oy, none⟩ = some (.int .i64 yu) ∧ w'.cell? ⟨by', oy + 1, none⟩ = some (.int .i64 yv) ∧ w'.cell? ⟨by', oy + 2, none⟩ = some (.int .i64 yw) ∧ w'.cell? ⟨by', oy + 3, none⟩ = some (.int .i64 yl) ∧ w'.cell? ⟨by', oy + 4, none⟩ = some (.int .i64 ys) ∧ w'.cell? ⟨by', oy + 5, none⟩ = some (.int .i64 yt))
                  (first
                    | exact hcy.out _ hb6
                    | exact hcy.out _ hb5A
                    | exact hcy.out _ hbd)
                  (first
                    | (refine step_app_rows evRT rfl (.tmp 129) (.tmp 152) rfl w2.heap.size _ _ out [setEv ⟨yu, yv, yw, yl, ys, yt⟩ t] rfl (by rw [← HNO.out]; exact hown5A) rfl (by exact hlx5) (by rw [← HNO.out]; simp; omega) (by rw [← HNO.out]; simp; omega) (by exact hb5A.size) ?_; intro v6 w6 hown6 hg6; have hb6 := hb5A.grown hg6 hb5A.size (fun g e => (hown5A.lt g e).1)))
                all_goals
                  have hl6 : (out ++ [setEv ⟨yu, yv, yw, yl, ys, yt⟩ t]).length = no + 1 := by rw [List.length_append, ← HNO.out]; rfl
                  rw [hl6] at hown6
                  obtain ⟨a6, c6, rfl⟩ := owns_shape hown6
                  have HNO6 : Hid (no + 1 = (out ++ [setEv ⟨yu, yv, yw, yl, ys, yt⟩ t]).length) := hl6.symm
                  clear hl6 hg6
                  go_wp2_with fail
                  go_roundw
                  case rel =>
                    first
                      | exact ⟨ax, mx, cx, XL, ay', my - 1, cy - 1, Y', _, a6, no + 1, c6, rfl, rfl, rfl, hX, hY', hown6, HNO6, hb6, HNN, HRS⟩
                      | ((repeat apply Exists.intro); exact ⟨⟨ax, mx, cx, XL, ay', my - 1, cy - 1, Y', _, a6, no + 1, c6, rfl, rfl, rfl, hX, hY', hown6, HNO6, hb6, HNN, HRS⟩, rfl⟩)
                  case measure => simp [lenV]; omega
          · --CASE A
            obtain rfl : my = 0 := by omega
            obtain rfl := hY.void rfl
            have HM := Lib.hid (show mrg t (⟨xu, xv, xw, xl, xs, xt⟩ :: X') [] = cutEv ⟨xu, xv, xw, xl, xs, xt⟩ t :: mrg t X' [] by rw [mrg])
            clear hmy
            go_upto_region 15 with fail
            obtain ⟨x0, x1, x2, x3, x4, x5⟩ := hcx.out _ hbq
            go_quiet (fail)
            clear x0 x1 x2 x3 x4 x5
            have hownq := hownq.kept (grown_of_below ((Below.refl _ wr).drewN nq)) (Classical.em _)
            have hbq := hbq.drewN nq
            obtain ⟨wr, hwr⟩ : ∃ W : World, wr.drewN nq = W := ⟨_, rfl⟩
            rw [hwr] at hownq hbq ⊢
            clear hwr
            have hg := fun W => gone_any ⟨xu, xv, xw, xl, xs, xt⟩ t W
            unfold cutEv Lk.cells Ev.cells at hg
            dsimp only at hg
            have hres : mrg t (⟨xu, xv, xw, xl, xs, xt⟩ :: X') ([]) = cutEv ⟨xu, xv, xw, xl, xs, xt⟩ t :: mrg t X' ([]) := HM.out
            have HRS : Hid (out ++ [cutEv ⟨xu, xv, xw, xl, xs, xt⟩ t] ++ mrg t X' ([]) = RES) := (show _ = _ by rw [← HRES.out, hres]; simp)
            have HNN : Hid (no + 1 + (mx - 1) + 0 ≤ 10000) := (show _ ≤ _ by have := HN.out; omega)
            have hnn := HN.out
            have hX'd := hX'
            clear hres HM HRES HN
            go_wp2_with fail
            have hownd : wr.drew.ownsRow w2.heap.size 52 encEv.k (.slice ao no co) no (flatR encEv out) := hownq
            have hbd : Below w2.heap.size w2 wr.drew := hbq.drew
            go_region_held3 (fun w' => w'.cell? ⟨bx, ox, none⟩ = some (.int .i64 xu) ∧ w'.cell? ⟨bx, ox + 1, none⟩ = some (.int .i64 xv) ∧ w'.cell? ⟨bx, ox + 2, none⟩ = some (.int .i64 xw) ∧ w'.cell? ⟨bx, ox + 3, none⟩ = some (.int .i64 xl) ∧ w'.cell? ⟨bx, ox + 4, none⟩ = some (.int .i64 xs) ∧ w'.cell? ⟨bx, ox + 5, none⟩ = some (.int .i64 xt))
              (first
                | exact hcx.out _ hb6
                | exact hcx.out _ hb5A
                | exact hcx.out _ hb5
                | exact hcx.out _ hbd)
              (first
                | (refine step_app_rows evRT rfl (.tmp 73) (.tmp 79) rfl w2.heap.size _ _ out [cutEv ⟨xu, xv, xw, xl, xs, xt⟩ t] rfl (by rw [← HNO.out]; exact hown5A) rfl (by exact hlx5) (by rw [← HNO.out]; simp; omega) (by rw [← HNO.out]; simp; omega) (by exact hb5A.size) ?_; intro v6 w6 hown6 hg6; have hb6 := hb5A.grown hg6 hb5A.size (fun g e => (hown5A.lt g e).1))
                | (go_at_call 42; (with_reducible refine (hg _).mono ?_); rintro e w5 ⟨rfl, hb5'⟩; have hb5 := hbd.trans (hb5'.mono hbd.size); have hown5A := (hownd.kept (grown_of_below hb5') (Classical.em _)).alloc (.cells #[.int .i64 2, .int .i64 t, .int .i64 xu, .int .i64 xv, .int .i64 0, .int .i64 0, .int .i64 0] 52); have hlx5 := rows_lit1 (E := encEv) w5 (cutEv ⟨xu, xv, xw, xl, xs, xt⟩ t) 52 #[.int .i64 2, .int .i64 t, .int .i64 xu, .int .i64 xv, .int .i64 0, .int .i64 0, .int .i64 0] rfl; have hb5A := hb5.alloc hb5.size (.cells #[.int .i64 2, .int .i64 t, .int .i64 xu, .int .i64 xv, .int .i64 0, .int .i64 0, .int .i64 0] 52)))
            all_goals
              have hl6 : (out ++ [cutEv ⟨xu, xv, xw, xl, xs, xt⟩ t]).length = no + 1 := by rw [List.length_append, ← HNO.out]; rfl
              rw [hl6] at hown6
              obtain ⟨a6, c6, rfl⟩ := owns_shape hown6
              have HNO6 : Hid (no + 1 = (out ++ [cutEv ⟨xu, xv, xw, xl, xs, xt⟩ t]).length) := hl6.symm
              clear hl6 hg6
              go_wp2_with fail
              go_roundw
              case rel =>
                first
                  | exact ⟨ax', mx - 1, cx - 1, X', ay, 0, cy, [], _, a6, no + 1, c6, rfl, rfl, rfl, hX', hY, hown6, HNO6, hb6, HNN, HRS⟩
                  | ((repeat apply Exists.intro); exact ⟨⟨ax', mx - 1, cx - 1, X', ay, 0, cy, [], _, a6, no + 1, c6, rfl, rfl, rfl, hX', hY, hown6, HNO6, hb6, HNN, HRS⟩, rfl⟩)
              case measure => simp [lenV]; omega
        · obtain rfl : mx = 0 := by omega
          obtain rfl := hX.void rfl
          clear hmx
          by_cases hmy : 0 < my
          · --CASE E
            obtain ⟨by', oy, y, Y', ay', rfl, rfl, hcapy, y0, y1, y2, y3, y4, y5, hsly, hY'⟩ := hY.cons hmy
            have hmy3 : (0 : Int) < my := by omega
            have hmy4 : (1 : Int) ≤ my := by omega
            have hmy5 : decide ((0 : Int) < my) = true := decide_eq_true hmy3
            have hmy6 : ((my : Int) == 0) = false := by simp; omega
            have hmy7 : decide (my = 0) = false := by simp; omega
            obtain ⟨yu, yv, yw, yl, ys, yt⟩ := y
            dsimp only at y0 y1 y2 y3 y4 y5
            have hcy : Hid (∀ W, Below w2.heap.size w2 W → W.cell? ⟨by', oy, none⟩ = some (.int .i64 yu) ∧ W.cell? ⟨by', oy + 1, none⟩ = some (.int .i64 yv) ∧ W.cell? ⟨by', oy + 2, none⟩ = some (.int .i64 yw) ∧ W.cell? ⟨by', oy + 3, none⟩ = some (.int .i64 yl) ∧ W.cell? ⟨by', oy + 4, none⟩ = some (.int .i64 ys) ∧ W.cell? ⟨by', oy + 5, none⟩ = some (.int .i64 yt)) := by
              show ∀ W, _ → _
              intro W hb
              exact ⟨(hb.cell (p := ⟨by', oy, none⟩) (cell_lt y0)).trans y0, (hb.cell (p := ⟨by', oy + 1, none⟩) (cell_lt y0)).trans y1, (hb.cell (p := ⟨by', oy + 2, none⟩) (cell_lt y0)).trans y2, (hb.cell (p := ⟨by', oy + 3, none⟩) (cell_lt y0)).trans y3, (hb.cell (p := ⟨by', oy + 4, none⟩) (cell_lt y0)).trans y4, (hb.cell (p := ⟨by', oy + 5, none⟩) (cell_lt y0)).trans y5⟩
            clear y0 y1 y2 y3 y4 y5
            have HM := Lib.hid (show mrg t [] (⟨yu, yv, yw, yl, ys, yt⟩ :: Y') = setEv ⟨yu, yv, yw, yl, ys, yt⟩ t :: mrg t [] Y' by rw [mrg])
            go_upto_region 15 with fail
            go_quiet (fail)
            have hownq := hownq.kept (grown_of_below ((Below.refl _ wr).drewN nq)) (Classical.em _)
            have hbq := hbq.drewN nq
            obtain ⟨wr, hwr⟩ : ∃ W : World, wr.drewN nq = W := ⟨_, rfl⟩
            rw [hwr] at hownq hbq ⊢
            clear hwr
            go_wp2_with fail
            go_quiet (fail)
            have hownq := hownq.kept (grown_of_below ((Below.refl _ wr).drewN nq)) (Classical.em _)
            have hbq := hbq.drewN nq
            obtain ⟨wr, hwr⟩ : ∃ W : World, wr.drewN nq = W := ⟨_, rfl⟩
            rw [hwr] at hownq hbq ⊢
            clear hwr
            have HRS : Hid (out ++ [setEv ⟨yu, yv, yw, yl, ys, yt⟩ t] ++ mrg t [] Y' = RES) := (show _ = _ by rw [← HRES.out, HM.out]; simp)
            have HNN : Hid (no + 1 + 0 + (my - 1) ≤ 10000) := (show _ ≤ _ by have := HN.out; omega)
            have hnn := HN.out
            clear HM HRES HN
            go_wp2_with fail
            have hownd : wr.drew.ownsRow w2.heap.size 52 encEv.k (.slice ao no co) no (flatR encEv out) := hownq
            have hbd : Below w2.heap.size w2 wr.drew := hbq.drew
            have hown5A := hownd.alloc (.cells #[.int .i64 1, .int .i64 t, .int .i64 yu, .int .i64 yv, .int .i64 yw, .int .i64 yl, .int .i64 ys] 52)
            have hlx5 := rows_lit1 (E := encEv) wr.drew (setEv ⟨yu, yv, yw, yl, ys, yt⟩ t) 52 #[.int .i64 1, .int .i64 t, .int .i64 yu, .int .i64 yv, .int .i64 yw, .int .i64 yl, .int .i64 ys] rfl
            have hb5A := hbd.alloc hbd.size (.cells #[.int .i64 1, .int .i64 t, .int .i64 yu, .int .i64 yv, .int .i64 yw, .int .i64 yl, .int .i64 ys] 52)
            go_region_held3 (fun w' => w'.cell? ⟨by', oy, none⟩ = some (.int .i64 yu) ∧ w'.cell? ⟨by', oy + 1, none⟩ = some (.int .i64 yv) ∧ w'.cell? ⟨by', oy + 2, none⟩ = some (.int .i64 yw) ∧ w'.cell? ⟨by', oy + 3, none⟩ = some (.int .i64 yl) ∧ w'.cell? ⟨by', oy + 4, none⟩ = some (.int .i64 ys) ∧ w'.cell? ⟨by', oy + 5, none⟩ = some (.int .i64 yt))
              (first
                | exact hcy.out _ hb6
                | exact hcy.out _ hb5A
                | exact hcy.out _ hbd)
              (first
                | (refine step_app_rows evRT rfl (.tmp 129) (.tmp 152) rfl w2.heap.size _ _ out [setEv ⟨yu, yv, yw, yl, ys, yt⟩ t] rfl (by rw [← HNO.out]; exact hown5A) rfl (by exact hlx5) (by rw [← HNO.out]; simp; omega) (by rw [← HNO.out]; simp; omega) (by exact hb5A.size) ?_; intro v6 w6 hown6 hg6; have hb6 := hb5A.grown hg6 hb5A.size (fun g e => (hown5A.lt g e).1)))
            all_goals
              have hl6 : (out ++ [setEv ⟨yu, yv, yw, yl, ys, yt⟩ t]).length = no + 1 := by rw [List.length_append, ← HNO.out]; rfl
              rw [hl6] at hown6
              obtain ⟨a6, c6, rfl⟩ := owns_shape hown6
              have HNO6 : Hid (no + 1 = (out ++ [setEv ⟨yu, yv, yw, yl, ys, yt⟩ t]).length) := hl6.symm
              clear hl6 hg6
              go_wp2_with fail
              go_roundw
              case rel =>
                first
                  | exact ⟨ax, 0, cx, [], ay', my - 1, cy - 1, Y', _, a6, no + 1, c6, rfl, rfl, rfl, hX, hY', hown6, HNO6, hb6, HNN, HRS⟩
                  | ((repeat apply Exists.intro); exact ⟨⟨ax, 0, cx, [], ay', my - 1, cy - 1, Y', _, a6, no + 1, c6, rfl, rfl, rfl, hX, hY', hown6, HNO6, hb6, HNN, HRS⟩, rfl⟩)
              case measure => simp [lenV]; omega
          · --CASE F
            obtain rfl : my = 0 := by omega
            obtain rfl := hY.void rfl
            have hres : out = RES := by have := HRES.out; rw [mrg, List.append_nil] at this; exact this
            have hnn := HN.out
            subst hres
            clear HRES hmy HN
            have hno := HNO.out
            subst hno
            obtain ⟨a5, c5, hv5, hr5, -⟩ := RowAt.of_owns hownq (by omega)
            cases hv5
            go_wp2_with fail
            go_ret2
            rw [HRR.out]
            exact ⟨_, _, rfl, hr5, hb02.trans (hbq.mono hb02.size)⟩
      --LOOP>
end Go.Proofs.Ytpblaoeaeljmhaa
