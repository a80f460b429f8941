/- The walk of the program's solving of copies, and that it undoes the copies. -/
import Derived.Test.YtdiackininlmeaaDoorPatSolve
namespace Go.Proofs.YtdiackininlmeaaDoor
open Go.RowKit Go.BigFrame

set_option maxRecDepth 100000 in
theorem mat_low : ∀ a, a < 11 → (∀ b, b < a → matS a b = 0) ∧ matS a a = 1 := by decide +kernel
theorem dot_low (x : List Int) (a : Nat) (ha : a < 11) : ∀ k, k ≤ a → dotS (matV (wAll 11) a) x k = 0 := by
  intro k
  induction k with
  | zero => intro _; rfl
  | succ k ih =>
    intro hk
    have h := (mat_low a ha).1 k (by omega)
    unfold matS at h
    rw [dotS, ih (by omega), h]
    simp
theorem dot_par (x : List Int) (a : Nat) (ha : a < 11) : ∀ k, dotS (matV (wAll 11) a) x (a + 1 + k) = x.getD a 0 + parS x a k := by
  intro k
  induction k with
  | zero =>
    have h := (mat_low a ha).2
    unfold matS at h
    rw [Nat.add_zero, dotS, dot_low x a ha a (Nat.le_refl _), h, parS]
    simp
  | succ k ih =>
    show dotS (matV (wAll 11) a) x (a + 1 + k + 1) = _
    rw [dotS, ih, parS]
    unfold matS
    omega
theorem par_congr (l x : List Int) (a : Nat) : ∀ k, (∀ j, j < k → l.getD (a + 1 + j) 0 = x.getD (a + 1 + j) 0) → parS l a k = parS x a k := by
  intro k
  induction k with
  | zero => intro _; rfl
  | succ k ih => intro h; rw [parS, parS, ih (fun j hj => h j (by omega)), h k (by omega)]
theorem cop_get (x : List Int) (i : Nat) (hi : i < 11) : (copS x).getD i 0 = dotS (matV (wAll 11) i) x 11 := by
  rw [List.getD_eq_getElem?_getD, copS, copV_get _ _ _ _ hi, if_pos hi]; rfl
theorem undo (x : List Int) : ∀ p, p ≤ 11 → ∀ i, i < 11 → (outS (copS x) p).getD i 0 = if i + p < 11 then (copS x).getD i 0 else x.getD i 0 := by
  intro p
  induction p with
  | zero => intro _ i hi; rw [if_pos (by omega)]; rfl
  | succ p ih =>
    intro hp i hi
    have h := ih (by omega)
    rw [outS]
    by_cases hip : i = 10 - p
    · subst hip
      rw [if_neg (by omega), inS_self _ _ (by rw [outS_length, copS, copV_length]; omega), h _ (by omega), if_pos (by omega), cop_get _ _ (by omega)]
      have h11 : 11 = 10 - p + 1 + p := by omega
      rw [show dotS (matV (wAll 11) (10 - p)) x 11 = dotS (matV (wAll 11) (10 - p)) x (10 - p + 1 + p) from congrArg _ h11, dot_par x _ (by omega)]
      rw [par_congr (outS (copS x) p) x _ p (fun j hj => by rw [h _ (by omega), if_neg (by omega)])]
      omega
    · rw [inS_other _ _ _ _ hip, h i hi]
      by_cases h2 : i + p < 11
      · rw [if_pos h2, if_pos (by omega)]
      · rw [if_neg h2, if_neg (by omega)]
theorem sol_cop (x : List Int) (hx : x.length = 11) : solS (copS x) = x := by
  apply List.ext_getElem?
  intro i
  by_cases hi : i < 11
  · have h := undo x 11 (Nat.le_refl _) i hi
    rw [if_neg (by omega)] at h
    have hl : (solS (copS x)).length = 11 := by rw [solS, outS_length, copS, copV_length]
    rw [List.getD_eq_getElem?_getD, List.getD_eq_getElem?_getD, List.getElem?_eq_getElem (by rw [outS_length, copS, copV_length]; exact hi), List.getElem?_eq_getElem (by omega)] at h
    rw [List.getElem?_eq_getElem (by omega), List.getElem?_eq_getElem (by omega)]
    exact congrArg some h
  · rw [List.getElem?_eq_none (by rw [solS, outS_length, copS, copV_length]; omega), List.getElem?_eq_none (by omega)]

set_option maxRecDepth 100000 in
set_option maxHeartbeats 1600000 in
theorem solve_ok (a : Option Addr) (cap : Nat) (xs : List Int) (w : World) (hi : IntsAt w (.slice a xs.length cap) xs) (hl : xs.length = 11) (hf : xs.any farB = false) (ht : TabsAt w) :
    Calls Tryd.prog 40 #[.slice a xs.length cap] w fun e w' => ∃ a' cap', e = .returned (.tuple #[.slice a' xs.length cap', .bool true]) ∧ IntsAt w' (.slice a' xs.length cap') (solS xs) ∧ Below w.heap.size w w' := by
  have hl1 : ((xs.length : Int) == 11) = true := by rw [hl]; rfl
  have hl2 : (xs.length == 11) = true := by rw [hl]; rfl
  have hl3 : xs.length ≤ 11 := by omega
  have hl4 : 11 ≤ xs.length := by omega
  have HL := Lib.hid hl
  clear hl
  go_enter Tryd.func40, Tryd.ntmps40
  go_wp2_with fail
  refine (confunc_any _ _ xs _ hi).mono ?_
  rintro e w0 ⟨rfl, rfl⟩
  rw [hf]
  go_wp2_with fail
  refine (within_any _ ht).mono ?_
  rintro e w2 ⟨G, rfl, hM2, hG2, hb2⟩
  go_wp2_with fail
  refine (clone_any _ _ xs _ (hi.below hb2) (by omega) (by omega)).mono ?_
  rintro e w3 ⟨g, cap3, rfl, hc3, hT3, hg3, hb3⟩
  have hb03 := hb2.trans (hb3.mono hb2.size)
  have hM3 := hM2.below hb3
  have hgG : G + 1 + 10 < g := Nat.lt_of_lt_of_le (blk_lt (hM2.2 10 (by omega))) hg3
  have hwg : w.heap.size ≤ g := Nat.le_trans hb2.size hg3
  clear hM2 hb2 hb3
  have HI := Lib.hid hi
  clear hi ht
  go_wp2_with fail
  go_loopw [6] (fun i wr => ∃ (p : Nat) (z : Int), p ≤ 11 ∧ z = 10 - p ∧ i = .int .i64 z ∧ Below g w3 wr ∧ TailAt wr g (outS xs p)) (fun i _ => ((intOf i) + 1).toNat)
  case atStart => exact ⟨0, _, by omega, rfl, rfl, Below.refl _ _, hT3⟩
  case round =>
    clear hT3
    obtain ⟨p, z, hp, hz, rfl, hb, hT⟩ := hrel
    by_cases hlt : p < 11
    · obtain ⟨q, rfl⟩ : ∃ q : Nat, z = q := ⟨z.toNat, by omega⟩
      have hq : 10 - p = q := by omega
      have HO : Hid (outS xs (p + 1) = inS (outS xs p) q p) := by show _ = _; rw [outS, hq]
      have hq11 : q < 11 := by omega
      have hfit := fit_out HL.out hf p (by omega)
      have hol := (outS_length xs p).trans HL.out
      have HZ := Lib.hid hz
      have HQ := Lib.hid hq
      clear hz hq
      go_wp2_with fail
      obtain ⟨wo, rfl⟩ : ∃ wo : World, wo = wr := ⟨_, rfl⟩
      go_loopw [7] (fun i wr => ∃ (k : Nat) (z : Int), k ≤ p ∧ z = q + 1 + k ∧ i = .int .i64 z ∧ Below g w3 wr ∧ TailAt wr g (inS (outS xs p) q k)) (fun i _ => 11 - (intOf i).toNat)
      case atStart => exact ⟨0, (q : Int) + 1, by omega, by omega, by go_num, hb, hT⟩
      case round =>
        clear hb hT
        obtain ⟨k, z, hk, hz2, rfl, hb, hT⟩ := hrel
        obtain ⟨b, rfl⟩ : ∃ b : Nat, z = b := ⟨z.toNat, by omega⟩
        have hb1 : b = q + 1 + k := by omega
        have HB := Lib.hid hb1
        clear hz2
        by_cases hltk : k < p
        · have hq := HQ.out
          have hdb : decide ((b : Int) < 11) = true := by simp; omega
          have hb11 : b < 11 := by omega
          have hM : MatAt wr G (wAll 11) := ⟨(hb.block G (by omega)).trans hM3.1, fun a ha => (hb.block _ (by omega)).trans (hM3.2 a ha)⟩
          have m0 : wr.cell? ⟨G, q, none⟩ = some (.slice (some ⟨G + 1 + q, 0, none⟩) 11 11) := (cell_blk hM.1).trans (rowsA_get _ _ _ hq11 hq11)
          have hx := mat_small q hq11 b hb11
          have m1 : wr.cell? ⟨G + 1 + q, b, none⟩ = some (.int .i64 (matS q b)) := by
            rw [cell_blk (hM.2 q hq11)]; unfold matS; rw [mat_at q b hb11]; simp [intsV, matV_get _ _ b hb11]
          have hil := (inS_length (outS xs p) q k).trans hol
          have n0 := hT.cell q ((inS (outS xs p) q k).getD q 0) (by rw [List.getD_eq_getElem?_getD, List.getElem?_eq_getElem (by omega)]; rfl)
          have n2 := hT.cell b ((inS (outS xs p) q k).getD b 0) (by rw [List.getD_eq_getElem?_getD, List.getElem?_eq_getElem (by omega)]; rfl)
          have n1 := hT.free q
          have hbd1 := in_bd hlt hol hfit k (by omega)
          have hbd2 := in_bd hlt hol hfit (k + 1) (by omega)
          rw [hq] at hbd1 hbd2
          have e2 : (inS (outS xs p) q (k + 1)).getD q 0 = (inS (outS xs p) q k).getD q 0 - matS q b * (inS (outS xs p) q k).getD b 0 := by
            rw [inS, stepS, List.getD_eq_getElem?_getD, List.getElem?_set_self (by omega), ← hb1]; rfl
          have e3 : inS (outS xs p) q (k + 1) = (inS (outS xs p) q k).set q ((inS (outS xs p) q k).getD q 0 - matS q b * (inS (outS xs p) q k).getD b 0) := by rw [inS, stepS, ← hb1]
          rw [e2] at hbd2
          have hq3 : bdS q ≤ 5960452534173696 := bdS_le q
          have HN := Lib.hid (hT.set q ((inS (outS xs p) q k).getD q 0 - matS q b * (inS (outS xs p) q k).getD b 0) (by omega))
          have HS := Lib.hid e3
          have hz3 := hT.lt
          clear hT e2 e3 hfit hq hb1
          generalize bdS q = B at *
          generalize (inS (outS xs p) q k).getD q 0 = u at *
          generalize (inS (outS xs p) q k).getD b 0 = v at *
          generalize matS q b = x at *
          have hw1 : IntKind.i64.wrap (x * v) = x * v := IntWalk.i64_in _ (by omega)
          have hw2 : IntKind.i64.wrap (u - x * v) = u - x * v := IntWalk.i64_in _ (by omega)
          clear hbd1 hbd2
          go_wp2_with fail
          go_region
          go_wp2_with fail
          go_roundw
          case rel => exact ⟨k + 1, (b : Int) + 1, by omega, by have := HB.out; omega, by go_num, (hb.setCell (p := ⟨g, q, none⟩) (Nat.le_refl _) _).drew, by rw [HS.out]; exact HN.out⟩
          case measure => simp [intOf]; omega
        · have hdb : decide ((b : Int) < 11) = false := by have := HZ.out; simp; omega
          have hkp : k = p := by omega
          have HK := Lib.hid hkp
          clear hkp hb1
          go_wp2_with fail
          go_roundw
          case rel => exact ⟨p + 1, (q : Int) - 1, by omega, by have := HZ.out; omega, by go_num, hb, by rw [HO.out]; rw [HK.out] at hT; exact hT⟩
          case measure => simp [intOf]
    · obtain rfl : p = 11 := by omega
      obtain rfl : z = -1 := by omega
      go_wp2_with fail
      go_ret2
      have hl := (outS_length xs 11)
      have hii := hT.ints (by rw [hl]; omega) (by rw [hl]; exact hc3)
      rw [hl] at hii
      exact ⟨_, _, rfl, hii, hb03.trans (hb.mono hwg)⟩
end Go.Proofs.YtdiackininlmeaaDoor
