/- The contracts of the copies of any graph, in the program and in the reference. The contracts of solving of any numbers, in the program and in the reference. -/
import Derived.Test.YtbkacbbhiecnkaaDoorRef32Ind
import Derived.Test.YtbkacbbhiecnkaaDoorRef32Within
import Derived.Test.YtbkacbbhiecnkaaDoorPatSolve
namespace Go.Proofs.YtbkacbbhiecnkaaDoor
open Go.RowKit Go.BigFrame

def copX (n : Int) (es : List E2) : List Int × Int := if checkS n es ≠ 0 then ([], checkS n es) else (copS (indS es n.toNat), 0)
set_option maxRecDepth 100000 in
set_option maxHeartbeats 1600000 in
theorem pcopies32_any (n : Int) (a : Option Addr) (cap : Nat) (es : List E2) (w : World) (he : EdgesAt w (.slice a es.length cap) es) (ht : TabsAt w) :
    Calls Tryd.prog 19 #[.agg #[.int .i64 n, .slice a es.length cap]] w (ErrPost w (copX n es)) := by
  have hb0 : Below w.heap.size w (w.alloc (.cells #[.int .i64 n, .slice a es.length cap] 27)) := (Below.refl _ _).alloc (Nat.le_refl _) _
  by_cases hC : checkS n es = 0
  case neg =>
    have hin := fun W h ht => pinduced_any n a cap es W h ht
    unfold indX at hin
    unfold ErrPost copX
    rw [if_pos hC] at hin ⊢
    obtain ⟨C, hCC⟩ : ∃ C, checkS n es = C := ⟨_, rfl⟩
    rw [hCC] at hin hC ⊢
    have d1 : (C != 0) = true := by simpa using hC
    have d2 : (C == 0) = false := by simpa using hC
    clear hC hCC
    go_enter Tryd.func19, Tryd.ntmps19
    go_wp2_with fail
    refine (hin _ (he.below hb0) (ht.below hb0)).mono ?_
    rintro e w1 ⟨a1, c1, rfl, -, hb1⟩
    go_wp2_with fail
    go_ret2
    exact ⟨none, 0, rfl, ints_none _, hb0.trans (hb1.mono hb0.size)⟩
  have hv := (valid_iff n es).1 hC
  unfold ErrPost copX
  rw [if_neg (by simpa using hC)]
  obtain ⟨n, rfl⟩ := Int.eq_ofNat_of_zero_le hv.1
  rw [Int.toNat_natCast]
  exact copies_any n a cap es w he hv ht
set_option maxRecDepth 100000 in
set_option maxHeartbeats 3200000 in
theorem rcopies32_any (n : Int) (a : Option Addr) (cap : Nat) (es : List E2) (w : World) (he : EdgesAt w (.slice a es.length cap) es) (hn : checkS n es = 0 → n ≤ 20) :
    Calls Tryd.prog 41 #[.agg #[.int .i64 n, .slice a es.length cap]] w (ErrPost w (copX n es)) := by
  have hbd0 : Below w.heap.size w (w.alloc (.cells #[.int .i64 n, .slice a es.length cap] 27)) := (Below.refl _ _).alloc (Nat.le_refl _) _
  have hin := fun W h => rinduced_any n a cap es W h hn
  unfold indX at hin
  unfold ErrPost copX
  by_cases hC : checkS n es = 0
  case neg =>
    rw [if_pos hC] at hin ⊢
    obtain ⟨C, hCC⟩ : ∃ C, checkS n es = C := ⟨_, rfl⟩
    rw [hCC] at hin hC ⊢
    have d1 : (C != 0) = true := by simpa using hC
    have d2 : (C == 0) = false := by simpa using hC
    clear hC hCC hn
    go_enter Tryd.func41, Tryd.ntmps41
    go_wp2_with fail
    refine (hin _ (he.below hbd0)).mono ?_
    rintro e w1 ⟨a1, c1, rfl, -, hb1⟩
    go_wp2_with fail
    go_ret2
    exact ⟨none, 0, rfl, ints_none _, hbd0.trans (hb1.mono hbd0.size)⟩
  have hv := (valid_iff n es).1 hC
  have hn20 := hn hC
  rw [if_neg (by simpa using hC)] at hin ⊢
  obtain ⟨n, rfl⟩ := Int.eq_ofNat_of_zero_le hv.1
  rw [Int.toNat_natCast] at hin ⊢
  have hil := indS_length es n
  have hib := indS_bd es n (by omega)
  obtain ⟨l, hl⟩ : ∃ l, indS es n = l := ⟨_, rfl⟩
  rw [hl] at hil hib hin ⊢
  have hil1 : l.length ≤ 11 := by omega
  have hil2 : 11 ≤ l.length := by omega
  have HIL := Lib.hid hil
  have HIB := Lib.hid hib
  clear hil hib hC hn hl hn20
  go_enter Tryd.func41, Tryd.ntmps41
  go_wp2_with fail
  refine (hin _ (he.below hbd0)).mono ?_
  rintro e w1 ⟨a1, cap1, rfl, hi1, hb1⟩
  have hb01 := hbd0.trans (hb1.mono hbd0.size)
  clear hb1 hbd0
  go_wp2_with fail
  refine (rwithin_any _).mono ?_
  rintro e w2 ⟨G, co, fs, rfl, hf, hr2, hM2⟩
  have hb2 := hM2.bel
  have hb02 := hb01.trans (hb2.mono hb01.size)
  have hi2 := hi1.below hb2
  have hmk := make11
  have HF := Lib.hid hf
  clear hb2 hi1 hf hb01
  go_wp2_with fail
  clear hmk
  have hbx : Below w2.heap.size w2 (w2.alloc (.cells (intsV (cntV [])).toArray 3)) := (Below.refl _ _).alloc (Nat.le_refl _) _
  have hN0 : NumAt (w2.alloc (.cells (intsV (cntV [])).toArray 3)) w2.heap.size (copV l 0 0) := by rw [copV_zero]; exact heap_alloc_new _ _
  have hwg : w.heap.size ≤ w2.heap.size := hb02.size
  go_loopw [8] (fun i wr => ∃ p : Nat, p ≤ 11 ∧ i = .int .i64 p ∧ Below w2.heap.size w2 wr ∧ NumAt wr w2.heap.size (copV l p 0)) (fun i _ => 11 - (intOf i).toNat)
  case atStart => exact ⟨0, by omega, rfl, hbx, hN0⟩
  case round =>
    clear hN0 hbx
    obtain ⟨p, hp, rfl, hb, hN⟩ := hrel
    by_cases hlt : p < 11
    · have hdp : decide ((p : Int) < 11) = true := by simp; omega
      have hdp2 : decide (p < 11) = true := by simpa using hlt
      go_wp2_with fail
      obtain ⟨wo, rfl⟩ : ∃ wo : World, wo = wr := ⟨_, rfl⟩
      go_loopw [9] (fun i wr => ∃ k : Nat, k ≤ 11 ∧ i = .int .i64 k ∧ Below w2.heap.size w2 wr ∧ NumAt wr w2.heap.size (copV l p k)) (fun i _ => 11 - (intOf i).toNat)
      case atStart => exact ⟨0, by omega, rfl, hb, hN⟩
      case round =>
        clear hb hN
        obtain ⟨k, hk, rfl, hb, hN⟩ := hrel
        by_cases hltk : k < 11
        · have hdk : decide ((k : Int) < 11) = true := by simp; omega
          have hdk2 : decide (k < 11) = true := by simpa using hltk
          obtain ⟨b, off, y, rfl, hy, _, _, c0⟩ := (hi2.below hb).at k (by omega)
          have hM := hM2.below hb
          have hr := hr2.below hb
          have hr' := hr
          rw [← HF.out] at hr'
          obtain ⟨b0, o0, g, e9, hg, hcap, hat⟩ := hr'.elem p (by rw [HF.out]; omega)
          cases e9
          have m0 : wr.cell? ⟨G, p, none⟩ = some (.slice (some ⟨g, 0, none⟩) 11 11) := by have h := hat 0 _ rfl; simpa [encS] using h
          have hx := mat_le p k (by omega)
          have m1 : wr.cell? ⟨g, k, none⟩ = some (.int .i64 ((matV (wAll 11) p).getD k 0)) := by
            refine NumAt.cell (hM.row p g hg).1 k _ ?_
            rw [wAllR_eq p hlt, mat_at p k (by omega)]; exact matV_get _ _ k (by omega)
          have hyl : l.getD k 0 = y := by rw [List.getD_eq_getElem?_getD, hy]; rfl
          have hyb := HIB.out k
          rw [hyl] at hyb
          have hxy := mul_bd hx hyb
          have hd := dotS_bd p l HIB.out k (by omega)
          have n0 : wr.cell? ⟨w2.heap.size, p, none⟩ = some (.int .i64 (dotS (matV (wAll 11) p) l k)) := hN.cell p _ (by rw [copV_get _ _ _ _ hlt, if_neg (by omega), if_pos rfl])
          have n1 : wr.frozen? ⟨w2.heap.size, p, none⟩ = false := free_blk hN
          have HD : Hid (dotS (matV (wAll 11) p) l (k + 1) = dotS (matV (wAll 11) p) l k + (matV (wAll 11) p).getD k 0 * y) := by show _ = _; rw [dotS, hyl]
          have HS := Lib.hid (copV_step l p k hlt)
          have HN := Lib.hid hN
          have hz2 : w2.heap.size < wr.heap.size := blk_lt hN
          clear hy hyl hN hM hr hr' hat hg hcap
          generalize (matV (wAll 11) p).getD k 0 = x at *
          generalize dotS (matV (wAll 11) p) l k = dk at *
          have hw1 : IntKind.i64.wrap (x * y) = x * y := IntWalk.i64_in _ (by omega)
          have hw2 : IntKind.i64.wrap (dk + x * y) = dk + x * y := IntWalk.i64_in _ (by omega)
          go_wp2_with fail
          go_region
          go_wp2_with fail
          go_roundw
          case rel => exact ⟨k + 1, by omega, by go_num, (hb.setCell (p := ⟨w2.heap.size, p, none⟩) (Nat.le_refl _) _).drew, by rw [← HS.out, HD.out]; exact HN.out.set p _⟩
          case measure => simp [intOf]; omega
        · obtain rfl : k = 11 := by omega
          go_wp2_with fail
          go_roundw
          case rel => exact ⟨p + 1, by omega, by go_num, hb, by rw [← copV_next]; exact hN⟩
          case measure => simp [intOf]; omega
    · obtain rfl : p = 11 := by omega
      have hi := hN.ints (by rw [copV_length]; omega)
      have hcl := copV_length l 11 0
      go_wp2_with fail
      go_ret2
      refine ⟨_, _, ?_, hi, hb02.trans (hb.mono hwg)⟩
      rw [copS, hcl]
      rfl
end Go.Proofs.YtbkacbbhiecnkaaDoor

namespace Go.Proofs.YtbkacbbhiecnkaaDoor
open Go.RowKit Go.BigFrame

def SolPost (w : World) (r : List Int × Bool) (e : Ending) (w' : World) : Prop := ∃ a c, e = .returned (.tuple #[.slice a r.1.length c, .bool r.2]) ∧ IntsAt w' (.slice a r.1.length c) r.1 ∧ Below w.heap.size w w'
def solX (c : List Int) : List Int × Bool := if c.length ≠ 11 then ([], false) else if c.any farB then ([], false) else (solS c, true)
set_option maxRecDepth 100000 in
set_option maxHeartbeats 1600000 in
theorem psolve_any (a : Option Addr) (cap : Nat) (xs : List Int) (w : World) (hi : IntsAt w (.slice a xs.length cap) xs) (ht : TabsAt w) :
    Calls Tryd.prog 43 #[.slice a xs.length cap] w (SolPost w (solX xs)) := by
  have hsm : xs.length ≤ 70368744177664 := by obtain ⟨_, _, hv, _, _, hl, _⟩ := hi; exact hl
  unfold SolPost solX
  by_cases hl : xs.length = 11
  case neg =>
    rw [if_pos hl]
    have d1 : ((xs.length : Int) == 11) = false := by simp; omega
    have d2 : (xs.length == 11) = false := by simpa using hl
    have d3 : ((xs.length : Int) != 11) = true := by simp; omega
    clear hl
    go_enter Tryd.func43, Tryd.ntmps43
    go_wp2_with fail
    go_ret2
    exact ⟨none, 0, rfl, ints_none _, Below.refl _ _⟩
  rw [if_neg (by simpa using hl)]
  cases hf : xs.any farB
  · rw [if_neg (by simp)]
    have hso := solve_ok a cap xs w hi hl hf ht
    have hsl : (solS xs).length = xs.length := outS_length xs 11
    generalize solS xs = s at hso hsl ⊢
    refine hso.mono ?_
    rintro e w' ⟨a', c', rfl, hi', hb⟩
    exact ⟨a', c', by rw [hsl], by rw [hsl]; exact hi', hb⟩
  · rw [if_pos rfl]
    have hl1 : ((xs.length : Int) == 11) = true := by rw [hl]; rfl
    have hl2 : (xs.length == 11) = true := by rw [hl]; rfl
    have hl5 : ((xs.length : Int) != 11) = false := by rw [hl]; rfl
    clear hl
    go_enter Tryd.func43, Tryd.ntmps43
    go_wp2_with fail
    refine (confunc_any _ _ xs _ hi).mono ?_
    rintro e w0 ⟨rfl, rfl⟩
    rw [hf]
    go_wp2_with fail
    go_ret2
    exact ⟨none, 0, rfl, ints_none _, Below.refl _ _⟩

/-- what the reference has solved behind p rounds -/
def routS (c : List Int) (p : Nat) : List Int := (List.range 11).map fun i => if i + p < 11 then 0 else (outS c p).getD i 0
theorem routS_length (c : List Int) (p : Nat) : (routS c p).length = 11 := by simp [routS]
theorem routS_get (c : List Int) (p i : Nat) (hi : i < 11) : (routS c p)[i]? = some (if i + p < 11 then 0 else (outS c p).getD i 0) := by simp [routS, hi]
theorem routS_zero (c : List Int) : routS c 0 = cntV [] := by
  apply List.ext_getElem?
  intro j
  by_cases hj : j < 11
  · rw [routS_get _ _ _ hj, cntV_get _ _ hj, if_pos (by omega)]; simp
  · rw [List.getElem?_eq_none (by rw [routS_length]; omega), List.getElem?_eq_none (by rw [cntV_length]; omega)]
theorem routS_end (c : List Int) (hl : c.length = 11) : routS c 11 = solS c := by
  have hs : (solS c).length = 11 := by rw [solS, outS_length, hl]
  apply List.ext_getElem?
  intro j
  by_cases hj : j < 11
  · rw [routS_get _ _ _ hj, if_neg (by omega), ← solS, List.getD_eq_getElem?_getD, List.getElem?_eq_getElem (by omega)]; rfl
  · rw [List.getElem?_eq_none (by rw [routS_length]; omega), List.getElem?_eq_none (by omega)]
theorem routS_step (c : List Int) (p : Nat) (hp : p < 11) : (routS c p).set (10 - p) ((inS (outS c p) (10 - p) p).getD (10 - p) 0) = routS c (p + 1) := by
  apply List.ext_getElem?
  intro j
  by_cases hj : j < 11
  · rw [List.getElem?_set, routS_get _ _ _ hj, routS_get _ _ _ hj, routS_length, outS]
    by_cases h : 10 - p = j
    · rw [if_pos h, if_pos (by omega), if_neg (by omega), h]
    · rw [if_neg h, inS_other _ _ _ _ (Ne.symm h)]
      by_cases h2 : j + p < 11
      · rw [if_pos h2, if_pos (by omega)]
      · rw [if_neg h2, if_neg (by omega)]
  · rw [List.getElem?_eq_none (by rw [List.length_set, routS_length]; omega), List.getElem?_eq_none (by rw [routS_length]; omega)]
/-- the number of a kind, when some others are taken away -/
def nS (c : List Int) (p k : Nat) : Int := (inS (outS c p) (10 - p) (k - (11 - p))).getD (10 - p) 0
theorem nS_low (c : List Int) (p k : Nat) (h : k ≤ 10 - p) (hp : p < 11) : nS c p (k + 1) = nS c p k := by
  unfold nS
  rw [show k + 1 - (11 - p) = 0 from by omega, show k - (11 - p) = 0 from by omega]
theorem nS_step (c : List Int) (p k : Nat) (hp : p < 11) (hk : k < 11) (h : k ≠ 10 - p) (hl : c.length = 11) : nS c p (k + 1) = nS c p k - matS (10 - p) k * (routS c p).getD k 0 := by
  by_cases h2 : k < 10 - p
  · rw [nS_low c p k (by omega) hp, (mat_low (10 - p) (by omega)).1 k h2]; omega
  · unfold nS
    rw [show k + 1 - (11 - p) = (k - (11 - p)) + 1 from by omega, inS, stepS, List.getD_eq_getElem?_getD, List.getElem?_set_self (by rw [inS_length, outS_length]; omega), Option.getD_some,
      show 10 - p + 1 + (k - (11 - p)) = k from by omega, inS_other _ _ _ k h]
    have h3 : (routS c p).getD k 0 = (outS c p).getD k 0 := by
      rw [List.getD_eq_getElem?_getD (l := routS c p), routS_get _ _ _ hk, if_neg (by omega)]; rfl
    rw [h3]
theorem nS_zero (c : List Int) (p : Nat) (hp : p < 11) : nS c p 0 = c.getD (10 - p) 0 := by
  unfold nS
  rw [show 0 - (11 - p) = 0 from by omega, inS]
  have : ∀ q, q ≤ p → (outS c q).getD (10 - p) 0 = c.getD (10 - p) 0 := by
    intro q
    induction q with
    | zero => intro _; rfl
    | succ q ih => intro hq; rw [outS, inS_other _ _ _ _ (by omega), ih (by omega)]
  exact this p (Nat.le_refl _)
theorem nS_end (c : List Int) (p : Nat) (hp : p < 11) : nS c p 11 = (inS (outS c p) (10 - p) p).getD (10 - p) 0 := by
  unfold nS
  rw [show 11 - (11 - p) = p from by omega]
theorem nS_bd {c : List Int} {p : Nat} (hp : p < 11) (hl : c.length = 11) (hf : c.any farB = false) (k : Nat) (hk : k ≤ 11) : -(5421 * 1099511627776 : Int) ≤ nS c p k ∧ nS c p k ≤ (5421 * 1099511627776 : Int) := by
  have h := in_bd hp (by rw [outS_length]; exact hl) (fit_out hl hf p (by omega)) (k - (11 - p)) (by omega)
  have h2 := bdS_le (10 - p)
  unfold nS
  omega
theorem rout_bd {c : List Int} {p : Nat} (hp : p ≤ 11) (hl : c.length = 11) (hf : c.any farB = false) (k : Nat) (hk : k < 11) : -(5421 * 1099511627776 : Int) ≤ (routS c p).getD k 0 ∧ (routS c p).getD k 0 ≤ (5421 * 1099511627776 : Int) := by
  rw [List.getD_eq_getElem?_getD, routS_get _ _ _ hk, Option.getD_some]
  split
  · omega
  · have h := fit_out hl hf p hp k hk
    rw [if_neg (by omega)] at h
    have h2 := bdS_le k
    omega
theorem mul12 {x v : Int} (h : 0 ≤ x ∧ x ≤ 12) (hv : -(5421 * 1099511627776 : Int) ≤ v ∧ v ≤ (5421 * 1099511627776 : Int)) : -(65052 * 1099511627776 : Int) ≤ x * v ∧ x * v ≤ (65052 * 1099511627776 : Int) := by
  obtain ⟨m, rfl⟩ := Int.eq_ofNat_of_zero_le h.1
  have h4 : (m : Int) * v ≤ (m : Int) * (5421 * 1099511627776) := Int.mul_le_mul_of_nonneg_left hv.2 (by omega)
  have h5 : (m : Int) * -(5421 * 1099511627776) ≤ (m : Int) * v := Int.mul_le_mul_of_nonneg_left hv.1 (by omega)
  omega
set_option maxRecDepth 100000 in
set_option maxHeartbeats 3200000 in
theorem rsolve_any (a : Option Addr) (cap : Nat) (xs : List Int) (w : World) (hi : IntsAt w (.slice a xs.length cap) xs) :
    Calls Tryd.prog 44 #[.slice a xs.length cap] w (SolPost w (solX xs)) := by
  have hsm : xs.length ≤ 70368744177664 := by obtain ⟨_, _, hv, _, _, hl, _⟩ := hi; exact hl
  unfold SolPost
  by_cases hl : xs.length = 11
  case neg =>
    unfold solX
    rw [if_pos hl]
    have d1 : ((xs.length : Int) == 11) = false := by simp; omega
    have d2 : (xs.length == 11) = false := by simpa using hl
    have d3 : ((xs.length : Int) != 11) = true := by simp; omega
    clear hl
    go_enter Tryd.func44, Tryd.ntmps44
    go_wp2_with fail
    go_ret2
    exact ⟨none, 0, rfl, ints_none _, Below.refl _ _⟩
  have hX : xs.any farB = true → solX xs = ([], false) := fun h => by unfold solX; rw [if_neg (by simpa using hl), h]; rfl
  have hY : xs.any farB = false → solX xs = (solS xs, true) := fun h => by unfold solX; rw [if_neg (by simpa using hl), h]; rfl
  obtain ⟨R, hR⟩ : ∃ R, solX xs = R := ⟨_, rfl⟩
  rw [hR] at hX hY ⊢
  clear hR
  have HX := Lib.hid hX
  have HY := Lib.hid hY
  have hl1 : ((xs.length : Int) == 11) = true := by rw [hl]; rfl
  have hl2 : (xs.length == 11) = true := by rw [hl]; rfl
  have hl3 : xs.length ≤ 11 := by omega
  have hl4 : 11 ≤ xs.length := by omega
  have HL := Lib.hid hl
  clear hl hX hY
  go_enter Tryd.func44, Tryd.ntmps44
  go_wp2_with fail
  refine (rwithin_any _).mono ?_
  rintro e w2 ⟨G, co, fs, rfl, hf, hr2, hM2⟩
  have hb2 := hM2.bel
  have hi2 := hi.below hb2
  have hmk := make11
  have HF := Lib.hid hf
  clear hf hi
  go_wp2_with fail
  clear hmk
  have hbx : Below w2.heap.size w2 (w2.alloc (.cells (intsV (cntV [])).toArray 3)) := (Below.refl _ _).alloc (Nat.le_refl _) _
  have hN0 : NumAt (w2.alloc (.cells (intsV (cntV [])).toArray 3)) w2.heap.size (routS xs 0) := by rw [routS_zero]; exact heap_alloc_new _ _
  have hwg : w.heap.size ≤ w2.heap.size := hb2.size
  have hi3 := hi2.below hbx
  have HI := Lib.hid hi2
  clear hi2
  obtain ⟨w3, hw3⟩ : ∃ w3, w2.alloc (.cells (intsV (cntV [])).toArray 3) = w3 := ⟨_, rfl⟩
  rw [hw3] at hbx hN0 hi3 ⊢
  clear hw3
  go_loop [6] (fun i => ∃ k : Nat, k ≤ 11 ∧ i = .int .i64 k ∧ Hid ((xs.take k).any farB = false)) (fun i => 11 - (intOf i).toNat)
  case atStart => exact ⟨0, by omega, rfl, by show _ = _; simp⟩
  case round =>
    obtain ⟨k, hk, rfl, HA⟩ := hrel
    by_cases hltk : k < 11
    · have hdk : decide ((k : Int) < 11) = true := by simp; omega
      have hdk2 : decide (k < 11) = true := by simpa using hltk
      obtain ⟨b, off, y, rfl, hy, hd, _, c0⟩ := hi3.at k (by omega)
      have HD := Lib.hid hd
      have hyt : xs.take (k + 1) = xs.take k ++ [y] := take_at xs k y hy
      have hmem : y ∈ xs := List.mem_of_getElem? hy
      by_cases h1 : y < -1099511627776
      · have e1 : decide (y < -1099511627776) = true := by simpa using h1
        have HR := HX.out (List.any_eq_true.2 ⟨y, hmem, by unfold farB; rw [e1]; rfl⟩)
        clear hd hy hyt hmem
        go_wp2_with fail
        go_ret2
        exact ⟨none, 0, rfl, ints_none _, hb2.trans (hbx.mono hwg)⟩
      · have e1 : decide (y < -1099511627776) = false := by simpa using h1
        by_cases h2 : 1099511627776 < y
        · have e2 : decide (1099511627776 < y) = true := by simpa using h2
          have HR := HX.out (List.any_eq_true.2 ⟨y, hmem, by unfold farB; rw [e2]; simp⟩)
          clear hd hy hyt hmem
          go_wp2_with fail
          go_ret2
          exact ⟨none, 0, rfl, ints_none _, hb2.trans (hbx.mono hwg)⟩
        · have e2 : decide (1099511627776 < y) = false := by simpa using h2
          have HA2 : Hid ((xs.take (k + 1)).any farB = false) := by
            show _ = _
            have := HA.out
            rw [hyt, List.any_append, this]; simp [farB, e1, e2]
          clear hd hy hyt hmem
          go_wp2_with fail
          go_round
          case rel => exact ⟨k + 1, by omega, by go_num, HA2⟩
          case measure => simp [intOf]; omega
    · obtain rfl : k = 11 := by omega
      have hfar : xs.any farB = false := by have := HA.out; rwa [List.take_of_length_le (by omega)] at this
      have HR := HY.out hfar
      have HFR := Lib.hid hfar
      have HRR := Lib.hid HR
      clear HR hfar HA
      go_wp2_with fail
      go_loopw [7] (fun i wr => ∃ (p : Nat) (z : Int), p ≤ 11 ∧ z = 10 - p ∧ i = .int .i64 z ∧ Below w2.heap.size w2 wr ∧ NumAt wr w2.heap.size (routS xs p)) (fun i _ => ((intOf i) + 1).toNat)
      case atStart => exact ⟨0, _, by omega, rfl, rfl, hbx, hN0⟩
      case round =>
        clear hN0 hbx hi3
        obtain ⟨p, z, hp, hz, rfl, hb, hN⟩ := hrel
        by_cases hlt : p < 11
        · obtain ⟨q, rfl⟩ : ∃ q : Nat, z = q := ⟨z.toNat, by omega⟩
          have hq : 10 - p = q := by omega
          have hq11 : q < 11 := by omega
          have hdq : decide (0 ≤ (q : Int)) = true := by simp
          have HZ := Lib.hid hz
          have HQ := Lib.hid hq
          obtain ⟨b, off, y, rfl, hy, _, _, c0⟩ := (HI.out.below hb).at q (by omega)
          have hy0 : nS xs p 0 = y := by rw [nS_zero _ _ hlt, hq, List.getD_eq_getElem?_getD, hy]; rfl
          have HY0 := Lib.hid hy0
          clear hz hq hy hy0
          go_wp2_with fail
          obtain ⟨wo, rfl⟩ : ∃ wo : World, wo = wr := ⟨_, rfl⟩
          go_loopw [9, 8] (fun i n wr => ∃ k : Nat, k ≤ 11 ∧ i = .int .i64 k ∧ n = .int .i64 (nS xs p k) ∧ Below w2.heap.size w2 wr ∧ NumAt wr w2.heap.size (routS xs p)) (fun i _ _ => 11 - (intOf i).toNat)
          case atStart => exact ⟨0, by omega, rfl, by rw [HY0.out], hb, hN⟩
          case round =>
            clear hb hN
            obtain ⟨k, hk, rfl, rfl, hb, hN⟩ := hrel
            by_cases hltk : k < 11
            · have hdk : decide ((k : Int) < 11) = true := by simp; omega
              have hdk2 : decide (k < 11) = true := by simpa using hltk
              by_cases hkq : k = q
              · have dq : ((k : Int) != (q : Int)) = false := by simp; omega
                have dq2 : ((k : Int) == (q : Int)) = true := by simp; omega
                have HS : Hid (nS xs p (k + 1) = nS xs p k) := by show _ = _; exact nS_low xs p k (by have := HQ.out; omega) hlt
                have hkq2 := Lib.hid hkq
                clear hkq
                go_wp2_with fail
                go_roundw
                case rel => exact ⟨k + 1, by omega, by go_num, by rw [HS.out], hb, hN⟩
                case measure => simp [intOf]; omega
              · have dq : ((k : Int) != (q : Int)) = true := by simp; omega
                have dq2 : ((k : Int) == (q : Int)) = false := by simp; omega
                have hqq := HQ.out
                have hr' := hr2.below hb
                have hM := hM2.below hb
                have hrr := hr'
                rw [← HF.out] at hrr
                obtain ⟨b0, o0, g, e9, hg, hcap, hat⟩ := hrr.elem q (by rw [HF.out]; omega)
                cases e9
                have m0 : wr.cell? ⟨G, q, none⟩ = some (.slice (some ⟨g, 0, none⟩) 11 11) := by have h := hat 0 _ rfl; simpa [encS] using h
                have hx := mat_small q hq11 k hltk
                have m1 : wr.cell? ⟨g, k, none⟩ = some (.int .i64 (matS q k)) := by
                  refine NumAt.cell (hM.row q g hg).1 k _ ?_
                  rw [wAllR_eq q hq11]; unfold matS; rw [mat_at q k (by omega)]; exact matV_get _ _ k (by omega)
                have n0 : wr.cell? ⟨w2.heap.size, k, none⟩ = some (.int .i64 ((routS xs p).getD k 0)) := hN.cell k _ (by rw [List.getD_eq_getElem?_getD, List.getElem?_eq_getElem (by rw [routS_length]; omega)]; rfl)
                have hv := rout_bd hp HL.out HFR.out k hltk
                have hu1 := nS_bd hlt HL.out HFR.out k (by omega)
                have hu2 := nS_bd hlt HL.out HFR.out (k + 1) (by omega)
                have hxv := mul12 hx hv
                have hst : nS xs p (k + 1) = nS xs p k - matS q k * (routS xs p).getD k 0 := by rw [nS_step xs p k hlt hltk (by omega) HL.out, hqq]
                rw [hst] at hu2
                have HS := Lib.hid hst
                clear hst hrr hr' hM hat hg hcap hqq
                generalize nS xs p k = u at *
                generalize (routS xs p).getD k 0 = v at *
                generalize matS q k = x at *
                have hw1 : IntKind.i64.wrap (x * v) = x * v := IntWalk.i64_in _ (by omega)
                have hw2 : IntKind.i64.wrap (u - x * v) = u - x * v := IntWalk.i64_in _ (by omega)
                clear hu1 hu2
                go_wp2_with fail
                go_region
                go_wp2_with fail
                go_roundw
                case rel => exact ⟨k + 1, by omega, by go_num, by rw [HS.out], hb.drew, hN⟩
                case measure => simp [intOf]; omega
            · obtain rfl : k = 11 := by omega
              have hend := nS_end xs p hlt
              have hst := routS_step xs p hlt
              rw [← hend, HQ.out] at hst
              have HS := Lib.hid hst
              have HN := Lib.hid (hN.set q (nS xs p 11))
              have n0 : wr.cell? ⟨w2.heap.size, q, none⟩ = some (.int .i64 ((routS xs p).getD q 0)) := hN.cell q _ (by rw [List.getD_eq_getElem?_getD, List.getElem?_eq_getElem (by rw [routS_length]; omega)]; rfl)
              have n1 : wr.frozen? ⟨w2.heap.size, q, none⟩ = false := free_blk hN
              have hz2 : w2.heap.size < wr.heap.size := blk_lt hN
              clear hend hst hN
              generalize nS xs p 11 = u at *
              go_wp2_with fail
              go_roundw
              case rel => exact ⟨p + 1, (q : Int) - 1, by omega, by have := HZ.out; omega, by go_num, hb.setCell (p := ⟨w2.heap.size, q, none⟩) (Nat.le_refl _) _, by rw [← HS.out]; exact HN.out⟩
              case measure => simp [intOf]
        · obtain rfl : p = 11 := by omega
          obtain rfl : z = -1 := by omega
          rw [routS_end xs HL.out] at hN
          have hsl : (solS xs).length = 11 := (outS_length xs 11).trans HL.out
          have HR2 : R = (solS xs, true) := HRR.out
          have HR3 := HR2
          generalize solS xs = s at hN hsl HR2
          have hi := ints_num hN hsl
          subst HR2
          have HSL := Lib.hid hsl
          clear hsl HR3
          go_wp2_with fail
          go_ret2
          exact ⟨_, _, by rw [HSL.out]; rfl, hi, hb2.trans (hb.mono hwg)⟩
end Go.Proofs.YtbkacbbhiecnkaaDoor
