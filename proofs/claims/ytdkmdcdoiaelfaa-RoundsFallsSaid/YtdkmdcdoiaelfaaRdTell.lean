/- The contract of a worker's telling (printed by wip/mktell.py: one theorem for each closure that it is called with). -/
import Derived.Test.YtdkmdcdoiaelfaaRdW
import Derived.Test.YtdkmdcdoiaelfaaHeldK
namespace Go.Proofs.Ytdkmdcdoiaelfaa
open Go.RowKit Go.BigFrame

/-- what has been told of the first k nodes -/
def telK (es : List E2) (n P : Nat) (ow : Nat → Nat) (w : Nat) (x : List Int) (wh : Nat → Bool) (k t : Nat) : List Msg :=
  ((List.range k).filter fun v => (ow v == w && wh v) && decide (t ∈ ownL es n P ow v)).map fun (v : Nat) => ((v : Int), x.getD v 0, false)
theorem telK_all (es : List E2) (n P : Nat) (ow : Nat → Nat) (w : Nat) (x : List Int) (wh : Nat → Bool) (t : Nat) : telK es n P ow w x wh n t = telL es n P ow w x wh t := rfl
theorem telK_step (es : List E2) (n P : Nat) (ow : Nat → Nat) (w : Nat) (x : List Int) (wh : Nat → Bool) (k t : Nat) : telK es n P ow w x wh (k + 1) t = telK es n P ow w x wh k t ++ if ((ow k == w && wh k) && decide (t ∈ ownL es n P ow k)) = true then [((k : Int), x.getD k 0, false)] else [] := by
  unfold telK
  rw [List.range_succ, List.filter_append, List.map_append]
  congr 1
  by_cases h : ((ow k == w && wh k) && decide (t ∈ ownL es n P ow k)) = true
  · rw [if_pos h, List.filter_cons, if_pos h]; rfl
  · rw [if_neg h, List.filter_cons, if_neg h]; rfl
theorem telK_no (es : List E2) (n P : Nat) (ow : Nat → Nat) (w : Nat) (x : List Int) (wh : Nat → Bool) (k t : Nat) (h : ¬ (ow k = w ∧ wh k = true)) : telK es n P ow w x wh (k + 1) t = telK es n P ow w x wh k t := by
  rw [telK_step, if_neg, List.append_nil]
  intro q
  simp only [Bool.and_eq_true, beq_iff_eq] at q
  exact h q.1
theorem telK_len (es : List E2) (n P : Nat) (ow : Nat → Nat) (w : Nat) (x : List Int) (wh : Nat → Bool) (k t : Nat) : (telK es n P ow w x wh k t).length ≤ k := by
  unfold telK
  rw [List.length_map]
  exact Nat.le_trans (List.length_filter_le _ _) (by rw [List.length_range]; exact Nat.le_refl _)
theorem ownL_len64 (es : List E2) (n P : Nat) (ow : Nat → Nat) (v : Nat) : (ownL es n P ow v).length ≤ P := Nat.le_trans (List.length_filter_le _ _) (by rw [List.length_range]; exact Nat.le_refl _)
theorem ownL_nodup2 (es : List E2) (n P : Nat) (ow : Nat → Nat) (v : Nat) : (ownL es n P ow v).Nodup := List.nodup_range.filter _
/-- the blocks that telling writes -/
def tellD (R P r : Nat) (vs : Ix → Value) (b : Nat) : Prop := b = R ∨ ∃ t, t < P ∧ (vs (r + 2, t)).ownBlock = some b
theorem ix_ne {r t t' : Nat} (h : t' ≠ t) : (r + 2, t') ≠ ((r + 2, t) : Ix) := fun e => h (Prod.mk.inj e).2
theorem cells6 {w : World} {g T : Nat} {c0 c1 c2 c3 c4 c5 : Value} (h : w.heap[g]? = some (.cells #[c0, c1, c2, c3, c4, c5] T (0, 0))) : w.cell? ⟨g, 0, none⟩ = some c0 ∧ w.cell? ⟨g, 1, none⟩ = some c1 ∧ w.cell? ⟨g, 2, none⟩ = some c2 ∧ w.cell? ⟨g, 3, none⟩ = some c3 ∧ w.cell? ⟨g, 4, none⟩ = some c4 ∧ w.cell? ⟨g, 5, none⟩ = some c5 := ⟨cell_blk h, cell_blk h, cell_blk h, cell_blk h, cell_blk h, cell_blk h⟩
set_option linter.unusedSimpArgs false in
set_option maxRecDepth 100000 in
set_option maxHeartbeats 6400000 in
theorem rdtellS_any (n P o r R cR gK : Nat) (hv0 : Value) (es : List E2) (ow : Nat → Nat) (ao aN ag : Option Addr) (co cN cg lo : Nat) (x : List Int) (wh : Nat → Bool) (I : Ix → Prop) (ad : Ix → Nat × Nat) (vs : Ix → Value) (K N : Nat → List Int) (B : Nat → Nat → List Msg) (Qn : Nat → Prop) (w : World)
    (hn : n ≤ 64) (hP : P ≤ 64) (how : ∀ v, v < n → ow v < P) (hlo : lo ≤ w.heap.size) (hW : GW w lo I ad vs K N B) (hI : ∀ t, t < P → I (r + 2, t)) (hA : ∀ t, t < P → ad (r + 2, t) = (R, t)) (_hcR : P ≤ cR) (hR : R < w.heap.size)
    (hO : IntsAt w (.slice ao n co) (owI n ow)) (hOd : ∀ n' c p, Value.slice ao n co = .slice (some p) n' c → ¬ tellD R P r vs p.block) (hN : RowsX Qn w (.slice aN n cN) (nearL es n)) (hNd : ∀ b, Qn b → ¬ tellD R P r vs b)
    (hK : ∀ i, i < n → ag = some ⟨gK, 0, none⟩ ∧ w.cell? ⟨gK, i, none⟩ = some (.int .i64 (x.getD i 0))) (hKd : ¬ tellD R P r vs gK) (hcg : n ≤ cg) (hB : ∀ t, t < P → (B r t).length ≤ 1000000)
    (hwh : ∀ v, v < n → ∀ W, Fr (tellD R P r vs) w W → Calls Try.prog 71 #[.int .i64 (v : Int)] W fun e W' => e = .returned (.bool (wh v)) ∧ ∃ m, W' = W.drewN m) :
    Calls Try.prog 70 #[.agg #[.int .i64 P, .slice ao n co, hv0, .slice aN n cN, .int .i64 (o : Int), .slice ag n cg], .slice (some ⟨R, 0, none⟩) P cR, .func (.func 71) #[] #[]] w fun e w' => e = .returned (.tuple #[]) ∧ ∃ vs', GW w' lo I ad vs' K N (fun r' t' => if r' = r then B r t' ++ telL es n P ow o x wh t' else B r' t') ∧ Fr (tellD R P r vs) w w' ∧ (∀ t, t < P → ∀ b, (vs' (r + 2, t)).ownBlock = some b → tellD R P r vs b ∨ w.heap.size ≤ b) ∧ (∀ i, (∀ t, t < P → i ≠ (r + 2, t)) → vs' i = vs i) := by
  obtain ⟨hXX, hb0⟩ := boxG_new w #[.int .i64 P, .slice ao n co, hv0, .slice aN n cN, .int .i64 (o : Int), .slice ag n cg] 110
  obtain ⟨wA, hwA⟩ : ∃ W : World, W = w.alloc (.cells #[.int .i64 P, .slice ao n co, hv0, .slice aN n cN, .int .i64 (o : Int), .slice ag n cg] 110) := ⟨_, rfl⟩
  obtain ⟨X, hX⟩ : ∃ X, w.heap.size = X := ⟨_, rfl⟩
  rw [← hwA] at hXX hb0
  have hzA : wA.heap.size = X + 1 := by rw [hwA, ← hX]; simp
  have HWA := Lib.hid hwA
  have HX := Lib.hid hX
  obtain ⟨D, hD⟩ : ∃ D, tellD R P r vs = D := ⟨_, rfl⟩
  rw [hD] at hOd hNd hKd hwh ⊢
  have hDl : ∀ b, D b → b < X := fun b h => by
    rw [← hD] at h
    rcases h with h | ⟨t, ht, h⟩
    · omega
    · have := ((hW.own _ (hI t ht)).lt b h).2; omega
  have hDX : ¬ D X := fun h => by have := hDl X h; omega
  have hDo : ∀ t, t < P → ∀ b, (vs (r + 2, t)).ownBlock = some b → D b := fun t ht b h => by rw [← hD]; exact .inr ⟨t, ht, h⟩
  have hDR : D R := by rw [← hD]; exact .inl rfl
  have hWA := hW.below hb0
  rw [hX] at hXX hb0 hR hlo ⊢
  have hF0 : Fr D w wA := Fr.of_below (by rw [hX]; exact hb0)
  have hOA := hF0.ints hO hOd
  have hNA := hF0.rows hN hNd
  have hKA : ∀ i, i < n → ag = some ⟨gK, 0, none⟩ ∧ wA.cell? ⟨gK, i, none⟩ = some (.int .i64 (x.getD i 0)) ∧ gK < X := fun i hi => ⟨(hK i hi).1, hF0.cell (hK i hi).2 hKd, by have := cell_lt (hK i hi).2; omega⟩
  have hwA2 : ∀ v, v < n → ∀ W, Fr D wA W → Calls Try.prog 71 #[.int .i64 (v : Int)] W fun e W' => e = .returned (.bool (wh v)) ∧ ∃ m, W' = W.drewN m := fun v hv W h => hwh v hv W (hF0.trans h (fun b hb => .inl hb))
  obtain ⟨-, hcN, -⟩ := hNA.len
  have hWH := Lib.hid hwA2
  have hKH := Lib.hid hKA
  have hAH := Lib.hid hA
  have hIH := Lib.hid hI
  have hBH := Lib.hid hB
  have hOdH := Lib.hid hOd
  have hDlH := Lib.hid hDl
  have hDoH := Lib.hid hDo
  clear hwA hX hW hO hN hK hwh hwA2 hKA hA hI hB hOd hDl hDo
  obtain ⟨q0, q1, q2, q3, q4, q5⟩ := cells6 hXX
  go_enter Try.func70, Try.ntmps70
  go_wp2_with (rw [← HWA.out, HX.out])
  clear q0 q1 q2 q3 q4 q5
  go_loopw [13] (fun vi wr => ∃ (k : Nat) (vs1 : Ix → Value), k ≤ n ∧ vi = .int .i64 (k : Int) ∧ GW wr lo I ad vs1 K N (fun r' t' => if r' = r then B r t' ++ telK es n P ow o x wh k t' else B r' t') ∧ Fr D wA wr ∧ Hid (∀ t, t < P → ∀ b, (vs1 (r + 2, t)).ownBlock = some b → D b ∨ X < b) ∧ Hid (∀ i, (∀ t, t < P → i ≠ (r + 2, t)) → vs1 i = vs i)) (fun vi _ => n - (intOf vi).toNat)
  case atStart => exact ⟨0, vs, Nat.zero_le _, rfl, GW.boxes hWA (fun r' t' _ => by by_cases e : r' = r <;> simp [e, telK]), Fr.refl _ _, (show ∀ t, _ from fun t ht b h => .inl (hDoH.out t ht b h)), (show ∀ i, _ from fun i _ => rfl)⟩
  case round =>
    obtain ⟨k, vs1, hk, rfl, hG, hF, HV, HE⟩ := hrel
    have hXr := hF.blk hXX hDX
    obtain ⟨q0, q1, q2, q3, q4, q5⟩ := cells6 hXr
    by_cases hlt : k < n
    · have hlt3 : (k : Int) < n := by omega
      have hOr := hF.ints hOA (hOdH.out)
      have hNr := hF.rows hNA hNd
      obtain ⟨rfl, cKA, hgK⟩ := hKH.out k hlt
      have cKr := hF.cell cKA hKd
      have hcw := hWH.out k hlt
      obtain ⟨bO, oO, rfl, ck, hcO⟩ : ∃ b off, ao = some ⟨b, off, none⟩ ∧ wr.cell? ⟨b, off + k, none⟩ = some (.int .i64 (ow k : Int)) ∧ n ≤ co := by
        obtain ⟨_, _, hv', h1, _, _, h4⟩ := (show IntsAt wr (.slice ao (owI n ow).length co) (owI n ow) by rw [owI_length]; exact hOr)
        cases hv'
        rw [owI_length] at h1
        obtain ⟨b, off, rfl, c⟩ := h4 k _ (owI_get n ow k hlt)
        exact ⟨b, off, rfl, c, h1⟩
      by_cases hok : ow k = o
      case neg =>
        have d1 : ((ow k : Int) != (o : Int)) = true := by simp; omega
        have hno := fun t => telK_no es n P ow o x wh k t (fun q => hok q.1)
        have HNO := Lib.hid hno
        clear hno
        go_wp2_with fail
        go_quiet (fail)
        have hbd := (Below.refl wr.heap.size wr).drewN nq
        have hG2 := GW.boxes (hG.below hbd) (B' := fun r' t' => if r' = r then B r t' ++ telK es n P ow o x wh (k + 1) t' else B r' t') (fun r' t' _ => by rw [HNO.out])
        have hF2 := hF.grown (grown_of_below hbd) (fun b e => by cases e)
        clear hF hG
        go_wp2_with fail
        go_roundw
        case rel => exact ⟨k + 1, vs1, by omega, by go_num, hG2, hF2, HV, HE⟩
        case measure => simp [intOf]; omega
      case pos =>
        have d1 : ((ow k : Int) != (o : Int)) = false := by simp; omega
        have hq := fun m => Calls.quiet_of (n := m) (hcw (wr.drewN m) (hF.grown (grown_of_below ((Below.refl wr.heap.size wr).drewN m)) (fun b e => by cases e)))
        obtain ⟨DW, hDW⟩ : ∃ D, wh k = D := ⟨_, rfl⟩
        rw [hDW] at hq
        have HDW := Lib.hid hDW
        clear hcw
        cases DW with
        | false =>
          have hno := fun t => telK_no es n P ow o x wh k t (fun q => by rw [HDW.out] at q; exact absurd q.2 (by simp))
          have HNO := Lib.hid hno
          clear hno
          go_wp2_with fail
          go_quiet ((go_at_call 71; exact hq _))
          have hbd := (Below.refl wr.heap.size wr).drewN nq
          have hG2 := GW.boxes (hG.below hbd) (B' := fun r' t' => if r' = r then B r t' ++ telK es n P ow o x wh (k + 1) t' else B r' t') (fun r' t' _ => by rw [HNO.out])
          have hF2 := hF.grown (grown_of_below hbd) (fun b e => by cases e)
          clear hF hG
          go_wp2_with fail
          go_roundw
          case rel => exact ⟨k + 1, vs1, by omega, by go_num, hG2, hF2, HV, HE⟩
          case measure => simp [intOf]; omega
        | true =>
          go_wp2_with fail
          go_quiet ((go_at_call 71; exact hq _))
          have hbd := (Below.refl wr.heap.size wr).drewN nq
          obtain ⟨w1, hw1⟩ : ∃ W : World, W = wr.drewN nq := ⟨_, rfl⟩
          rw [← hw1] at hbd ⊢
          have hG1 := hG.below hbd
          have hF1 := hF.grown (grown_of_below hbd) (fun b e => by cases e)
          have hX1 := lit_next' hbd hXr
          have how2 := rdowners_any n P k hv0 es ow (some ⟨bO, oO, none⟩) aN co cN Qn w1 hn hlt how (hOr.below hbd) (hNr.below hbd)
          obtain ⟨OL, hOL⟩ : ∃ L, ownL es n P ow k = L := ⟨_, rfl⟩
          have hOLl := ownL_len64 es n P ow k
          have hOLn := ownL_nodup2 es n P ow k
          have hOLp : ∀ t ∈ OL, t < P := fun t ht => by rw [← hOL] at ht; exact (ownL_mem.1 ht).1
          rw [hOL] at how2 hOLl hOLn
          have HCL := Lib.hid (castL_length OL)
          have HOL := Lib.hid hOL
          have hR1 : R < w1.heap.size := by have := hF1.size; omega
          have hDn : ∀ b, tellD R P r vs1 b → D b ∨ X < b := fun b h => by
            rcases h with h | ⟨t, ht, h⟩
            · left; rw [h]; exact hDR
            · exact HV.out t ht b h
          have hDn1 : ∀ b, tellD R P r vs1 b → b < w1.heap.size := fun b h => by
            rcases h with h | ⟨t, ht, h⟩
            · omega
            · exact ((hG1.own _ (hIH.out t ht)).lt b h).2
          have HDN := Lib.hid hDn
          have HDN1 := Lib.hid hDn1
          have cK1 := hF1.cell cKA hKd
          clear hw1 hG hF hq q0 q1 q2 q3 q4 q5 hOr hNr ck cKr hXr hOL hDn hDn1
          obtain ⟨q0, q1, q2, q3, q4, q5⟩ := cells6 hX1
          go_wp2_with fail
          refine how2.mono ?_
          rintro e w2 ⟨a5, c5, rfl, hi5, hp5, hb2⟩
          have hG2 := hG1.below hb2
          have hF2 := hF1.grown (grown_of_below hb2) (fun b e => by cases e)
          have hX2 := lit_next' hb2 hX1
          have cK2 := (hb2.cell (p := ⟨gK, k, none⟩) (cell_lt cK1)).trans cK1
          have hD2X : ¬ tellD R P r vs1 X := fun h => by
            rcases HDN.out X h with h | h
            · exact hDX h
            · omega
          have hD2K : ¬ tellD R P r vs1 gK := fun h => by
            rcases HDN.out gK h with h | h
            · exact hKd h
            · omega
          have hD2o : ∀ t, t < P → ∀ b, (vs1 (r + 2, t)).ownBlock = some b → tellD R P r vs1 b := fun t ht b h => .inr ⟨t, ht, h⟩
          obtain ⟨D2, hD2⟩ : ∃ D2, tellD R P r vs1 = D2 := ⟨_, rfl⟩
          have hD2R : D2 R := by rw [← hD2]; exact .inl rfl
          have hi5d : ∀ n' c p, Value.slice a5 (castL OL).length c5 = .slice (some p) n' c → ¬ D2 p.block := fun n' c p e h => by
            obtain rfl : a5 = some p := (Value.slice.inj e).1
            have h1 := hp5 p rfl
            rw [← hD2] at h
            have h2 := HDN1.out _ h
            omega
          rw [hD2] at hD2X hD2K hD2o HDN HDN1
          have hXg : X < w2.heap.size := blk_lt hX2
          have hXR : X ≠ R := fun e => hDX (e ▸ hDR)
          have hgR : gK ≠ R := fun e => hKd (e ▸ hDR)
          have hi5H := Lib.hid hi5d
          have hD2oH := Lib.hid hD2o
          obtain ⟨xk, hxk⟩ : ∃ z, x.getD k 0 = z := ⟨_, rfl⟩
          rw [hxk] at cK2
          have HXK := Lib.hid hxk
          clear hG1 hF1 hX1 hD2 cK1 hi5d hD2o q0 q1 q2 q3 q4 q5 how2 hp5 hxk cKA
          go_wp2_with fail
          go_loopw [37] (fun vi wr => ∃ (j : Nat) (vs2 : Ix → Value), j ≤ (castL OL).length ∧ vi = .int .i64 (j : Int) ∧ GW wr lo I ad vs2 K N (fun r' t' => if r' = r then (B r t' ++ telK es n P ow o x wh k t') ++ (if t' ∈ OL.take j then [((k : Int), xk, false)] else []) else B r' t') ∧ Fr D2 w2 wr ∧ Hid (∀ t, t < P → ∀ b, (vs2 (r + 2, t)).ownBlock = some b → D2 b ∨ w2.heap.size ≤ b) ∧ Hid (∀ i, (∀ t, t < P → i ≠ (r + 2, t)) → vs2 i = vs i)) (fun vi _ => (castL OL).length - (intOf vi).toNat)
          case atStart => exact ⟨0, vs1, Nat.zero_le _, rfl, GW.boxes hG2 (fun r' t' _ => by by_cases e : r' = r <;> simp [e]), Fr.refl _ _, (show ∀ t, _ from fun t ht b h => .inl (hD2oH.out t ht b h)), HE⟩
          case round =>
            obtain ⟨j, vs2, hj, rfl, hG3, hF3, HV3, HE3⟩ := hrel
            by_cases hltj : j < (castL OL).length
            · have hltj3 : (j : Int) < (castL OL).length := by omega
              have hjs : j < OL.length := by rw [← HCL.out]; exact hltj
              obtain ⟨t, ht⟩ : ∃ t, OL[j]? = some t := ⟨_, List.getElem?_eq_getElem hjs⟩
              have htP : t < P := hOLp t (List.mem_of_getElem? ht)
              have htn : t ∉ OL.take j := fun hm => by
                obtain ⟨i, hi, hie⟩ := List.getElem_of_mem hm
                rw [List.length_take] at hi
                rw [List.getElem_take] at hie
                have h1 := (List.getElem?_eq_some_iff.1 ht).2
                exact (List.pairwise_iff_getElem.1 hOLn) i j (by omega) hjs (by omega) (hie.trans h1.symm)
              have htk := take_at _ _ _ ht
              obtain ⟨b5, o5, t', e5, hz5, -, -, c5t⟩ := (hF3.ints hi5 hi5H.out).at j hltj
              obtain rfl : t' = (t : Int) := by
                unfold castL at hz5
                rw [List.getElem?_map, ht] at hz5
                exact (Option.some.inj hz5).symm
              subst e5
              have hti : (t : Int) < P := by omega
              have hX3 := hF3.blk hX2 hD2X
              have cK3 := hF3.cell cK2 hD2K
              have x5 := cell_blk (j := 5) hX3
              have hown0 := GW.box hG3 (hIH.out t htP)
              rw [if_pos rfl, if_neg htn, List.append_nil] at hown0
              have hLl : (B r t ++ telK es n P ow o x wh k t).length ≤ 1100000 := by
                have h1 := hBH.out t htP
                have h2 := telK_len es n P ow o x wh k t
                rw [List.length_append]; omega
              obtain ⟨L, hL⟩ : ∃ L, B r t ++ telK es n P ow o x wh k t = L := ⟨_, rfl⟩
              rw [hL] at hown0 hLl
              have HL := Lib.hid hL
              have cRt := hG3.cell _ (hIH.out t htP)
              have fR := hG3.free _ (hIH.out t htP)
              rw [hAH.out t htP] at cRt fR
              dsimp only at cRt fR
              obtain ⟨av, cv, hvs⟩ := owns_shape hown0
              have HVS := Lib.hid hvs
              rw [hvs] at hown0 cRt
              have hoX : (Value.slice av L.length cv).ownBlock ≠ some X := fun e => by
                rw [← hvs] at e
                rcases HV3.out t htP X e with h | h
                · exact hD2X h
                · omega
              have hoK : (Value.slice av L.length cv).ownBlock ≠ some gK := fun e => by
                rw [← hvs] at e
                rcases HV3.out t htP gK e with h | h
                · exact hD2K h
                · omega
              have hoR : (Value.slice av L.length cv).ownBlock ≠ some R := fun e => by
                rw [← hvs] at e
                have := hG3.off _ _ (hIH.out t htP) (hIH.out t htP)
                rw [hAH.out t htP] at this
                exact this e
              have hal := fun o => (Below.refl wr.heap.size wr).alloc (Nat.le_refl _) o
              have hlit := rows_lit1 (E := encM) wr ((k : Int), xk, false) 85 #[.int .i64 (k : Int), .int .i64 xk, .bool false] rfl
              have hownA := hown0.alloc (.cells #[.int .i64 (k : Int), .int .i64 xk, .bool false] 85)
              have hlow : lo ≤ wr.heap.size + 1 := by have := hF3.size; have := hF2.size; omega
              obtain ⟨n1, n2⟩ : ¬ (X = R) ∧ ¬ (R = X) := ⟨hXR, fun e => hXR e.symm⟩
              obtain ⟨n3, n4⟩ : ¬ (gK = R) ∧ ¬ (R = gK) := ⟨hgR, fun e => hgR e.symm⟩
              clear hvs hL hz5 ht
              go_upto_region 8 with fail
              refine wp_region_heldK (k := 16) (S := fun b W => (W.cell? ⟨X, 5, none⟩ = some (.slice (some ⟨gK, 0, none⟩) n cg) ∧ W.cell? ⟨gK, k, none⟩ = some (.int .i64 xk)) ∧ (match b with | false => W.cell? ⟨R, t, none⟩ = some (.slice av L.length cv) | true => True)) (by kernel_rfl) ?_
              have hS0 : (wr.drew.cell? ⟨X, 5, none⟩ = some (.slice (some ⟨gK, 0, none⟩) n cg) ∧ wr.drew.cell? ⟨gK, k, none⟩ = some (.int .i64 xk)) ∧ wr.drew.cell? ⟨R, t, none⟩ = some (.slice av L.length cv) := ⟨⟨x5, cK3⟩, cRt⟩
              refine wpAnyK_take (i := 0) (v := .slice (some ⟨R, 0, none⟩) P cR) true rfl (by kernel_rfl) (by kernel_rfl) (by kernel_rfl) (by kernel_rfl) (by kernel_rfl) (fun _ _ _ h => h) (fun _ h => ⟨h.1, trivial⟩) (Or.inl ⟨by rfl, by intro w hSw; dsimp only at hSw; go_simp⟩) (b := false) (by kernel_rfl) hS0 ?_
              try simp only [Act.put, List.setIfInBounds_toArray, List.set_cons_zero, List.set_cons_succ]
              refine wpAnyK_take (i := 1) (v := .int .i64 (t : Int)) true rfl (by kernel_rfl) (by kernel_rfl) (by kernel_rfl) (by kernel_rfl) (by kernel_rfl) (fun _ _ _ h => h) (fun _ h => ⟨h.1, trivial⟩) (Or.inl ⟨by rfl, by intro w hSw; dsimp only at hSw; go_simp⟩) (b := false) (by kernel_rfl) hS0 ?_
              try simp only [Act.put, List.setIfInBounds_toArray, List.set_cons_zero, List.set_cons_succ]
              refine wpAnyK_take (i := 2) (v := .slice (some ⟨R, 0, none⟩) P cR) true rfl (by kernel_rfl) (by kernel_rfl) (by kernel_rfl) (by kernel_rfl) (by kernel_rfl) (fun _ _ _ h => h) (fun _ h => ⟨h.1, trivial⟩) (Or.inl ⟨by rfl, by intro w hSw; dsimp only at hSw; go_simp⟩) (b := false) (by kernel_rfl) hS0 ?_
              try simp only [Act.put, List.setIfInBounds_toArray, List.set_cons_zero, List.set_cons_succ]
              refine wpAnyK_take (i := 3) (v := .int .i64 (t : Int)) true rfl (by kernel_rfl) (by kernel_rfl) (by kernel_rfl) (by kernel_rfl) (by kernel_rfl) (fun _ _ _ h => h) (fun _ h => ⟨h.1, trivial⟩) (Or.inl ⟨by rfl, by intro w hSw; dsimp only at hSw; go_simp⟩) (b := false) (by kernel_rfl) hS0 ?_
              try simp only [Act.put, List.setIfInBounds_toArray, List.set_cons_zero, List.set_cons_succ]
              refine wpAnyK_take (i := 4) (v := .pointer (some ⟨R, t, none⟩)) true rfl (by kernel_rfl) (by kernel_rfl) (by kernel_rfl) (by kernel_rfl) (by kernel_rfl) (fun _ _ _ h => h) (fun _ h => ⟨h.1, trivial⟩) (Or.inl ⟨by rfl, by intro w hSw; dsimp only at hSw; go_simp⟩) (b := false) (by kernel_rfl) hS0 ?_
              try simp only [Act.put, List.setIfInBounds_toArray, List.set_cons_zero, List.set_cons_succ]
              refine wpAnyK_take (i := 5) (v := .slice av L.length cv) false rfl (by kernel_rfl) (by kernel_rfl) (by kernel_rfl) (by kernel_rfl) (by kernel_rfl) (fun _ _ _ h => h) (fun _ h => ⟨h.1, trivial⟩) (Or.inl ⟨by rfl, by intro w hSw; dsimp only at hSw; go_simp⟩) (b := false) (by kernel_rfl) hS0 ?_
              try simp only [Act.put, List.setIfInBounds_toArray, List.set_cons_zero, List.set_cons_succ]
              refine wpAnyK_take (i := 6) (v := .int .i64 (k : Int)) true rfl (by kernel_rfl) (by kernel_rfl) (by kernel_rfl) (by kernel_rfl) (by kernel_rfl) (fun _ _ _ h => h) (fun _ h => ⟨h.1, trivial⟩) (Or.inl ⟨by rfl, by intro w hSw; dsimp only at hSw; go_simp⟩) (b := false) (by kernel_rfl) hS0 ?_
              try simp only [Act.put, List.setIfInBounds_toArray, List.set_cons_zero, List.set_cons_succ]
              refine wpAnyK_take (i := 7) (v := .pointer (some ⟨X, 5, none⟩)) true rfl (by kernel_rfl) (by kernel_rfl) (by kernel_rfl) (by kernel_rfl) (by kernel_rfl) (fun _ _ _ h => h) (fun _ h => ⟨h.1, trivial⟩) (Or.inl ⟨by rfl, by intro w hSw; dsimp only at hSw; go_simp⟩) (b := false) (by kernel_rfl) hS0 ?_
              try simp only [Act.put, List.setIfInBounds_toArray, List.set_cons_zero, List.set_cons_succ]
              refine wpAnyK_take (i := 8) (v := .slice (some ⟨gK, 0, none⟩) n cg) true rfl (by kernel_rfl) (by kernel_rfl) (by kernel_rfl) (by kernel_rfl) (by kernel_rfl) (fun _ _ _ h => h) (fun _ h => ⟨h.1, trivial⟩) (Or.inl ⟨by rfl, by intro w hSw; dsimp only at hSw; go_simp⟩) (b := false) (by kernel_rfl) hS0 ?_
              try simp only [Act.put, List.setIfInBounds_toArray, List.set_cons_zero, List.set_cons_succ]
              refine wpAnyK_take (i := 9) (v := .int .i64 (k : Int)) true rfl (by kernel_rfl) (by kernel_rfl) (by kernel_rfl) (by kernel_rfl) (by kernel_rfl) (fun _ _ _ h => h) (fun _ h => ⟨h.1, trivial⟩) (Or.inl ⟨by rfl, by intro w hSw; dsimp only at hSw; go_simp⟩) (b := false) (by kernel_rfl) hS0 ?_
              try simp only [Act.put, List.setIfInBounds_toArray, List.set_cons_zero, List.set_cons_succ]
              refine wpAnyK_take (i := 10) (v := .pointer (some ⟨gK, k, none⟩)) true rfl (by kernel_rfl) (by kernel_rfl) (by kernel_rfl) (by kernel_rfl) (by kernel_rfl) (fun _ _ _ h => h) (fun _ h => ⟨h.1, trivial⟩) (Or.inl ⟨by rfl, by intro w hSw; dsimp only at hSw; go_simp⟩) (b := false) (by kernel_rfl) hS0 ?_
              try simp only [Act.put, List.setIfInBounds_toArray, List.set_cons_zero, List.set_cons_succ]
              refine wpAnyK_take (i := 11) (v := .int .i64 xk) true rfl (by kernel_rfl) (by kernel_rfl) (by kernel_rfl) (by kernel_rfl) (by kernel_rfl) (fun _ _ _ h => h) (fun _ h => ⟨h.1, trivial⟩) (Or.inl ⟨by rfl, by intro w hSw; dsimp only at hSw; go_simp⟩) (b := false) (by kernel_rfl) hS0 ?_
              try simp only [Act.put, List.setIfInBounds_toArray, List.set_cons_zero, List.set_cons_succ]
              refine wpAnyK_take (i := 12) (v := .agg #[.int .i64 (k : Int), .int .i64 xk, .bool false]) true rfl (by kernel_rfl) (by kernel_rfl) (by kernel_rfl) (by kernel_rfl) (by kernel_rfl) (fun _ _ _ h => h) (fun _ h => ⟨h.1, trivial⟩) (Or.inl ⟨by rfl, by intro w hSw; dsimp only at hSw; go_simp⟩) (b := false) (by kernel_rfl) hS0 ?_
              try simp only [Act.put, List.setIfInBounds_toArray, List.set_cons_zero, List.set_cons_succ]
              refine wpAnyK_one (i := 13) (by kernel_rfl) rfl (by rfl) (b := false) (by kernel_rfl) (fun K hK => ?_)
              go_simp
              refine hK.out _ _ ⟨⟨cell_alloc x5, cell_alloc cK3⟩, cell_alloc cRt⟩ ?_
              try simp only [Act.put, List.setIfInBounds_toArray, List.set_cons_zero, List.set_cons_succ]
              refine wpAnyK_one (i := 14) (by kernel_rfl) rfl (by rfl) (b := false) (by kernel_rfl) (fun K hK => ?_)
              refine wp_app_rows_at msgT (.tmp 46) (.tmp 54) rfl lo (.slice av L.length cv) _ L [((k : Int), xk, false)] rfl (by exact hownA) rfl (by exact hlit) (by rw [List.length_singleton]; omega) (by rw [List.length_singleton]; omega) (by simpa using hlow) ?_
              intro v6 w6 hown6 hg6 hat6
              have x56 := grown_blk hg6 (show (wr.alloc (.cells #[.int .i64 (k : Int), .int .i64 xk, .bool false] 85)).drew.heap[X]? = _ from (Below.heap_alloc _ _ _ (blk_lt hX3)).trans hX3) (fun e => hoX e.symm)
              have cK6 := hg6.cell (show (wr.alloc (.cells #[.int .i64 (k : Int), .int .i64 xk, .bool false] 85)).drew.cell? ⟨gK, k, none⟩ = _ from cell_alloc cK3) (fun e => hoK e.symm)
              have cR6 := hg6.cell (show (wr.alloc (.cells #[.int .i64 (k : Int), .int .i64 xk, .bool false] 85)).drew.cell? ⟨R, t, none⟩ = _ from cell_alloc cRt) (fun e => hoR e.symm)
              have hG4 := (hG3.below (hal (.cells #[.int .i64 (k : Int), .int .i64 xk, .bool false] 85))).below (Below.refl _ _).drew
              have hst := GW.step (v := v6) hG4 (hIH.out t htP) (by rw [HVS.out]; exact hg6) hown6 (fun b e => by
                rw [HVS.out]
                rcases hat6 with h | h
                · left; rw [← h]; exact e
                · right; rw [h] at e; have := Option.some.inj e; omega)
              have hF4 := (hF3.grown (grown_of_below (hal (.cells #[.int .i64 (k : Int), .int .i64 xk, .bool false] 85)).drew) (fun b e => by cases e)).grown hg6 (fun b e => by rw [← HVS.out] at e; exact HV3.out t htP b e)
              have hF5 := hF4.grown (grown_store (b := R) (j := t) (v := v6)) (fun b e => by cases e; exact .inl hD2R)
              rw [hAH.out t htP] at hst
              have fR6 : w6.frozen? ⟨R, t, none⟩ = false := (heap_cell (hg6.block R (show R < (wr.alloc (.cells #[.int .i64 (k : Int), .int .i64 xk, .bool false] 85)).heap.size by have := cell_lt cRt; simp; omega) (fun e => hoR e.symm))).2.trans ((heap_cell (Below.heap_alloc _ _ _ (cell_lt cRt))).2.trans fR)
              have hv6 : ∀ b, v6.ownBlock = some b → D2 b ∨ w2.heap.size ≤ b := fun b e => by
                rcases hat6 with h | h
                · rw [h, ← HVS.out] at e; exact HV3.out t htP b e
                · rw [h] at e
                  have h1 := Option.some.inj e
                  have h2 := hF3.size
                  right
                  have h3 : (wr.alloc (.cells #[.int .i64 (k : Int), .int .i64 xk, .bool false] 85)).drew.heap.size = wr.heap.size + 1 := by simp
                  omega
              obtain ⟨a6, c6, hv6s⟩ := owns_shape hown6
              subst hv6s
              refine hK.out _ _ ⟨⟨cell_blk x56, cK6⟩, cR6⟩ ?_
              try simp only [Act.put, List.setIfInBounds_toArray, List.set_cons_zero, List.set_cons_succ]
              refine wpAnyK_take (i := 15) (v := .pointer (some ⟨R, t, none⟩)) true rfl (by kernel_rfl) (by kernel_rfl) (by kernel_rfl) (by kernel_rfl) (by kernel_rfl) (fun _ _ _ h => h) (fun _ h => ⟨h.1, trivial⟩) (Or.inl ⟨by rfl, by intro w hSw; dsimp only at hSw; go_simp⟩) (b := false) (by kernel_rfl) ⟨⟨cell_blk x56, cK6⟩, cR6⟩ ?_
              try simp only [Act.put, List.setIfInBounds_toArray, List.set_cons_zero, List.set_cons_succ]
              refine wpAnyK_one (i := 16) (by kernel_rfl) rfl (by rfl) (b := true) (by kernel_rfl) (fun K hK => ?_)
              go_simp
              refine hK.out _ _ ⟨⟨(World.cell?_setCell_far _ _ _ _ n2).trans (cell_blk x56), (World.cell?_setCell_far _ _ _ _ n4).trans cK6⟩, trivial⟩ (wpAnyK_done (by kernel_rfl) ?_ _)
              have hG5 := GW.boxes hst (B' := fun r' t' => if r' = r then (B r t' ++ telK es n P ow o x wh k t') ++ (if t' ∈ OL.take (j + 1) then [((k : Int), xk, false)] else []) else B r' t') (fun r' t' _ => by
                rw [htk]
                by_cases e1 : r' = r
                · subst e1
                  by_cases e2 : t' = t
                  · subst e2
                    rw [if_pos ⟨rfl, rfl⟩, if_pos rfl, if_pos (by simp), HL.out]
                  · rw [if_neg (fun q => e2 q.2), if_pos rfl, if_pos rfl]
                    congr 1
                    by_cases e3 : t' ∈ OL.take j
                    · rw [if_pos e3, if_pos (List.mem_append_left _ e3)]
                    · rw [if_neg e3, if_neg (fun q => by rcases List.mem_append.1 q with q | q; exact e3 q; exact e2 (List.mem_singleton.1 q))]
                · rw [if_neg (fun q => e1 q.1), if_neg e1, if_neg e1])
              have HV5 : Hid (∀ t1, t1 < P → ∀ b, (updX vs2 (r + 2, t) (.slice a6 (L ++ [((k : Int), xk, false)]).length c6) (r + 2, t1)).ownBlock = some b → D2 b ∨ w2.heap.size ≤ b) := (show ∀ t1, _ from fun t1 h1 b e => by
                unfold updX at e
                by_cases q : t1 = t
                · rw [if_pos (by rw [q])] at e; exact hv6 b e
                · rw [if_neg (ix_ne q)] at e; exact HV3.out t1 h1 b e)
              have HE5 : Hid (∀ i, (∀ t, t < P → i ≠ (r + 2, t)) → updX vs2 (r + 2, t) (.slice a6 (L ++ [((k : Int), xk, false)]).length c6) i = vs i) := (show ∀ i, _ from fun i hi => by
                unfold updX
                rw [if_neg (hi t htP)]
                exact HE3.out i hi)
              have hll : (L ++ [((k : Int), xk, false)]).length = L.length + 1 := by simp
              rw [hll] at hG5 HV5 HE5 hF5
              clear hst hG4 hF4 hown6 hg6 hat6 hv6 fR6 cR6 cK6 x56 hll
              go_wp2_with fail
              go_roundw
              case rel => exact ⟨j + 1, _, by omega, by go_num, hG5, hF5, HV5, HE5⟩
              case measure => simp [intOf]; omega
            · have hje : j = OL.length := by rw [← HCL.out]; omega
              have hG4 := GW.boxes hG3 (B' := fun r' t' => if r' = r then B r t' ++ telK es n P ow o x wh (k + 1) t' else B r' t') (fun r' t' _ => by
                by_cases e1 : r' = r
                · rw [if_pos e1, if_pos e1, telK_step, hje, List.take_length, List.append_assoc, HOL.out, HXK.out, hok, HDW.out]
                  congr 2
                  simp
                · rw [if_neg e1, if_neg e1])
              have hF4 := hF2.trans hF3 (fun b h => by
                rcases HDN.out b h with h | h
                · exact .inl h
                · right; omega)
              have HV4 : Hid (∀ t, t < P → ∀ b, (vs2 (r + 2, t)).ownBlock = some b → D b ∨ X < b) := (show ∀ t, _ from fun t ht b h => by
                rcases HV3.out t ht b h with h | h
                · exact HDN.out b h
                · right; omega)
              clear hG3 hF3
              go_wp2_with fail
              go_roundw
              case rel => exact ⟨k + 1, vs2, by omega, by go_num, hG4, hF4, HV4, HE3⟩
              case measure => simp [intOf]; omega
    · obtain rfl : k = n := by omega
      have hG4 := GW.boxes hG (B' := fun r' t' => if r' = r then B r t' ++ telL es k P ow o x wh t' else B r' t') (fun r' t' _ => rfl)
      have hF4 := hF0.trans hF (fun b h => .inl h)
      go_wp2_with fail
      go_end0
      exact ⟨rfl, vs1, hG4, hF4, (fun t ht b h => by
        rcases HV.out t ht b h with h | h
        · exact .inl h
        · right; omega), HE.out⟩
set_option linter.unusedSimpArgs false in
set_option maxRecDepth 100000 in
set_option maxHeartbeats 6400000 in
theorem rdtellD_any (n P o r R cR gK : Nat) (A9 A10 : Nat) (hv0 : Value) (es : List E2) (ow : Nat → Nat) (ao aN ag : Option Addr) (co cN cg lo : Nat) (x : List Int) (wh : Nat → Bool) (I : Ix → Prop) (ad : Ix → Nat × Nat) (vs : Ix → Value) (K N : Nat → List Int) (B : Nat → Nat → List Msg) (Qn : Nat → Prop) (w : World)
    (hn : n ≤ 64) (hP : P ≤ 64) (how : ∀ v, v < n → ow v < P) (hlo : lo ≤ w.heap.size) (hW : GW w lo I ad vs K N B) (hI : ∀ t, t < P → I (r + 2, t)) (hA : ∀ t, t < P → ad (r + 2, t) = (R, t)) (_hcR : P ≤ cR) (hR : R < w.heap.size)
    (hO : IntsAt w (.slice ao n co) (owI n ow)) (hOd : ∀ n' c p, Value.slice ao n co = .slice (some p) n' c → ¬ tellD R P r vs p.block) (hN : RowsX Qn w (.slice aN n cN) (nearL es n)) (hNd : ∀ b, Qn b → ¬ tellD R P r vs b)
    (hK : ∀ i, i < n → ag = some ⟨gK, 0, none⟩ ∧ w.cell? ⟨gK, i, none⟩ = some (.int .i64 (x.getD i 0))) (hKd : ¬ tellD R P r vs gK) (hcg : n ≤ cg) (hB : ∀ t, t < P → (B r t).length ≤ 1000000)
    (hwh : ∀ v, v < n → ∀ W, Fr (tellD R P r vs) w W → Calls Try.prog 126 #[.int .i64 (v : Int), .pointer (some ⟨A10, 0, none⟩), .pointer (some ⟨A9, 0, none⟩)] W fun e W' => e = .returned (.bool (wh v)) ∧ ∃ m, W' = W.drewN m) :
    Calls Try.prog 70 #[.agg #[.int .i64 P, .slice ao n co, hv0, .slice aN n cN, .int .i64 (o : Int), .slice ag n cg], .slice (some ⟨R, 0, none⟩) P cR, .func (.func 126) #[] #[.pointer (some ⟨A10, 0, none⟩), .pointer (some ⟨A9, 0, none⟩)]] w fun e w' => e = .returned (.tuple #[]) ∧ ∃ vs', GW w' lo I ad vs' K N (fun r' t' => if r' = r then B r t' ++ telL es n P ow o x wh t' else B r' t') ∧ Fr (tellD R P r vs) w w' ∧ (∀ t, t < P → ∀ b, (vs' (r + 2, t)).ownBlock = some b → tellD R P r vs b ∨ w.heap.size ≤ b) ∧ (∀ i, (∀ t, t < P → i ≠ (r + 2, t)) → vs' i = vs i) := by
  obtain ⟨hXX, hb0⟩ := boxG_new w #[.int .i64 P, .slice ao n co, hv0, .slice aN n cN, .int .i64 (o : Int), .slice ag n cg] 110
  obtain ⟨wA, hwA⟩ : ∃ W : World, W = w.alloc (.cells #[.int .i64 P, .slice ao n co, hv0, .slice aN n cN, .int .i64 (o : Int), .slice ag n cg] 110) := ⟨_, rfl⟩
  obtain ⟨X, hX⟩ : ∃ X, w.heap.size = X := ⟨_, rfl⟩
  rw [← hwA] at hXX hb0
  have hzA : wA.heap.size = X + 1 := by rw [hwA, ← hX]; simp
  have HWA := Lib.hid hwA
  have HX := Lib.hid hX
  obtain ⟨D, hD⟩ : ∃ D, tellD R P r vs = D := ⟨_, rfl⟩
  rw [hD] at hOd hNd hKd hwh ⊢
  have hDl : ∀ b, D b → b < X := fun b h => by
    rw [← hD] at h
    rcases h with h | ⟨t, ht, h⟩
    · omega
    · have := ((hW.own _ (hI t ht)).lt b h).2; omega
  have hDX : ¬ D X := fun h => by have := hDl X h; omega
  have hDo : ∀ t, t < P → ∀ b, (vs (r + 2, t)).ownBlock = some b → D b := fun t ht b h => by rw [← hD]; exact .inr ⟨t, ht, h⟩
  have hDR : D R := by rw [← hD]; exact .inl rfl
  have hWA := hW.below hb0
  rw [hX] at hXX hb0 hR hlo ⊢
  have hF0 : Fr D w wA := Fr.of_below (by rw [hX]; exact hb0)
  have hOA := hF0.ints hO hOd
  have hNA := hF0.rows hN hNd
  have hKA : ∀ i, i < n → ag = some ⟨gK, 0, none⟩ ∧ wA.cell? ⟨gK, i, none⟩ = some (.int .i64 (x.getD i 0)) ∧ gK < X := fun i hi => ⟨(hK i hi).1, hF0.cell (hK i hi).2 hKd, by have := cell_lt (hK i hi).2; omega⟩
  have hwA2 : ∀ v, v < n → ∀ W, Fr D wA W → Calls Try.prog 126 #[.int .i64 (v : Int), .pointer (some ⟨A10, 0, none⟩), .pointer (some ⟨A9, 0, none⟩)] W fun e W' => e = .returned (.bool (wh v)) ∧ ∃ m, W' = W.drewN m := fun v hv W h => hwh v hv W (hF0.trans h (fun b hb => .inl hb))
  obtain ⟨-, hcN, -⟩ := hNA.len
  have hWH := Lib.hid hwA2
  have hKH := Lib.hid hKA
  have hAH := Lib.hid hA
  have hIH := Lib.hid hI
  have hBH := Lib.hid hB
  have hOdH := Lib.hid hOd
  have hDlH := Lib.hid hDl
  have hDoH := Lib.hid hDo
  clear hwA hX hW hO hN hK hwh hwA2 hKA hA hI hB hOd hDl hDo
  obtain ⟨q0, q1, q2, q3, q4, q5⟩ := cells6 hXX
  go_enter Try.func70, Try.ntmps70
  go_wp2_with (rw [← HWA.out, HX.out])
  clear q0 q1 q2 q3 q4 q5
  go_loopw [13] (fun vi wr => ∃ (k : Nat) (vs1 : Ix → Value), k ≤ n ∧ vi = .int .i64 (k : Int) ∧ GW wr lo I ad vs1 K N (fun r' t' => if r' = r then B r t' ++ telK es n P ow o x wh k t' else B r' t') ∧ Fr D wA wr ∧ Hid (∀ t, t < P → ∀ b, (vs1 (r + 2, t)).ownBlock = some b → D b ∨ X < b) ∧ Hid (∀ i, (∀ t, t < P → i ≠ (r + 2, t)) → vs1 i = vs i)) (fun vi _ => n - (intOf vi).toNat)
  case atStart => exact ⟨0, vs, Nat.zero_le _, rfl, GW.boxes hWA (fun r' t' _ => by by_cases e : r' = r <;> simp [e, telK]), Fr.refl _ _, (show ∀ t, _ from fun t ht b h => .inl (hDoH.out t ht b h)), (show ∀ i, _ from fun i _ => rfl)⟩
  case round =>
    obtain ⟨k, vs1, hk, rfl, hG, hF, HV, HE⟩ := hrel
    have hXr := hF.blk hXX hDX
    obtain ⟨q0, q1, q2, q3, q4, q5⟩ := cells6 hXr
    by_cases hlt : k < n
    · have hlt3 : (k : Int) < n := by omega
      have hOr := hF.ints hOA (hOdH.out)
      have hNr := hF.rows hNA hNd
      obtain ⟨rfl, cKA, hgK⟩ := hKH.out k hlt
      have cKr := hF.cell cKA hKd
      have hcw := hWH.out k hlt
      obtain ⟨bO, oO, rfl, ck, hcO⟩ : ∃ b off, ao = some ⟨b, off, none⟩ ∧ wr.cell? ⟨b, off + k, none⟩ = some (.int .i64 (ow k : Int)) ∧ n ≤ co := by
        obtain ⟨_, _, hv', h1, _, _, h4⟩ := (show IntsAt wr (.slice ao (owI n ow).length co) (owI n ow) by rw [owI_length]; exact hOr)
        cases hv'
        rw [owI_length] at h1
        obtain ⟨b, off, rfl, c⟩ := h4 k _ (owI_get n ow k hlt)
        exact ⟨b, off, rfl, c, h1⟩
      by_cases hok : ow k = o
      case neg =>
        have d1 : ((ow k : Int) != (o : Int)) = true := by simp; omega
        have hno := fun t => telK_no es n P ow o x wh k t (fun q => hok q.1)
        have HNO := Lib.hid hno
        clear hno
        go_wp2_with fail
        go_quiet (fail)
        have hbd := (Below.refl wr.heap.size wr).drewN nq
        have hG2 := GW.boxes (hG.below hbd) (B' := fun r' t' => if r' = r then B r t' ++ telK es n P ow o x wh (k + 1) t' else B r' t') (fun r' t' _ => by rw [HNO.out])
        have hF2 := hF.grown (grown_of_below hbd) (fun b e => by cases e)
        clear hF hG
        go_wp2_with fail
        go_roundw
        case rel => exact ⟨k + 1, vs1, by omega, by go_num, hG2, hF2, HV, HE⟩
        case measure => simp [intOf]; omega
      case pos =>
        have d1 : ((ow k : Int) != (o : Int)) = false := by simp; omega
        have hq := fun m => Calls.quiet_of (n := m) (hcw (wr.drewN m) (hF.grown (grown_of_below ((Below.refl wr.heap.size wr).drewN m)) (fun b e => by cases e)))
        obtain ⟨DW, hDW⟩ : ∃ D, wh k = D := ⟨_, rfl⟩
        rw [hDW] at hq
        have HDW := Lib.hid hDW
        clear hcw
        cases DW with
        | false =>
          have hno := fun t => telK_no es n P ow o x wh k t (fun q => by rw [HDW.out] at q; exact absurd q.2 (by simp))
          have HNO := Lib.hid hno
          clear hno
          go_wp2_with fail
          go_quiet ((go_at_call 126; exact hq _))
          have hbd := (Below.refl wr.heap.size wr).drewN nq
          have hG2 := GW.boxes (hG.below hbd) (B' := fun r' t' => if r' = r then B r t' ++ telK es n P ow o x wh (k + 1) t' else B r' t') (fun r' t' _ => by rw [HNO.out])
          have hF2 := hF.grown (grown_of_below hbd) (fun b e => by cases e)
          clear hF hG
          go_wp2_with fail
          go_roundw
          case rel => exact ⟨k + 1, vs1, by omega, by go_num, hG2, hF2, HV, HE⟩
          case measure => simp [intOf]; omega
        | true =>
          go_wp2_with fail
          go_quiet ((go_at_call 126; exact hq _))
          have hbd := (Below.refl wr.heap.size wr).drewN nq
          obtain ⟨w1, hw1⟩ : ∃ W : World, W = wr.drewN nq := ⟨_, rfl⟩
          rw [← hw1] at hbd ⊢
          have hG1 := hG.below hbd
          have hF1 := hF.grown (grown_of_below hbd) (fun b e => by cases e)
          have hX1 := lit_next' hbd hXr
          have how2 := rdowners_any n P k hv0 es ow (some ⟨bO, oO, none⟩) aN co cN Qn w1 hn hlt how (hOr.below hbd) (hNr.below hbd)
          obtain ⟨OL, hOL⟩ : ∃ L, ownL es n P ow k = L := ⟨_, rfl⟩
          have hOLl := ownL_len64 es n P ow k
          have hOLn := ownL_nodup2 es n P ow k
          have hOLp : ∀ t ∈ OL, t < P := fun t ht => by rw [← hOL] at ht; exact (ownL_mem.1 ht).1
          rw [hOL] at how2 hOLl hOLn
          have HCL := Lib.hid (castL_length OL)
          have HOL := Lib.hid hOL
          have hR1 : R < w1.heap.size := by have := hF1.size; omega
          have hDn : ∀ b, tellD R P r vs1 b → D b ∨ X < b := fun b h => by
            rcases h with h | ⟨t, ht, h⟩
            · left; rw [h]; exact hDR
            · exact HV.out t ht b h
          have hDn1 : ∀ b, tellD R P r vs1 b → b < w1.heap.size := fun b h => by
            rcases h with h | ⟨t, ht, h⟩
            · omega
            · exact ((hG1.own _ (hIH.out t ht)).lt b h).2
          have HDN := Lib.hid hDn
          have HDN1 := Lib.hid hDn1
          have cK1 := hF1.cell cKA hKd
          clear hw1 hG hF hq q0 q1 q2 q3 q4 q5 hOr hNr ck cKr hXr hOL hDn hDn1
          obtain ⟨q0, q1, q2, q3, q4, q5⟩ := cells6 hX1
          go_wp2_with fail
          refine how2.mono ?_
          rintro e w2 ⟨a5, c5, rfl, hi5, hp5, hb2⟩
          have hG2 := hG1.below hb2
          have hF2 := hF1.grown (grown_of_below hb2) (fun b e => by cases e)
          have hX2 := lit_next' hb2 hX1
          have cK2 := (hb2.cell (p := ⟨gK, k, none⟩) (cell_lt cK1)).trans cK1
          have hD2X : ¬ tellD R P r vs1 X := fun h => by
            rcases HDN.out X h with h | h
            · exact hDX h
            · omega
          have hD2K : ¬ tellD R P r vs1 gK := fun h => by
            rcases HDN.out gK h with h | h
            · exact hKd h
            · omega
          have hD2o : ∀ t, t < P → ∀ b, (vs1 (r + 2, t)).ownBlock = some b → tellD R P r vs1 b := fun t ht b h => .inr ⟨t, ht, h⟩
          obtain ⟨D2, hD2⟩ : ∃ D2, tellD R P r vs1 = D2 := ⟨_, rfl⟩
          have hD2R : D2 R := by rw [← hD2]; exact .inl rfl
          have hi5d : ∀ n' c p, Value.slice a5 (castL OL).length c5 = .slice (some p) n' c → ¬ D2 p.block := fun n' c p e h => by
            obtain rfl : a5 = some p := (Value.slice.inj e).1
            have h1 := hp5 p rfl
            rw [← hD2] at h
            have h2 := HDN1.out _ h
            omega
          rw [hD2] at hD2X hD2K hD2o HDN HDN1
          have hXg : X < w2.heap.size := blk_lt hX2
          have hXR : X ≠ R := fun e => hDX (e ▸ hDR)
          have hgR : gK ≠ R := fun e => hKd (e ▸ hDR)
          have hi5H := Lib.hid hi5d
          have hD2oH := Lib.hid hD2o
          obtain ⟨xk, hxk⟩ : ∃ z, x.getD k 0 = z := ⟨_, rfl⟩
          rw [hxk] at cK2
          have HXK := Lib.hid hxk
          clear hG1 hF1 hX1 hD2 cK1 hi5d hD2o q0 q1 q2 q3 q4 q5 how2 hp5 hxk cKA
          go_wp2_with fail
          go_loopw [37] (fun vi wr => ∃ (j : Nat) (vs2 : Ix → Value), j ≤ (castL OL).length ∧ vi = .int .i64 (j : Int) ∧ GW wr lo I ad vs2 K N (fun r' t' => if r' = r then (B r t' ++ telK es n P ow o x wh k t') ++ (if t' ∈ OL.take j then [((k : Int), xk, false)] else []) else B r' t') ∧ Fr D2 w2 wr ∧ Hid (∀ t, t < P → ∀ b, (vs2 (r + 2, t)).ownBlock = some b → D2 b ∨ w2.heap.size ≤ b) ∧ Hid (∀ i, (∀ t, t < P → i ≠ (r + 2, t)) → vs2 i = vs i)) (fun vi _ => (castL OL).length - (intOf vi).toNat)
          case atStart => exact ⟨0, vs1, Nat.zero_le _, rfl, GW.boxes hG2 (fun r' t' _ => by by_cases e : r' = r <;> simp [e]), Fr.refl _ _, (show ∀ t, _ from fun t ht b h => .inl (hD2oH.out t ht b h)), HE⟩
          case round =>
            obtain ⟨j, vs2, hj, rfl, hG3, hF3, HV3, HE3⟩ := hrel
            by_cases hltj : j < (castL OL).length
            · have hltj3 : (j : Int) < (castL OL).length := by omega
              have hjs : j < OL.length := by rw [← HCL.out]; exact hltj
              obtain ⟨t, ht⟩ : ∃ t, OL[j]? = some t := ⟨_, List.getElem?_eq_getElem hjs⟩
              have htP : t < P := hOLp t (List.mem_of_getElem? ht)
              have htn : t ∉ OL.take j := fun hm => by
                obtain ⟨i, hi, hie⟩ := List.getElem_of_mem hm
                rw [List.length_take] at hi
                rw [List.getElem_take] at hie
                have h1 := (List.getElem?_eq_some_iff.1 ht).2
                exact (List.pairwise_iff_getElem.1 hOLn) i j (by omega) hjs (by omega) (hie.trans h1.symm)
              have htk := take_at _ _ _ ht
              obtain ⟨b5, o5, t', e5, hz5, -, -, c5t⟩ := (hF3.ints hi5 hi5H.out).at j hltj
              obtain rfl : t' = (t : Int) := by
                unfold castL at hz5
                rw [List.getElem?_map, ht] at hz5
                exact (Option.some.inj hz5).symm
              subst e5
              have hti : (t : Int) < P := by omega
              have hX3 := hF3.blk hX2 hD2X
              have cK3 := hF3.cell cK2 hD2K
              have x5 := cell_blk (j := 5) hX3
              have hown0 := GW.box hG3 (hIH.out t htP)
              rw [if_pos rfl, if_neg htn, List.append_nil] at hown0
              have hLl : (B r t ++ telK es n P ow o x wh k t).length ≤ 1100000 := by
                have h1 := hBH.out t htP
                have h2 := telK_len es n P ow o x wh k t
                rw [List.length_append]; omega
              obtain ⟨L, hL⟩ : ∃ L, B r t ++ telK es n P ow o x wh k t = L := ⟨_, rfl⟩
              rw [hL] at hown0 hLl
              have HL := Lib.hid hL
              have cRt := hG3.cell _ (hIH.out t htP)
              have fR := hG3.free _ (hIH.out t htP)
              rw [hAH.out t htP] at cRt fR
              dsimp only at cRt fR
              obtain ⟨av, cv, hvs⟩ := owns_shape hown0
              have HVS := Lib.hid hvs
              rw [hvs] at hown0 cRt
              have hoX : (Value.slice av L.length cv).ownBlock ≠ some X := fun e => by
                rw [← hvs] at e
                rcases HV3.out t htP X e with h | h
                · exact hD2X h
                · omega
              have hoK : (Value.slice av L.length cv).ownBlock ≠ some gK := fun e => by
                rw [← hvs] at e
                rcases HV3.out t htP gK e with h | h
                · exact hD2K h
                · omega
              have hoR : (Value.slice av L.length cv).ownBlock ≠ some R := fun e => by
                rw [← hvs] at e
                have := hG3.off _ _ (hIH.out t htP) (hIH.out t htP)
                rw [hAH.out t htP] at this
                exact this e
              have hal := fun o => (Below.refl wr.heap.size wr).alloc (Nat.le_refl _) o
              have hlit := rows_lit1 (E := encM) wr ((k : Int), xk, false) 85 #[.int .i64 (k : Int), .int .i64 xk, .bool false] rfl
              have hownA := hown0.alloc (.cells #[.int .i64 (k : Int), .int .i64 xk, .bool false] 85)
              have hlow : lo ≤ wr.heap.size + 1 := by have := hF3.size; have := hF2.size; omega
              obtain ⟨n1, n2⟩ : ¬ (X = R) ∧ ¬ (R = X) := ⟨hXR, fun e => hXR e.symm⟩
              obtain ⟨n3, n4⟩ : ¬ (gK = R) ∧ ¬ (R = gK) := ⟨hgR, fun e => hgR e.symm⟩
              clear hvs hL hz5 ht
              go_upto_region 8 with fail
              refine wp_region_heldK (k := 16) (S := fun b W => (W.cell? ⟨X, 5, none⟩ = some (.slice (some ⟨gK, 0, none⟩) n cg) ∧ W.cell? ⟨gK, k, none⟩ = some (.int .i64 xk)) ∧ (match b with | false => W.cell? ⟨R, t, none⟩ = some (.slice av L.length cv) | true => True)) (by kernel_rfl) ?_
              have hS0 : (wr.drew.cell? ⟨X, 5, none⟩ = some (.slice (some ⟨gK, 0, none⟩) n cg) ∧ wr.drew.cell? ⟨gK, k, none⟩ = some (.int .i64 xk)) ∧ wr.drew.cell? ⟨R, t, none⟩ = some (.slice av L.length cv) := ⟨⟨x5, cK3⟩, cRt⟩
              refine wpAnyK_take (i := 0) (v := .slice (some ⟨R, 0, none⟩) P cR) true rfl (by kernel_rfl) (by kernel_rfl) (by kernel_rfl) (by kernel_rfl) (by kernel_rfl) (fun _ _ _ h => h) (fun _ h => ⟨h.1, trivial⟩) (Or.inl ⟨by rfl, by intro w hSw; dsimp only at hSw; go_simp⟩) (b := false) (by kernel_rfl) hS0 ?_
              try simp only [Act.put, List.setIfInBounds_toArray, List.set_cons_zero, List.set_cons_succ]
              refine wpAnyK_take (i := 1) (v := .int .i64 (t : Int)) true rfl (by kernel_rfl) (by kernel_rfl) (by kernel_rfl) (by kernel_rfl) (by kernel_rfl) (fun _ _ _ h => h) (fun _ h => ⟨h.1, trivial⟩) (Or.inl ⟨by rfl, by intro w hSw; dsimp only at hSw; go_simp⟩) (b := false) (by kernel_rfl) hS0 ?_
              try simp only [Act.put, List.setIfInBounds_toArray, List.set_cons_zero, List.set_cons_succ]
              refine wpAnyK_take (i := 2) (v := .slice (some ⟨R, 0, none⟩) P cR) true rfl (by kernel_rfl) (by kernel_rfl) (by kernel_rfl) (by kernel_rfl) (by kernel_rfl) (fun _ _ _ h => h) (fun _ h => ⟨h.1, trivial⟩) (Or.inl ⟨by rfl, by intro w hSw; dsimp only at hSw; go_simp⟩) (b := false) (by kernel_rfl) hS0 ?_
              try simp only [Act.put, List.setIfInBounds_toArray, List.set_cons_zero, List.set_cons_succ]
              refine wpAnyK_take (i := 3) (v := .int .i64 (t : Int)) true rfl (by kernel_rfl) (by kernel_rfl) (by kernel_rfl) (by kernel_rfl) (by kernel_rfl) (fun _ _ _ h => h) (fun _ h => ⟨h.1, trivial⟩) (Or.inl ⟨by rfl, by intro w hSw; dsimp only at hSw; go_simp⟩) (b := false) (by kernel_rfl) hS0 ?_
              try simp only [Act.put, List.setIfInBounds_toArray, List.set_cons_zero, List.set_cons_succ]
              refine wpAnyK_take (i := 4) (v := .pointer (some ⟨R, t, none⟩)) true rfl (by kernel_rfl) (by kernel_rfl) (by kernel_rfl) (by kernel_rfl) (by kernel_rfl) (fun _ _ _ h => h) (fun _ h => ⟨h.1, trivial⟩) (Or.inl ⟨by rfl, by intro w hSw; dsimp only at hSw; go_simp⟩) (b := false) (by kernel_rfl) hS0 ?_
              try simp only [Act.put, List.setIfInBounds_toArray, List.set_cons_zero, List.set_cons_succ]
              refine wpAnyK_take (i := 5) (v := .slice av L.length cv) false rfl (by kernel_rfl) (by kernel_rfl) (by kernel_rfl) (by kernel_rfl) (by kernel_rfl) (fun _ _ _ h => h) (fun _ h => ⟨h.1, trivial⟩) (Or.inl ⟨by rfl, by intro w hSw; dsimp only at hSw; go_simp⟩) (b := false) (by kernel_rfl) hS0 ?_
              try simp only [Act.put, List.setIfInBounds_toArray, List.set_cons_zero, List.set_cons_succ]
              refine wpAnyK_take (i := 6) (v := .int .i64 (k : Int)) true rfl (by kernel_rfl) (by kernel_rfl) (by kernel_rfl) (by kernel_rfl) (by kernel_rfl) (fun _ _ _ h => h) (fun _ h => ⟨h.1, trivial⟩) (Or.inl ⟨by rfl, by intro w hSw; dsimp only at hSw; go_simp⟩) (b := false) (by kernel_rfl) hS0 ?_
              try simp only [Act.put, List.setIfInBounds_toArray, List.set_cons_zero, List.set_cons_succ]
              refine wpAnyK_take (i := 7) (v := .pointer (some ⟨X, 5, none⟩)) true rfl (by kernel_rfl) (by kernel_rfl) (by kernel_rfl) (by kernel_rfl) (by kernel_rfl) (fun _ _ _ h => h) (fun _ h => ⟨h.1, trivial⟩) (Or.inl ⟨by rfl, by intro w hSw; dsimp only at hSw; go_simp⟩) (b := false) (by kernel_rfl) hS0 ?_
              try simp only [Act.put, List.setIfInBounds_toArray, List.set_cons_zero, List.set_cons_succ]
              refine wpAnyK_take (i := 8) (v := .slice (some ⟨gK, 0, none⟩) n cg) true rfl (by kernel_rfl) (by kernel_rfl) (by kernel_rfl) (by kernel_rfl) (by kernel_rfl) (fun _ _ _ h => h) (fun _ h => ⟨h.1, trivial⟩) (Or.inl ⟨by rfl, by intro w hSw; dsimp only at hSw; go_simp⟩) (b := false) (by kernel_rfl) hS0 ?_
              try simp only [Act.put, List.setIfInBounds_toArray, List.set_cons_zero, List.set_cons_succ]
              refine wpAnyK_take (i := 9) (v := .int .i64 (k : Int)) true rfl (by kernel_rfl) (by kernel_rfl) (by kernel_rfl) (by kernel_rfl) (by kernel_rfl) (fun _ _ _ h => h) (fun _ h => ⟨h.1, trivial⟩) (Or.inl ⟨by rfl, by intro w hSw; dsimp only at hSw; go_simp⟩) (b := false) (by kernel_rfl) hS0 ?_
              try simp only [Act.put, List.setIfInBounds_toArray, List.set_cons_zero, List.set_cons_succ]
              refine wpAnyK_take (i := 10) (v := .pointer (some ⟨gK, k, none⟩)) true rfl (by kernel_rfl) (by kernel_rfl) (by kernel_rfl) (by kernel_rfl) (by kernel_rfl) (fun _ _ _ h => h) (fun _ h => ⟨h.1, trivial⟩) (Or.inl ⟨by rfl, by intro w hSw; dsimp only at hSw; go_simp⟩) (b := false) (by kernel_rfl) hS0 ?_
              try simp only [Act.put, List.setIfInBounds_toArray, List.set_cons_zero, List.set_cons_succ]
              refine wpAnyK_take (i := 11) (v := .int .i64 xk) true rfl (by kernel_rfl) (by kernel_rfl) (by kernel_rfl) (by kernel_rfl) (by kernel_rfl) (fun _ _ _ h => h) (fun _ h => ⟨h.1, trivial⟩) (Or.inl ⟨by rfl, by intro w hSw; dsimp only at hSw; go_simp⟩) (b := false) (by kernel_rfl) hS0 ?_
              try simp only [Act.put, List.setIfInBounds_toArray, List.set_cons_zero, List.set_cons_succ]
              refine wpAnyK_take (i := 12) (v := .agg #[.int .i64 (k : Int), .int .i64 xk, .bool false]) true rfl (by kernel_rfl) (by kernel_rfl) (by kernel_rfl) (by kernel_rfl) (by kernel_rfl) (fun _ _ _ h => h) (fun _ h => ⟨h.1, trivial⟩) (Or.inl ⟨by rfl, by intro w hSw; dsimp only at hSw; go_simp⟩) (b := false) (by kernel_rfl) hS0 ?_
              try simp only [Act.put, List.setIfInBounds_toArray, List.set_cons_zero, List.set_cons_succ]
              refine wpAnyK_one (i := 13) (by kernel_rfl) rfl (by rfl) (b := false) (by kernel_rfl) (fun K hK => ?_)
              go_simp
              refine hK.out _ _ ⟨⟨cell_alloc x5, cell_alloc cK3⟩, cell_alloc cRt⟩ ?_
              try simp only [Act.put, List.setIfInBounds_toArray, List.set_cons_zero, List.set_cons_succ]
              refine wpAnyK_one (i := 14) (by kernel_rfl) rfl (by rfl) (b := false) (by kernel_rfl) (fun K hK => ?_)
              refine wp_app_rows_at msgT (.tmp 46) (.tmp 54) rfl lo (.slice av L.length cv) _ L [((k : Int), xk, false)] rfl (by exact hownA) rfl (by exact hlit) (by rw [List.length_singleton]; omega) (by rw [List.length_singleton]; omega) (by simpa using hlow) ?_
              intro v6 w6 hown6 hg6 hat6
              have x56 := grown_blk hg6 (show (wr.alloc (.cells #[.int .i64 (k : Int), .int .i64 xk, .bool false] 85)).drew.heap[X]? = _ from (Below.heap_alloc _ _ _ (blk_lt hX3)).trans hX3) (fun e => hoX e.symm)
              have cK6 := hg6.cell (show (wr.alloc (.cells #[.int .i64 (k : Int), .int .i64 xk, .bool false] 85)).drew.cell? ⟨gK, k, none⟩ = _ from cell_alloc cK3) (fun e => hoK e.symm)
              have cR6 := hg6.cell (show (wr.alloc (.cells #[.int .i64 (k : Int), .int .i64 xk, .bool false] 85)).drew.cell? ⟨R, t, none⟩ = _ from cell_alloc cRt) (fun e => hoR e.symm)
              have hG4 := (hG3.below (hal (.cells #[.int .i64 (k : Int), .int .i64 xk, .bool false] 85))).below (Below.refl _ _).drew
              have hst := GW.step (v := v6) hG4 (hIH.out t htP) (by rw [HVS.out]; exact hg6) hown6 (fun b e => by
                rw [HVS.out]
                rcases hat6 with h | h
                · left; rw [← h]; exact e
                · right; rw [h] at e; have := Option.some.inj e; omega)
              have hF4 := (hF3.grown (grown_of_below (hal (.cells #[.int .i64 (k : Int), .int .i64 xk, .bool false] 85)).drew) (fun b e => by cases e)).grown hg6 (fun b e => by rw [← HVS.out] at e; exact HV3.out t htP b e)
              have hF5 := hF4.grown (grown_store (b := R) (j := t) (v := v6)) (fun b e => by cases e; exact .inl hD2R)
              rw [hAH.out t htP] at hst
              have fR6 : w6.frozen? ⟨R, t, none⟩ = false := (heap_cell (hg6.block R (show R < (wr.alloc (.cells #[.int .i64 (k : Int), .int .i64 xk, .bool false] 85)).heap.size by have := cell_lt cRt; simp; omega) (fun e => hoR e.symm))).2.trans ((heap_cell (Below.heap_alloc _ _ _ (cell_lt cRt))).2.trans fR)
              have hv6 : ∀ b, v6.ownBlock = some b → D2 b ∨ w2.heap.size ≤ b := fun b e => by
                rcases hat6 with h | h
                · rw [h, ← HVS.out] at e; exact HV3.out t htP b e
                · rw [h] at e
                  have h1 := Option.some.inj e
                  have h2 := hF3.size
                  right
                  have h3 : (wr.alloc (.cells #[.int .i64 (k : Int), .int .i64 xk, .bool false] 85)).drew.heap.size = wr.heap.size + 1 := by simp
                  omega
              obtain ⟨a6, c6, hv6s⟩ := owns_shape hown6
              subst hv6s
              refine hK.out _ _ ⟨⟨cell_blk x56, cK6⟩, cR6⟩ ?_
              try simp only [Act.put, List.setIfInBounds_toArray, List.set_cons_zero, List.set_cons_succ]
              refine wpAnyK_take (i := 15) (v := .pointer (some ⟨R, t, none⟩)) true rfl (by kernel_rfl) (by kernel_rfl) (by kernel_rfl) (by kernel_rfl) (by kernel_rfl) (fun _ _ _ h => h) (fun _ h => ⟨h.1, trivial⟩) (Or.inl ⟨by rfl, by intro w hSw; dsimp only at hSw; go_simp⟩) (b := false) (by kernel_rfl) ⟨⟨cell_blk x56, cK6⟩, cR6⟩ ?_
              try simp only [Act.put, List.setIfInBounds_toArray, List.set_cons_zero, List.set_cons_succ]
              refine wpAnyK_one (i := 16) (by kernel_rfl) rfl (by rfl) (b := true) (by kernel_rfl) (fun K hK => ?_)
              go_simp
              refine hK.out _ _ ⟨⟨(World.cell?_setCell_far _ _ _ _ n2).trans (cell_blk x56), (World.cell?_setCell_far _ _ _ _ n4).trans cK6⟩, trivial⟩ (wpAnyK_done (by kernel_rfl) ?_ _)
              have hG5 := GW.boxes hst (B' := fun r' t' => if r' = r then (B r t' ++ telK es n P ow o x wh k t') ++ (if t' ∈ OL.take (j + 1) then [((k : Int), xk, false)] else []) else B r' t') (fun r' t' _ => by
                rw [htk]
                by_cases e1 : r' = r
                · subst e1
                  by_cases e2 : t' = t
                  · subst e2
                    rw [if_pos ⟨rfl, rfl⟩, if_pos rfl, if_pos (by simp), HL.out]
                  · rw [if_neg (fun q => e2 q.2), if_pos rfl, if_pos rfl]
                    congr 1
                    by_cases e3 : t' ∈ OL.take j
                    · rw [if_pos e3, if_pos (List.mem_append_left _ e3)]
                    · rw [if_neg e3, if_neg (fun q => by rcases List.mem_append.1 q with q | q; exact e3 q; exact e2 (List.mem_singleton.1 q))]
                · rw [if_neg (fun q => e1 q.1), if_neg e1, if_neg e1])
              have HV5 : Hid (∀ t1, t1 < P → ∀ b, (updX vs2 (r + 2, t) (.slice a6 (L ++ [((k : Int), xk, false)]).length c6) (r + 2, t1)).ownBlock = some b → D2 b ∨ w2.heap.size ≤ b) := (show ∀ t1, _ from fun t1 h1 b e => by
                unfold updX at e
                by_cases q : t1 = t
                · rw [if_pos (by rw [q])] at e; exact hv6 b e
                · rw [if_neg (ix_ne q)] at e; exact HV3.out t1 h1 b e)
              have HE5 : Hid (∀ i, (∀ t, t < P → i ≠ (r + 2, t)) → updX vs2 (r + 2, t) (.slice a6 (L ++ [((k : Int), xk, false)]).length c6) i = vs i) := (show ∀ i, _ from fun i hi => by
                unfold updX
                rw [if_neg (hi t htP)]
                exact HE3.out i hi)
              have hll : (L ++ [((k : Int), xk, false)]).length = L.length + 1 := by simp
              rw [hll] at hG5 HV5 HE5 hF5
              clear hst hG4 hF4 hown6 hg6 hat6 hv6 fR6 cR6 cK6 x56 hll
              go_wp2_with fail
              go_roundw
              case rel => exact ⟨j + 1, _, by omega, by go_num, hG5, hF5, HV5, HE5⟩
              case measure => simp [intOf]; omega
            · have hje : j = OL.length := by rw [← HCL.out]; omega
              have hG4 := GW.boxes hG3 (B' := fun r' t' => if r' = r then B r t' ++ telK es n P ow o x wh (k + 1) t' else B r' t') (fun r' t' _ => by
                by_cases e1 : r' = r
                · rw [if_pos e1, if_pos e1, telK_step, hje, List.take_length, List.append_assoc, HOL.out, HXK.out, hok, HDW.out]
                  congr 2
                  simp
                · rw [if_neg e1, if_neg e1])
              have hF4 := hF2.trans hF3 (fun b h => by
                rcases HDN.out b h with h | h
                · exact .inl h
                · right; omega)
              have HV4 : Hid (∀ t, t < P → ∀ b, (vs2 (r + 2, t)).ownBlock = some b → D b ∨ X < b) := (show ∀ t, _ from fun t ht b h => by
                rcases HV3.out t ht b h with h | h
                · exact HDN.out b h
                · right; omega)
              clear hG3 hF3
              go_wp2_with fail
              go_roundw
              case rel => exact ⟨k + 1, vs2, by omega, by go_num, hG4, hF4, HV4, HE3⟩
              case measure => simp [intOf]; omega
    · obtain rfl : k = n := by omega
      have hG4 := GW.boxes hG (B' := fun r' t' => if r' = r then B r t' ++ telL es k P ow o x wh t' else B r' t') (fun r' t' _ => rfl)
      have hF4 := hF0.trans hF (fun b h => .inl h)
      go_wp2_with fail
      go_end0
      exact ⟨rfl, vs1, hG4, hF4, (fun t ht b h => by
        rcases HV.out t ht b h with h | h
        · exact .inl h
        · right; omega), HE.out⟩
end Go.Proofs.Ytdkmdcdoiaelfaa
