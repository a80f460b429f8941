/- The contracts of cutting links. -/
import Derived.Test.YtpblaoeaeljmhaaDoorLkSet
namespace Go.Proofs.YtpblaoeaeljmhaaDoor
open Go.RowKit Go.BigFrame

/-- the cells of an event lie in block E -/
def EvBlk (w : World) (E : Nat) (e : Ev) : Prop := w.heap[E]? = some (.cells e.cells 41 (0, 0))
theorem EvBlk.next {w w' : World} {E : Nat} {e : Ev} (h : EvBlk w E e) (hb : Below w.heap.size w w') : EvBlk w' E e := lk_next hb h
set_option maxRecDepth 100000 in
set_option maxHeartbeats 800000 in
theorem step1_any (e : Ev) (l : Lk) (E : Nat) (w : World) (hE : EvBlk w E e) (hk : e.kind = 2) : Calls Tryd.prog 50 #[.agg l.cells, .pointer (some ⟨E, 0, none⟩)] w fun x w' => x = .returned (.bool (goneB e l)) ∧ Below w.heap.size w w' := by
  have hg : goneB e l = (decide (l.u = min e.u e.v) && decide (l.v = max e.u e.v)) := by unfold goneB; rw [if_pos hk]
  rw [hg]
  clear hg
  unfold EvBlk at hE
  obtain ⟨k, t, u, v, a, b, c⟩ := e
  obtain ⟨lu, lv, a1, a2, a3, a4⟩ := l
  unfold Ev.cells at hE
  unfold Lk.cells
  dsimp only at hE ⊢
  have hbn := (Below.refl w.heap.size w).alloc (Nat.le_refl _) (.cells #[.int .i64 lu, .int .i64 lv, .int .i64 a1, .int .i64 a2, .int .i64 a3, .int .i64 a4] 69)
  have hE2 := lk_next hbn hE
  have c2 := cell_blk (j := 2) hE2
  have c3 := cell_blk (j := 3) hE2
  obtain ⟨mu, hmu⟩ : ∃ z, min u v = z := ⟨_, rfl⟩
  obtain ⟨mv, hmv⟩ : ∃ z, max u v = z := ⟨_, rfl⟩
  by_cases h1 : lu = min u v
  · have d1 : (lu == min u v) = true := by simp [h1]
    by_cases h2 : lv = max u v
    · have d2 : (lv == max u v) = true := by simp [h2]
      rw [decide_eq_true h1, decide_eq_true h2]
      clear h1 h2 hmu hmv
      go_enter Tryd.func50, Tryd.ntmps50
      go_wp2_with fail
      go_ret
      exact ⟨rfl, hbn⟩
    · have d2 : (lv == max u v) = false := by simpa using h2
      rw [decide_eq_true h1, decide_eq_false h2]
      clear h1 h2 hmu hmv
      go_enter Tryd.func50, Tryd.ntmps50
      go_wp2_with fail
      go_ret
      exact ⟨rfl, hbn⟩
  · have d1 : (lu == min u v) = false := by simpa using h1
    rw [decide_eq_false h1, Bool.false_and]
    clear h1 hmu hmv
    go_enter Tryd.func50, Tryd.ntmps50
    go_wp2_with fail
    go_ret
    exact ⟨rfl, hbn⟩
set_option maxRecDepth 100000 in
set_option maxHeartbeats 800000 in
theorem step2_any (e : Ev) (l : Lk) (E : Nat) (w : World) (hE : EvBlk w E e) (hk : e.kind ≠ 2) : Calls Tryd.prog 51 #[.agg l.cells, .pointer (some ⟨E, 0, none⟩)] w fun x w' => x = .returned (.bool (goneB e l)) ∧ Below w.heap.size w w' := by
  have hg : goneB e l = (decide (l.u = e.u) || decide (l.v = e.u)) := by unfold goneB; rw [if_neg hk]
  rw [hg]
  clear hg hk
  unfold EvBlk at hE
  obtain ⟨k, t, u, v, a, b, c⟩ := e
  obtain ⟨lu, lv, a1, a2, a3, a4⟩ := l
  unfold Ev.cells at hE
  unfold Lk.cells
  dsimp only at hE ⊢
  have hbn := (Below.refl w.heap.size w).alloc (Nat.le_refl _) (.cells #[.int .i64 lu, .int .i64 lv, .int .i64 a1, .int .i64 a2, .int .i64 a3, .int .i64 a4] 69)
  have hE2 := lk_next hbn hE
  have c2 := cell_blk (j := 2) hE2
  by_cases h1 : lu = u
  · have d1 : (lu == u) = true := by simp [h1]
    rw [decide_eq_true h1, Bool.true_or]
    clear h1
    go_enter Tryd.func51, Tryd.ntmps51
    go_wp2_with fail
    go_ret
    exact ⟨rfl, hbn⟩
  · have d1 : (lu == u) = false := by simpa using h1
    rw [decide_eq_false h1, Bool.false_or]
    by_cases h2 : lv = u
    · have d2 : (lv == u) = true := by simp [h2]
      rw [decide_eq_true h2]
      clear h1 h2
      go_enter Tryd.func51, Tryd.ntmps51
      go_wp2_with fail
      go_ret
      exact ⟨rfl, hbn⟩
    · have d2 : (lv == u) = false := by simpa using h2
      rw [decide_eq_false h2]
      clear h1 h2
      go_enter Tryd.func51, Tryd.ntmps51
      go_wp2_with fail
      go_ret
      exact ⟨rfl, hbn⟩
/-- taking one element out of a row -/
theorem cut_row {K R : List Lk} {x : Lk} {cur : Array Value} (hcur : cur.toList.take ((K ++ x :: R).length * 6) = flatR encLk (K ++ x :: R)) :
    (splice cur.toList (K.length * 6) (flatR encLk R)).toArray.toList.take ((K ++ R).length * 6) = flatR encLk (K ++ R) := by
  have h2 : cur.toList.take (K.length * 6) = (cur.toList.take ((K ++ x :: R).length * 6)).take (K.length * 6) := by
    rw [List.take_take, Nat.min_eq_left (by rw [List.length_append]; omega)]
  have h1 : cur.toList.take (K.length * 6) = flatR encLk K := by
    rw [h2, hcur]
    refine (flatR_take encLk (K ++ x :: R) K.length).trans ?_
    rw [List.take_left]
  show (cur.toList.take (K.length * 6) ++ (flatR encLk R ++ cur.toList.drop (K.length * 6 + (flatR encLk R).length))).take ((K ++ R).length * 6) = _
  have h3 : (flatR encLk (K ++ R)).length = (K ++ R).length * 6 := flatR_length encLk (K ++ R)
  rw [h1, ← List.append_assoc, ← flatR_append, ← h3, List.take_left]
theorem cut_src {K R : List Lk} {x : Lk} {cur : Array Value} {W : World} {g T : Nat} (hb : W.heap[g]? = some (.cells cur T (0, 0))) (hcur : cur.toList.take ((K ++ x :: R).length * 6) = flatR encLk (K ++ x :: R)) :
    (K ++ x :: R).length * 6 ≤ cur.size ∧ ∀ j v, (flatR encLk R)[j]? = some v → W.cell? ⟨g, (K.length + 1) * 6 + j, none⟩ = some v := by
  have h1 : (flatR encLk (K ++ x :: R)).length = (K ++ x :: R).length * 6 := flatR_length encLk _
  have h2 : (K ++ x :: R).length * 6 ≤ cur.size := by
    have h := congrArg List.length hcur
    rw [h1, List.length_take] at h
    have hl : cur.toList.length = cur.size := rfl
    omega
  refine ⟨h2, fun j v hj => ?_⟩
  have hjl := (List.getElem?_eq_some_iff.1 hj).1
  have hRl : (flatR encLk R).length = R.length * 6 := flatR_length encLk R
  have e : K ++ x :: R = (K ++ [x]) ++ R := by simp
  have hKl : (flatR encLk (K ++ [x])).length = (K.length + 1) * 6 := by
    rw [flatR_length, List.length_append]; rfl
  rw [cell_blk hb, ← Array.getElem?_toList]
  have h3 : (cur.toList.take ((K ++ x :: R).length * 6))[(K.length + 1) * 6 + j]? = some v := by
    rw [hcur, e, flatR_append, List.getElem?_append_right (by rw [hKl]; omega), hKl, Nat.add_sub_cancel_left]
    exact hj
  rw [List.getElem?_take] at h3
  split at h3
  · exact h3
  · cases h3
def lkLen : Value → Nat
  | .slice _ n _ => n
  | _ => 0
def CutPost (w : World) (ls' : List Lk) (ch : List Ev) (e : Ending) (w' : World) : Prop :=
  ∃ a1 c1 a2 c2, e = .returned (.tuple #[.slice a1 ls'.length c1, .slice a2 ch.length c2]) ∧ RowAt encLk w' (.slice a1 ls'.length c1) ls' ∧ RowAt encEv w' (.slice a2 ch.length c2) ch ∧ (∀ p, a1 = some p → w.heap.size ≤ p.block) ∧ (∀ p, a2 = some p → w.heap.size ≤ p.block) ∧ Below w.heap.size w w'
def keepL (e : Ev) (l : List Lk) : List Lk := l.filter fun x => !goneB e x
def goneC (e : Ev) (l : List Lk) : List Ev := (l.filter (goneB e)).map fun x => cutEv x e.time
theorem keep_snoc (e : Ev) (l : List Lk) (x : Lk) : keepL e (l ++ [x]) = if goneB e x = true then keepL e l else keepL e l ++ [x] := by
  unfold keepL
  rw [List.filter_append]
  cases h : goneB e x <;> simp [h]
theorem gone_snoc (e : Ev) (l : List Lk) (x : Lk) : goneC e (l ++ [x]) = if goneB e x = true then goneC e l ++ [cutEv x e.time] else goneC e l := by
  unfold goneC
  rw [List.filter_append, List.map_append]
  cases h : goneB e x <;> simp [h]
theorem keep_len (e : Ev) (l : List Lk) : (keepL e l).length ≤ l.length := List.length_filter_le _ _
theorem goneC_len (e : Ev) (l : List Lk) : (goneC e l).length ≤ l.length := by unfold goneC; rw [List.length_map]; exact List.length_filter_le _ _
set_option maxRecDepth 100000 in
set_option maxHeartbeats 6400000 in
theorem lcut1_any (e : Ev) (ls : List Lk) (a : Option Addr) (cap E : Nat) (w : World) (hl : RowAt encLk w (.slice a ls.length cap) ls) (hE : EvBlk w E e) (hk : e.kind = 2) (hln : ls.length ≤ 4096) :
    Calls Tryd.prog 49 #[.slice a ls.length cap, .int .i64 e.time, .func (.func 50) #[] #[.pointer (some ⟨E, 0, none⟩)]] w (CutPost w (keepL e ls) (goneC e ls)) := by
  obtain ⟨T, hT⟩ : ∃ T, e.time = T := ⟨_, rfl⟩
  obtain ⟨KF, hKF⟩ : ∃ K, keepL e ls = K := ⟨_, rfl⟩
  obtain ⟨CF, hCF⟩ : ∃ K, goneC e ls = K := ⟨_, rfl⟩
  rw [hT, hKF, hCF]
  have HT := Lib.hid hT
  have HKF := Lib.hid hKF
  have HCF := Lib.hid hCF
  clear hT hKF hCF
  go_enter Tryd.func49, Tryd.ntmps49
  go_wp2_with fail
  refine (lkclone_any _ ls _ hl (by omega)).mono ?_
  rintro _ w1 ⟨x1, rfl, hown1, hb1⟩
  have hE1 := hE.next hb1
  have hb1z := hb1.size
  obtain ⟨a1, c1, hx1⟩ := owns_shape hown1
  subst hx1
  obtain ⟨_, _, hv', hr1, hp1⟩ := RowAt.of_owns hown1 (by omega)
  obtain ⟨rfl, -, rfl⟩ := Value.slice.inj hv'
  have hEl := blk_lt hE
  by_cases hne : ls = []
  · subst hne
    have hK : Hid (KF = []) := (show _ = _ by rw [← HKF.out]; rfl)
    have hC : Hid (CF = []) := (show _ = _ by rw [← HCF.out]; rfl)
    clear hv' hown1 hl
    rw [List.length_nil] at hr1 ⊢
    go_wp2_with fail
    go_loopw [0, 8, 9] (fun vl vc vi wr => vl = .slice a1 0 c1 ∧ vc = .slice none 0 0 ∧ vi = .int .i64 0 ∧ Below w1.heap.size w1 wr) (fun _ _ _ _ => 0)
    case atStart => exact ⟨rfl, rfl, rfl, Below.refl _ _⟩
    case round =>
      obtain ⟨rfl, rfl, rfl, hb⟩ := hrel
      go_wp2_with fail
      go_ret2
      unfold CutPost
      exact ⟨a1, c1, none, 0, by rw [hK.out, hC.out]; rfl, by rw [hK.out]; exact hr1.below hb, by rw [hC.out]; exact RowAt.nil _, hp1, (fun p h => by cases h), hb1.trans (hb.mono hb1.size)⟩
  have hpos : 0 < ls.length := List.length_pos_iff.2 hne
  obtain ⟨g, c1', cur0, hv2, hgw, hcc, hblk0, hcur0⟩ := lkblk_owns hown1 hpos
  obtain ⟨rfl, -, rfl⟩ := Value.slice.inj hv2
  have HC1 : Hid (cur0.toList.take (ls.length * 6) = flatR encLk ([] ++ ls.drop 0)) := hcur0
  have hglt := blk_lt hblk0
  clear hv' hv2 hown1 hr1 hp1 hl hcur0 hne
  go_wp2_with fail
  go_loopw [0, 8, 9] (fun vl vc vi wr => ∃ (m : Nat) (K : List Lk) (N i nc : Nat) (CL : List Ev), m ≤ ls.length ∧ vl = .slice (some ⟨g, 0, none⟩) N c1 ∧ vi = .int .i64 i ∧ Hid (K = keepL e (ls.take m)) ∧ Hid (CL = goneC e (ls.take m)) ∧ Hid (N = (K ++ ls.drop m).length) ∧ Hid (i = K.length) ∧ N ≤ ls.length ∧ i ≤ N ∧ Hid (nc = CL.length) ∧ nc ≤ m ∧ wr.ownsRow w1.heap.size 41 encEv.k vc nc (flatR encEv CL) ∧ (∃ cur, wr.heap[g]? = some (.cells cur 69 (0, 0)) ∧ Hid (cur.toList.take (N * 6) = flatR encLk (K ++ ls.drop m))) ∧ Below w.heap.size w wr ∧ EvBlk wr E e ∧ w1.heap.size ≤ wr.heap.size) (fun vl _ vi _ => lkLen vl - (intOf vi).toNat)
  case atStart => exact ⟨0, [], ls.length, 0, 0, [], Nat.zero_le _, rfl, rfl, (show _ = _ from rfl), (show _ = _ from rfl), (show _ = _ by simp), (show _ = _ from rfl), Nat.le_refl _, Nat.zero_le _, (show _ = _ from rfl), Nat.zero_le _, World.ownsRow_nil _ _ _ _, ⟨cur0, hblk0, HC1⟩, hb1, hE1, Nat.le_refl _⟩
  case round =>
    clear HC1 hblk0 hE1 hb1
    obtain ⟨m, K, N, i, nc, CL, hm, rfl, rfl, HK, HCL, HN, HI, hNl, hiN, HNC, hnc, hown, ⟨cur, hblk, HCUR⟩, hb, hEr, hw1r⟩ := hrel
    obtain ⟨ac, cc, hvc⟩ := owns_shape hown
    subst hvc
    have hNi : N = i + (ls.length - m) := by have h := HN.out; rw [List.length_append, List.length_drop, ← HI.out] at h; exact h
    have HNI := Lib.hid hNi
    by_cases hlt : i < N
    · have hml : m < ls.length := by omega
      obtain ⟨x, hx⟩ : ∃ x, ls[m]? = some x := ⟨_, List.getElem?_eq_getElem hml⟩
      have hdr := drop_at ls m x hx
      have htk := take_at ls m x hx
      have hcu := HCUR.out
      rw [HN.out] at hcu
      have hrow := lkblk_row hblk hcu (c := c1) (by rw [← HN.out]; omega) (by rw [← HN.out]; omega)
      obtain ⟨_, _, y, eg, hy, -, d0, d1, d2, d3, d4, d5⟩ := lk_at hrow i (by rw [← HN.out]; exact hlt)
      cases eg
      have hyx : y = x := by
        rw [hdr, HI.out, List.getElem?_append_right (Nat.le_refl _), Nat.sub_self] at hy
        exact (Option.some.inj hy).symm
      subst hyx
      simp only [Nat.zero_add] at d0 d1 d2 d3 d4 d5
      have hst := step1_any e y E wr hEr hk
      have HDR := Lib.hid hdr
      have HTK := Lib.hid htk
      have hi3 : (i : Int) < N := by omega
      obtain ⟨B, hB⟩ : ∃ B, goneB e y = B := ⟨_, rfl⟩
      rw [hB] at hst
      have HB := Lib.hid hB
      have hgo := fun W => gone_any y T W
      have HY : Hid (y.cells = #[.int .i64 y.u, .int .i64 y.v, .int .i64 y.weight, .int .i64 y.label, .int .i64 y.sign, .int .i64 y.time]) := (show _ = _ from rfl)
      rw [HY.out] at hst hgo
      clear hx hdr htk hcu hrow hy hB hNi
      go_wp2_with fail
      refine hst.mono ?_
      rintro _ w2 ⟨rfl, hb2⟩
      have hE2 := hEr.next hb2
      have hblk2 := lk_next hb2 hblk
      have hown2 : w2.ownsRow w1.heap.size 41 encEv.k (.slice ac nc cc) nc (flatR encEv CL) := hown.kept (row := none) ⟨hb2.os, hb2.tape, hb2.output, hb2.size, fun k hk _ => hb2.block k hk⟩ (by
        cases hs : (Value.slice ac nc cc).ownBlock with
        | none => exact .inl rfl
        | some g => exact .inr (by simp))
      have hbw2 := hb.trans (hb2.mono hb.size)
      have hz2 := hb2.size
      have f0 := (hb2.cell (p := ⟨g, i * 6, none⟩) (cell_lt d0)).trans d0
      have f1 := (hb2.cell (p := ⟨g, i * 6 + 1, none⟩) (cell_lt d1)).trans d1
      have f2 := (hb2.cell (p := ⟨g, i * 6 + 2, none⟩) (cell_lt d2)).trans d2
      have f3 := (hb2.cell (p := ⟨g, i * 6 + 3, none⟩) (cell_lt d3)).trans d3
      have f4 := (hb2.cell (p := ⟨g, i * 6 + 4, none⟩) (cell_lt d4)).trans d4
      have f5 := (hb2.cell (p := ⟨g, i * 6 + 5, none⟩) (cell_lt d5)).trans d5
      clear hst hEr hblk hown hb hb2 d0 d1 d2 d3 d4 d5
      have hass : K ++ ls.drop m = (K ++ [y]) ++ ls.drop (m + 1) := by rw [HDR.out]; simp
      cases B with
      | false =>
        have hkp : K ++ [y] = keepL e (ls.take (m + 1)) := by rw [HTK.out, keep_snoc, HB.out, if_neg (by simp), ← HK.out]
        have hgp : CL = goneC e (ls.take (m + 1)) := by rw [HTK.out, gone_snoc, HB.out, if_neg (by simp), ← HCL.out]
        have HKP := Lib.hid hkp
        have HGP := Lib.hid hgp
        have HASS := Lib.hid hass
        clear hkp hgp hass
        go_wp2_with fail
        go_roundw
        case rel => exact ⟨m + 1, K ++ [y], N, i + 1, nc, CL, by omega, rfl, by go_num, HKP, HGP, (show _ = _ by rw [HN.out, HASS.out]), (show _ = _ by rw [HI.out, List.length_append]; rfl), hNl, by omega, HNC, by omega, hown2, ⟨cur, hblk2, (show _ = _ by rw [HCUR.out, HASS.out])⟩, hbw2, hE2, by omega⟩
        case measure => simp [lkLen, intOf]; omega
      | true =>
        have hkp : K = keepL e (ls.take (m + 1)) := by rw [HTK.out, keep_snoc, HB.out, if_pos rfl, ← HK.out]
        have hgp : CL ++ [cutEv y T] = goneC e (ls.take (m + 1)) := by rw [HTK.out, gone_snoc, HB.out, if_pos rfl, ← HCL.out, HT.out]
        have HKP := Lib.hid hkp
        have HGP := Lib.hid hgp
        have hV : (cutEv y T).cells = #[.int .i64 2, .int .i64 T, .int .i64 y.u, .int .i64 y.v, .int .i64 0, .int .i64 0, .int .i64 0] := rfl
        rw [hV] at hgo
        have hrw := HCUR.out
        rw [HN.out, HDR.out] at hrw
        have HCR := Lib.hid (cut_row hrw)
        clear hkp hgp hass hV hrw
        go_wp2_with fail
        refine (hgo _).mono ?_
        rintro _ w3 ⟨rfl, hb3⟩
        have hE3 := hE2.next hb3
        have hblk3 := lk_next hb3 hblk2
        have hown3 : w3.ownsRow w1.heap.size 41 encEv.k (.slice ac nc cc) nc (flatR encEv CL) := hown2.kept (row := none) ⟨hb3.os, hb3.tape, hb3.output, hb3.size, fun k hk _ => hb3.block k hk⟩ (by
          cases hs : (Value.slice ac nc cc).ownBlock with
          | none => exact .inl rfl
          | some g => exact .inr (by simp))
        have hbw3 := hbw2.trans (hb3.mono hbw2.size)
        have hz3 := hb3.size
        have hlx := rows_lit1 (E := encEv) w3 (cutEv y T) 41 #[.int .i64 2, .int .i64 T, .int .i64 y.u, .int .i64 y.v, .int .i64 0, .int .i64 0, .int .i64 0] rfl
        have hownA := hown3.alloc (.cells #[.int .i64 2, .int .i64 T, .int .i64 y.u, .int .i64 y.v, .int .i64 0, .int .i64 0, .int .i64 0] 41)
        have hbnA := (Below.refl w3.heap.size w3).alloc (Nat.le_refl _) (.cells #[.int .i64 2, .int .i64 T, .int .i64 y.u, .int .i64 y.v, .int .i64 0, .int .i64 0, .int .i64 0] 41)
        have hEA := hE3.next hbnA
        have hblkA := lk_next hbnA hblk3
        have hbwA := hbw3.trans (hbnA.mono hbw3.size)
        have hzA := hbnA.size
        clear hgo hE2 hblk2 hown2 hbw2 hE3 hblk3 hown3 hbw3 hb3 hbnA f0 f1 f2 f3 f4 f5
        go_wp2_with (at_builtin; refine wpList_app_rows evRT rfl _ _ rfl w1.heap.size (.slice ac nc cc) _ CL [cutEv y T] rfl (by rw [← HNC.out]; exact hownA) rfl hlx (by rw [← HNC.out]; simp; omega) (by rw [← HNC.out]; simp; omega) (by omega) ?_; intro v6 w6 hown6 hg6; have hl6 : (CL ++ [cutEv y T]).length = nc + 1 := (by rw [List.length_append, ← HNC.out]; rfl); rw [hl6] at hown6; obtain ⟨a6, c6, rfl⟩ := owns_shape hown6)
        have hblk6 := grown_blk hg6 hblkA (fun e => by have := (hownA.lt _ e.symm).1; omega)
        have hE6 : EvBlk w6 E e := grown_blk hg6 hEA (fun e => by have := (hownA.lt _ e.symm).1; have := hb1z; omega)
        have hbw6 := hbwA.grown hg6 hbwA.size (fun k e => by have := (hownA.lt k e).1; have := hb1z; omega)
        have hz6 := hg6.size
        have hcu := HCUR.out
        rw [HN.out, HDR.out] at hcu
        obtain ⟨hfit, hsrc⟩ := cut_src (W := w6.drew) hblk6 hcu
        have hRl : (ls.drop (m + 1)).length = N - (i + 1) := by
          have h := HN.out
          rw [HDR.out, List.length_append, List.length_cons, ← HI.out] at h
          omega
        rw [← HI.out] at hsrc HCR
        obtain ⟨R, hR⟩ : ∃ R, ls.drop (m + 1) = R := ⟨_, rfl⟩
        rw [hR] at hsrc hfit hRl HCR
        have HRR := Lib.hid hR
        have HRL := Lib.hid hRl
        have hfit2 : i * 6 + R.length * encLk.k ≤ cur.size := by
          rw [List.length_append, List.length_cons, ← HI.out] at hfit
          show i * 6 + R.length * 6 ≤ cur.size
          omega
        have hNc : N ≤ c1 := by omega
        have hw2 : IntKind.i64.wrap ((i : Int) + 1) = (i : Int) + 1 := by rw [IntKind.wrap_i64]; omega
        have hb1 : (0 : Int) ≤ (i : Int) + 1 := by omega
        have htn : ((i : Int) + 1).toNat = i + 1 := by omega
        have hb3 : (i : Int) + 1 ≤ (N : Int) := by omega
        have hb4 : ¬ (c1 = i) := by omega
        have hb5 : (i : Int) ≤ (N : Int) := by omega
        clear hR hRl hcu
        by_cases hce : c1 = i + 1
        · have hN1 : N = i + 1 := by omega
          have hRn : R = [] := List.eq_nil_of_length_eq_zero (by rw [HRL.out]; omega)
          have q1 := lkcopy_eq w6.drew g (i * 6) (N - i) (c1 - i) ⟨g, 0, none⟩ (N - (i + 1)) (c1 - (i + 1)) cur _ R 3 hblk6 (by rw [HRL.out]; exact (Nat.min_eq_left (by omega)).symm) (fun j v h => by rw [hRn] at h; simp [flatR] at h) hfit2
          have hct : (c1 = i + 1) = True := eq_true hce
          clear hce hN1 hRn
          go_region
          all_goals
            obtain ⟨w8, hw8⟩ : ∃ W : World, W = w6.drew.setRow g (splice cur.toList (i * 6) (flatR encLk R)).toArray := ⟨_, rfl⟩
            have hblk8 : w8.heap[g]? = some (.cells (splice cur.toList (i * 6) (flatR encLk R)).toArray 69 (0, 0)) := by rw [hw8]; exact setRow_heap w6.drew g cur _ _ _ hblk6
            have hg8 : w6.grownBy w8 (some g) := by rw [hw8]; exact ⟨rfl, rfl, rfl, by simp [World.setRow], fun k _ hk => by have : k ≠ g := fun e => hk (by rw [e]); rw [setRow_other _ _ _ _ this]; rfl⟩
            rw [← hw8]
            clear hw8 q1
            have hE8 : EvBlk w8 E e := grown_blk hg8 hE6 (by intro e; have := Option.some.inj e; omega)
            have hbw8 := hbw6.grown hg8 hbw6.size (fun k e => by cases e; exact hgw)
            have hz8 := hg8.size
            have hown8 : w8.ownsRow w1.heap.size 41 encEv.k (.slice a6 (nc + 1) c6) (nc + 1) (flatR encEv (CL ++ [cutEv y T])) := hown6.kept hg8 (by
              cases hs : (Value.slice a6 (nc + 1) c6).ownBlock with
              | none => exact .inl rfl
              | some k => have := (hown6.lt k hs).1; exact .inr (by intro e; have := Option.some.inj e; omega))
            have v9 : IntKind.i64.wrap ((N : Int) - 1) = (N : Int) - 1 := by rw [IntKind.wrap_i64]; omega
            have t9 : ((N : Int) - 1).toNat = N - 1 := by omega
            have b9 : (0 : Int) ≤ (N : Int) - 1 := by omega
            have b10 : (N : Int) - 1 ≤ (c1 : Int) := by omega
            have HM : Hid (m + 1 ≤ ls.length ∧ N - 1 ≤ ls.length ∧ i ≤ N - 1 ∧ nc + 1 ≤ m + 1 ∧ w1.heap.size ≤ w8.heap.size) := (show _ ∧ _ by omega)
            clear hblk6 hE6 hbw6 hown6 hg8 hfit2 hsrc
            go_wp2_with fail
            go_roundw
            case rel =>
              have hKR : (K ++ R).length = N - 1 := by rw [List.length_append, HRL.out, ← HI.out]; omega
              have hR' := HRR.out
              subst hR'
              have hcr := HCR.out
              rw [hKR] at hcr
              exact ⟨m + 1, K, N - 1, i, nc + 1, CL ++ [cutEv y T], HM.out.1, rfl, rfl, HKP, HGP, hKR.symm, HI, HM.out.2.1, HM.out.2.2.1, (show _ = _ by rw [List.length_append, ← HNC.out]; rfl), HM.out.2.2.2.1, hown8, ⟨_, hblk8, (show _ = _ from hcr)⟩, hbw8, hE8, HM.out.2.2.2.2⟩
            case measure => simp [lkLen, intOf]; omega
        · have q1 := lkcopy_eq w6.drew g (i * 6) (N - i) (c1 - i) ⟨g, (i + 1) * 6, none⟩ (N - (i + 1)) (c1 - (i + 1)) cur _ R 3 hblk6 (by rw [HRL.out]; exact (Nat.min_eq_left (by omega)).symm) (fun j v h => by rw [Addr.add_lit]; exact hsrc j v h) hfit2
          go_region
          all_goals
            obtain ⟨w8, hw8⟩ : ∃ W : World, W = w6.drew.setRow g (splice cur.toList (i * 6) (flatR encLk R)).toArray := ⟨_, rfl⟩
            have hblk8 : w8.heap[g]? = some (.cells (splice cur.toList (i * 6) (flatR encLk R)).toArray 69 (0, 0)) := by rw [hw8]; exact setRow_heap w6.drew g cur _ _ _ hblk6
            have hg8 : w6.grownBy w8 (some g) := by rw [hw8]; exact ⟨rfl, rfl, rfl, by simp [World.setRow], fun k _ hk => by have : k ≠ g := fun e => hk (by rw [e]); rw [setRow_other _ _ _ _ this]; rfl⟩
            rw [← hw8]
            clear hw8 q1
            have hE8 : EvBlk w8 E e := grown_blk hg8 hE6 (by intro e; have := Option.some.inj e; omega)
            have hbw8 := hbw6.grown hg8 hbw6.size (fun k e => by cases e; exact hgw)
            have hz8 := hg8.size
            have hown8 : w8.ownsRow w1.heap.size 41 encEv.k (.slice a6 (nc + 1) c6) (nc + 1) (flatR encEv (CL ++ [cutEv y T])) := hown6.kept hg8 (by
              cases hs : (Value.slice a6 (nc + 1) c6).ownBlock with
              | none => exact .inl rfl
              | some k => have := (hown6.lt k hs).1; exact .inr (by intro e; have := Option.some.inj e; omega))
            have v9 : IntKind.i64.wrap ((N : Int) - 1) = (N : Int) - 1 := by rw [IntKind.wrap_i64]; omega
            have t9 : ((N : Int) - 1).toNat = N - 1 := by omega
            have b9 : (0 : Int) ≤ (N : Int) - 1 := by omega
            have b10 : (N : Int) - 1 ≤ (c1 : Int) := by omega
            have HM : Hid (m + 1 ≤ ls.length ∧ N - 1 ≤ ls.length ∧ i ≤ N - 1 ∧ nc + 1 ≤ m + 1 ∧ w1.heap.size ≤ w8.heap.size) := (show _ ∧ _ by omega)
            clear hblk6 hE6 hbw6 hown6 hg8 hfit2 hsrc
            go_wp2_with fail
            go_roundw
            case rel =>
              have hKR : (K ++ R).length = N - 1 := by rw [List.length_append, HRL.out, ← HI.out]; omega
              have hR' := HRR.out
              subst hR'
              have hcr := HCR.out
              rw [hKR] at hcr
              exact ⟨m + 1, K, N - 1, i, nc + 1, CL ++ [cutEv y T], HM.out.1, rfl, rfl, HKP, HGP, hKR.symm, HI, HM.out.2.1, HM.out.2.2.1, (show _ = _ by rw [List.length_append, ← HNC.out]; rfl), HM.out.2.2.2.1, hown8, ⟨_, hblk8, (show _ = _ from hcr)⟩, hbw8, hE8, HM.out.2.2.2.2⟩
            case measure => simp [lkLen, intOf]; omega
    · obtain rfl : i = N := by omega
      have hmm : m = ls.length := by have := HNI.out; omega
      have hKF : KF = K := by rw [← HKF.out, HK.out, hmm, List.take_length]
      have hCF : CF = CL := by rw [← HCF.out, HCL.out, hmm, List.take_length]
      have hcu := HCUR.out
      have hKN : K ++ ls.drop m = K := by rw [hmm, List.drop_length, List.append_nil]
      rw [hKN] at hcu
      have hi := HI.out
      have HKF2 := Lib.hid hKF
      have HCF2 := Lib.hid hCF
      have hrow := lkblk_row hblk (by rw [← hi]; exact hcu) (c := c1) (by omega) (by omega)
      obtain ⟨_, _, hv3, hre, hpe⟩ := RowAt.of_owns (xs := CL) (by rw [← HNC.out]; exact hown) (by rw [← HNC.out]; omega)
      rw [← HNC.out] at hv3
      obtain ⟨rfl, -, rfl⟩ := Value.slice.inj hv3
      clear hKF hCF hKN hcu hv3 hown hblk hmm hi hNi HNI
      go_wp2_with fail
      go_ret2
      unfold CutPost
      exact ⟨some ⟨g, 0, none⟩, c1, ac, cc, by rw [HKF2.out, HCF2.out, ← HNC.out, ← HI.out]; rfl, by rw [HKF2.out]; exact hrow, by rw [HCF2.out]; exact hre, (fun p h => by cases h; exact hgw), (fun p h => by have := hpe p h; have := hb1z; omega), hb⟩
set_option maxRecDepth 100000 in
set_option maxHeartbeats 6400000 in
theorem lcut2_any (e : Ev) (ls : List Lk) (a : Option Addr) (cap E : Nat) (w : World) (hl : RowAt encLk w (.slice a ls.length cap) ls) (hE : EvBlk w E e) (hk : e.kind ≠ 2) (hln : ls.length ≤ 4096) :
    Calls Tryd.prog 49 #[.slice a ls.length cap, .int .i64 e.time, .func (.func 51) #[] #[.pointer (some ⟨E, 0, none⟩)]] w (CutPost w (keepL e ls) (goneC e ls)) := by
  obtain ⟨T, hT⟩ : ∃ T, e.time = T := ⟨_, rfl⟩
  obtain ⟨KF, hKF⟩ : ∃ K, keepL e ls = K := ⟨_, rfl⟩
  obtain ⟨CF, hCF⟩ : ∃ K, goneC e ls = K := ⟨_, rfl⟩
  rw [hT, hKF, hCF]
  have HT := Lib.hid hT
  have HKF := Lib.hid hKF
  have HCF := Lib.hid hCF
  clear hT hKF hCF
  go_enter Tryd.func49, Tryd.ntmps49
  go_wp2_with fail
  refine (lkclone_any _ ls _ hl (by omega)).mono ?_
  rintro _ w1 ⟨x1, rfl, hown1, hb1⟩
  have hE1 := hE.next hb1
  have hb1z := hb1.size
  obtain ⟨a1, c1, hx1⟩ := owns_shape hown1
  subst hx1
  obtain ⟨_, _, hv', hr1, hp1⟩ := RowAt.of_owns hown1 (by omega)
  obtain ⟨rfl, -, rfl⟩ := Value.slice.inj hv'
  have hEl := blk_lt hE
  by_cases hne : ls = []
  · subst hne
    have hK : Hid (KF = []) := (show _ = _ by rw [← HKF.out]; rfl)
    have hC : Hid (CF = []) := (show _ = _ by rw [← HCF.out]; rfl)
    clear hv' hown1 hl
    rw [List.length_nil] at hr1 ⊢
    go_wp2_with fail
    go_loopw [0, 8, 9] (fun vl vc vi wr => vl = .slice a1 0 c1 ∧ vc = .slice none 0 0 ∧ vi = .int .i64 0 ∧ Below w1.heap.size w1 wr) (fun _ _ _ _ => 0)
    case atStart => exact ⟨rfl, rfl, rfl, Below.refl _ _⟩
    case round =>
      obtain ⟨rfl, rfl, rfl, hb⟩ := hrel
      go_wp2_with fail
      go_ret2
      unfold CutPost
      exact ⟨a1, c1, none, 0, by rw [hK.out, hC.out]; rfl, by rw [hK.out]; exact hr1.below hb, by rw [hC.out]; exact RowAt.nil _, hp1, (fun p h => by cases h), hb1.trans (hb.mono hb1.size)⟩
  have hpos : 0 < ls.length := List.length_pos_iff.2 hne
  obtain ⟨g, c1', cur0, hv2, hgw, hcc, hblk0, hcur0⟩ := lkblk_owns hown1 hpos
  obtain ⟨rfl, -, rfl⟩ := Value.slice.inj hv2
  have HC1 : Hid (cur0.toList.take (ls.length * 6) = flatR encLk ([] ++ ls.drop 0)) := hcur0
  have hglt := blk_lt hblk0
  clear hv' hv2 hown1 hr1 hp1 hl hcur0 hne
  go_wp2_with fail
  go_loopw [0, 8, 9] (fun vl vc vi wr => ∃ (m : Nat) (K : List Lk) (N i nc : Nat) (CL : List Ev), m ≤ ls.length ∧ vl = .slice (some ⟨g, 0, none⟩) N c1 ∧ vi = .int .i64 i ∧ Hid (K = keepL e (ls.take m)) ∧ Hid (CL = goneC e (ls.take m)) ∧ Hid (N = (K ++ ls.drop m).length) ∧ Hid (i = K.length) ∧ N ≤ ls.length ∧ i ≤ N ∧ Hid (nc = CL.length) ∧ nc ≤ m ∧ wr.ownsRow w1.heap.size 41 encEv.k vc nc (flatR encEv CL) ∧ (∃ cur, wr.heap[g]? = some (.cells cur 69 (0, 0)) ∧ Hid (cur.toList.take (N * 6) = flatR encLk (K ++ ls.drop m))) ∧ Below w.heap.size w wr ∧ EvBlk wr E e ∧ w1.heap.size ≤ wr.heap.size) (fun vl _ vi _ => lkLen vl - (intOf vi).toNat)
  case atStart => exact ⟨0, [], ls.length, 0, 0, [], Nat.zero_le _, rfl, rfl, (show _ = _ from rfl), (show _ = _ from rfl), (show _ = _ by simp), (show _ = _ from rfl), Nat.le_refl _, Nat.zero_le _, (show _ = _ from rfl), Nat.zero_le _, World.ownsRow_nil _ _ _ _, ⟨cur0, hblk0, HC1⟩, hb1, hE1, Nat.le_refl _⟩
  case round =>
    clear HC1 hblk0 hE1 hb1
    obtain ⟨m, K, N, i, nc, CL, hm, rfl, rfl, HK, HCL, HN, HI, hNl, hiN, HNC, hnc, hown, ⟨cur, hblk, HCUR⟩, hb, hEr, hw1r⟩ := hrel
    obtain ⟨ac, cc, hvc⟩ := owns_shape hown
    subst hvc
    have hNi : N = i + (ls.length - m) := by have h := HN.out; rw [List.length_append, List.length_drop, ← HI.out] at h; exact h
    have HNI := Lib.hid hNi
    by_cases hlt : i < N
    · have hml : m < ls.length := by omega
      obtain ⟨x, hx⟩ : ∃ x, ls[m]? = some x := ⟨_, List.getElem?_eq_getElem hml⟩
      have hdr := drop_at ls m x hx
      have htk := take_at ls m x hx
      have hcu := HCUR.out
      rw [HN.out] at hcu
      have hrow := lkblk_row hblk hcu (c := c1) (by rw [← HN.out]; omega) (by rw [← HN.out]; omega)
      obtain ⟨_, _, y, eg, hy, -, d0, d1, d2, d3, d4, d5⟩ := lk_at hrow i (by rw [← HN.out]; exact hlt)
      cases eg
      have hyx : y = x := by
        rw [hdr, HI.out, List.getElem?_append_right (Nat.le_refl _), Nat.sub_self] at hy
        exact (Option.some.inj hy).symm
      subst hyx
      simp only [Nat.zero_add] at d0 d1 d2 d3 d4 d5
      have hst := step2_any e y E wr hEr hk
      have HDR := Lib.hid hdr
      have HTK := Lib.hid htk
      have hi3 : (i : Int) < N := by omega
      obtain ⟨B, hB⟩ : ∃ B, goneB e y = B := ⟨_, rfl⟩
      rw [hB] at hst
      have HB := Lib.hid hB
      have hgo := fun W => gone_any y T W
      have HY : Hid (y.cells = #[.int .i64 y.u, .int .i64 y.v, .int .i64 y.weight, .int .i64 y.label, .int .i64 y.sign, .int .i64 y.time]) := (show _ = _ from rfl)
      rw [HY.out] at hst hgo
      clear hx hdr htk hcu hrow hy hB hNi
      go_wp2_with fail
      refine hst.mono ?_
      rintro _ w2 ⟨rfl, hb2⟩
      have hE2 := hEr.next hb2
      have hblk2 := lk_next hb2 hblk
      have hown2 : w2.ownsRow w1.heap.size 41 encEv.k (.slice ac nc cc) nc (flatR encEv CL) := hown.kept (row := none) ⟨hb2.os, hb2.tape, hb2.output, hb2.size, fun k hk _ => hb2.block k hk⟩ (by
        cases hs : (Value.slice ac nc cc).ownBlock with
        | none => exact .inl rfl
        | some g => exact .inr (by simp))
      have hbw2 := hb.trans (hb2.mono hb.size)
      have hz2 := hb2.size
      have f0 := (hb2.cell (p := ⟨g, i * 6, none⟩) (cell_lt d0)).trans d0
      have f1 := (hb2.cell (p := ⟨g, i * 6 + 1, none⟩) (cell_lt d1)).trans d1
      have f2 := (hb2.cell (p := ⟨g, i * 6 + 2, none⟩) (cell_lt d2)).trans d2
      have f3 := (hb2.cell (p := ⟨g, i * 6 + 3, none⟩) (cell_lt d3)).trans d3
      have f4 := (hb2.cell (p := ⟨g, i * 6 + 4, none⟩) (cell_lt d4)).trans d4
      have f5 := (hb2.cell (p := ⟨g, i * 6 + 5, none⟩) (cell_lt d5)).trans d5
      clear hst hEr hblk hown hb hb2 d0 d1 d2 d3 d4 d5
      have hass : K ++ ls.drop m = (K ++ [y]) ++ ls.drop (m + 1) := by rw [HDR.out]; simp
      cases B with
      | false =>
        have hkp : K ++ [y] = keepL e (ls.take (m + 1)) := by rw [HTK.out, keep_snoc, HB.out, if_neg (by simp), ← HK.out]
        have hgp : CL = goneC e (ls.take (m + 1)) := by rw [HTK.out, gone_snoc, HB.out, if_neg (by simp), ← HCL.out]
        have HKP := Lib.hid hkp
        have HGP := Lib.hid hgp
        have HASS := Lib.hid hass
        clear hkp hgp hass
        go_wp2_with fail
        go_roundw
        case rel => exact ⟨m + 1, K ++ [y], N, i + 1, nc, CL, by omega, rfl, by go_num, HKP, HGP, (show _ = _ by rw [HN.out, HASS.out]), (show _ = _ by rw [HI.out, List.length_append]; rfl), hNl, by omega, HNC, by omega, hown2, ⟨cur, hblk2, (show _ = _ by rw [HCUR.out, HASS.out])⟩, hbw2, hE2, by omega⟩
        case measure => simp [lkLen, intOf]; omega
      | true =>
        have hkp : K = keepL e (ls.take (m + 1)) := by rw [HTK.out, keep_snoc, HB.out, if_pos rfl, ← HK.out]
        have hgp : CL ++ [cutEv y T] = goneC e (ls.take (m + 1)) := by rw [HTK.out, gone_snoc, HB.out, if_pos rfl, ← HCL.out, HT.out]
        have HKP := Lib.hid hkp
        have HGP := Lib.hid hgp
        have hV : (cutEv y T).cells = #[.int .i64 2, .int .i64 T, .int .i64 y.u, .int .i64 y.v, .int .i64 0, .int .i64 0, .int .i64 0] := rfl
        rw [hV] at hgo
        have hrw := HCUR.out
        rw [HN.out, HDR.out] at hrw
        have HCR := Lib.hid (cut_row hrw)
        clear hkp hgp hass hV hrw
        go_wp2_with fail
        refine (hgo _).mono ?_
        rintro _ w3 ⟨rfl, hb3⟩
        have hE3 := hE2.next hb3
        have hblk3 := lk_next hb3 hblk2
        have hown3 : w3.ownsRow w1.heap.size 41 encEv.k (.slice ac nc cc) nc (flatR encEv CL) := hown2.kept (row := none) ⟨hb3.os, hb3.tape, hb3.output, hb3.size, fun k hk _ => hb3.block k hk⟩ (by
          cases hs : (Value.slice ac nc cc).ownBlock with
          | none => exact .inl rfl
          | some g => exact .inr (by simp))
        have hbw3 := hbw2.trans (hb3.mono hbw2.size)
        have hz3 := hb3.size
        have hlx := rows_lit1 (E := encEv) w3 (cutEv y T) 41 #[.int .i64 2, .int .i64 T, .int .i64 y.u, .int .i64 y.v, .int .i64 0, .int .i64 0, .int .i64 0] rfl
        have hownA := hown3.alloc (.cells #[.int .i64 2, .int .i64 T, .int .i64 y.u, .int .i64 y.v, .int .i64 0, .int .i64 0, .int .i64 0] 41)
        have hbnA := (Below.refl w3.heap.size w3).alloc (Nat.le_refl _) (.cells #[.int .i64 2, .int .i64 T, .int .i64 y.u, .int .i64 y.v, .int .i64 0, .int .i64 0, .int .i64 0] 41)
        have hEA := hE3.next hbnA
        have hblkA := lk_next hbnA hblk3
        have hbwA := hbw3.trans (hbnA.mono hbw3.size)
        have hzA := hbnA.size
        clear hgo hE2 hblk2 hown2 hbw2 hE3 hblk3 hown3 hbw3 hb3 hbnA f0 f1 f2 f3 f4 f5
        go_wp2_with (at_builtin; refine wpList_app_rows evRT rfl _ _ rfl w1.heap.size (.slice ac nc cc) _ CL [cutEv y T] rfl (by rw [← HNC.out]; exact hownA) rfl hlx (by rw [← HNC.out]; simp; omega) (by rw [← HNC.out]; simp; omega) (by omega) ?_; intro v6 w6 hown6 hg6; have hl6 : (CL ++ [cutEv y T]).length = nc + 1 := (by rw [List.length_append, ← HNC.out]; rfl); rw [hl6] at hown6; obtain ⟨a6, c6, rfl⟩ := owns_shape hown6)
        have hblk6 := grown_blk hg6 hblkA (fun e => by have := (hownA.lt _ e.symm).1; omega)
        have hE6 : EvBlk w6 E e := grown_blk hg6 hEA (fun e => by have := (hownA.lt _ e.symm).1; have := hb1z; omega)
        have hbw6 := hbwA.grown hg6 hbwA.size (fun k e => by have := (hownA.lt k e).1; have := hb1z; omega)
        have hz6 := hg6.size
        have hcu := HCUR.out
        rw [HN.out, HDR.out] at hcu
        obtain ⟨hfit, hsrc⟩ := cut_src (W := w6.drew) hblk6 hcu
        have hRl : (ls.drop (m + 1)).length = N - (i + 1) := by
          have h := HN.out
          rw [HDR.out, List.length_append, List.length_cons, ← HI.out] at h
          omega
        rw [← HI.out] at hsrc HCR
        obtain ⟨R, hR⟩ : ∃ R, ls.drop (m + 1) = R := ⟨_, rfl⟩
        rw [hR] at hsrc hfit hRl HCR
        have HRR := Lib.hid hR
        have HRL := Lib.hid hRl
        have hfit2 : i * 6 + R.length * encLk.k ≤ cur.size := by
          rw [List.length_append, List.length_cons, ← HI.out] at hfit
          show i * 6 + R.length * 6 ≤ cur.size
          omega
        have hNc : N ≤ c1 := by omega
        have hw2 : IntKind.i64.wrap ((i : Int) + 1) = (i : Int) + 1 := by rw [IntKind.wrap_i64]; omega
        have hb1 : (0 : Int) ≤ (i : Int) + 1 := by omega
        have htn : ((i : Int) + 1).toNat = i + 1 := by omega
        have hb3 : (i : Int) + 1 ≤ (N : Int) := by omega
        have hb4 : ¬ (c1 = i) := by omega
        have hb5 : (i : Int) ≤ (N : Int) := by omega
        clear hR hRl hcu
        by_cases hce : c1 = i + 1
        · have hN1 : N = i + 1 := by omega
          have hRn : R = [] := List.eq_nil_of_length_eq_zero (by rw [HRL.out]; omega)
          have q1 := lkcopy_eq w6.drew g (i * 6) (N - i) (c1 - i) ⟨g, 0, none⟩ (N - (i + 1)) (c1 - (i + 1)) cur _ R 3 hblk6 (by rw [HRL.out]; exact (Nat.min_eq_left (by omega)).symm) (fun j v h => by rw [hRn] at h; simp [flatR] at h) hfit2
          have hct : (c1 = i + 1) = True := eq_true hce
          clear hce hN1 hRn
          go_region
          all_goals
            obtain ⟨w8, hw8⟩ : ∃ W : World, W = w6.drew.setRow g (splice cur.toList (i * 6) (flatR encLk R)).toArray := ⟨_, rfl⟩
            have hblk8 : w8.heap[g]? = some (.cells (splice cur.toList (i * 6) (flatR encLk R)).toArray 69 (0, 0)) := by rw [hw8]; exact setRow_heap w6.drew g cur _ _ _ hblk6
            have hg8 : w6.grownBy w8 (some g) := by rw [hw8]; exact ⟨rfl, rfl, rfl, by simp [World.setRow], fun k _ hk => by have : k ≠ g := fun e => hk (by rw [e]); rw [setRow_other _ _ _ _ this]; rfl⟩
            rw [← hw8]
            clear hw8 q1
            have hE8 : EvBlk w8 E e := grown_blk hg8 hE6 (by intro e; have := Option.some.inj e; omega)
            have hbw8 := hbw6.grown hg8 hbw6.size (fun k e => by cases e; exact hgw)
            have hz8 := hg8.size
            have hown8 : w8.ownsRow w1.heap.size 41 encEv.k (.slice a6 (nc + 1) c6) (nc + 1) (flatR encEv (CL ++ [cutEv y T])) := hown6.kept hg8 (by
              cases hs : (Value.slice a6 (nc + 1) c6).ownBlock with
              | none => exact .inl rfl
              | some k => have := (hown6.lt k hs).1; exact .inr (by intro e; have := Option.some.inj e; omega))
            have v9 : IntKind.i64.wrap ((N : Int) - 1) = (N : Int) - 1 := by rw [IntKind.wrap_i64]; omega
            have t9 : ((N : Int) - 1).toNat = N - 1 := by omega
            have b9 : (0 : Int) ≤ (N : Int) - 1 := by omega
            have b10 : (N : Int) - 1 ≤ (c1 : Int) := by omega
            have HM : Hid (m + 1 ≤ ls.length ∧ N - 1 ≤ ls.length ∧ i ≤ N - 1 ∧ nc + 1 ≤ m + 1 ∧ w1.heap.size ≤ w8.heap.size) := (show _ ∧ _ by omega)
            clear hblk6 hE6 hbw6 hown6 hg8 hfit2 hsrc
            go_wp2_with fail
            go_roundw
            case rel =>
              have hKR : (K ++ R).length = N - 1 := by rw [List.length_append, HRL.out, ← HI.out]; omega
              have hR' := HRR.out
              subst hR'
              have hcr := HCR.out
              rw [hKR] at hcr
              exact ⟨m + 1, K, N - 1, i, nc + 1, CL ++ [cutEv y T], HM.out.1, rfl, rfl, HKP, HGP, hKR.symm, HI, HM.out.2.1, HM.out.2.2.1, (show _ = _ by rw [List.length_append, ← HNC.out]; rfl), HM.out.2.2.2.1, hown8, ⟨_, hblk8, (show _ = _ from hcr)⟩, hbw8, hE8, HM.out.2.2.2.2⟩
            case measure => simp [lkLen, intOf]; omega
        · have q1 := lkcopy_eq w6.drew g (i * 6) (N - i) (c1 - i) ⟨g, (i + 1) * 6, none⟩ (N - (i + 1)) (c1 - (i + 1)) cur _ R 3 hblk6 (by rw [HRL.out]; exact (Nat.min_eq_left (by omega)).symm) (fun j v h => by rw [Addr.add_lit]; exact hsrc j v h) hfit2
          go_region
          all_goals
            obtain ⟨w8, hw8⟩ : ∃ W : World, W = w6.drew.setRow g (splice cur.toList (i * 6) (flatR encLk R)).toArray := ⟨_, rfl⟩
            have hblk8 : w8.heap[g]? = some (.cells (splice cur.toList (i * 6) (flatR encLk R)).toArray 69 (0, 0)) := by rw [hw8]; exact setRow_heap w6.drew g cur _ _ _ hblk6
            have hg8 : w6.grownBy w8 (some g) := by rw [hw8]; exact ⟨rfl, rfl, rfl, by simp [World.setRow], fun k _ hk => by have : k ≠ g := fun e => hk (by rw [e]); rw [setRow_other _ _ _ _ this]; rfl⟩
            rw [← hw8]
            clear hw8 q1
            have hE8 : EvBlk w8 E e := grown_blk hg8 hE6 (by intro e; have := Option.some.inj e; omega)
            have hbw8 := hbw6.grown hg8 hbw6.size (fun k e => by cases e; exact hgw)
            have hz8 := hg8.size
            have hown8 : w8.ownsRow w1.heap.size 41 encEv.k (.slice a6 (nc + 1) c6) (nc + 1) (flatR encEv (CL ++ [cutEv y T])) := hown6.kept hg8 (by
              cases hs : (Value.slice a6 (nc + 1) c6).ownBlock with
              | none => exact .inl rfl
              | some k => have := (hown6.lt k hs).1; exact .inr (by intro e; have := Option.some.inj e; omega))
            have v9 : IntKind.i64.wrap ((N : Int) - 1) = (N : Int) - 1 := by rw [IntKind.wrap_i64]; omega
            have t9 : ((N : Int) - 1).toNat = N - 1 := by omega
            have b9 : (0 : Int) ≤ (N : Int) - 1 := by omega
            have b10 : (N : Int) - 1 ≤ (c1 : Int) := by omega
            have HM : Hid (m + 1 ≤ ls.length ∧ N - 1 ≤ ls.length ∧ i ≤ N - 1 ∧ nc + 1 ≤ m + 1 ∧ w1.heap.size ≤ w8.heap.size) := (show _ ∧ _ by omega)
            clear hblk6 hE6 hbw6 hown6 hg8 hfit2 hsrc
            go_wp2_with fail
            go_roundw
            case rel =>
              have hKR : (K ++ R).length = N - 1 := by rw [List.length_append, HRL.out, ← HI.out]; omega
              have hR' := HRR.out
              subst hR'
              have hcr := HCR.out
              rw [hKR] at hcr
              exact ⟨m + 1, K, N - 1, i, nc + 1, CL ++ [cutEv y T], HM.out.1, rfl, rfl, HKP, HGP, hKR.symm, HI, HM.out.2.1, HM.out.2.2.1, (show _ = _ by rw [List.length_append, ← HNC.out]; rfl), HM.out.2.2.2.1, hown8, ⟨_, hblk8, (show _ = _ from hcr)⟩, hbw8, hE8, HM.out.2.2.2.2⟩
            case measure => simp [lkLen, intOf]; omega
    · obtain rfl : i = N := by omega
      have hmm : m = ls.length := by have := HNI.out; omega
      have hKF : KF = K := by rw [← HKF.out, HK.out, hmm, List.take_length]
      have hCF : CF = CL := by rw [← HCF.out, HCL.out, hmm, List.take_length]
      have hcu := HCUR.out
      have hKN : K ++ ls.drop m = K := by rw [hmm, List.drop_length, List.append_nil]
      rw [hKN] at hcu
      have hi := HI.out
      have HKF2 := Lib.hid hKF
      have HCF2 := Lib.hid hCF
      have hrow := lkblk_row hblk (by rw [← hi]; exact hcu) (c := c1) (by omega) (by omega)
      obtain ⟨_, _, hv3, hre, hpe⟩ := RowAt.of_owns (xs := CL) (by rw [← HNC.out]; exact hown) (by rw [← HNC.out]; omega)
      rw [← HNC.out] at hv3
      obtain ⟨rfl, -, rfl⟩ := Value.slice.inj hv3
      clear hKF hCF hKN hcu hv3 hown hblk hmm hi hNi HNI
      go_wp2_with fail
      go_ret2
      unfold CutPost
      exact ⟨some ⟨g, 0, none⟩, c1, ac, cc, by rw [HKF2.out, HCF2.out, ← HNC.out, ← HI.out]; rfl, by rw [HKF2.out]; exact hrow, by rw [HCF2.out]; exact hre, (fun p h => by cases h; exact hgw), (fun p h => by have := hpe p h; have := hb1z; omega), hb⟩
end Go.Proofs.YtpblaoeaeljmhaaDoor
