/- Plain: what the reference's check asks at each place of a whole order. The contract of the reference's check of truss numbers and an order. The checks of truss numbers for slices of any length, and what a slice of numbers that came in holds. -/
import Derived.Test.YtbkacbbhiecnkaaDoorTrCert
import Derived.Test.YtbkacbbhiecnkaaDoorRefAll
import Derived.BigRegion
import Derived.BigQuiet
import Derived.Test.YtbkacbbhiecnkaaDoorTrChk
import Derived.Test.YtbkacbbhiecnkaaDoorArgOpen
namespace Go.Proofs.YtbkacbbhiecnkaaDoor
open Go.RowKit Go.BigFrame

theorem drop_rest {m : Nat} {o : List Nat} (hn : o.Nodup) (hall : ∀ y, y < m → y ∈ o) (hlt : ∀ x ∈ o, x < m) (k z : Nat) : restB m (o.take k) z = true ↔ z ∈ o.drop k := by
  rw [restB_iff]
  constructor
  · rintro ⟨h1, h2⟩
    have h3 := hall z h1
    rw [← List.take_append_drop k o] at h3
    rcases List.mem_append.1 h3 with h | h
    · exact absurd h h2
    · exact h
  · intro h
    refine ⟨hlt z (List.mem_of_mem_drop h), fun h2 => ?_⟩
    rw [← List.take_append_drop k o] at hn
    rw [List.nodup_append] at hn
    exact hn.2.2 z h2 z h rfl
/-- what is asked at place i -/
def okR (es : List E2) (n : Nat) (l : List Int) (o : List Nat) (i : Nat) : Bool :=
  (decide (i = 0) || decide (numsF l (o.getD (i - 1) 0) ≤ numsF l (o.getD i 0))) && decide ((wiN es n (o.getD i 0) (castL (o.drop (i + 1))) (triN es n (o.getD i 0)).length : Int) ≤ numsF l (o.getD i 0)) && decide (numsF l (o.getD i 0) ≤ (cntT es n (o.getD i 0) (hiP l (o.getD i 0)) (triN es n (o.getD i 0)).length : Int))
theorem okR_all {n : Nat} {es : List E2} (hv : Valid n es) (l : List Int) (o : List Nat) (hn : o.Nodup) (hall : ∀ y, y < es.length → y ∈ o) (hlt : ∀ x ∈ o, x < es.length) : chkB es n l o = true ↔ ∀ i, i < o.length → okR es n l o i = true := by
  have hat : ∀ i, i < o.length → o[i]? = some (o.getD i 0) := fun i hi => by rw [List.getD_eq_getElem?_getD, List.getElem?_eq_getElem hi]; rfl
  have hbe : ∀ i, i < o.length → wiN es n (o.getD i 0) (castL (o.drop (i + 1))) (triN es n (o.getD i 0)).length = cntT es n (o.getD i 0) (behP (placeF o) (o.getD i 0)) (triN es n (o.getD i 0)).length := fun i hi => by
    rw [beh_rest hv hn hall i _ (hat i hi)]
    exact wiN_sup es n _ (o.drop (i + 1)) _ fun z => drop_rest hn hall hlt (i + 1) z
  unfold chkB
  rw [Bool.and_eq_true, decide_eq_true_eq]
  constructor
  · rintro ⟨h1, h2⟩ i hi
    have h3 := h1 _ (hlt _ (List.mem_of_getElem? (hat i hi)))
    unfold passB at h3
    rw [Bool.and_eq_true] at h3
    unfold okR
    rw [Bool.and_eq_true, Bool.and_eq_true, hbe i hi]
    refine ⟨⟨?_, h3.1⟩, h3.2⟩
    unfold sortB at h2
    rw [decide_eq_true_eq] at h2
    cases i with
    | zero => simp
    | succ i =>
      have := h2 i (by omega)
      rw [Bool.or_eq_true]
      right
      simpa using this
  · intro h
    refine ⟨fun x hx => ?_, ?_⟩
    · obtain ⟨i, hi, he⟩ := List.getElem_of_mem (hall x hx)
      have h1 := h i hi
      have hx2 : o.getD i 0 = x := by rw [List.getD_eq_getElem?_getD, List.getElem?_eq_getElem hi, he]; rfl
      unfold okR at h1
      rw [Bool.and_eq_true, Bool.and_eq_true, hbe i hi, hx2] at h1
      unfold passB
      rw [Bool.and_eq_true]
      exact ⟨h1.1.2, h1.2⟩
    · unfold sortB
      rw [decide_eq_true_eq]
      intro j hj
      have h1 := h (j + 1) (by omega)
      unfold okR at h1
      rw [Bool.and_eq_true, Bool.and_eq_true, Bool.or_eq_true] at h1
      rcases h1.1.1 with h2 | h2
      · simp at h2
      · simpa using h2
end Go.Proofs.YtbkacbbhiecnkaaDoor

namespace Go.Proofs.YtbkacbbhiecnkaaDoor
open Go.RowKit Go.BigFrame

theorem ints_tail {w : World} {a : Option Addr} {cap : Nat} {l : List Nat} (h : IntsAt w (.slice a l.length cap) (castL l)) (k : Nat) (hk : k ≤ l.length) : IntsAt w (.slice (if cap = k then a else a.map (·.add (k * 1))) (castL (l.drop k)).length (cap - k)) (castL (l.drop k)) := by
  rw [← castL_length l] at h
  have h2 := h.sliced k _ (by rw [castL_length]; exact hk) (Nat.le_refl _)
  rw [List.take_length] at h2
  have e : castL (l.drop k) = (castL l).drop k := by unfold castL; rw [List.map_drop]
  rw [e, List.length_drop]
  exact h2
theorem hiP_true (l : List Int) (x : Nat) (p : Nat × Nat) : hiP l x p = (decide (numsF l x ≤ numsF l p.1) && decide (numsF l x ≤ numsF l p.2)) := by
  unfold hiP
  rw [Bool.eq_iff_iff, Bool.and_eq_true, decide_eq_true_eq, decide_eq_true_eq, decide_eq_true_eq]
  omega
set_option maxRecDepth 100000 in
set_option maxHeartbeats 6400000 in
theorem rcheck12_any (n : Int) (a a1 a2 : Option Addr) (cap c1 c2 : Nat) (es : List E2) (l ord : List Int) (w : World) (he : EdgesAt w (.slice a es.length cap) es) (hl : IntsAt w (.slice a1 l.length c1) l) (ho : IntsAt w (.slice a2 ord.length c2) ord) :
    Calls Tryd.prog 52 #[.agg #[.int .i64 n, .slice a es.length cap], .slice a1 l.length c1, .slice a2 ord.length c2] w fun e w' => e = .returned (.int .i64 (chkX n es l ord)) ∧ Below w.heap.size w w' := by
  have hb0 : Below w.heap.size w (w.alloc (.cells #[.int .i64 n, .slice a es.length cap] 27)) := (Below.refl _ _).alloc (Nat.le_refl _) _
  have hG0 := heap_alloc_new w (.cells #[.int .i64 n, .slice a es.length cap] 27)
  have hck := fun W h => check_any n a cap es W h
  have hsl : l.length ≤ 70368744177664 := by obtain ⟨_, _, hv, _, _, h, _⟩ := hl; exact h
  unfold chkX
  by_cases hC : checkS n es = 0
  case neg =>
    rw [if_pos hC]
    obtain ⟨C, hCC⟩ : ∃ C, checkS n es = C := ⟨_, rfl⟩
    rw [hCC] at hck hC ⊢
    have d1 : (C != 0) = true := by simpa using hC
    have d2 : (C == 0) = false := by simpa using hC
    clear hC hCC
    go_enter Tryd.func52, Tryd.ntmps52
    go_wp2_with fail
    refine (hck _ (he.below hb0)).mono ?_
    rintro e w1 ⟨rfl, hb1⟩
    go_wp2_with fail
    go_ret
    exact ⟨rfl, hb0.trans (hb1.mono hb0.size)⟩
  have hv := (valid_iff n es).1 hC
  rw [if_neg (by simpa using hC)]
  rw [hC] at hck
  obtain ⟨n, rfl⟩ := Int.eq_ofNat_of_zero_le hv.1
  rw [Int.toNat_natCast]
  have hel := hv.length_le
  have hn64 := hv.2.1
  have hwh := fun W h => rall10_any es.length a2 c2 ord W h (by omega)
  by_cases hlm : l.length = es.length
  case neg =>
    rw [if_pos (.inl hlm)]
    have d1 : ((l.length : Int) != (es.length : Int)) = true := by simp; omega
    clear hC
    go_enter Tryd.func52, Tryd.ntmps52
    go_wp2_with fail
    refine (hck _ (he.below hb0)).mono ?_
    rintro e w1 ⟨rfl, hb1⟩
    have hG1 := lit_next' hb1 hG0
    have g1 : w1.cell? ⟨w.heap.size, 1, none⟩ = some (.slice a es.length cap) := by rw [cell_blk hG1]; rfl
    go_wp2_with fail
    go_ret
    exact ⟨rfl, hb0.trans (hb1.mono hb0.size)⟩
  by_cases hok : okW es.length ord
  case neg =>
    rw [if_pos (.inr hok)]
    rw [decide_eq_false hok] at hwh
    have d1 : ((l.length : Int) != (es.length : Int)) = false := by simp; omega
    clear hC hlm
    go_enter Tryd.func52, Tryd.ntmps52
    go_wp2_with fail
    refine (hck _ (he.below hb0)).mono ?_
    rintro e w1 ⟨rfl, hb1⟩
    have hG1 := lit_next' hb1 hG0
    have g1 : w1.cell? ⟨w.heap.size, 1, none⟩ = some (.slice a es.length cap) := by rw [cell_blk hG1]; rfl
    have hb01 := hb0.trans (hb1.mono hb0.size)
    go_wp2_with fail
    refine (hwh _ (ho.below hb01)).mono ?_
    rintro e w2 ⟨rfl, hb2⟩
    go_wp2_with fail
    go_ret
    exact ⟨rfl, hb01.trans (hb2.mono hb01.size)⟩
  obtain ⟨o, rfl, hmo, hol, hon, hoe⟩ := okW_nat hok
  rw [if_neg (by simp [hlm, hok]), hmo]
  rw [decide_eq_true hok] at hwh
  rw [castL_length] at ho hwh ⊢
  have d1 : ((l.length : Int) != (es.length : Int)) = false := by simp; omega
  have hob : o.length ≤ 4096 := by rw [hoe]; exact hel
  have HLM := Lib.hid hlm
  have HOE := Lib.hid hoe
  have hall : ∀ y, y < es.length → y ∈ o := fun y hy => by
    by_cases h : y ∈ o
    · exact h
    · have hle := nodup_le es.length (o ++ [y]) (by
        rw [List.nodup_append]
        exact ⟨hon, by simp, fun z hz z' hz' e => by rw [List.mem_singleton.1 hz'] at e; exact h (e ▸ hz)⟩) (fun z hz => by
        rcases List.mem_append.1 hz with hz | hz
        · exact hol z hz
        · rw [List.mem_singleton.1 hz]; exact hy)
      rw [List.length_append, hoe] at hle
      exact absurd hle (by simp)
  have hokr := okR_all hv l o hon hall hol
  have HOK := Lib.hid hokr
  obtain ⟨R, hR⟩ : ∃ R, (if chkB es n l o = true then (0 : Int) else 12) = R := ⟨_, rfl⟩
  have HBAD : Hid (∀ i, i < o.length → okR es n l o i = false → R = 12) := (show _ from fun i hi h => by
    rw [← hR, if_neg]
    intro hh
    have := hokr.1 hh i hi
    rw [h] at this; cases this)
  have HEND : Hid ((∀ i, i < o.length → okR es n l o i = true) → R = 0) := (show _ from fun h => by rw [← hR, if_pos (hokr.2 h)])
  rw [hR]
  have HOL := Lib.hid hol
  clear hokr HOK hall hR hC hok hlm hoe hmo hon hol
  go_enter Tryd.func52, Tryd.ntmps52
  go_wp2_with fail
  refine (hck _ (he.below hb0)).mono ?_
  rintro e w1 ⟨rfl, hb1⟩
  have hG1 := lit_next' hb1 hG0
  have g1 : w1.cell? ⟨w.heap.size, 1, none⟩ = some (.slice a es.length cap) := by rw [cell_blk hG1]; rfl
  have hb01 := hb0.trans (hb1.mono hb0.size)
  have hwh1 := hwh _ (ho.below hb01)
  clear hck hb0 hG0 hb1 hwh
  go_wp2_with fail
  refine hwh1.mono ?_
  rintro e w2 ⟨rfl, hb2⟩
  have hG2 := lit_next' hb2 hG1
  have hb02 := hb01.trans (hb2.mono hb01.size)
  have he2 := he.below hb02
  have hl2 := hl.below hb02
  have ho2 := ho.below hb02
  have hz2 := hb02.size
  clear hb01 hG1 hb2 hwh1 g1
  have hoc : o.length ≤ c2 := by obtain ⟨_, _, hv', h, _⟩ := ho; have e1 := (Value.slice.inj hv').2.2; rw [castL_length] at h; omega
  have hlc : l.length ≤ c1 := by obtain ⟨_, _, hv', h, _⟩ := hl; cases hv'; exact h
  have hat : ∀ j, j < o.length → ∃ b off, a2 = some ⟨b, off, none⟩ ∧ w2.cell? ⟨b, off + j, none⟩ = some (.int .i64 (o.getD j 0 : Nat)) := fun j hj => by
    obtain ⟨_, _, hv', _, _, _, hc⟩ := ho2
    have h1 := (Value.slice.inj hv').1
    subst h1
    refine hc j _ ?_
    unfold castL
    rw [List.getElem?_map, List.getD_eq_getElem?_getD, List.getElem?_eq_getElem hj]; rfl
  go_wp2_with fail
  go_loopw [34] (fun vi wr => ∃ i : Nat, i ≤ o.length ∧ vi = .int .i64 i ∧ Hid (∀ j, j < i → okR es n l o j = true) ∧ Below w2.heap.size w2 wr) (fun vi _ => o.length - (intOf vi).toNat)
  case atStart => exact ⟨0, Nat.zero_le _, rfl, (show _ from fun j hj => by omega), Below.refl _ _⟩
  case round =>
    obtain ⟨i, hi, rfl, HP, hb⟩ := hrel
    by_cases hlt : i < o.length
    · obtain ⟨b, off, hb0, c0⟩ := hat i hlt
      subst hb0
      have c0' := (hb.cell (p := ⟨b, off + i, none⟩) (cell_lt c0)).trans c0
      obtain ⟨x, hxx⟩ : ∃ x, o.getD i 0 = x := ⟨_, rfl⟩
      have hx : o[i]? = some x := by rw [← hxx, List.getD_eq_getElem?_getD, List.getElem?_eq_getElem hlt]; rfl
      have HXX := Lib.hid hxx
      rw [hxx] at c0'
      have hxm : x < es.length := HOL.out x (List.mem_of_getElem? hx)
      have hlt3 : (i : Int) < o.length := by omega
      have hGr := lit_next' hb hG2
      have g0 : wr.cell? ⟨w.heap.size, 0, none⟩ = some (.int .i64 n) := by rw [cell_blk hGr]; rfl
      have g1 : wr.cell? ⟨w.heap.size, 1, none⟩ = some (.slice a es.length cap) := by rw [cell_blk hGr]; rfl
      have hrp := rpairs_any n x a cap es wr (he2.below hb) hv hxm
      clear c0 hx hxx hGr
      go_wp2_with fail
      refine hrp.mono ?_
      rintro e w3 ⟨a7, c7, rfl, hr7, -, hb3⟩
      have hb23 := hb.trans (hb3.mono hb.size)
      have hxl : x < l.length := by rw [HLM.out]; exact hxm
      have hxl3 : (x : Int) < l.length := by omega
      obtain ⟨b1, off1, hb1, y0⟩ := ints_cell (hl2.below hb23) x hxl
      subst hb1
      have htb := tri_le es n x
      clear hrp g0 g1 c0' hb3
      go_wp2_with fail
      go_loopw [10, 43] (fun vd vi wr => ∃ t D : Nat, t ≤ (triN es n x).length ∧ vi = .int .i64 t ∧ vd = .int .i64 D ∧ Hid (D = cntT es n x (hiP l x) t) ∧ D ≤ n ∧ Below w3.heap.size w3 wr) (fun _ vi _ => (triN es n x).length - (intOf vi).toNat)
      case atStart => exact ⟨0, 0, Nat.zero_le _, rfl, rfl, (show (0 : Nat) = _ by simp [cntT]), Nat.zero_le _, Below.refl _ _⟩
      case round =>
        obtain ⟨t, D, ht, rfl, rfl, HD, hDn, hbr⟩ := hrel
        have hb2r := hb23.trans (hbr.mono hb23.size)
        by_cases hltt : t < (triN es n x).length
        · have hltt3 : (t : Int) < (triN es n x).length := by omega
          obtain ⟨b9, o9, p, rfl, hp, hcap9, hat9⟩ := (hr7.below hbr).elem t hltt
          have x0 : wr.cell? ⟨b9, o9 + t * 2, none⟩ = some (.int .i64 (p.1 : Int)) := hat9 0 _ rfl
          have x1 : wr.cell? ⟨b9, o9 + t * 2 + 1, none⟩ = some (.int .i64 (p.2 : Int)) := hat9 1 _ rfl
          obtain ⟨_, hp1, hp2, _, _, _⟩ := (triH hv).lt x p (List.mem_of_getElem? hp)
          have hp1l : (p.1 : Int) < l.length := by have := HLM.out; omega
          have hp2l : (p.2 : Int) < l.length := by have := HLM.out; omega
          have hbA := hbr.alloc hbr.size (.cells #[.int .i64 (p.1 : Int), .int .i64 (p.2 : Int)] 77)
          have hbnA := (Below.refl wr.heap.size wr).alloc (Nat.le_refl _) (.cells #[.int .i64 (p.1 : Int), .int .i64 (p.2 : Int)] 77)
          have hlr := (hl2.below hb2r).below hbnA
          obtain ⟨_, _, e1, l1⟩ := ints_cell hlr p.1 (by rw [HLM.out]; exact hp1)
          obtain ⟨_, _, e2, l2⟩ := ints_cell hlr p.2 (by rw [HLM.out]; exact hp2)
          obtain ⟨_, _, e0, l0⟩ := ints_cell hlr x hxl
          cases e1
          cases e2
          cases e0
          have hst2 := cntT_step es n x (hiP l x) t p hp
          have hle2 := cntT_le es n x (hiP l x) (t + 1)
          rw [← HD.out] at hst2
          rw [hst2] at hle2
          clear hlr hbnA
          rcases hA : decide (numsF l x ≤ numsF l p.1) with _ | _ <;> rcases hB : decide (numsF l x ≤ numsF l p.2) with _ | _
          all_goals
            have hst := hiP_true l x p
            rw [hA, hB] at hst
            simp only [Bool.and_self, Bool.and_false, Bool.and_true] at hst
            rw [hst] at hst2 hle2
            have HS2 := Lib.hid hst2
            clear hst hst2 HD hat9 hp
            generalize numsF l x = gx at *
            generalize numsF l p.1 = g1 at *
            generalize numsF l p.2 = g2 at *
            go_wp2_with fail
            go_quiet (fail)
            go_wp2_with fail
            go_roundw
            case rel => first
              | exact ⟨t + 1, D, by omega, by go_num, by go_num, (show D = _ by rw [HS2.out]; simp), by simpa using hle2, hbA.drewN _⟩
              | exact ⟨t + 1, D + 1, by omega, by go_num, by go_num, (show D + 1 = _ by rw [HS2.out]; simp), by simpa using hle2, hbA.drewN _⟩
            case measure => simp [intOf]; omega
        · obtain rfl : t = (triN es n x).length := by omega
          have hGr := lit_next' hb2r hG2
          have g0 : wr.cell? ⟨w.heap.size, 0, none⟩ = some (.int .i64 n) := by rw [cell_blk hGr]; rfl
          have g1 : wr.cell? ⟨w.heap.size, 1, none⟩ = some (.slice a es.length cap) := by rw [cell_blk hGr]; rfl
          have hwi : ∀ z : Ext wr.heap.size wr, Calls Tryd.prog 107 #[.agg #[.int .i64 n, .slice a es.length cap], .int .i64 x, .slice (if c2 = i + 1 then some ⟨b, off, none⟩ else some ⟨b, off + (i + 1), none⟩) (o.length - (i + 1)) (c2 - (i + 1))] z.world fun e w' => e = .returned (.int .i64 (wiN es n x (castL (o.drop (i + 1))) (triN es n x).length : Int)) ∧ Below z.world.heap.size z.world w' := fun z => by
            have hbz := hb2r.trans (z.below.mono hb2r.size)
            have h1 := ints_tail (ho2.below hbz) (i + 1) (by omega)
            have h2 := rwithin12_any n x a cap es _ _ _ z.world (he2.below hbz) hv hxm h1
            rw [castL_length, List.length_drop] at h2
            have e1 : (Option.map (fun p : Addr => p.add ((i + 1) * 1)) (some ⟨b, off, none⟩)) = some ⟨b, off + (i + 1), none⟩ := by simp [Addr.add_lit]
            rw [e1] at h2
            exact h2
          have hok2 : okR es n l o i = ((decide (i = 0) || decide (numsF l (o.getD (i - 1) 0) ≤ numsF l x)) && decide ((wiN es n x (castL (o.drop (i + 1))) (triN es n x).length : Int) ≤ numsF l x) && decide (numsF l x ≤ (D : Int))) := by
            unfold okR; rw [HXX.out, ← HD.out]
          have hbend := hb02.trans (hb2r.mono hz2)
          have y0r := ((hbr.cell (p := ⟨b1, off1 + x, none⟩) (cell_lt y0)).trans y0)
          obtain ⟨q, hq⟩ : ∃ q, o.getD (i - 1) 0 = q := ⟨_, rfl⟩
          rw [hq] at hok2
          have hqc : 0 < i → wr.cell? ⟨b, off + (i - 1), none⟩ = some (.int .i64 (q : Nat)) ∧ wr.cell? ⟨b1, off1 + q, none⟩ = some (.int .i64 (numsF l q)) ∧ q < l.length := fun hi0 => by
            obtain ⟨_, _, hb0, d0⟩ := hat (i - 1) (by omega)
            cases hb0
            rw [hq] at d0
            have hqm : q < es.length := by
              have hx' : o[i - 1]? = some q := by rw [← hq, List.getD_eq_getElem?_getD, List.getElem?_eq_getElem (by omega)]; rfl
              exact HOL.out q (List.mem_of_getElem? hx')
            have hql : q < l.length := by rw [HLM.out]; exact hqm
            obtain ⟨_, _, hb1', l1⟩ := ints_cell (hl2.below hb2r) q hql
            cases hb1'
            exact ⟨(hb2r.cell (p := ⟨b, off + (i - 1), none⟩) (cell_lt d0)).trans d0, l1, hql⟩
          have HOI := Lib.hid hok2
          obtain ⟨W, hW⟩ : ∃ W, wiN es n x (castL (o.drop (i + 1))) (triN es n x).length = W := ⟨_, rfl⟩
          rw [hW] at hwi HOI
          obtain ⟨gx, hgx⟩ : ∃ gx, numsF l x = gx := ⟨_, rfl⟩
          rw [hgx] at y0r y0 HOI
          obtain ⟨gq, hgq⟩ : ∃ gq, numsF l q = gq := ⟨_, rfl⟩
          rw [hgq] at hqc HOI
          have e0 : ∀ z : Ext wr.heap.size wr, z.world.cell? ⟨w.heap.size, 0, none⟩ = some (.int .i64 n) := fun z => (z.below.cell (p := ⟨w.heap.size, 0, none⟩) (cell_lt g0)).trans g0
          have e1 : ∀ z : Ext wr.heap.size wr, z.world.cell? ⟨w.heap.size, 1, none⟩ = some (.slice a es.length cap) := fun z => (z.below.cell (p := ⟨w.heap.size, 1, none⟩) (cell_lt g1)).trans g1
          have e2 : ∀ z : Ext wr.heap.size wr, z.world.cell? ⟨b1, off1 + x, none⟩ = some (.int .i64 gx) := fun z => (z.below.cell (p := ⟨b1, off1 + x, none⟩) (cell_lt y0r)).trans y0r
          have hDD : Hid (D = cntT es n x (hiP l x) (triN es n x).length) := HD
          have hcz : i + 1 ≤ c2 := by omega
          clear hok2 HD hat hq hgx hgq hW y0 hGr HXX
          by_cases hi0 : i = 0
          · have hd0 : decide (0 < (i : Int)) = false := by simp [hi0]
            have hd0b : decide (0 < i) = false := by simp [hi0]
            have HOI2 : Hid (okR es n l o i = (decide ((W : Int) ≤ gx) && decide (gx ≤ (D : Int)))) := by
              show _ = _
              rw [HOI.out, decide_eq_true hi0]; simp
            clear HOI hi0 hqc
            by_cases hw1 : gx < (W : Int)
            · have hd1 : decide (gx < (W : Int)) = true := by simpa using hw1
              have hR12 := HBAD.out i hlt (by rw [HOI2.out, decide_eq_false (show ¬ (W : Int) ≤ gx by omega), Bool.false_and])
              clear HOI2 hw1 HP HBAD HEND
              subst hR12
              go_wp2_with fail
              refine wp_region_ext wr.heap.size wr (by kernel_rfl) (by kernel_rfl) (Below.refl _ _) ?_
              try simp only [List.append_eq, List.cons_append, List.nil_append]
              repeat (any_goals (go_big_quiet_step ((go_at_call 107; exact Calls.ext_of (Nat.le_refl _) (hwi _)))))
              all_goals
                refine wpQuiet_nil ?_
                rintro _ ⟨⟨wq, hq⟩, rfl⟩
                go_wp2_with fail
                all_goals
                  go_ret
                  exact ⟨rfl, hbend.trans (hq.mono hbend.size)⟩
            · have hd1 : decide (gx < (W : Int)) = false := by simpa using hw1
              by_cases hw2 : (D : Int) < gx
              · have hd2 : decide ((D : Int) < gx) = true := by simpa using hw2
                have hR12 := HBAD.out i hlt (by rw [HOI2.out, decide_eq_false (show ¬ gx ≤ (D : Int) by omega), Bool.and_false])
                clear HOI2 hw1 hw2 HP HBAD HEND
                subst hR12
                go_wp2_with fail
                refine wp_region_ext wr.heap.size wr (by kernel_rfl) (by kernel_rfl) (Below.refl _ _) ?_
                try simp only [List.append_eq, List.cons_append, List.nil_append]
                repeat (any_goals (go_big_quiet_step ((go_at_call 107; exact Calls.ext_of (Nat.le_refl _) (hwi _)))))
                all_goals
                  refine wpQuiet_nil ?_
                  rintro _ ⟨⟨wq, hq⟩, rfl⟩
                  go_wp2_with fail
                  all_goals
                    go_ret
                    exact ⟨rfl, hbend.trans (hq.mono hbend.size)⟩
              · have hd2 : decide ((D : Int) < gx) = false := by simpa using hw2
                have hP2 : Hid (∀ j, j < i + 1 → okR es n l o j = true) := (show _ from fun j hj => by
                  by_cases e : j = i
                  · subst e
                    rw [HOI2.out, decide_eq_true (show (W : Int) ≤ gx by omega), decide_eq_true (show gx ≤ (D : Int) by omega)]; rfl
                  · exact HP.out j (by omega))
                clear HOI2 hw1 hw2 HP HBAD HEND
                go_wp2_with fail
                refine wp_region_ext wr.heap.size wr (by kernel_rfl) (by kernel_rfl) (Below.refl _ _) ?_
                try simp only [List.append_eq, List.cons_append, List.nil_append]
                repeat (any_goals (go_big_quiet_step ((go_at_call 107; exact Calls.ext_of (Nat.le_refl _) (hwi _)))))
                all_goals
                  refine wpQuiet_nil ?_
                  rintro _ ⟨⟨wq, hq⟩, rfl⟩
                  go_wp2_with fail
                  go_roundw
                  case rel => exact ⟨i + 1, by omega, by go_num, hP2, hb2r.trans (hq.mono hb2r.size)⟩
                  case measure => simp [intOf]; omega
          · obtain ⟨q0, q1, hql⟩ := hqc (by omega)
            have hd0 : decide (0 < (i : Int)) = true := by simp; omega
            have hd0b : decide (0 < i) = true := by simp; omega
            have hip : 0 < i := by omega
            have hip3 : (0 : Int) < (i : Int) := by omega
            have hql3 : (q : Int) < l.length := by omega
            have e3 : ∀ z : Ext wr.heap.size wr, z.world.cell? ⟨b, off + (i - 1), none⟩ = some (.int .i64 (q : Nat)) := fun z => (z.below.cell (p := ⟨b, off + (i - 1), none⟩) (cell_lt q0)).trans q0
            have e4 : ∀ z : Ext wr.heap.size wr, z.world.cell? ⟨b1, off1 + q, none⟩ = some (.int .i64 gq) := fun z => (z.below.cell (p := ⟨b1, off1 + q, none⟩) (cell_lt q1)).trans q1
            have hif : decide (i = 0) = false := decide_eq_false hi0
            have HIF := Lib.hid hif
            clear hqc hif hi0 q0 q1
            by_cases hw0 : gx < gq
            · have hd3 : decide (gx < gq) = true := by simpa using hw0
              have hR12 := HBAD.out i hlt (by rw [HOI.out, HIF.out, decide_eq_false (show ¬ gq ≤ gx by omega)]; rfl)
              clear HOI HIF hw0 HP HBAD HEND
              subst hR12
              go_wp2_with fail
              refine wp_region_ext wr.heap.size wr (by kernel_rfl) (by kernel_rfl) (Below.refl _ _) ?_
              try simp only [List.append_eq, List.cons_append, List.nil_append]
              repeat (any_goals (go_big_quiet_step ((go_at_call 107; exact Calls.ext_of (Nat.le_refl _) (hwi _)))))
              all_goals
                refine wpQuiet_nil ?_
                rintro _ ⟨⟨wq, hq⟩, rfl⟩
                go_wp2_with fail
                all_goals
                  go_ret
                  exact ⟨rfl, hbend.trans (hq.mono hbend.size)⟩
            · have hd3 : decide (gx < gq) = false := by simpa using hw0
              have HOI2 : Hid (okR es n l o i = (decide ((W : Int) ≤ gx) && decide (gx ≤ (D : Int)))) := by
                show _ = _
                rw [HOI.out, HIF.out, decide_eq_true (show gq ≤ gx by omega)]; rfl
              clear HOI HIF hw0
              by_cases hw1 : gx < (W : Int)
              · have hd1 : decide (gx < (W : Int)) = true := by simpa using hw1
                have hR12 := HBAD.out i hlt (by rw [HOI2.out, decide_eq_false (show ¬ (W : Int) ≤ gx by omega), Bool.false_and])
                clear HOI2 hw1 HP HBAD HEND
                subst hR12
                go_wp2_with fail
                refine wp_region_ext wr.heap.size wr (by kernel_rfl) (by kernel_rfl) (Below.refl _ _) ?_
                try simp only [List.append_eq, List.cons_append, List.nil_append]
                repeat (any_goals (go_big_quiet_step ((go_at_call 107; exact Calls.ext_of (Nat.le_refl _) (hwi _)))))
                all_goals
                  refine wpQuiet_nil ?_
                  rintro _ ⟨⟨wq, hq⟩, rfl⟩
                  go_wp2_with fail
                  all_goals
                    go_ret
                    exact ⟨rfl, hbend.trans (hq.mono hbend.size)⟩
              · have hd1 : decide (gx < (W : Int)) = false := by simpa using hw1
                by_cases hw2 : (D : Int) < gx
                · have hd2 : decide ((D : Int) < gx) = true := by simpa using hw2
                  have hR12 := HBAD.out i hlt (by rw [HOI2.out, decide_eq_false (show ¬ gx ≤ (D : Int) by omega), Bool.and_false])
                  clear HOI2 hw1 hw2 HP HBAD HEND
                  subst hR12
                  go_wp2_with fail
                  refine wp_region_ext wr.heap.size wr (by kernel_rfl) (by kernel_rfl) (Below.refl _ _) ?_
                  try simp only [List.append_eq, List.cons_append, List.nil_append]
                  repeat (any_goals (go_big_quiet_step ((go_at_call 107; exact Calls.ext_of (Nat.le_refl _) (hwi _)))))
                  all_goals
                    refine wpQuiet_nil ?_
                    rintro _ ⟨⟨wq, hq⟩, rfl⟩
                    go_wp2_with fail
                    all_goals
                      go_ret
                      exact ⟨rfl, hbend.trans (hq.mono hbend.size)⟩
                · have hd2 : decide ((D : Int) < gx) = false := by simpa using hw2
                  have hP2 : Hid (∀ j, j < i + 1 → okR es n l o j = true) := (show _ from fun j hj => by
                    by_cases e : j = i
                    · subst e
                      rw [HOI2.out, decide_eq_true (show (W : Int) ≤ gx by omega), decide_eq_true (show gx ≤ (D : Int) by omega)]; rfl
                    · exact HP.out j (by omega))
                  clear HOI2 hw1 hw2 HP HBAD HEND
                  go_wp2_with fail
                  refine wp_region_ext wr.heap.size wr (by kernel_rfl) (by kernel_rfl) (Below.refl _ _) ?_
                  try simp only [List.append_eq, List.cons_append, List.nil_append]
                  repeat (any_goals (go_big_quiet_step ((go_at_call 107; exact Calls.ext_of (Nat.le_refl _) (hwi _)))))
                  all_goals
                    refine wpQuiet_nil ?_
                    rintro _ ⟨⟨wq, hq⟩, rfl⟩
                    go_wp2_with fail
                    go_roundw
                    case rel => exact ⟨i + 1, by omega, by go_num, hP2, hb2r.trans (hq.mono hb2r.size)⟩
                    case measure => simp [intOf]; omega
    · obtain rfl : i = o.length := by omega
      have hR0 := HEND.out HP.out
      clear HP HBAD HEND hat
      go_wp2_with fail
      go_ret
      exact ⟨by rw [hR0]; rfl, hb02.trans (hb.mono hz2)⟩
end Go.Proofs.YtbkacbbhiecnkaaDoor

namespace Go.Proofs.YtbkacbbhiecnkaaDoor
open Go.RowKit Go.BigFrame Go.ChangeShapes Go.WideShapes Go.ChangeAt Go.Deep

/-- the numbers xs lie in the slice v, however many they are -/
def IntsB (w : World) (v : Value) (xs : List Int) : Prop :=
  ∃ a cap, v = .slice a xs.length cap ∧ xs.length ≤ cap ∧ (a = none → cap = 0) ∧ xs.length ≤ 9223372036854775807 ∧ ∀ i x, xs[i]? = some x → ∃ b off, a = some ⟨b, off, none⟩ ∧ w.cell? ⟨b, off + i, none⟩ = some (.int .i64 x)
theorem IntsB.below {w w' : World} {v : Value} {xs : List Int} (h : IntsB w v xs) (hb : Below w.heap.size w w') : IntsB w' v xs := by
  obtain ⟨a, cap, rfl, h1, h2, h3, h4⟩ := h
  refine ⟨a, cap, rfl, h1, h2, h3, fun i x hi => ?_⟩
  obtain ⟨b, off, rfl, hc⟩ := h4 i x hi
  exact ⟨b, off, rfl, (hb.cell (p := ⟨b, off + i, none⟩) (cell_lt hc)).trans hc⟩
theorem IntsB.small {w : World} {v : Value} {xs : List Int} (h : IntsB w v xs) (hl : xs.length ≤ 70368744177664) : IntsAt w v xs := by
  obtain ⟨a, cap, rfl, h1, h2, h3, h4⟩ := h
  exact ⟨a, cap, rfl, h1, h2, hl, h4⟩
theorem IntsAt.big {w : World} {v : Value} {xs : List Int} (h : IntsAt w v xs) : IntsB w v xs := by
  obtain ⟨a, cap, rfl, h1, h2, h3, h4⟩ := h
  exact ⟨a, cap, rfl, h1, h2, by omega, h4⟩
theorem IntsB.at {w : World} {a : Option Addr} {cap : Nat} {xs : List Int} (h : IntsB w (.slice a xs.length cap) xs) (k : Nat) (hk : k < xs.length) : ∃ b off y, a = some ⟨b, off, none⟩ ∧ xs[k]? = some y ∧ xs.drop k = y :: xs.drop (k + 1) ∧ xs.take (k + 1) = xs.take k ++ [y] ∧ w.cell? ⟨b, off + k, none⟩ = some (.int .i64 y) := by
  obtain ⟨a', cap', hv, _, _, _, hc⟩ := h
  obtain ⟨rfl, _, rfl⟩ : a = a' ∧ True ∧ cap = cap' := by simpa using hv
  have hy : xs[k]? = some xs[k] := List.getElem?_eq_getElem hk
  obtain ⟨b, off, ha, h0⟩ := hc k _ hy
  exact ⟨b, off, xs[k], ha, hy, List.drop_eq_getElem_cons hk, List.take_succ_eq_append_getElem hk, h0⟩
/-- a slice of numbers that came in -/
theorem bigs_of_trod {H : Type} {enc : TypeId × Value → H} {w : World} {d : DataW H} {p : List MemPlace} {base : Nat} {sp : Nat → Bool} {held : Bool}
    {a : Option Addr} {len cap : Nat} (h : DataW.Trod enc Tryd.prog w base sp held 22 (.slice a len cap) d p) : ∃ xs : List Int, xs.length = len ∧ IntsB w (.slice a xs.length cap) xs := by
  obtain ⟨fuel, hf⟩ := h
  rcases open_ints Tryd.underlying22 Tryd.underlying3 (by kernel_rfl) hf with ⟨hcs, _⟩ | ⟨x, l, c, zs, hcs, _, hl, hm, hz, _, hcell, hwz⟩
  · simp [Value.cells] at hcs
    obtain ⟨rfl, rfl, rfl⟩ := hcs
    exact ⟨[], rfl, none, 0, rfl, Nat.le_refl _, fun _ => rfl, by simp, fun i e h => by simp at h⟩
  · simp [Value.cells] at hcs
    obtain ⟨rfl, rfl, rfl⟩ := hcs
    have hm' : cap ≤ 9223372036854775807 := hm
    have hlz : len ≤ zs.length := by rw [hz]; split <;> omega
    have hlen : (zs.take len).length = len := by simp; omega
    refine ⟨zs.take len, hlen, _, cap, rfl, by rw [hlen]; exact hl, (fun h => by cases h), by rw [hlen]; omega, fun j e hj => ?_⟩
    obtain ⟨b, off, spot⟩ := x
    have hjl := (List.getElem?_eq_some_iff.1 hj).1
    rw [hlen] at hjl
    have hc0 := hcell 0 (by omega)
    obtain rfl := spot_none hc0
    have hc := hcell j (by omega)
    have he : zs.getD j 0 = e := by
      rw [List.getElem?_take, if_pos hjl] at hj
      rw [List.getD_eq_getElem?_getD, hj]; rfl
    rw [he] at hc
    refine ⟨b, off, rfl, ?_⟩
    by_cases h0 : j = 0
    · rw [h0] at hc ⊢; exact hc
    · simpa [Addr.add, h0] using hc
set_option maxRecDepth 100000 in
set_option maxHeartbeats 1600000 in
theorem whole_big (m : Nat) (a : Option Addr) (cap : Nat) (l : List Int) (w : World) (hi : IntsB w (.slice a l.length cap) l) (hm : m ≤ 100000) :
    Calls Tryd.prog 109 #[.slice a l.length cap, .int .i64 m] w fun e w' => e = .returned (.bool (decide (okW m l))) ∧ Below w.heap.size w w' := by
  have hsm : l.length ≤ 9223372036854775807 := by obtain ⟨_, _, hv, _, _, hl, _⟩ := hi; exact hl
  have hmk := make_bools m (by omega)
  go_enter Tryd.func109, Tryd.ntmps109
  go_wp2_with fail
  have hB0 : BoolAt (w.alloc (.cells (fnB m (fun _ => false)).toArray 4)) w.heap.size m (fun x => decide ((x : Int) ∈ l.take 0)) := by
    have h : BoolAt (w.alloc (.cells (fnB m (fun _ => false)).toArray 4)) w.heap.size m (fun _ => false) := heap_alloc_new _ _
    exact h.congr fun x _ => by simp
  have hb0 := (Below.refl w.heap.size w).alloc (Nat.le_refl _) (.cells (fnB m (fun _ => false)).toArray 4)
  clear hmk
  go_loopw [12] (fun vi wr => ∃ t : Nat, t ≤ l.length ∧ vi = .int .i64 t ∧ BoolAt wr w.heap.size m (fun x => decide ((x : Int) ∈ l.take t)) ∧ Hid ((∀ x ∈ l.take t, 0 ≤ x ∧ x < m) ∧ (l.take t).Nodup) ∧ Below w.heap.size w wr) (fun vi _ => l.length - (intOf vi).toNat)
  case atStart => exact ⟨0, Nat.zero_le _, rfl, hB0, (show _ ∧ _ from ⟨fun x hx => by simp at hx, by simp⟩), hb0⟩
  case round =>
    clear hB0 hb0
    obtain ⟨t, ht, rfl, hB, HO, hb⟩ := hrel
    by_cases hlt : t < l.length
    · obtain ⟨b9, o9, z, rfl, hz, _, _, c0⟩ := (hi.below hb).at t hlt
      have hlt3 : (t : Int) < l.length := by omega
      have hzl : z ∈ l := List.mem_of_getElem? hz
      have htk := take_at l t z hz
      have hsub : (l.take t ++ [z]).Sublist l := by rw [← htk]; exact take_sub l _
      by_cases h0 : z < 0
      · have d0 : decide (z < 0) = true := by simpa using h0
        have hno : Hid (decide (okW m l) = false) := (show _ = _ from decide_eq_false fun h => by have := (h.1 z hzl).1; omega)
        clear hz hzl htk hsub hB HO
        go_wp2_with fail
        go_ret
        exact ⟨by rw [hno.out]; rfl, hb⟩
      · have d0 : decide (z < 0) = false := by simpa using h0
        by_cases h1 : (m : Int) ≤ z
        · have d1 : decide ((m : Int) ≤ z) = true := by simpa using h1
          have hno : Hid (decide (okW m l) = false) := (show _ = _ from decide_eq_false fun h => by have := (h.1 z hzl).2; omega)
          clear hz hzl htk hsub hB HO
          go_wp2_with fail
          go_ret
          exact ⟨by rw [hno.out]; rfl, hb⟩
        · have d1 : decide ((m : Int) ≤ z) = false := by simpa using h1
          obtain ⟨x, rfl⟩ := Int.eq_ofNat_of_zero_le (show 0 ≤ z by omega)
          have hxm : x < m := by omega
          have hxm3 : (x : Int) < m := by omega
          have q0 := hB.cell x hxm
          have qf : ∀ j, wr.frozen? ⟨w.heap.size, j, none⟩ = false := fun j => free_blk hB
          by_cases h2 : (x : Int) ∈ l.take t
          · rw [decide_eq_true h2] at q0
            have hno : Hid (decide (okW m l) = false) := (show _ = _ from decide_eq_false fun h => by
              have h3 := h.2.1.sublist hsub
              rw [List.nodup_append] at h3
              exact h3.2.2 _ h2 _ (by simp) rfl)
            clear hz hzl htk hsub hB HO h2 qf
            go_wp2_with fail
            go_ret
            exact ⟨by rw [hno.out]; rfl, hb⟩
          · rw [decide_eq_false h2] at q0
            have hst := (hB.set x true).congr (G := fun y => decide ((y : Int) ∈ l.take (t + 1))) fun y _ => by
              rw [htk]
              by_cases e : y = x
              · subst e; simp
              · have e2 : ¬ ((y : Int) = (x : Int)) := by omega
                simp [e, e2]
            have hO2 : Hid ((∀ x ∈ l.take (t + 1), 0 ≤ x ∧ x < m) ∧ (l.take (t + 1)).Nodup) := by
              show _ ∧ _
              rw [htk]
              refine ⟨fun y hy => ?_, ?_⟩
              · rcases List.mem_append.1 hy with hy | hy
                · exact HO.out.1 y hy
                · rw [List.mem_singleton.1 hy]; omega
              · rw [List.nodup_append]
                exact ⟨HO.out.2, by simp, fun y hy y' hy' e => by rw [List.mem_singleton.1 hy'] at e; exact h2 (e ▸ hy)⟩
            clear hz hzl htk hsub hB HO h2
            go_wp2_with fail
            go_roundw
            case rel => exact ⟨t + 1, by omega, by go_num, hst, hO2, hb.setCell (p := ⟨w.heap.size, x, none⟩) (Nat.le_refl _) _⟩
            case measure => simp [intOf]; omega
    · obtain rfl : t = l.length := by omega
      have hO := HO.out
      rw [List.take_length] at hO
      have hres : decide (okW m l) = decide (l.length = m) := by
        rw [Bool.eq_iff_iff, decide_eq_true_eq, decide_eq_true_eq]
        exact ⟨fun h => h.2.2, fun h => ⟨hO.1, hO.2, h⟩⟩
      have HRES := Lib.hid hres
      clear hO HO hres hB
      by_cases hlm : l.length = m
      · have d3 : ((l.length : Int) == (m : Int)) = true := by simp; omega
        rw [decide_eq_true hlm] at HRES
        clear hlm
        go_wp2_with fail
        go_ret
        exact ⟨by rw [HRES.out]; rfl, hb⟩
      · have d3 : ((l.length : Int) == (m : Int)) = false := by simp; omega
        rw [decide_eq_false hlm] at HRES
        go_wp2_with fail
        go_ret
        exact ⟨by rw [HRES.out]; rfl, hb⟩
set_option maxRecDepth 100000 in
set_option maxHeartbeats 800000 in
theorem rall10_big (m : Nat) (a : Option Addr) (cap : Nat) (l : List Int) (w : World) (hi : IntsB w (.slice a l.length cap) l) (hm : m ≤ 100000) :
    Calls Tryd.prog 114 #[.slice a l.length cap, .int .i64 m] w fun e w' => e = .returned (.bool (decide (okW m l))) ∧ Below w.heap.size w w' := by
  by_cases hs : l.length ≤ 70368744177664
  · exact rall10_any m a cap l w (hi.small hs) hm
  have hl : l.length ≤ 9223372036854775807 := by obtain ⟨_, _, hv, _, _, h, _⟩ := hi; exact h
  have hno : decide (okW m l) = false := decide_eq_false fun h => by have := h.2.2; omega
  have d1 : ((l.length : Int) == (m : Int)) = false := by simp; omega
  rw [hno]
  clear hno
  go_enter Tryd.func114, Tryd.ntmps114
  go_wp2_with fail
  go_ret
  exact ⟨rfl, Below.refl _ _⟩
set_option maxRecDepth 100000 in
set_option maxHeartbeats 1600000 in
theorem tcheck_big (n : Int) (a a1 a2 : Option Addr) (cap c1 c2 : Nat) (es : List E2) (l ord : List Int) (w : World) (he : EdgesAt w (.slice a es.length cap) es) (hl : IntsB w (.slice a1 l.length c1) l) (ho : IntsB w (.slice a2 ord.length c2) ord) (hT : TzAt w) :
    Calls Tryd.prog 51 #[.agg #[.int .i64 n, .slice a es.length cap], .slice a1 l.length c1, .slice a2 ord.length c2] w fun e w' => e = .returned (.int .i64 (chkX n es l ord)) ∧ Below w.heap.size w w' := by
  have hb0 : Below w.heap.size w ((w.alloc (.cells #[.int .i64 n, .slice a es.length cap] 27)).alloc (.cells #[.slice a1 l.length c1] 22)) := ((Below.refl _ _).alloc (Nat.le_refl _) _).alloc (by simp) _
  have hG0 : ((w.alloc (.cells #[.int .i64 n, .slice a es.length cap] 27)).alloc (.cells #[.slice a1 l.length c1] 22)).heap[w.heap.size]? = some (.cells #[.int .i64 n, .slice a es.length cap] 27 (0, 0)) := (Below.heap_alloc _ _ _ (by simp)).trans (heap_alloc_new _ _)
  have hN0 : ((w.alloc (.cells #[.int .i64 n, .slice a es.length cap] 27)).alloc (.cells #[.slice a1 l.length c1] 22)).heap[w.heap.size + 1]? = some (.cells #[.slice a1 l.length c1] 22 (0, 0)) := by
    have h := heap_alloc_new (w.alloc (.cells #[.int .i64 n, .slice a es.length cap] 27)) (.cells #[.slice a1 l.length c1] 22)
    simpa using h
  have hck := fun W h => gcheck_any n a cap es W h
  have hsl : l.length ≤ 9223372036854775807 := by obtain ⟨_, _, hv, _, _, h, _⟩ := hl; exact h
  by_cases hsm : l.length ≤ 70368744177664 ∧ ord.length ≤ 70368744177664
  · exact tcheck_any n a a1 a2 cap c1 c2 es l ord w he (hl.small hsm.1) (ho.small hsm.2) hT
  unfold chkX
  by_cases hC : checkS n es = 0
  case neg =>
    rw [if_pos hC]
    obtain ⟨C, hCC⟩ : ∃ C, checkS n es = C := ⟨_, rfl⟩
    rw [hCC] at hck hC ⊢
    have d1 : (C != 0) = true := by simpa using hC
    have d2 : (C == 0) = false := by simpa using hC
    clear hC hCC
    go_enter Tryd.func51, Tryd.ntmps51
    go_wp2_with fail
    refine (hck _ (he.below hb0)).mono ?_
    rintro e w1 ⟨rfl, hb1⟩
    go_wp2_with fail
    go_ret
    exact ⟨rfl, hb0.trans (hb1.mono hb0.size)⟩
  have hv := (valid_iff n es).1 hC
  rw [if_neg (by simpa using hC)]
  rw [hC] at hck
  obtain ⟨n, rfl⟩ := Int.eq_ofNat_of_zero_le hv.1
  rw [Int.toNat_natCast]
  have hel := hv.length_le
  have hn64 := hv.2.1
  have hwh := fun W h => whole_big es.length a2 c2 ord W h (by omega)
  by_cases hlm : l.length = es.length
  case neg =>
    rw [if_pos (.inl hlm)]
    have d1 : ((l.length : Int) != (es.length : Int)) = true := by simp; omega
    clear hC
    go_enter Tryd.func51, Tryd.ntmps51
    go_wp2_with fail
    refine (hck _ (he.below hb0)).mono ?_
    rintro e w1 ⟨rfl, hb1⟩
    have hG1 := lit_next' hb1 hG0
    have hN1 := lit_next' hb1 hN0
    have g1 : w1.cell? ⟨w.heap.size, 1, none⟩ = some (.slice a es.length cap) := by rw [cell_blk hG1]; rfl
    have n1 : w1.cell? ⟨w.heap.size + 1, 0, none⟩ = some (.slice a1 l.length c1) := by rw [cell_blk hN1]; rfl
    go_wp2_with fail
    go_ret
    exact ⟨rfl, hb0.trans (hb1.mono hb0.size)⟩
  by_cases hok : okW es.length ord
  case neg =>
    rw [if_pos (.inr hok)]
    rw [decide_eq_false hok] at hwh
    have d1 : ((l.length : Int) != (es.length : Int)) = false := by simp; omega
    clear hC hlm
    go_enter Tryd.func51, Tryd.ntmps51
    go_wp2_with fail
    refine (hck _ (he.below hb0)).mono ?_
    rintro e w1 ⟨rfl, hb1⟩
    have hG1 := lit_next' hb1 hG0
    have hN1 := lit_next' hb1 hN0
    have g1 : w1.cell? ⟨w.heap.size, 1, none⟩ = some (.slice a es.length cap) := by rw [cell_blk hG1]; rfl
    have n1 : w1.cell? ⟨w.heap.size + 1, 0, none⟩ = some (.slice a1 l.length c1) := by rw [cell_blk hN1]; rfl
    have hb01 := hb0.trans (hb1.mono hb0.size)
    go_wp2_with fail
    refine (hwh _ (ho.below hb01)).mono ?_
    rintro e w2 ⟨rfl, hb2⟩
    go_wp2_with fail
    go_ret
    exact ⟨rfl, hb01.trans (hb2.mono hb01.size)⟩
  have h1 := hok.2.2
  exact absurd (show l.length ≤ 70368744177664 ∧ ord.length ≤ 70368744177664 by omega) hsm
set_option maxRecDepth 100000 in
set_option maxHeartbeats 1600000 in
theorem rcheck12_big (n : Int) (a a1 a2 : Option Addr) (cap c1 c2 : Nat) (es : List E2) (l ord : List Int) (w : World) (he : EdgesAt w (.slice a es.length cap) es) (hl : IntsB w (.slice a1 l.length c1) l) (ho : IntsB w (.slice a2 ord.length c2) ord) :
    Calls Tryd.prog 52 #[.agg #[.int .i64 n, .slice a es.length cap], .slice a1 l.length c1, .slice a2 ord.length c2] w fun e w' => e = .returned (.int .i64 (chkX n es l ord)) ∧ Below w.heap.size w w' := by
  have hb0 : Below w.heap.size w (w.alloc (.cells #[.int .i64 n, .slice a es.length cap] 27)) := (Below.refl _ _).alloc (Nat.le_refl _) _
  have hG0 := heap_alloc_new w (.cells #[.int .i64 n, .slice a es.length cap] 27)
  have hck := fun W h => check_any n a cap es W h
  have hsl : l.length ≤ 9223372036854775807 := by obtain ⟨_, _, hv, _, _, h, _⟩ := hl; exact h
  by_cases hsm : l.length ≤ 70368744177664 ∧ ord.length ≤ 70368744177664
  · exact rcheck12_any n a a1 a2 cap c1 c2 es l ord w he (hl.small hsm.1) (ho.small hsm.2)
  unfold chkX
  by_cases hC : checkS n es = 0
  case neg =>
    rw [if_pos hC]
    obtain ⟨C, hCC⟩ : ∃ C, checkS n es = C := ⟨_, rfl⟩
    rw [hCC] at hck hC ⊢
    have d1 : (C != 0) = true := by simpa using hC
    have d2 : (C == 0) = false := by simpa using hC
    clear hC hCC
    go_enter Tryd.func52, Tryd.ntmps52
    go_wp2_with fail
    refine (hck _ (he.below hb0)).mono ?_
    rintro e w1 ⟨rfl, hb1⟩
    go_wp2_with fail
    go_ret
    exact ⟨rfl, hb0.trans (hb1.mono hb0.size)⟩
  have hv := (valid_iff n es).1 hC
  rw [if_neg (by simpa using hC)]
  rw [hC] at hck
  obtain ⟨n, rfl⟩ := Int.eq_ofNat_of_zero_le hv.1
  rw [Int.toNat_natCast]
  have hel := hv.length_le
  have hn64 := hv.2.1
  have hwh := fun W h => rall10_big es.length a2 c2 ord W h (by omega)
  by_cases hlm : l.length = es.length
  case neg =>
    rw [if_pos (.inl hlm)]
    have d1 : ((l.length : Int) != (es.length : Int)) = true := by simp; omega
    clear hC
    go_enter Tryd.func52, Tryd.ntmps52
    go_wp2_with fail
    refine (hck _ (he.below hb0)).mono ?_
    rintro e w1 ⟨rfl, hb1⟩
    have hG1 := lit_next' hb1 hG0
    have g1 : w1.cell? ⟨w.heap.size, 1, none⟩ = some (.slice a es.length cap) := by rw [cell_blk hG1]; rfl
    go_wp2_with fail
    go_ret
    exact ⟨rfl, hb0.trans (hb1.mono hb0.size)⟩
  by_cases hok : okW es.length ord
  case neg =>
    rw [if_pos (.inr hok)]
    rw [decide_eq_false hok] at hwh
    have d1 : ((l.length : Int) != (es.length : Int)) = false := by simp; omega
    clear hC hlm
    go_enter Tryd.func52, Tryd.ntmps52
    go_wp2_with fail
    refine (hck _ (he.below hb0)).mono ?_
    rintro e w1 ⟨rfl, hb1⟩
    have hG1 := lit_next' hb1 hG0
    have g1 : w1.cell? ⟨w.heap.size, 1, none⟩ = some (.slice a es.length cap) := by rw [cell_blk hG1]; rfl
    have hb01 := hb0.trans (hb1.mono hb0.size)
    go_wp2_with fail
    refine (hwh _ (ho.below hb01)).mono ?_
    rintro e w2 ⟨rfl, hb2⟩
    go_wp2_with fail
    go_ret
    exact ⟨rfl, hb01.trans (hb2.mono hb01.size)⟩
  have h1 := hok.2.2
  exact absurd (show l.length ≤ 70368744177664 ∧ ord.length ≤ 70368744177664 by omega) hsm
end Go.Proofs.YtbkacbbhiecnkaaDoor
