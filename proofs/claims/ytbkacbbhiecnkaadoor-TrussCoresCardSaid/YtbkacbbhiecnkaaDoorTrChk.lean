/- The contracts of the comparison by numbers, and of the test for sorted orders. The contract of the program's check of truss numbers and an order. -/
import Derived.Test.YtbkacbbhiecnkaaDoorCoreWhole
import Derived.Test.YtbkacbbhiecnkaaDoorTrFns
import Derived.Deep.RegionLaw
import Derived.BigRegion
namespace Go.Proofs.YtbkacbbhiecnkaaDoor
open Go.RowKit Go.BigFrame

/-- the numbers that a comparison has captured -/
def numsF (l : List Int) (x : Nat) : Int := l.getD x 0
theorem numsF_get (l : List Int) (x : Nat) (h : x < l.length) : l[x]? = some (numsF l x) := by
  unfold numsF; rw [List.getD_eq_getElem?_getD, List.getElem?_eq_getElem h]; rfl
theorem ints_cell {w : World} {a : Option Addr} {cap : Nat} {l : List Int} (h : IntsAt w (.slice a l.length cap) l) (x : Nat) (hx : x < l.length) : ∃ b off, a = some ⟨b, off, none⟩ ∧ w.cell? ⟨b, off + x, none⟩ = some (.int .i64 (numsF l x)) := by
  obtain ⟨_, _, hv, _, _, _, hc⟩ := h
  cases hv
  exact hc x _ (numsF_get l x hx)
set_option maxRecDepth 100000 in
theorem chk1_any (x y : Nat) (B : Nat) (a : Option Addr) (cap : Nat) (l : List Int) (w : World) (hi : IntsAt w (.slice a l.length cap) l) (hB : w.cell? ⟨B, 0, none⟩ = some (.slice a l.length cap)) (hx : x < l.length) (hy : y < l.length) :
    Calls Tryd.prog 112 #[.int .i64 x, .int .i64 y, .pointer (some ⟨B, 0, none⟩)] w fun e w' => e = .returned (.int .i64 (cmpS (numsF l x) (numsF l y))) ∧ Below w.heap.size w w' := by
  obtain ⟨b, off, hb, c0⟩ := ints_cell hi x hx
  obtain ⟨b', off', hb', c1⟩ := ints_cell hi y hy
  subst hb
  cases hb'
  have hx3 : (x : Int) < l.length := by omega
  have hy3 : (y : Int) < l.length := by omega
  have hcl : l.length ≤ cap := by obtain ⟨_, _, hv, h, _⟩ := hi; cases hv; exact h
  go_enter Tryd.func112, Tryd.ntmps112
  go_wp2_with fail
  go_region_law (go_simp; go_at_call 113; (with_reducible refine (cmp_any _ _ _).mono ?_); rintro e w2 ⟨rfl, rfl⟩)
  all_goals
    go_wp2_with fail
    go_ret
    exact ⟨rfl, (Below.refl _ _).drew⟩
/-- the numbers ascend along an order -/
def sortB (l : List Int) (o : List Nat) : Bool := decide (∀ j, j < o.length - 1 → numsF l (o.getD j 0) ≤ numsF l (o.getD (j + 1) 0))
theorem sort_bad {l : List Int} {o : List Nat} (j : Nat) (hj : j + 1 < o.length) (h : numsF l (o.getD (j + 1) 0) < numsF l (o.getD j 0)) : sortB l o = false :=
  decide_eq_false fun hh => by have := hh j (by omega); omega
set_option maxRecDepth 100000 in
set_option maxHeartbeats 1600000 in
theorem sorted_any (B : Nat) (a ao : Option Addr) (cap co : Nat) (l : List Int) (o : List Nat) (w : World) (hi : IntsAt w (.slice a l.length cap) l) (hB : w.cell? ⟨B, 0, none⟩ = some (.slice a l.length cap)) (ho : IntsAt w (.slice ao o.length co) (castL o)) (hlt : ∀ x ∈ o, x < l.length) (hsm : o.length ≤ 100000) :
    Calls Tryd.prog 111 #[.slice ao o.length co, .func (.func 112) #[] #[.pointer (some ⟨B, 0, none⟩)]] w fun e w' => e = .returned (.bool (sortB l o)) ∧ Below w.heap.size w w' := by
  have hco : o.length ≤ co := by obtain ⟨_, _, hv, h, _⟩ := ho; have h1 := (Value.slice.inj hv).2.1; have h2 := (Value.slice.inj hv).2.2; omega
  have hat : ∀ j, j < o.length → ∃ b off, ao = some ⟨b, off, none⟩ ∧ w.cell? ⟨b, off + j, none⟩ = some (.int .i64 (o.getD j 0 : Nat)) := fun j hj => by
    obtain ⟨_, _, hv, _, _, _, hc⟩ := ho
    have h1 := (Value.slice.inj hv).1
    subst h1
    refine hc j _ ?_
    unfold castL
    rw [List.getElem?_map, List.getD_eq_getElem?_getD, List.getElem?_eq_getElem hj]; rfl
  have hmem : ∀ j, j < o.length → o.getD j 0 < l.length := fun j hj => by
    refine hlt _ ?_
    rw [List.getD_eq_getElem?_getD, List.getElem?_eq_getElem hj]
    exact List.getElem_mem hj
  go_enter Tryd.func111, Tryd.ntmps111
  go_wp2_with fail
  go_loopw [5] (fun vi wr => ∃ z : Int, vi = .int .i64 z ∧ -1 ≤ z ∧ z + 1 ≤ o.length ∧ Hid (∀ j : Nat, z ≤ j → j + 1 < o.length → numsF l (o.getD j 0) ≤ numsF l (o.getD (j + 1) 0)) ∧ Below w.heap.size w wr) (fun vi _ => (intOf vi + 1).toNat)
  case atStart => exact ⟨(o.length : Int) - 1, by go_num, by omega, by omega, (show _ from fun j h1 h2 => by omega), Below.refl _ _⟩
  case round =>
    obtain ⟨z, rfl, hz0, hz1, HS, hb⟩ := hrel
    by_cases hz : 0 < z
    · obtain ⟨j, rfl⟩ : ∃ j : Nat, z = (j : Int) + 1 := ⟨(z - 1).toNat, by omega⟩
      have hj1 : j + 1 < o.length := by omega
      obtain ⟨b, off, hb0, c0⟩ := hat j (by omega)
      obtain ⟨b', off', hb', c1⟩ := hat (j + 1) hj1
      subst hb0
      cases hb'
      have c0' : wr.cell? ⟨b, off + j, none⟩ = some (.int .i64 (o.getD j 0 : Nat)) := (hb.cell (p := ⟨b, off + j, none⟩) (cell_lt c0)).trans c0
      have c1' : wr.cell? ⟨b, off + (j + 1), none⟩ = some (.int .i64 (o.getD (j + 1) 0 : Nat)) := (hb.cell (p := ⟨b, off + (j + 1), none⟩) (cell_lt c1)).trans c1
      have hck := chk1_any (o.getD (j + 1) 0) (o.getD j 0) B a cap l wr.drew ((hi.below hb).below (Below.refl _ _).drew) ((hb.cell (p := ⟨B, 0, none⟩) (cell_lt hB)).trans hB) (hmem _ hj1) (hmem _ (by omega))
      have hbad := sort_bad (l := l) (o := o) j hj1
      have v1 : IntKind.i64.wrap (j : Int) = (j : Int) := IntWalk.i64_in _ (by omega)
      have hb5 : (0 : Int) ≤ (j : Int) + 1 := by omega
      have hb3 : (j : Int) < o.length := by omega
      have hb4 : (j : Int) + 1 < o.length := by omega
      obtain ⟨X, hX⟩ : ∃ X, numsF l (o.getD (j + 1) 0) = X := ⟨_, rfl⟩
      obtain ⟨Y, hY⟩ : ∃ Y, numsF l (o.getD j 0) = Y := ⟨_, rfl⟩
      rw [hX, hY] at hck hbad
      have HX := Lib.hid hX
      have HY := Lib.hid hY
      clear hX hY c0 c1 hat
      generalize o.getD (j + 1) 0 = ox at hck c1'
      generalize o.getD j 0 = oy at hck c0'
      by_cases hlt2 : X < Y
      · have hc : cmpS X Y = -1 := by unfold cmpS; rw [if_pos hlt2]
        rw [hc] at hck
        have HBAD := Lib.hid (hbad hlt2)
        clear hbad hc hlt2
        go_wp2_with fail
        go_region_law (go_simp; go_at_call 112; (with_reducible refine hck.mono ?_); rintro e w2 ⟨rfl, hb2⟩)
        all_goals
          go_wp2_with fail
          go_ret
          exact ⟨by rw [HBAD.out]; rfl, hb.drew.trans (hb2.mono (by have := hb.size; simpa using this))⟩
      · have hc : decide (cmpS X Y < 0) = false := by
          unfold cmpS; rw [if_neg hlt2]; split <;> simp
        have hS2 : Hid (∀ i : Nat, (j : Int) ≤ i → i + 1 < o.length → numsF l (o.getD i 0) ≤ numsF l (o.getD (i + 1) 0)) := (show _ from fun i h1 h2 => by
          by_cases e : i = j
          · subst e; rw [HX.out, HY.out]; omega
          · exact HS.out i (by omega) h2)
        clear hbad hlt2 HS
        generalize cmpS X Y = cc at *
        go_wp2_with fail
        go_region_law (go_simp; go_at_call 112; (with_reducible refine hck.mono ?_); rintro e w2 ⟨rfl, hb2⟩)
        all_goals
          go_wp2_with fail
          go_roundw
          case rel => exact ⟨(j : Int), by go_num, by omega, by omega, hS2, hb.drew.trans (hb2.mono (by have := hb.size; simpa using this))⟩
          case measure => simp [intOf]; omega
    · have hgood : Hid (sortB l o = true) := (show _ = _ from decide_eq_true fun j hj => HS.out j (by omega) (by omega))
      go_wp2_with fail
      go_ret
      exact ⟨by rw [hgood.out]; rfl, hb⟩
end Go.Proofs.YtbkacbbhiecnkaaDoor

namespace Go.Proofs.YtbkacbbhiecnkaaDoor
open Go.RowKit Go.BigFrame

def behP (F : Nat → Nat) (x : Nat) (p : Nat × Nat) : Bool := decide ((F x : Int) < min (F p.1 : Int) (F p.2 : Int))
def hiP (l : List Int) (x : Nat) (p : Nat × Nat) : Bool := decide (numsF l x ≤ min (numsF l p.1) (numsF l p.2))
def cntT (es : List E2) (n x : Nat) (P : Nat × Nat → Bool) (t : Nat) : Nat := (((triN es n x).take t).filter P).length
theorem cntT_step (es : List E2) (n x : Nat) (P : Nat × Nat → Bool) (t : Nat) (p : Nat × Nat) (h : (triN es n x)[t]? = some p) : cntT es n x P (t + 1) = cntT es n x P t + (if P p = true then 1 else 0) := by
  unfold cntT
  rw [take_at _ _ _ h, List.filter_append, List.length_append]
  congr 1
  cases hq : P p <;> simp [List.filter, hq]
theorem cntT_le (es : List E2) (n x : Nat) (P : Nat × Nat → Bool) (t : Nat) : cntT es n x P t ≤ n := by
  unfold cntT
  refine Nat.le_trans (List.length_filter_le _ _) ?_
  have := tri_le es n x
  rw [List.length_take]; omega
def placeF (o : List Nat) (y : Nat) : Nat := o.idxOf y
/-- an edge passes -/
def passB (es : List E2) (n : Nat) (l : List Int) (o : List Nat) (x : Nat) : Bool :=
  decide ((cntT es n x (behP (placeF o) x) (triN es n x).length : Int) ≤ numsF l x) && decide (numsF l x ≤ (cntT es n x (hiP l x) (triN es n x).length : Int))
def chkB (es : List E2) (n : Nat) (l : List Int) (o : List Nat) : Bool := decide (∀ x, x < es.length → passB es n l o x = true) && sortB l o
def chkX (n : Int) (es : List E2) (l ord : List Int) : Int := if checkS n es ≠ 0 then checkS n es else if l.length ≠ es.length ∨ ¬ okW es.length ord then 4 else if chkB es n.toNat l (ord.map Int.toNat) = true then 0 else 12
theorem okW_nat {m : Nat} {ord : List Int} (h : okW m ord) : ∃ o : List Nat, ord = castL o ∧ ord.map Int.toNat = o ∧ (∀ x ∈ o, x < m) ∧ o.Nodup ∧ o.length = m := by
  obtain ⟨h1, h2, h3⟩ := h
  have e : castL (ord.map Int.toNat) = ord := by
    unfold castL
    rw [List.map_map]
    conv => rhs; rw [← List.map_id ord]
    refine List.map_congr_left fun x hx => ?_
    have := (h1 x hx).1
    simp only [Function.comp_apply, id]
    omega
  refine ⟨ord.map Int.toNat, e.symm, rfl, fun x hx => ?_, ?_, by rw [List.length_map]; exact h3⟩
  · obtain ⟨y, hy, rfl⟩ := List.mem_map.1 hx
    have := h1 y hy; omega
  · rw [← e] at h2
    unfold castL at h2
    unfold List.Nodup at h2 ⊢
    rw [List.pairwise_map] at h2
    exact h2.imp fun h e => h (by rw [e])
theorem idx_at {o : List Nat} (hn : o.Nodup) (t x : Nat) (h : o[t]? = some x) : o.idxOf x = t := by
  have hm := List.mem_of_getElem? h
  have hl := List.idxOf_lt_length_of_mem hm
  obtain ⟨ht, he⟩ := List.getElem?_eq_some_iff.1 h
  exact (List.getElem_inj hn).1 ((List.getElem_idxOf hl).trans he.symm)
set_option maxRecDepth 100000 in
set_option maxHeartbeats 6400000 in
theorem tcheck_any (n : Int) (a a1 a2 : Option Addr) (cap c1 c2 : Nat) (es : List E2) (l ord : List Int) (w : World) (he : EdgesAt w (.slice a es.length cap) es) (hl : IntsAt w (.slice a1 l.length c1) l) (ho : IntsAt w (.slice a2 ord.length c2) ord) (hT : TzAt w) :
    Calls Tryd.prog 51 #[.agg #[.int .i64 n, .slice a es.length cap], .slice a1 l.length c1, .slice a2 ord.length c2] w fun e w' => e = .returned (.int .i64 (chkX n es l ord)) ∧ Below w.heap.size w w' := by
  have hb0 : Below w.heap.size w ((w.alloc (.cells #[.int .i64 n, .slice a es.length cap] 27)).alloc (.cells #[.slice a1 l.length c1] 22)) := ((Below.refl _ _).alloc (Nat.le_refl _) _).alloc (by simp) _
  have hG0 : ((w.alloc (.cells #[.int .i64 n, .slice a es.length cap] 27)).alloc (.cells #[.slice a1 l.length c1] 22)).heap[w.heap.size]? = some (.cells #[.int .i64 n, .slice a es.length cap] 27 (0, 0)) := (Below.heap_alloc _ _ _ (by simp)).trans (heap_alloc_new _ _)
  have hN0 : ((w.alloc (.cells #[.int .i64 n, .slice a es.length cap] 27)).alloc (.cells #[.slice a1 l.length c1] 22)).heap[w.heap.size + 1]? = some (.cells #[.slice a1 l.length c1] 22 (0, 0)) := by
    have h := heap_alloc_new (w.alloc (.cells #[.int .i64 n, .slice a es.length cap] 27)) (.cells #[.slice a1 l.length c1] 22)
    simpa using h
  have hck := fun W h => gcheck_any n a cap es W h
  have hsl : l.length ≤ 70368744177664 := by obtain ⟨_, _, hv, _, _, h, _⟩ := hl; exact h
  unfold chkX
  by_cases hC : checkS n es = 0
  case neg =>
    rw [if_pos hC]
    obtain ⟨C, hCC⟩ : ∃ C, checkS n es = C := ⟨_, rfl⟩
    rw [hCC] at hck hC ⊢
    have d1 : (C != 0) = true := by simpa using hC
    have d2 : (C == 0) = false := by simpa using hC
    clear hC hCC
    go_enter Tryd.func51, Tryd.ntmps51
    go_wp2_with fail
    refine (hck _ (he.below hb0)).mono ?_
    rintro e w1 ⟨rfl, hb1⟩
    go_wp2_with fail
    go_ret
    exact ⟨rfl, hb0.trans (hb1.mono hb0.size)⟩
  have hv := (valid_iff n es).1 hC
  rw [if_neg (by simpa using hC)]
  rw [hC] at hck
  obtain ⟨n, rfl⟩ := Int.eq_ofNat_of_zero_le hv.1
  rw [Int.toNat_natCast]
  have hel := hv.length_le
  have hn64 := hv.2.1
  have hwh := fun W h => whole_any es.length a2 c2 ord W h (by omega)
  by_cases hlm : l.length = es.length
  case neg =>
    rw [if_pos (.inl hlm)]
    have d1 : ((l.length : Int) != (es.length : Int)) = true := by simp; omega
    clear hC
    go_enter Tryd.func51, Tryd.ntmps51
    go_wp2_with fail
    refine (hck _ (he.below hb0)).mono ?_
    rintro e w1 ⟨rfl, hb1⟩
    have hG1 := lit_next' hb1 hG0
    have hN1 := lit_next' hb1 hN0
    have g1 : w1.cell? ⟨w.heap.size, 1, none⟩ = some (.slice a es.length cap) := by rw [cell_blk hG1]; rfl
    have n1 : w1.cell? ⟨w.heap.size + 1, 0, none⟩ = some (.slice a1 l.length c1) := by rw [cell_blk hN1]; rfl
    go_wp2_with fail
    go_ret
    exact ⟨rfl, hb0.trans (hb1.mono hb0.size)⟩
  by_cases hok : okW es.length ord
  case neg =>
    rw [if_pos (.inr hok)]
    rw [decide_eq_false hok] at hwh
    have d1 : ((l.length : Int) != (es.length : Int)) = false := by simp; omega
    clear hC hlm
    go_enter Tryd.func51, Tryd.ntmps51
    go_wp2_with fail
    refine (hck _ (he.below hb0)).mono ?_
    rintro e w1 ⟨rfl, hb1⟩
    have hG1 := lit_next' hb1 hG0
    have hN1 := lit_next' hb1 hN0
    have g1 : w1.cell? ⟨w.heap.size, 1, none⟩ = some (.slice a es.length cap) := by rw [cell_blk hG1]; rfl
    have n1 : w1.cell? ⟨w.heap.size + 1, 0, none⟩ = some (.slice a1 l.length c1) := by rw [cell_blk hN1]; rfl
    have hb01 := hb0.trans (hb1.mono hb0.size)
    go_wp2_with fail
    refine (hwh _ (ho.below hb01)).mono ?_
    rintro e w2 ⟨rfl, hb2⟩
    go_wp2_with fail
    go_ret
    exact ⟨rfl, hb01.trans (hb2.mono hb01.size)⟩
  obtain ⟨o, rfl, hmo, hol, hon, hoe⟩ := okW_nat hok
  rw [if_neg (by simp [hlm, hok]), hmo]
  rw [decide_eq_true hok] at hwh
  rw [castL_length] at ho hwh ⊢
  have hoi := ho
  have d1 : ((l.length : Int) != (es.length : Int)) = false := by simp; omega
  have hmk := make_ints o.length (by omega)
  have hob : o.length ≤ 4096 := by rw [hoe]; exact hel
  have HLM := Lib.hid hlm
  have HOE := Lib.hid hoe
  have hall : ∀ y, y < es.length → y ∈ o := fun y hy => by
    by_cases h : y ∈ o
    · exact h
    · have hle := nodup_le es.length (o ++ [y]) (by
        rw [List.nodup_append]
        exact ⟨hon, by simp, fun z hz z' hz' e => by rw [List.mem_singleton.1 hz'] at e; exact h (e ▸ hz)⟩) (fun z hz => by
        rcases List.mem_append.1 hz with hz | hz
        · exact hol z hz
        · rw [List.mem_singleton.1 hz]; exact hy)
      rw [List.length_append, hoe] at hle
      exact absurd hle (by simp)
  have HALL := Lib.hid hall
  clear hall
  have HCK : ∀ r, (if chkB es n l o = true then (0 : Int) else 12) = r → Hid ((if chkB es n l o = true then (0 : Int) else 12) = r) := fun r h => h
  obtain ⟨R, hR⟩ : ∃ R, (if chkB es n l o = true then (0 : Int) else 12) = R := ⟨_, rfl⟩
  rw [hR]
  have HR := HCK R hR
  clear HCK hR hC hok hlm hoe hmo
  go_enter Tryd.func51, Tryd.ntmps51
  go_wp2_with fail
  refine (hck _ (he.below hb0)).mono ?_
  rintro e w1 ⟨rfl, hb1⟩
  have hG1 := lit_next' hb1 hG0
  have hN1 := lit_next' hb1 hN0
  have g1 : w1.cell? ⟨w.heap.size, 1, none⟩ = some (.slice a es.length cap) := by rw [cell_blk hG1]; rfl
  have n1 : w1.cell? ⟨w.heap.size + 1, 0, none⟩ = some (.slice a1 l.length c1) := by rw [cell_blk hN1]; rfl
  have hb01 := hb0.trans (hb1.mono hb0.size)
  have hwh1 := hwh _ (ho.below hb01)
  clear hck hb0 hG0 hN0 hb1 hwh
  go_wp2_with fail
  refine hwh1.mono ?_
  rintro e w2 ⟨rfl, hb2⟩
  have hG2 := lit_next' hb2 hG1
  have hN2 := lit_next' hb2 hN1
  have hb02 := hb01.trans (hb2.mono hb01.size)
  clear hb01 hG1 hN1 hb2 hwh1 g1 n1
  go_wp2_with fail
  have hP0 : NumAt (w2.alloc (.cells (intsV (List.replicate o.length 0)).toArray 3)) w2.heap.size (fnL o.length (fun y => if y ∈ o.take 0 then (placeF o y : Int) else 0)) := by
    rw [fnL_congr o.length (fun y => if y ∈ o.take 0 then (placeF o y : Int) else 0) (fun _ => 0) (fun x _ => by simp), ← fnL_zero]
    exact heap_alloc_new _ _
  have hbP := (Below.refl w2.heap.size w2).alloc (Nat.le_refl _) (.cells (intsV (List.replicate o.length 0)).toArray 3)
  obtain ⟨wP, hwP⟩ : ∃ W : World, W = w2.alloc (.cells (intsV (List.replicate o.length 0)).toArray 3) := ⟨_, rfl⟩
  rw [← hwP] at hP0 hbP ⊢
  clear hwP hmk
  have hat : ∀ j, j < o.length → ∃ b off, a2 = some ⟨b, off, none⟩ ∧ w.cell? ⟨b, off + j, none⟩ = some (.int .i64 (o.getD j 0 : Nat)) := fun j hj => by
    obtain ⟨_, _, hv', _, _, _, hc⟩ := ho
    have h1 := (Value.slice.inj hv').1
    subst h1
    refine hc j _ ?_
    unfold castL
    rw [List.getElem?_map, List.getD_eq_getElem?_getD, List.getElem?_eq_getElem hj]; rfl
  go_loopw [41] (fun vi wr => ∃ t : Nat, t ≤ o.length ∧ vi = .int .i64 t ∧ NumAt wr w2.heap.size (fnL o.length (fun y => if y ∈ o.take t then (placeF o y : Int) else 0)) ∧ Below w2.heap.size w2 wr) (fun vi _ => o.length - (intOf vi).toNat)
  case atStart => exact ⟨0, Nat.zero_le _, rfl, hP0, hbP⟩
  case round =>
    clear hP0 hbP
    obtain ⟨t, ht, rfl, hP, hb⟩ := hrel
    have hbw := hb02.trans (hb.mono hb02.size)
    by_cases hlt : t < o.length
    · obtain ⟨b, off, hb0, c0⟩ := hat t hlt
      subst hb0
      have c0' := (hbw.cell (p := ⟨b, off + t, none⟩) (cell_lt c0)).trans c0
      obtain ⟨x, hxx⟩ : ∃ x, o.getD t 0 = x := ⟨_, rfl⟩
      have hx : o[t]? = some x := by rw [← hxx, List.getD_eq_getElem?_getD, List.getElem?_eq_getElem hlt]; rfl
      rw [hxx] at c0'
      have hxm : x < o.length := by rw [HOE.out]; exact hol x (List.mem_of_getElem? hx)
      have hlt3 : (t : Int) < o.length := by omega
      have hxm3 : (x : Int) < o.length := by omega
      have p0 := numAt_fn hP x hxm
      have pf : ∀ j, wr.frozen? ⟨w2.heap.size, j, none⟩ = false := fun j => free_blk hP
      have hst := numAt_set hP x (t : Int)
      rw [fnL_congr o.length _ (fun y => if y ∈ o.take (t + 1) then (placeF o y : Int) else 0) (fun y _ => by
        rw [take_at _ _ _ hx]
        by_cases e : y = x
        · subst e
          rw [if_pos rfl, if_pos (by simp)]
          unfold placeF; rw [idx_at hon t y hx]
        · rw [if_neg e]
          simp only [List.mem_append, List.mem_singleton, e, or_false])] at hst
      have hco2 : o.length ≤ c2 := by obtain ⟨_, _, hv', h, _⟩ := ho; have h1 := (Value.slice.inj hv').2.1; have h2 := (Value.slice.inj hv').2.2; omega
      clear hP c0 hat hxx hx
      go_wp2_with fail
      go_roundw
      case rel => exact ⟨t + 1, by omega, by go_num, hst, hb.setCell (p := ⟨w2.heap.size, x, none⟩) (Nat.le_refl _) _⟩
      case measure => simp [intOf]; omega
    · obtain rfl : t = o.length := by omega
      have hPF : NumAt wr w2.heap.size (fnL es.length (fun y => (placeF o y : Int))) := by
        rw [← HOE.out, fnL_congr o.length (fun y => (placeF o y : Int)) (fun y => if y ∈ o.take o.length then (placeF o y : Int) else 0) (fun y hy => by
          rw [List.take_length, if_pos]
          exact HALL.out y (by rw [← HOE.out]; exact hy))]
        exact hP
      have hGw := lit_next' hb hG2
      have hNw := lit_next' hb hN2
      have g0 : wr.cell? ⟨w.heap.size, 0, none⟩ = some (.int .i64 n) := by rw [cell_blk hGw]; rfl
      have g1 : wr.cell? ⟨w.heap.size, 1, none⟩ = some (.slice a es.length cap) := by rw [cell_blk hGw]; rfl
      have hP2 := blk_lt hPF
      clear hP hb02 hb hG2 hN2
      go_wp2_with fail
      refine (triangles_any n a cap es _ (he.below hbw) hv (hT.below hbw)).mono ?_
      rintro e wT ⟨G, rfl, hGw', hTr, hbT⟩
      have hPT : NumAt wT _ _ := lit_next' hbT hPF
      have hNT := lit_next' hbT hNw
      have hbT0 := hbw.trans (hbT.mono hbw.size)
      have hlT := hl.below hbT0
      clear hPF hGw hNw g0 g1 hbw hbT hGw' hP2
      go_wp2_with fail
      go_loopw [54] (fun vi wr => ∃ x : Nat, x ≤ es.length ∧ vi = .int .i64 x ∧ Hid (∀ y, y < x → passB es n l o y = true) ∧ Below wT.heap.size wT wr) (fun vi _ => es.length - (intOf vi).toNat)
      case atStart => exact ⟨0, Nat.zero_le _, rfl, (show _ from fun y hy => by omega), Below.refl _ _⟩
      case round =>
        obtain ⟨x, hx, rfl, HP, hb⟩ := hrel
        have hbw := hbT0.trans (hb.mono hbT0.size)
        by_cases hlt : x < es.length
        · have hlt3 : (x : Int) < es.length := by omega
          have hxo : x < o.length := by rw [HOE.out]; exact hlt
          have hxl : x < l.length := by rw [HLM.out]; exact hlt
          have hxo3 : (x : Int) < o.length := by omega
          have hxl3 : (x : Int) < l.length := by omega
          obtain ⟨a7, c7, q0, hr7⟩ := (hTr.below hb).row x hlt
          have htb := tri_le es n x
          obtain ⟨b1, off1, hb1, y0⟩ := ints_cell hlT x hxl
          subst hb1
          have hlc : l.length ≤ c1 := by obtain ⟨_, _, hv', h, _⟩ := hl; cases hv'; exact h
          go_wp2_with fail
          obtain ⟨wx, hwx⟩ : ∃ W : World, W = wr := ⟨_, rfl⟩
          rw [← hwx] at hb hr7 hbw ⊢
          clear hwx q0
          go_loopw [13, 14, 61] (fun vc vd vi wr => ∃ t C D : Nat, t ≤ (triN es n x).length ∧ vi = .int .i64 t ∧ vc = .int .i64 C ∧ vd = .int .i64 D ∧ Hid (C = cntT es n x (behP (placeF o) x) t) ∧ Hid (D = cntT es n x (hiP l x) t) ∧ C ≤ n ∧ D ≤ n ∧ Below wx.heap.size wx wr) (fun _ _ vi _ => (triN es n x).length - (intOf vi).toNat)
          case atStart => exact ⟨0, 0, 0, Nat.zero_le _, rfl, rfl, rfl, (show (0 : Nat) = _ by simp [cntT]), (show (0 : Nat) = _ by simp [cntT]), Nat.zero_le _, Nat.zero_le _, Below.refl _ _⟩
          case round =>
            obtain ⟨t, C, D, ht, rfl, rfl, rfl, HC, HD, hCn, hDn, hbr⟩ := hrel
            have hbTr := hb.trans (hbr.mono hb.size)
            by_cases hltt : t < (triN es n x).length
            · have hltt3 : (t : Int) < (triN es n x).length := by omega
              obtain ⟨b9, o9, p, rfl, hp, hcap9, hat9⟩ := (hr7.below hbr).elem t hltt
              have x0 : wr.cell? ⟨b9, o9 + t * 2, none⟩ = some (.int .i64 (p.1 : Int)) := hat9 0 _ rfl
              have x1 : wr.cell? ⟨b9, o9 + t * 2 + 1, none⟩ = some (.int .i64 (p.2 : Int)) := hat9 1 _ rfl
              obtain ⟨_, hp1, hp2, _, _, _⟩ := (triH hv).lt x p (List.mem_of_getElem? hp)
              have hp1o : (p.1 : Int) < o.length := by have := HOE.out; omega
              have hp2o : (p.2 : Int) < o.length := by have := HOE.out; omega
              have hp1l : (p.1 : Int) < l.length := by have := HLM.out; omega
              have hp2l : (p.2 : Int) < l.length := by have := HLM.out; omega
              have hbA := hbr.alloc hbr.size (.cells #[.int .i64 (p.1 : Int), .int .i64 (p.2 : Int)] 77)
              have hbnA := (Below.refl wr.heap.size wr).alloc (Nat.le_refl _) (.cells #[.int .i64 (p.1 : Int), .int .i64 (p.2 : Int)] 77)
              have hPr : NumAt (wr.alloc (.cells #[.int .i64 (p.1 : Int), .int .i64 (p.2 : Int)] 77)) w2.heap.size (fnL es.length (fun y => (placeF o y : Int))) := lit_next' hbnA (lit_next' hbTr hPT)
              have hNr := lit_next' hbnA (lit_next' hbTr hNT)
              have z0 := numAt_fn hPr x hlt
              have z1 := numAt_fn hPr p.1 hp1
              have z2 := numAt_fn hPr p.2 hp2
              have n0 : (wr.alloc (.cells #[.int .i64 (p.1 : Int), .int .i64 (p.2 : Int)] 77)).cell? ⟨w.heap.size + 1, 0, none⟩ = some (.slice (some ⟨b1, off1, none⟩) l.length c1) := by rw [cell_blk hNr]; rfl
              have hlr := (hlT.below hbTr).below hbnA
              obtain ⟨_, _, e1, l1⟩ := ints_cell hlr p.1 (by rw [HLM.out]; exact hp1)
              obtain ⟨_, _, e2, l2⟩ := ints_cell hlr p.2 (by rw [HLM.out]; exact hp2)
              obtain ⟨_, _, e0, l0⟩ := ints_cell hlr x hxl
              cases e1
              cases e2
              cases e0
              have hst1 := cntT_step es n x (behP (placeF o) x) t p hp
              have hst2 := cntT_step es n x (hiP l x) t p hp
              have hle1 := cntT_le es n x (behP (placeF o) x) (t + 1)
              have hle2 := cntT_le es n x (hiP l x) (t + 1)
              rw [← HC.out] at hst1
              rw [← HD.out] at hst2
              rw [hst1] at hle1
              rw [hst2] at hle2
              clear hNr hlr hbnA
              rcases hA : behP (placeF o) x p with _ | _ <;> rcases hB : hiP l x p with _ | _
              · have dA : decide ((placeF o x : Int) < min (placeF o p.1 : Int) (placeF o p.2 : Int)) = false := hA
                have dB : decide (numsF l x ≤ min (numsF l p.1) (numsF l p.2)) = false := hB
                rw [hA] at hst1 hle1
                rw [hB] at hst2 hle2
                have HS1 := Lib.hid hst1
                have HS2 := Lib.hid hst2
                clear hA hB hst1 hst2 HC HD hat9 hp hPr
                generalize placeF o x = fx at *
                generalize placeF o p.1 = f1 at *
                generalize placeF o p.2 = f2 at *
                generalize numsF l x = gx at *
                generalize numsF l p.1 = g1 at *
                generalize numsF l p.2 = g2 at *
                go_wp2_with fail
                go_quiet (fail)
                go_wp2_with fail
                go_quiet (fail)
                go_wp2_with fail
                go_roundw
                case rel => exact ⟨t + 1, C, D, by omega, by go_num, by go_num, by go_num, (show C = _ by rw [HS1.out]; simp), (show D = _ by rw [HS2.out]; simp), by simpa using hle1, by simpa using hle2, hbA.drewN _⟩
                case measure => simp [intOf]; omega
              · have dA : decide ((placeF o x : Int) < min (placeF o p.1 : Int) (placeF o p.2 : Int)) = false := hA
                have dB : decide (numsF l x ≤ min (numsF l p.1) (numsF l p.2)) = true := hB
                rw [hA] at hst1 hle1
                rw [hB] at hst2 hle2
                have HS1 := Lib.hid hst1
                have HS2 := Lib.hid hst2
                clear hA hB hst1 hst2 HC HD hat9 hp hPr
                generalize placeF o x = fx at *
                generalize placeF o p.1 = f1 at *
                generalize placeF o p.2 = f2 at *
                generalize numsF l x = gx at *
                generalize numsF l p.1 = g1 at *
                generalize numsF l p.2 = g2 at *
                go_wp2_with fail
                go_quiet (fail)
                go_wp2_with fail
                go_quiet (fail)
                go_wp2_with fail
                go_roundw
                case rel => exact ⟨t + 1, C, D + 1, by omega, by go_num, by go_num, by go_num, (show C = _ by rw [HS1.out]; simp), (show D + 1 = _ by rw [HS2.out]; simp), by simpa using hle1, by simpa using hle2, hbA.drewN _⟩
                case measure => simp [intOf]; omega
              · have dA : decide ((placeF o x : Int) < min (placeF o p.1 : Int) (placeF o p.2 : Int)) = true := hA
                have dB : decide (numsF l x ≤ min (numsF l p.1) (numsF l p.2)) = false := hB
                rw [hA] at hst1 hle1
                rw [hB] at hst2 hle2
                have HS1 := Lib.hid hst1
                have HS2 := Lib.hid hst2
                clear hA hB hst1 hst2 HC HD hat9 hp hPr
                generalize placeF o x = fx at *
                generalize placeF o p.1 = f1 at *
                generalize placeF o p.2 = f2 at *
                generalize numsF l x = gx at *
                generalize numsF l p.1 = g1 at *
                generalize numsF l p.2 = g2 at *
                go_wp2_with fail
                go_quiet (fail)
                go_wp2_with fail
                go_quiet (fail)
                go_wp2_with fail
                go_roundw
                case rel => exact ⟨t + 1, C + 1, D, by omega, by go_num, by go_num, by go_num, (show C + 1 = _ by rw [HS1.out]; simp), (show D = _ by rw [HS2.out]; simp), by simpa using hle1, by simpa using hle2, hbA.drewN _⟩
                case measure => simp [intOf]; omega
              · have dA : decide ((placeF o x : Int) < min (placeF o p.1 : Int) (placeF o p.2 : Int)) = true := hA
                have dB : decide (numsF l x ≤ min (numsF l p.1) (numsF l p.2)) = true := hB
                rw [hA] at hst1 hle1
                rw [hB] at hst2 hle2
                have HS1 := Lib.hid hst1
                have HS2 := Lib.hid hst2
                clear hA hB hst1 hst2 HC HD hat9 hp hPr
                generalize placeF o x = fx at *
                generalize placeF o p.1 = f1 at *
                generalize placeF o p.2 = f2 at *
                generalize numsF l x = gx at *
                generalize numsF l p.1 = g1 at *
                generalize numsF l p.2 = g2 at *
                go_wp2_with fail
                go_quiet (fail)
                go_wp2_with fail
                go_quiet (fail)
                go_wp2_with fail
                go_roundw
                case rel => exact ⟨t + 1, C + 1, D + 1, by omega, by go_num, by go_num, by go_num, (show C + 1 = _ by rw [HS1.out]; simp), (show D + 1 = _ by rw [HS2.out]; simp), by simpa using hle1, by simpa using hle2, hbA.drewN _⟩
                case measure => simp [intOf]; omega
            · obtain rfl : t = (triN es n x).length := by omega
              have hpass : passB es n l o x = (decide ((C : Int) ≤ numsF l x) && decide (numsF l x ≤ (D : Int))) := by unfold passB; rw [← HC.out, ← HD.out]
              have hNr := lit_next' hbTr hNT
              have n0 : wr.cell? ⟨w.heap.size + 1, 0, none⟩ = some (.slice (some ⟨b1, off1, none⟩) l.length c1) := by rw [cell_blk hNr]; rfl
              obtain ⟨_, _, e0, l0⟩ := ints_cell (hlT.below hbTr) x hxl
              cases e0
              have hbad : passB es n l o x = false → R = 12 := fun h => by
                rw [← HR.out, if_neg]
                intro hh
                unfold chkB at hh
                rw [Bool.and_eq_true, decide_eq_true_eq] at hh
                have := hh.1 x hlt
                rw [h] at this; cases this
              have hbend := hbT0.trans (hbTr.mono hbT0.size)
              clear hNr HC HD hr7 hat
              generalize numsF l x = gx at *
              by_cases hc1 : gx < C
              · have d2 : decide (gx < (C : Int)) = true := by simpa using hc1
                have hR12 : R = 12 := hbad (by rw [hpass, decide_eq_false (show ¬ (C : Int) ≤ gx by omega), Bool.false_and])
                clear hc1 hbad hpass
                go_wp2_with fail
                go_ret
                exact ⟨by rw [hR12]; rfl, hbend⟩
              · have d2 : decide (gx < (C : Int)) = false := by simpa using hc1
                by_cases hc2 : (D : Int) < gx
                · have d3 : decide ((D : Int) < gx) = true := by simpa using hc2
                  have hR12 : R = 12 := hbad (by rw [hpass, decide_eq_false (show ¬ gx ≤ (D : Int) by omega), Bool.and_false])
                  clear hc1 hc2 hbad hpass
                  go_wp2_with fail
                  go_ret
                  exact ⟨by rw [hR12]; rfl, hbend⟩
                · have d3 : decide ((D : Int) < gx) = false := by simpa using hc2
                  have hP2 : Hid (∀ y, y < x + 1 → passB es n l o y = true) := (show _ from fun y hy => by
                    by_cases e : y = x
                    · subst e
                      rw [hpass, decide_eq_true (show (C : Int) ≤ gx by omega), decide_eq_true (show gx ≤ (D : Int) by omega)]; rfl
                    · exact HP.out y (by omega))
                  clear hc1 hc2 hbad hpass HP
                  go_wp2_with fail
                  go_roundw
                  case rel => exact ⟨x + 1, by omega, by go_num, hP2, hbTr⟩
                  case measure => simp [intOf]; omega
        · obtain rfl : x = es.length := by omega
          have hNw := lit_next' hb hNT
          have hBx : wr.cell? ⟨w.heap.size + 1, 0, none⟩ = some (.slice a1 l.length c1) := by rw [cell_blk hNw]; rfl
          have hsrt := sorted_any (w.heap.size + 1) a1 a2 c1 c2 l o wr (hlT.below hb) hBx (ho.below hbw) (fun y hy => by rw [HLM.out]; exact hol y hy) (by omega)
          have hfin : R = if sortB l o = true then 0 else 12 := by
            rw [← HR.out]
            unfold chkB
            rw [decide_eq_true HP.out, Bool.true_and]
          clear hNw HP HR hat
          generalize sortB l o = sb at *
          go_wp2_with fail
          refine hsrt.mono ?_
          rintro e w9 ⟨rfl, hb9⟩
          have hbend := hbw.trans (hb9.mono hbw.size)
          cases sb with
          | true =>
            go_wp2_with fail
            go_ret
            exact ⟨by rw [hfin]; rfl, hbend⟩
          | false =>
            go_wp2_with fail
            go_ret
            exact ⟨by rw [hfin]; rfl, hbend⟩
end Go.Proofs.YtbkacbbhiecnkaaDoor
