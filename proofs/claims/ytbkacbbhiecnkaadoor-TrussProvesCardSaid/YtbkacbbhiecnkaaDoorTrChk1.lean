/- The contracts of the comparison by numbers, and of the test for sorted orders. -/
import Derived.Test.YtbkacbbhiecnkaaDoorCoreWhole
import Derived.Test.YtbkacbbhiecnkaaDoorTrFns
import Derived.Deep.RegionLaw
namespace Go.Proofs.YtbkacbbhiecnkaaDoor
open Go.RowKit Go.BigFrame

/-- the numbers that a comparison has captured -/
def numsF (l : List Int) (x : Nat) : Int := l.getD x 0
theorem numsF_get (l : List Int) (x : Nat) (h : x < l.length) : l[x]? = some (numsF l x) := by
  unfold numsF; rw [List.getD_eq_getElem?_getD, List.getElem?_eq_getElem h]; rfl
theorem ints_cell {w : World} {a : Option Addr} {cap : Nat} {l : List Int} (h : IntsAt w (.slice a l.length cap) l) (x : Nat) (hx : x < l.length) : ∃ b off, a = some ⟨b, off, none⟩ ∧ w.cell? ⟨b, off + x, none⟩ = some (.int .i64 (numsF l x)) := by
  obtain ⟨_, _, hv, _, _, _, hc⟩ := h
  cases hv
  exact hc x _ (numsF_get l x hx)
set_option maxRecDepth 100000 in
theorem chk1_any (x y : Nat) (B : Nat) (a : Option Addr) (cap : Nat) (l : List Int) (w : World) (hi : IntsAt w (.slice a l.length cap) l) (hB : w.cell? ⟨B, 0, none⟩ = some (.slice a l.length cap)) (hx : x < l.length) (hy : y < l.length) :
    Calls Tryd.prog 112 #[.int .i64 x, .int .i64 y, .pointer (some ⟨B, 0, none⟩)] w fun e w' => e = .returned (.int .i64 (cmpS (numsF l x) (numsF l y))) ∧ Below w.heap.size w w' := by
  obtain ⟨b, off, hb, c0⟩ := ints_cell hi x hx
  obtain ⟨b', off', hb', c1⟩ := ints_cell hi y hy
  subst hb
  cases hb'
  have hx3 : (x : Int) < l.length := by omega
  have hy3 : (y : Int) < l.length := by omega
  have hcl : l.length ≤ cap := by obtain ⟨_, _, hv, h, _⟩ := hi; cases hv; exact h
  go_enter Tryd.func112, Tryd.ntmps112
  go_wp2_with fail
  go_region_law (go_simp; go_at_call 113; (with_reducible refine (cmp_any _ _ _).mono ?_); rintro e w2 ⟨rfl, rfl⟩)
  all_goals
    go_wp2_with fail
    go_ret
    exact ⟨rfl, (Below.refl _ _).drew⟩
/-- the numbers ascend along an order -/
def sortB (l : List Int) (o : List Nat) : Bool := decide (∀ j, j < o.length - 1 → numsF l (o.getD j 0) ≤ numsF l (o.getD (j + 1) 0))
theorem sort_bad {l : List Int} {o : List Nat} (j : Nat) (hj : j + 1 < o.length) (h : numsF l (o.getD (j + 1) 0) < numsF l (o.getD j 0)) : sortB l o = false :=
  decide_eq_false fun hh => by have := hh j (by omega); omega
set_option maxRecDepth 100000 in
set_option maxHeartbeats 1600000 in
theorem sorted_any (B : Nat) (a ao : Option Addr) (cap co : Nat) (l : List Int) (o : List Nat) (w : World) (hi : IntsAt w (.slice a l.length cap) l) (hB : w.cell? ⟨B, 0, none⟩ = some (.slice a l.length cap)) (ho : IntsAt w (.slice ao o.length co) (castL o)) (hlt : ∀ x ∈ o, x < l.length) (hsm : o.length ≤ 100000) :
    Calls Tryd.prog 111 #[.slice ao o.length co, .func (.func 112) #[] #[.pointer (some ⟨B, 0, none⟩)]] w fun e w' => e = .returned (.bool (sortB l o)) ∧ Below w.heap.size w w' := by
  have hco : o.length ≤ co := by obtain ⟨_, _, hv, h, _⟩ := ho; have h1 := (Value.slice.inj hv).2.1; have h2 := (Value.slice.inj hv).2.2; omega
  have hat : ∀ j, j < o.length → ∃ b off, ao = some ⟨b, off, none⟩ ∧ w.cell? ⟨b, off + j, none⟩ = some (.int .i64 (o.getD j 0 : Nat)) := fun j hj => by
    obtain ⟨_, _, hv, _, _, _, hc⟩ := ho
    have h1 := (Value.slice.inj hv).1
    subst h1
    refine hc j _ ?_
    unfold castL
    rw [List.getElem?_map, List.getD_eq_getElem?_getD, List.getElem?_eq_getElem hj]; rfl
  have hmem : ∀ j, j < o.length → o.getD j 0 < l.length := fun j hj => by
    refine hlt _ ?_
    rw [List.getD_eq_getElem?_getD, List.getElem?_eq_getElem hj]
    exact List.getElem_mem hj
  go_enter Tryd.func111, Tryd.ntmps111
  go_wp2_with fail
  go_loopw [5] (fun vi wr => ∃ z : Int, vi = .int .i64 z ∧ -1 ≤ z ∧ z + 1 ≤ o.length ∧ Hid (∀ j : Nat, z ≤ j → j + 1 < o.length → numsF l (o.getD j 0) ≤ numsF l (o.getD (j + 1) 0)) ∧ Below w.heap.size w wr) (fun vi _ => (intOf vi + 1).toNat)
  case atStart => exact ⟨(o.length : Int) - 1, by go_num, by omega, by omega, (show _ from fun j h1 h2 => by omega), Below.refl _ _⟩
  case round =>
    obtain ⟨z, rfl, hz0, hz1, HS, hb⟩ := hrel
    by_cases hz : 0 < z
    · obtain ⟨j, rfl⟩ : ∃ j : Nat, z = (j : Int) + 1 := ⟨(z - 1).toNat, by omega⟩
      have hj1 : j + 1 < o.length := by omega
      obtain ⟨b, off, hb0, c0⟩ := hat j (by omega)
      obtain ⟨b', off', hb', c1⟩ := hat (j + 1) hj1
      subst hb0
      cases hb'
      have c0' : wr.cell? ⟨b, off + j, none⟩ = some (.int .i64 (o.getD j 0 : Nat)) := (hb.cell (p := ⟨b, off + j, none⟩) (cell_lt c0)).trans c0
      have c1' : wr.cell? ⟨b, off + (j + 1), none⟩ = some (.int .i64 (o.getD (j + 1) 0 : Nat)) := (hb.cell (p := ⟨b, off + (j + 1), none⟩) (cell_lt c1)).trans c1
      have hck := chk1_any (o.getD (j + 1) 0) (o.getD j 0) B a cap l wr.drew ((hi.below hb).below (Below.refl _ _).drew) ((hb.cell (p := ⟨B, 0, none⟩) (cell_lt hB)).trans hB) (hmem _ hj1) (hmem _ (by omega))
      have hbad := sort_bad (l := l) (o := o) j hj1
      have v1 : IntKind.i64.wrap (j : Int) = (j : Int) := IntWalk.i64_in _ (by omega)
      have hb5 : (0 : Int) ≤ (j : Int) + 1 := by omega
      have hb3 : (j : Int) < o.length := by omega
      have hb4 : (j : Int) + 1 < o.length := by omega
      obtain ⟨X, hX⟩ : ∃ X, numsF l (o.getD (j + 1) 0) = X := ⟨_, rfl⟩
      obtain ⟨Y, hY⟩ : ∃ Y, numsF l (o.getD j 0) = Y := ⟨_, rfl⟩
      rw [hX, hY] at hck hbad
      have HX := Lib.hid hX
      have HY := Lib.hid hY
      clear hX hY c0 c1 hat
      generalize o.getD (j + 1) 0 = ox at hck c1'
      generalize o.getD j 0 = oy at hck c0'
      by_cases hlt2 : X < Y
      · have hc : cmpS X Y = -1 := by unfold cmpS; rw [if_pos hlt2]
        rw [hc] at hck
        have HBAD := Lib.hid (hbad hlt2)
        clear hbad hc hlt2
        go_wp2_with fail
        go_region_law (go_simp; go_at_call 112; (with_reducible refine hck.mono ?_); rintro e w2 ⟨rfl, hb2⟩)
        all_goals
          go_wp2_with fail
          go_ret
          exact ⟨by rw [HBAD.out]; rfl, hb.drew.trans (hb2.mono (by have := hb.size; simpa using this))⟩
      · have hc : decide (cmpS X Y < 0) = false := by
          unfold cmpS; rw [if_neg hlt2]; split <;> simp
        have hS2 : Hid (∀ i : Nat, (j : Int) ≤ i → i + 1 < o.length → numsF l (o.getD i 0) ≤ numsF l (o.getD (i + 1) 0)) := (show _ from fun i h1 h2 => by
          by_cases e : i = j
          · subst e; rw [HX.out, HY.out]; omega
          · exact HS.out i (by omega) h2)
        clear hbad hlt2 HS
        generalize cmpS X Y = cc at *
        go_wp2_with fail
        go_region_law (go_simp; go_at_call 112; (with_reducible refine hck.mono ?_); rintro e w2 ⟨rfl, hb2⟩)
        all_goals
          go_wp2_with fail
          go_roundw
          case rel => exact ⟨(j : Int), by go_num, by omega, by omega, hS2, hb.drew.trans (hb2.mono (by have := hb.size; simpa using this))⟩
          case measure => simp [intOf]; omega
    · have hgood : Hid (sortB l o = true) := (show _ = _ from decide_eq_true fun j hj => HS.out j (by omega) (by omega))
      go_wp2_with fail
      go_ret
      exact ⟨by rw [hgood.out]; rfl, hb⟩
end Go.Proofs.YtbkacbbhiecnkaaDoor
