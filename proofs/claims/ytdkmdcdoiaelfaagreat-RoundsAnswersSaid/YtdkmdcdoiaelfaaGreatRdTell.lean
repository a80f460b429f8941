/- The contract of a worker's settling. The contract of the other workers that own neighbours of a node. The memory of a world of workers: rows of numbers and boxes of messages; what stays as it was. The contract of a worker's telling (printed by wip/mktell.py: one theorem for each closure that it is called with). The contracts of slices.Clone at rows of rows and at messages; what rows of rows hold, read (printed by wip/mkrdclone.py). -/
import Derived.Test.YtdkmdcdoiaelfaaGreatRdNb
import Derived.Test.YtdkmdcdoiaelfaaGreatRndP
import Derived.Test.YtdkmdcdoiaelfaaGreatDegH
import Derived.Deep.RegionHeld3
import Derived.Deep.DeepCutAuto
import Derived.Test.YtdkmdcdoiaelfaaGreatShelf
import Derived.Test.YtdkmdcdoiaelfaaGreatAppAt
import Derived.Test.YtdkmdcdoiaelfaaGreatHeldK
namespace Go.Proofs.YtdkmdcdoiaelfaaGreat
open Go.RowKit Go.BigFrame

/-- the owners of all nodes -/
def owI (n : Nat) (ow : Nat → Nat) : List Int := fnL n fun v => (ow v : Int)
theorem owI_length (n : Nat) (ow : Nat → Nat) : (owI n ow).length = n := fnL_length _ _
theorem owI_get (n : Nat) (ow : Nat → Nat) (i : Nat) (h : i < n) : (owI n ow)[i]? = some ((ow i : Nat) : Int) := fnL_get _ _ _ h
theorem nearL_get (es : List E2) (n i : Nat) (h : i < n) : (nearL es n)[i]? = some (castL (nbL es n i)) := by
  unfold nearL
  rw [List.getElem?_map, List.getElem?_range h]; rfl
/-- what a worker sees: the owners, the neighbours, and the list that it knows, which is its own -/
structure SetW (w : World) (s n : Nat) (es : List E2) (ow : Nat → Nat) (ao aN ag : Option Addr) (co cN cg : Nat) (z : List Int) : Prop where
  own : w.ownsRow s 3 1 (.slice ag n cg) n (intsV z)
  ow : IntsAt w (.slice ao n co) (owI n ow)
  oof : ∀ b, (Value.slice ag n cg).ownBlock = some b → Off b (.slice ao n co)
  nr : RowsX (fun b => (Value.slice ag n cg).ownBlock ≠ some b) w (.slice aN n cN) (nearL es n)
section
variable {w w' : World} {s n : Nat} {es : List E2} {ow : Nat → Nat} {ao aN ag : Option Addr} {co cN cg : Nat} {z z' : List Int}
theorem SetW.turn (h : SetW w s n es ow ao aN ag co cN cg z) (hg : w.grownBy w' (Value.slice ag n cg).ownBlock) (hown : w'.ownsRow s 3 1 (.slice ag n cg) n (intsV z')) : SetW w' s n es ow ao aN ag co cN cg z' :=
  ⟨hown, h.ow.grown hg (fun g e => h.oof g e), h.oof, h.nr.grown hg (fun _ hq => hq)⟩
theorem SetW.below (h : SetW w s n es ow ao aN ag co cN cg z) (hb : Below w.heap.size w w') : SetW w' s n es ow ao aN ag co cN cg z :=
  h.turn (grown_none (grown_of_below hb)) (h.own.kept (grown_of_below hb) (Classical.em _))
theorem SetW.len (h : SetW w s n es ow ao aN ag co cN cg z) : z.length = n := by have := h.own.1; simpa [intsV] using this
end
/-- the numbers that a row holds -/
def readL (w : World) (v : Value) (n : Nat) : List Int := match v with
  | .slice (some p) _ _ => (List.range n).map fun i => intOf ((w.cell? ⟨p.block, p.off + i, none⟩).getD default)
  | _ => []
theorem readL_own {w : World} {s n : Nat} {v : Value} {z : List Int} (h : w.ownsRow s 3 1 v n (intsV z)) : readL w v n = z := by
  have hz : z.length = n := by have := h.1; simpa [intsV] using this
  by_cases hn : 0 < n
  · obtain ⟨g, cap, rfl, -, -, -, -, hc⟩ := ownsI_at h hn
    unfold readL
    apply List.ext_getElem?
    intro i
    by_cases hi : i < n
    · have hx : z[i]? = some z[i] := List.getElem?_eq_getElem (by omega)
      rw [List.getElem?_map, List.getElem?_range hi, hx]
      simp only [Option.map_some, Nat.zero_add]
      rw [hc i _ hx]; rfl
    · rw [List.getElem?_eq_none (by simp; omega), List.getElem?_eq_none (by omega)]
  · obtain rfl : n = 0 := by omega
    obtain rfl : z = [] := List.eq_nil_of_length_eq_zero hz
    unfold readL
    split <;> simp
theorem swpV_ne {es : List E2} {n : Nat} {ow : Nat → Nat} {o k : Nat} {y z : List Int} (hl : z.length = n) (hd : Dn y z) (hk : k < n) (h1 : ow k = o) (h2 : nbH es n k z < z.getD k 0) : swpV es n ow o z k = z.set k (nbH es n k z) ∧ z.set k (nbH es n k z) ≠ y := by
  refine ⟨by unfold swpV; rw [if_pos ⟨h1, h2⟩], fun e => ?_⟩
  have h3 := getD_set z k k (nbH es n k z)
  rw [if_pos ⟨rfl, by omega⟩, e] at h3
  have := hd.le k
  omega
set_option maxRecDepth 100000 in
set_option maxHeartbeats 6400000 in
theorem rdsettle_any (n o : Nat) (P : Int) (hv0 : Value) (es : List E2) (ow : Nat → Nat) (ao aN ag : Option Addr) (co cN cg s : Nat) (x : List Int) (w : World) (hn : n ≤ 64) (hW : SetW w s n es ow ao aN ag co cN cg x) :
    Calls Tryz.prog 36 #[.agg #[.int .i64 P, .slice ao n co, hv0, .slice aN n cN, .int .i64 o, .slice ag n cg]] w fun e w' => e = .returned (.tuple #[]) ∧ w'.ownsRow s 3 1 (.slice ag n cg) n (intsV (setX es n ow o x)) ∧ w.grownBy w' (Value.slice ag n cg).ownBlock := by
  obtain ⟨hXX, hb0⟩ := boxG_new w #[.int .i64 P, .slice ao n co, hv0, .slice aN n cN, .int .i64 o, .slice ag n cg] 74
  obtain ⟨wA, hwA⟩ : ∃ W : World, W = w.alloc (.cells #[.int .i64 P, .slice ao n co, hv0, .slice aN n cN, .int .i64 o, .slice ag n cg] 74) := ⟨_, rfl⟩
  rw [← hwA] at hXX hb0
  have HWA := Lib.hid hwA
  have hWA := hW.below hb0
  have hXo : (Value.slice ag n cg).ownBlock ≠ some w.heap.size := fun e => by have := (hW.own.lt _ e).2; omega
  clear hwA hW
  go_enter Tryz.func36, Tryz.ntmps36
  go_wp2_with (rw [← HWA.out])
  go_loopw [2] (fun vc wr => ∃ (y : List Int) (c : Bool), vc = .bool c ∧ Hid (c = false → swpL es n ow o y = y) ∧ Hid (setX es n ow o y = setX es n ow o x) ∧ SetW wr s n es ow ao aN ag co cN cg y ∧ wA.grownBy wr (Value.slice ag n cg).ownBlock) (fun vc wr => match vc with | .bool true => posS (readL wr (.slice ag n cg) n) + 1 | _ => 0)
  case atStart => exact ⟨x, true, rfl, (show _ → _ from fun e => by cases e), (show _ = _ from rfl), hWA, World.grownBy.refl _ _⟩
  case round =>
    obtain ⟨y, c, rfl, HC, HY, hSW, hg⟩ := hrel
    have hXr := grown_blk hg hXX (fun e => hXo e.symm)
    obtain ⟨q0, q1, q2, q3, q4, q5⟩ : wr.cell? ⟨w.heap.size, 0, none⟩ = some (.int .i64 P) ∧ wr.cell? ⟨w.heap.size, 1, none⟩ = some (.slice ao n co) ∧ wr.cell? ⟨w.heap.size, 2, none⟩ = some hv0 ∧ wr.cell? ⟨w.heap.size, 3, none⟩ = some (.slice aN n cN) ∧ wr.cell? ⟨w.heap.size, 4, none⟩ = some (.int .i64 (o : Int)) ∧ wr.cell? ⟨w.heap.size, 5, none⟩ = some (.slice ag n cg) := ⟨cell_blk hXr, cell_blk hXr, cell_blk hXr, cell_blk hXr, cell_blk hXr, cell_blk hXr⟩
    cases c with
    | false =>
      have hfix := HC.out rfl
      have hres : setX es n ow o x = y := by rw [← HY.out, setX_fixed hfix]
      clear q0 q1 q2 q3 q4 q5
      go_wp2_with fail
      go_end0
      exact ⟨rfl, by first | exact hSW.own | (rw [hres]; exact hSW.own), grown_trans (grown_none (grown_of_below hb0)) hg⟩
    | true =>
      have hyl := hSW.len
      have hpy : posS (readL wr (.slice ag n cg) n) = posS y := by rw [readL_own hSW.own]
      go_wp2_with fail
      go_loopw [2, 14] (fun vc vi wr2 => ∃ (k : Nat) (c : Bool), k ≤ n ∧ vi = .int .i64 (k : Int) ∧ vc = .bool c ∧ Hid (c = true ↔ swpK es n ow o y k ≠ y) ∧ SetW wr2 s n es ow ao aN ag co cN cg (swpK es n ow o y k) ∧ wA.grownBy wr2 (Value.slice ag n cg).ownBlock) (fun _ vi _ => n - (intOf vi).toNat)
      case atStart => exact ⟨0, false, Nat.zero_le _, rfl, rfl, (show _ ↔ _ from ⟨(fun e => by cases e), fun e => absurd rfl e⟩), hSW, hg⟩
      case round =>
        clear q0 q1 q2 q3 q4 q5 hXr
        obtain ⟨k, c, hk, rfl, rfl, HC2, hSW2, hg2⟩ := hrel
        have hXr := grown_blk hg2 hXX (fun e => hXo e.symm)
        obtain ⟨q0, q1, q2, q3, q4, q5⟩ : wr.cell? ⟨w.heap.size, 0, none⟩ = some (.int .i64 P) ∧ wr.cell? ⟨w.heap.size, 1, none⟩ = some (.slice ao n co) ∧ wr.cell? ⟨w.heap.size, 2, none⟩ = some hv0 ∧ wr.cell? ⟨w.heap.size, 3, none⟩ = some (.slice aN n cN) ∧ wr.cell? ⟨w.heap.size, 4, none⟩ = some (.int .i64 (o : Int)) ∧ wr.cell? ⟨w.heap.size, 5, none⟩ = some (.slice ag n cg) := ⟨cell_blk hXr, cell_blk hXr, cell_blk hXr, cell_blk hXr, cell_blk hXr, cell_blk hXr⟩
        by_cases hlt : k < n
        · have hlt3 : (k : Int) < n := by omega
          have hzl := hSW2.len
          obtain ⟨z, hz⟩ : ∃ z, swpK es n ow o y k = z := ⟨_, rfl⟩
          have hst := swpK_step (es := es) (n := n) (ow := ow) (w := o) y k
          have hdn := swpK_dn (es := es) (n := n) (ow := ow) (w := o) y k
          rw [hz] at hst hzl hSW2 hdn
          have HST := Lib.hid hst
          have HZ := Lib.hid hz
          clear hst hz
          obtain ⟨-, bN, oN, a5, c5, rfl, hcN, -, cN1, hrow, hrowQ⟩ := hSW2.nr.at k _ (nearL_get es n k hlt)
          obtain ⟨bO, oO, rfl, cO⟩ : ∃ b off, ao = some ⟨b, off, none⟩ ∧ wr.cell? ⟨b, off + k, none⟩ = some (.int .i64 (ow k : Int)) := by
            have hi := hSW2.ow
            obtain ⟨_, _, hv', h1, _, _, h4⟩ := (show IntsAt wr (.slice ao (owI n ow).length co) (owI n ow) by rw [owI_length]; exact hi)
            cases hv'
            exact h4 k _ (owI_get n ow k hlt)
          have hcO : n ≤ co := by
            have hi := hSW2.ow
            obtain ⟨_, _, hv', h1, _⟩ := (show IntsAt wr (.slice (some ⟨bO, oO, none⟩) (owI n ow).length co) (owI n ow) by rw [owI_length]; exact hi)
            cases hv'
            rw [owI_length] at h1; exact h1
          obtain ⟨hbK, oK, gK, cK, hgK, hcK⟩ : ∃ (_ : True) (_ : True) (g c : Nat), (Value.slice ag n cg) = .slice (some ⟨g, 0, none⟩) n c ∧ (g < wr.heap.size ∧ (∀ j, wr.frozen? ⟨g, j, none⟩ = false) ∧ (∀ i x, z[i]? = some x → wr.cell? ⟨g, i, none⟩ = some (.int .i64 x)) ∧ n ≤ c) := by
            obtain ⟨g, c, e, -, h1, h2, h3, h4⟩ := ownsI_at hSW2.own (by omega)
            exact ⟨trivial, trivial, g, c, e, h2, h3, h4, h1⟩
          obtain ⟨hgl, hgf, hgc, hgn⟩ := hcK
          obtain ⟨rfl, -, rfl⟩ : ag = some ⟨gK, 0, none⟩ ∧ True ∧ cg = cK := by cases hgK; exact ⟨rfl, trivial, rfl⟩
          have hkz : z[k]? = some (z.getD k 0) := get_of_getD (by omega)
          have cK0 := hgc k _ hkz
          by_cases hok : ow k = o
          · have d1 : ((ow k : Int) != (o : Int)) = false := by simp; omega
            have hNl : (nbL es n k).length ≤ 64 := Nat.le_trans (List.length_filter_le _ _) (by rw [List.length_range]; exact hn)
            have hNn : ∀ u ∈ nbL es n k, u < n := fun u hu => List.mem_range.1 (List.mem_filter.1 hu).1
            have HCL := Lib.hid (castL_length (nbL es n k))
            have hNc : (castL (nbL es n k)).length ≤ 64 := by rw [HCL.out]; exact hNl
            go_wp2_with fail
            go_quiet (fail)
            obtain ⟨w1, hw1⟩ : ∃ W : World, W = wr.drewN nq := ⟨_, rfl⟩
            have hbd : Below wr.heap.size wr w1 := by rw [hw1]; exact (Below.refl _ _).drewN nq
            rw [← hw1]
            have hSW3 := hSW2.below hbd
            have hg3 := grown_trans hg2 (grown_none (grown_of_below hbd))
            have hX1 := lit_next' hbd hXr
            have hrow1 := hrow.below hbd
            clear hw1 hbd q0 q1 q2 q3 q4 q5 hSW2 hg2 hXr hrow cN1 cO cK0 hgc hgf hgl
            go_wp2_with fail
            go_loopw [5, 31] (fun vs vi wr2 => ∃ t : Nat, t ≤ (castL (nbL es n k)).length ∧ vi = .int .i64 (t : Int) ∧ ∃ L : List Int, Hid (L = ((nbL es n k).take t).map fun u => z.getD u 0) ∧ L.length ≤ t ∧ wr2.ownsRow w1.heap.size 3 1 vs L.length (intsV L) ∧ Below w1.heap.size w1 wr2) (fun _ vi _ => (castL (nbL es n k)).length - (intOf vi).toNat)
            case atStart => exact ⟨0, Nat.zero_le _, rfl, [], (show _ = _ by simp), by simp, World.ownsRow_nil _ _ _ _, Below.refl _ _⟩
            case round =>
              obtain ⟨t, ht, rfl, L, HL, hLt, hown, hb2⟩ := hrel
              obtain ⟨av, cv, hvs⟩ := owns_shape hown
              subst hvs
              have hXw := lit_next' hb2 hX1
              obtain ⟨q0, q1, q2, q3, q4, q5⟩ : wr.cell? ⟨w.heap.size, 0, none⟩ = some (.int .i64 P) ∧ wr.cell? ⟨w.heap.size, 1, none⟩ = some (.slice (some ⟨bO, oO, none⟩) n co) ∧ wr.cell? ⟨w.heap.size, 2, none⟩ = some hv0 ∧ wr.cell? ⟨w.heap.size, 3, none⟩ = some (.slice (some ⟨bN, oN, none⟩) n cN) ∧ wr.cell? ⟨w.heap.size, 4, none⟩ = some (.int .i64 (o : Int)) ∧ wr.cell? ⟨w.heap.size, 5, none⟩ = some (.slice (some ⟨gK, 0, none⟩) n cg) := ⟨cell_blk hXw, cell_blk hXw, cell_blk hXw, cell_blk hXw, cell_blk hXw, cell_blk hXw⟩
              have hSW4 := hSW3.below hb2
              have hg4 := grown_trans hg3 (grown_none (grown_of_below hb2))
              obtain ⟨gK2, cK2, eK, -, -, hgl, hgf, hgc⟩ := ownsI_at hSW4.own (by omega)
              obtain rfl : gK = gK2 := by cases eK; rfl
              by_cases hlt2 : t < (castL (nbL es n k)).length
              · have hlt4 : (t : Int) < (castL (nbL es n k)).length := by omega
                have hts : t < (nbL es n k).length := by rw [← HCL.out]; exact hlt2
                obtain ⟨u, hu⟩ : ∃ u, (nbL es n k)[t]? = some u := ⟨_, List.getElem?_eq_getElem hts⟩
                have hun : u < n := hNn u (List.mem_of_getElem? hu)
                obtain ⟨b5, o5, u', e5, hz5, -, -, c5⟩ := (hrow1.below hb2).at t hlt2
                obtain rfl : u' = (u : Int) := by
                  unfold castL at hz5
                  rw [List.getElem?_map, hu] at hz5
                  exact (Option.some.inj hz5).symm
                subst e5
                have cu := hgc u _ (get_of_getD (by omega))
                obtain ⟨zu, hzu⟩ : ∃ q, z.getD u 0 = q := ⟨_, rfl⟩
                rw [hzu] at cu
                have hui : (u : Int) < n := by omega
                have HL2 : Hid (L ++ [zu] = ((nbL es n k).take (t + 1)).map fun u => z.getD u 0) := (show _ = _ by rw [take_at _ _ _ hu, List.map_append, ← HL.out]; simp only [List.map_cons, List.map_nil]; rw [hzu])
                have hlx := ints_lit1 wr zu 3
                have hownA := hown.alloc (.cells #[.int .i64 zu] 3)
                have hbA := hb2.alloc hb2.size (.cells #[.int .i64 zu] 3)
                clear hzu hz5 hu HL hgc hgf
                go_wp2_with (at_builtin; refine wpList_app_ints intsT rfl _ _ rfl _ (.slice av L.length cv) _ L [zu] rfl hownA rfl hlx (by rw [List.length_singleton]; omega) hbA.size ?_; intro v7 w7 hown7 hgr7)
                have hb7 := hbA.grown hgr7 hbA.size (fun g e => (hownA.lt g e).1)
                go_roundw
                case rel => exact ⟨t + 1, by omega, by go_num, L ++ [zu], HL2, by simp; omega, hown7, hb7⟩
                case measure => simp [intOf]; omega
              · have htk : t = (nbL es n k).length := by rw [← HCL.out]; omega
                have hLN : (hX L : Int) = nbH es n k z := by
                  unfold nbH
                  rw [HL.out, htk, List.take_length]
                obtain ⟨a7, c7, e7, hi7, -⟩ := IntsAt.of_owns hown (by omega)
                cases e7
                have hH := degh_any av cv L wr hi7 (by omega)
                obtain ⟨H, hHH⟩ : ∃ H, hX L = H := ⟨_, rfl⟩
                rw [hHH] at hH hLN
                have HLN := Lib.hid hLN
                clear hHH hLN HL hi7 hown htk q0 q1 q2 q3 q4 q5 hgc hgf
                go_wp2_with fail
                refine hH.mono ?_
                rintro e w7 ⟨rfl, hb7⟩
                have hXw7 := lit_next' hb7 hXw
                obtain ⟨q0, q1, q2, q3, q4, q5⟩ : w7.cell? ⟨w.heap.size, 0, none⟩ = some (.int .i64 P) ∧ w7.cell? ⟨w.heap.size, 1, none⟩ = some (.slice (some ⟨bO, oO, none⟩) n co) ∧ w7.cell? ⟨w.heap.size, 2, none⟩ = some hv0 ∧ w7.cell? ⟨w.heap.size, 3, none⟩ = some (.slice (some ⟨bN, oN, none⟩) n cN) ∧ w7.cell? ⟨w.heap.size, 4, none⟩ = some (.int .i64 (o : Int)) ∧ w7.cell? ⟨w.heap.size, 5, none⟩ = some (.slice (some ⟨gK, 0, none⟩) n cg) := ⟨cell_blk hXw7, cell_blk hXw7, cell_blk hXw7, cell_blk hXw7, cell_blk hXw7, cell_blk hXw7⟩
                have hSW7 := hSW4.below hb7
                have hg7 := grown_trans hg4 (grown_none (grown_of_below hb7))
                obtain ⟨gK3, cK3, eK3, -, -, hgl3, hgf3, hgc3⟩ := ownsI_at hSW7.own (by omega)
                obtain rfl : gK = gK3 := by cases eK3; rfl
                have cKk := hgc3 k _ hkz
                have fKk := hgf3 k
                have hc6 : c = true ↔ z ≠ y := by have h := HC2.out; rw [HZ.out] at h; exact h
                obtain ⟨zk, hzk⟩ : ∃ q, z.getD k 0 = q := ⟨_, rfl⟩
                rw [hzk] at cKk
                clear hgc3 hgf3
                by_cases hlt5 : (H : Int) < zk
                · have hlt6 : decide ((H : Int) < zk) = true := decide_eq_true hlt5
                  obtain ⟨hsv, hne⟩ := swpV_ne (ow := ow) (o := o) hzl hdn hlt hok (by rw [← HLN.out, hzk]; exact hlt5)
                  have h6 : swpK es n ow o y (k + 1) = z.set k (H : Int) := by rw [HST.out, hsv, HLN.out]
                  rw [← HLN.out] at hne
                  have H6 := Lib.hid h6
                  have hownS := ownsI_set hSW7.own k (H : Int)
                  have hgS : w7.grownBy (w7.setCell ⟨gK, k, none⟩ (.int .i64 (H : Int))) (some gK) := grown_store
                  have hSW8 := hSW7.turn hgS hownS
                  have hg8 := grown_trans hg7 hgS
                  clear h6 hsv
                  go_wp2_with fail
                  go_roundw
                  case rel => exact ⟨k + 1, true, by omega, by go_num, rfl, (show _ ↔ _ by rw [H6.out]; exact ⟨fun _ => hne, fun _ => rfl⟩), by rw [H6.out]; exact hSW8, hg8⟩
                  case measure => simp [intOf]; omega
                · have hlt6 : decide ((H : Int) < zk) = false := decide_eq_false hlt5
                  have h6 : swpK es n ow o y (k + 1) = z := by rw [HST.out]; unfold swpV; rw [if_neg (fun q => hlt5 (by rw [HLN.out, ← hzk]; exact q.2))]
                  have H6 := Lib.hid h6
                  clear h6
                  go_wp2_with fail
                  go_roundw
                  case rel => exact ⟨k + 1, c, by omega, by go_num, rfl, (show _ ↔ _ by rw [H6.out]; exact hc6), by rw [H6.out]; exact hSW7, hg7⟩
                  case measure => simp [intOf]; omega
          · have d1 : ((ow k : Int) != (o : Int)) = true := by simp; omega
            clear hgc hgf
            have h6 : swpK es n ow o y (k + 1) = z := by rw [HST.out]; unfold swpV; rw [if_neg (fun q => hok q.1)]
            go_wp2_with fail
            go_quiet (fail)
            have hSW3 := hSW2.below ((Below.refl wr.heap.size wr).drewN nq)
            have hg3 := grown_trans hg2 (grown_none (grown_of_below ((Below.refl wr.heap.size wr).drewN nq)))
            have hc6 : c = true ↔ z ≠ y := by have h := HC2.out; rw [HZ.out] at h; exact h
            go_wp2_with fail
            go_roundw
            case rel => exact ⟨k + 1, c, by omega, by go_num, rfl, (show _ ↔ _ by rw [h6]; exact hc6), by rw [h6]; exact hSW3, hg3⟩
            case measure => simp [intOf]; omega
        · obtain rfl : k = n := by omega
          have hc6 : c = true ↔ swpL es k ow o y ≠ y := HC2.out
          have hp6 : c = true → posS (swpL es k ow o y) < posS y := fun e => posS_lt (swpL_dn y) (hc6.1 e)
          have hs6 : setX es k ow o (swpL es k ow o y) = setX es k ow o x := by
            rw [← HY.out]
            have h := setX_eq (es := es) (n := k) (ow := ow) (w := o) y
            by_cases e : swpL es k ow o y = y
            · rw [e]
            · rw [if_neg e] at h; exact h.symm
          have hf6 : c = false → swpL es k ow o (swpL es k ow o y) = swpL es k ow o y := fun e => by
            have : swpL es k ow o y = y := Classical.byContradiction fun h => by rw [hc6.2 h] at e; cases e
            rw [this, this]
          have hSW6 : SetW wr s k es ow ao aN ag co cN cg (swpL es k ow o y) := hSW2
          have hr6 := readL_own hSW6.own
          have HF6 := Lib.hid hf6
          have HP6 := Lib.hid hp6
          have HS6 := Lib.hid hs6
          have HR6 := Lib.hid hr6
          have HPY := Lib.hid hpy
          clear hf6 hp6 hs6 hr6 hpy hc6
          go_wp2_with fail
          go_roundw
          case rel => exact ⟨swpL es k ow o y, c, rfl, HF6, HS6, hSW6, hg2⟩
          case measure =>
            rw [HPY.out]
            cases c with
            | false => exact Nat.succ_pos _
            | true =>
              show posS (readL wr (.slice ag k cg) k) + 1 < posS y + 1
              rw [HR6.out]
              have := HP6.out rfl
              omega
end Go.Proofs.YtdkmdcdoiaelfaaGreat

namespace Go.Proofs.YtdkmdcdoiaelfaaGreat
open Go.RowKit Go.BigFrame

theorem arr_get (zs : List Int) (j : Nat) (h : j < zs.length) : zs.toArray[j]! = zs[j] := by
  simp [h]
/-- what Compact leaves of a list in order -/
theorem compact_asc (zs : List Int) (h : zs.Pairwise (· ≤ ·)) : Asc (Lib.compact zs) := by
  unfold Asc Lib.compact Lib.compactUpTo
  rw [List.pairwise_map]
  refine List.Pairwise.imp_of_mem (fun {i j} hi hj hij => ?_) ((List.pairwise_lt_range (n := zs.length)).filter _)
  obtain ⟨hi1, -⟩ := List.mem_filter.1 hi
  obtain ⟨hj1, hj2⟩ := List.mem_filter.1 hj
  have hi3 := List.mem_range.1 hi1
  have hj3 := List.mem_range.1 hj1
  unfold Lib.keeps at hj2
  rw [decide_eq_true_eq] at hj2
  rcases hj2 with e | e
  · omega
  · rw [arr_get zs j hj3, arr_get zs (j - 1) (by omega)] at e
    rw [arr_get zs j hj3, arr_get zs i hi3]
    have hp := List.pairwise_iff_getElem.1 h
    have h1 : zs[j - 1] ≤ zs[j] := hp (j - 1) j (by omega) hj3 (by omega)
    have h2 : zs[i] ≤ zs[j - 1] := by
      by_cases e2 : i = j - 1
      · subst e2; exact Int.le_refl _
      · exact hp i (j - 1) hi3 (by omega) (by omega)
    omega
theorem compact_mem (zs : List Int) (x : Int) : x ∈ Lib.compact zs ↔ x ∈ zs := by
  unfold Lib.compact Lib.compactUpTo
  rw [List.mem_map]
  constructor
  · rintro ⟨j, hj, rfl⟩
    have hj3 := List.mem_range.1 (List.mem_filter.1 hj).1
    rw [arr_get zs j hj3]
    exact List.getElem_mem _
  · intro hx
    obtain ⟨j, hj, rfl⟩ := List.getElem_of_mem hx
    have key : ∀ m (hm : m < zs.length), ∃ i, i ∈ (List.range zs.length).filter (Lib.keeps zs.toArray) ∧ zs.toArray[i]! = zs[m] := by
      intro m
      induction m with
      | zero => intro hm; exact ⟨0, List.mem_filter.2 ⟨List.mem_range.2 hm, by simp [Lib.keeps]⟩, arr_get zs 0 hm⟩
      | succ m ih =>
        intro hm
        by_cases e : zs[m + 1] = zs[m]
        · obtain ⟨i, h1, h2⟩ := ih (by omega)
          exact ⟨i, h1, by rw [h2, e]⟩
        · refine ⟨m + 1, List.mem_filter.2 ⟨List.mem_range.2 hm, ?_⟩, arr_get zs (m + 1) hm⟩
          unfold Lib.keeps
          rw [decide_eq_true_eq]
          right
          rw [arr_get zs (m + 1) hm, show m + 1 - 1 = m from rfl, arr_get zs m (by omega)]
          exact e
    exact key j hj
/-- the owners of the neighbours that another one owns -/
def ownQ (es : List E2) (n : Nat) (ow : Nat → Nat) (v t : Nat) : List Int := (((nbL es n v).take t).filter fun y => ow y != ow v).map fun y => ((ow y : Nat) : Int)
theorem ownQ_step (es : List E2) (n : Nat) (ow : Nat → Nat) (v t u : Nat) (h : (nbL es n v)[t]? = some u) : ownQ es n ow v (t + 1) = if ow u = ow v then ownQ es n ow v t else ownQ es n ow v t ++ [((ow u : Nat) : Int)] := by
  unfold ownQ
  rw [take_at _ _ _ h, List.filter_append, List.map_append]
  by_cases e : ow u = ow v
  · rw [if_pos e]; simp [e]
  · rw [if_neg e]; simp [e]
theorem ownQ_own {es : List E2} {n P : Nat} {ow : Nat → Nat} (how : ∀ v, v < n → ow v < P) (v : Nat) : Lib.compact (srt (ownQ es n ow v (nbL es n v).length)) = castL (ownL es n P ow v) := by
  refine asc_eq _ _ (compact_asc _ (srt_asc _)) (asc_range _ P) fun x => ?_
  rw [compact_mem, (srt_perm _).mem_iff]
  unfold ownQ castL
  rw [List.take_length, List.mem_map, List.mem_map]
  constructor
  · rintro ⟨y, hy, rfl⟩
    obtain ⟨h1, h2⟩ := List.mem_filter.1 hy
    obtain ⟨h3, h4⟩ := List.mem_filter.1 h1
    have h5 := List.mem_range.1 h3
    exact ⟨ow y, ownL_mem.2 ⟨how y h5, by simpa using h2, y, h5, h4, rfl⟩, rfl⟩
  · rintro ⟨t, ht, rfl⟩
    obtain ⟨h1, h2, y, h3, h4, h5⟩ := ownL_mem.1 ht
    exact ⟨y, List.mem_filter.2 ⟨List.mem_filter.2 ⟨List.mem_range.2 h3, h4⟩, by simpa [h5] using h2⟩, by rw [h5]⟩
theorem below_setCells {B : Nat} {w : World} (b : Nat) (hb : B ≤ b) : ∀ (vs : List Value) (o : Nat) (W : World), Below B w W → Below B w (W.setCells b o vs) := by
  intro vs
  induction vs with
  | nil => intro o W h; exact h
  | cons v vs ih => intro o W h; exact ih (o + 1) _ (h.setCell (p := ⟨b, o, none⟩) hb v)
/-- slices.Compact at a row of one's own in a new block -/
theorem compact_own {s : Nat} (v : Value) (xs : List Int) (w : World) (hown : w.ownsRow s 3 1 v xs.length (intsV xs)) (hl : xs.length ≤ 1000000) :
    Calls Tryz.prog 88 #[v] w fun e w' => ∃ a c, e = .returned (.slice a (Lib.compact xs).length c) ∧ IntsAt w' (.slice a (Lib.compact xs).length c) (Lib.compact xs) ∧ (∀ p, a = some p → s ≤ p.block) ∧ Below s w w' := by
  rcases hown.2 with ⟨rfl, h0⟩ | ⟨g, cap, cur, rfl, hbase, hb, h1, h2, h3, h4⟩
  · obtain rfl := List.eq_nil_of_length_eq_zero h0
    refine (Tryz.slices_Compact_int_empty none 0 w).mono ?_
    rintro e w' ⟨rfl, rfl⟩
    exact ⟨none, 0, rfl, ints_nil _, (fun p h => by cases h), Below.refl _ _⟩
  · have hat : ∀ j, j < xs.length → w.cell? ⟨g, j, none⟩ = some (.int .i64 (xs.getD j 0)) := fun j hj => by
      rw [cell_blk hb]
      have h5 : (intsV xs)[j]? = some (.int .i64 xs[j]) := by simp [intsV, List.getElem?_eq_getElem hj]
      rw [← h4, List.getElem?_take] at h5
      split at h5
      · rw [List.getD_eq_getElem?_getD, List.getElem?_eq_getElem hj]
        simpa using h5
      · omega
    have hcl := Lib.compact_length_le xs
    refine (Tryz.slices_Compact_int_cells g 0 xs.length cap xs w (Nat.le_refl _) (by omega) h1 (fun j hj => by rw [Nat.zero_add]; exact hat j hj) (fun j _ => by rw [Nat.zero_add]; exact free_blk hb)).mono ?_
    rintro e w' ⟨rfl, q, rfl⟩
    rw [List.take_length]
    refine ⟨_, cap, rfl, ⟨_, cap, rfl, by omega, (fun h => by cases h), by omega, fun i x hi => ⟨g, 0, rfl, ?_⟩⟩, (fun p h => by cases h; exact hbase), below_setCells g hbase _ _ _ (show Below s w (w.drewN q) from (Below.refl s w).drewN q)⟩
    have hlt := (List.getElem?_eq_some_iff.1 hi).1
    have hin := World.cell?_setCells_in g ((Lib.compact xs ++ List.replicate (xs.length - (Lib.compact xs).length) 0).map (Value.int .i64)) 0 (w.drewN q) (fun j hj => by
      rw [List.length_map, List.length_append, List.length_replicate] at hj
      rw [Nat.zero_add]
      show ((w.cell? ⟨g, j, none⟩).isSome = true)
      rw [hat j (by omega)]; rfl) i (by rw [List.length_map, List.length_append, List.length_replicate]; omega)
    rw [hin]
    congr 1
    have h6 := (List.getElem?_eq_some_iff.1 hi).2
    rw [List.getElem_map, List.getElem_append_left hlt, h6]
def OwPost (w : World) (l : List Int) (e : Ending) (w' : World) : Prop := ∃ a c, e = .returned (.slice a l.length c) ∧ IntsAt w' (.slice a l.length c) l ∧ (∀ p, a = some p → w.heap.size ≤ p.block) ∧ Below w.heap.size w w'
set_option maxRecDepth 100000 in
set_option maxHeartbeats 6400000 in
theorem rdowners_any (n P v : Nat) (hv0 : Value) (es : List E2) (ow : Nat → Nat) (ao aN : Option Addr) (co cN : Nat) (Q : Nat → Prop) (w : World) (hn : n ≤ 64) (hvn : v < n) (how : ∀ v, v < n → ow v < P)
    (hO : IntsAt w (.slice ao n co) (owI n ow)) (hN : RowsX Q w (.slice aN n cN) (nearL es n)) :
    Calls Tryz.prog 72 #[.agg #[.int .i64 P, .slice ao n co, hv0, .slice aN n cN], .int .i64 v] w (OwPost w (castL (ownL es n P ow v))) := by
  obtain ⟨hXX, hb0⟩ := boxG_new w #[.int .i64 P, .slice ao n co, hv0, .slice aN n cN] 70
  obtain ⟨wA, hwA⟩ : ∃ W : World, W = w.alloc (.cells #[.int .i64 P, .slice ao n co, hv0, .slice aN n cN] 70) := ⟨_, rfl⟩
  rw [← hwA] at hXX hb0
  have HWA := Lib.hid hwA
  have hOA := hO.below hb0
  have hNA := hN.below hb0
  have hres := ownQ_own (es := es) how v
  obtain ⟨RES, hRES⟩ : ∃ R, castL (ownL es n P ow v) = R := ⟨_, rfl⟩
  rw [hRES] at hres ⊢
  have HRES := Lib.hid hres
  have hNl : (nbL es n v).length ≤ 64 := Nat.le_trans (List.length_filter_le _ _) (by rw [List.length_range]; exact hn)
  have hNn : ∀ u ∈ nbL es n v, u < n := fun u hu => List.mem_range.1 (List.mem_filter.1 hu).1
  have HCL := Lib.hid (castL_length (nbL es n v))
  have hNc : (castL (nbL es n v)).length ≤ 64 := by rw [HCL.out]; exact hNl
  obtain ⟨-, bN, oN, a5, c5, rfl, hcN, -, cN1, hrow, -⟩ := hNA.at v _ (nearL_get es n v hvn)
  have hvi : (v : Int) < n := by omega
  obtain ⟨bO, oO, rfl, hOc, hcO⟩ : ∃ b off, ao = some ⟨b, off, none⟩ ∧ (∀ i, i < n → wA.cell? ⟨b, off + i, none⟩ = some (.int .i64 (ow i : Int))) ∧ n ≤ co := by
    obtain ⟨_, _, hv', h1, _, _, h4⟩ := (show IntsAt wA (.slice ao (owI n ow).length co) (owI n ow) by rw [owI_length]; exact hOA)
    cases hv'
    rw [owI_length] at h1
    obtain ⟨b, off, rfl, -⟩ := h4 v _ (owI_get n ow v hvn)
    refine ⟨b, off, rfl, fun i hi => ?_, h1⟩
    obtain ⟨b', off', e, c⟩ := h4 i _ (owI_get n ow i hi)
    cases e; exact c
  have HOC := Lib.hid hOc
  have ov0 := hOc v hvn
  obtain ⟨q0, q1, q2, q3⟩ := cells4 hXX
  clear hwA hO hN hOA hNA hres hRES hOc
  go_enter Tryz.func72, Tryz.ntmps72
  go_wp2_with (rw [← HWA.out])
  clear q0 q1 q2 q3 cN1 ov0
  go_loopw [5, 14] (fun vo vi wr => ∃ t : Nat, t ≤ (castL (nbL es n v)).length ∧ vi = .int .i64 (t : Int) ∧ ∃ L : List Int, Hid (L = ownQ es n ow v t) ∧ L.length ≤ t ∧ wr.ownsRow wA.heap.size 3 1 vo L.length (intsV L) ∧ Below wA.heap.size wA wr) (fun _ vi _ => (castL (nbL es n v)).length - (intOf vi).toNat)
  case atStart => exact ⟨0, Nat.zero_le _, rfl, [], (show _ = _ by simp [ownQ]), by simp, World.ownsRow_nil _ _ _ _, Below.refl _ _⟩
  case round =>
    obtain ⟨t, ht, rfl, L, HL, hLt, hown, hb⟩ := hrel
    obtain ⟨av, cv, hvs⟩ := owns_shape hown
    subst hvs
    have hXr := lit_next' hb hXX
    by_cases hlt : t < (castL (nbL es n v)).length
    · have hlt3 : (t : Int) < (castL (nbL es n v)).length := by omega
      have hts : t < (nbL es n v).length := by rw [← HCL.out]; exact hlt
      obtain ⟨u, hu⟩ : ∃ u, (nbL es n v)[t]? = some u := ⟨_, List.getElem?_eq_getElem hts⟩
      have hun : u < n := hNn u (List.mem_of_getElem? hu)
      obtain ⟨b5, o5, u', e5, hz5, -, -, c5'⟩ := (hrow.below hb).at t hlt
      obtain rfl : u' = (u : Int) := by
        unfold castL at hz5
        rw [List.getElem?_map, hu] at hz5
        exact (Option.some.inj hz5).symm
      subst e5
      have hui : (u : Int) < n := by omega
      have ou := (hb.cell (p := ⟨bO, oO + u, none⟩) (cell_lt (HOC.out u hun))).trans (HOC.out u hun)
      have ov := (hb.cell (p := ⟨bO, oO + v, none⟩) (cell_lt (HOC.out v hvn))).trans (HOC.out v hvn)
      have hst := ownQ_step es n ow v t u hu
      rw [← HL.out] at hst
      have HST := Lib.hid hst
      obtain ⟨q0, q1, q2, q3⟩ := cells4 hXr
      clear hst hz5 hu HL
      by_cases hd : ow u = ow v
      · have d1 : ((ow u : Int) != (ow v : Int)) = false := by simp; omega
        have h6 := HST.out
        rw [if_pos hd] at h6
        have H6 := Lib.hid h6.symm
        clear h6
        go_wp2_with fail
        go_quiet (fail)
        have hown7 := hown.kept (grown_of_below ((Below.refl wr.heap.size wr).drewN nq)) (Classical.em _)
        have hb7 := hb.drewN nq
        go_wp2_with fail
        go_roundw
        case rel => exact ⟨t + 1, by omega, by go_num, L, H6, by omega, hown7, hb7⟩
        case measure => simp [intOf]; omega
      · have d1 : ((ow u : Int) != (ow v : Int)) = true := by simp; omega
        have h6 := HST.out
        rw [if_neg hd] at h6
        have H6 := Lib.hid h6.symm
        clear h6
        go_wp2_with fail
        go_quiet (fail)
        obtain ⟨w1, hw1⟩ : ∃ W : World, W = wr.drewN nq := ⟨_, rfl⟩
        have hbd : Below wr.heap.size wr w1 := by rw [hw1]; exact (Below.refl _ _).drewN nq
        rw [← hw1]
        have hown1 := hown.kept (grown_of_below hbd) (Classical.em _)
        have hb1 := hb.trans (hbd.mono hb.size)
        have hX1 := lit_next' hbd hXr
        have ou1 := (hbd.cell (p := ⟨bO, oO + u, none⟩) (cell_lt ou)).trans ou
        clear hw1 q0 q1 q2 q3 ou ov
        obtain ⟨q0, q1, q2, q3⟩ := cells4 hX1
        have hlx := ints_lit1 w1 (ow u : Int) 3
        have hownA := hown1.alloc (.cells #[.int .i64 (ow u : Int)] 3)
        have hbA := hb1.alloc hb1.size (.cells #[.int .i64 (ow u : Int)] 3)
        go_wp2_with (at_builtin; refine wpList_app_ints intsT rfl _ _ rfl _ (.slice av L.length cv) _ L [(ow u : Int)] rfl hownA rfl hlx (by rw [List.length_singleton]; omega) hbA.size ?_; intro v7 w7 hown7 hgr7)
        have hb7 := hbA.grown hgr7 hbA.size (fun g e => (hownA.lt g e).1)
        go_roundw
        case rel => exact ⟨t + 1, by omega, by go_num, L ++ [(ow u : Int)], H6, by simp; omega, hown7, hb7⟩
        case measure => simp [intOf]; omega
    · have htk : t = (nbL es n v).length := by rw [← HCL.out]; omega
      have hLN : Lib.compact (srt L) = RES := by rw [HL.out, htk]; exact HRES.out
      have hso := sort_own (.slice av L.length cv) L wr hown (by omega)
      have hsl := srt_length L
      have HLN := Lib.hid hLN
      have hlo := fun k e => (hown.lt k e).1
      clear hLN HL hown htk
      go_wp2_with fail
      refine hso.mono ?_
      rintro e w2 ⟨rfl, hown2, hg2⟩
      have hb2 := hb.grown hg2 hb.size hlo
      have hown3 : w2.ownsRow wA.heap.size 3 1 (.slice av L.length cv) (srt L).length (intsV (srt L)) := by rw [hsl]; exact hown2
      have hco := compact_own (.slice av L.length cv) (srt L) w2 hown3 (by omega)
      rw [HLN.out] at hco
      clear hso hsl hown2
      go_wp2_with fail
      refine hco.mono ?_
      rintro e w3 ⟨a3, c3, rfl, hi3, hp3, hb3⟩
      go_wp2_with fail
      go_ret
      exact ⟨a3, c3, rfl, hi3, fun p hp => Nat.le_trans hb0.size (hp3 p hp), hb0.trans ((hb2.trans hb3).mono hb0.size)⟩
end Go.Proofs.YtdkmdcdoiaelfaaGreat

namespace Go.Proofs.YtdkmdcdoiaelfaaGreat
open Go.RowKit Go.BigFrame

/-- all blocks are as they were but those of which D holds -/
structure Fr (D : Nat → Prop) (w w' : World) : Prop where
  os : w'.os = w.os
  tape : w'.tape = w.tape
  output : w'.output = w.output
  size : w.heap.size ≤ w'.heap.size
  block : ∀ b, b < w.heap.size → ¬ D b → w'.heap[b]? = w.heap[b]?
section
variable {D D' : Nat → Prop} {w w1 w2 : World}
theorem Fr.refl (D : Nat → Prop) (w : World) : Fr D w w := ⟨rfl, rfl, rfl, Nat.le_refl _, fun _ _ _ => rfl⟩
theorem Fr.grown {r : Option Nat} (h : Fr D w w1) (g : w1.grownBy w2 r) (hr : ∀ b, r = some b → D b ∨ w.heap.size ≤ b) : Fr D w w2 :=
  ⟨g.os.trans h.os, g.tape.trans h.tape, g.output.trans h.output, Nat.le_trans h.size g.size, fun b hb hd => (g.block b (Nat.lt_of_lt_of_le hb h.size) (fun e => by
    rcases hr b e.symm with h1 | h1
    · exact hd h1
    · omega)).trans (h.block b hb hd)⟩
theorem Fr.trans (h : Fr D w w1) (g : Fr D' w1 w2) (hr : ∀ b, D' b → D b ∨ w.heap.size ≤ b) : Fr D w w2 :=
  ⟨g.os.trans h.os, g.tape.trans h.tape, g.output.trans h.output, Nat.le_trans h.size g.size, fun b hb hd => (g.block b (Nat.lt_of_lt_of_le hb h.size) (fun e => by
    rcases hr b e with h1 | h1
    · exact hd h1
    · omega)).trans (h.block b hb hd)⟩
theorem Fr.mono (h : Fr D w w1) (hd : ∀ b, D b → D' b) : Fr D' w w1 := ⟨h.os, h.tape, h.output, h.size, fun b hb hn => h.block b hb (fun e => hn (hd b e))⟩
theorem Fr.of_below (h : Below w.heap.size w w1) : Fr D w w1 := ⟨h.os, h.tape, h.output, h.size, fun b hb _ => h.block b hb⟩
theorem Fr.below {lo : Nat} (h : Fr D w w1) (hd : ∀ b, D b → lo ≤ b) (hl : lo ≤ w.heap.size) : Below lo w w1 :=
  ⟨h.os, h.tape, h.output, h.size, fun b hb => h.block b (by omega) (fun e => by have := hd b e; omega)⟩
theorem Fr.cell {b o : Nat} {v : Value} (h : Fr D w w1) (hc : w.cell? ⟨b, o, none⟩ = some v) (hd : ¬ D b) : w1.cell? ⟨b, o, none⟩ = some v := (heap_cell (h.block b (cell_lt hc) hd)).1.trans hc
theorem Fr.blk {g : Nat} {o : Obj} (h : Fr D w w1) (hg : w.heap[g]? = some o) (hd : ¬ D g) : w1.heap[g]? = some o := (h.block g (blk_lt hg) hd).trans hg
theorem Fr.ints {v : Value} {xs : List Int} (h : Fr D w w1) (hi : IntsAt w v xs) (hd : ∀ n c p, v = .slice (some p) n c → ¬ D p.block) : IntsAt w1 v xs := by
  obtain ⟨a, cap, rfl, h1, h2, h3, h4⟩ := hi
  refine ⟨a, cap, rfl, h1, h2, h3, fun i e he => ?_⟩
  obtain ⟨b, off, rfl, c0⟩ := h4 i e he
  exact ⟨b, off, rfl, h.cell c0 (hd _ _ _ rfl)⟩
theorem Fr.rows {Q : Nat → Prop} {v : Value} {Ls : List (List Int)} (h : Fr D w w1) (hr : RowsX Q w v Ls) (hd : ∀ b, Q b → ¬ D b) : RowsX Q w1 v Ls := by
  obtain ⟨a, cap, rfl, h1, h2, h3, h4⟩ := hr
  refine ⟨a, cap, rfl, h1, h2, h3, fun i L hL => ?_⟩
  obtain ⟨b, off, a2, c2, rfl, hq, hc, hi, hp⟩ := h4 i L hL
  exact ⟨b, off, a2, c2, rfl, hq, h.cell hc (hd b hq), h.ints hi (fun n c p e => by
    obtain rfl : a2 = some p := (Value.slice.inj e).1
    exact hd _ (hp p rfl)), hp⟩
end
/-- messages -/
def encM : Enc Msg where
  k := 3
  enc m := [.int .i64 m.1, .int .i64 m.2.1, .bool m.2.2]
  len _ := rfl
  one m u hu := by simp only [List.mem_cons, List.not_mem_nil, or_false] at hu; rcases hu with rfl | rfl | rfl <;> rfl
  pos := by decide
theorem msgT : SliceT Tryz.prog 87 89 (.agg #[.int .i64 0, .int .i64 0, .bool false]) encM.k 24 := ⟨Tryz.underlying87, by kernel_rfl, rfl, by decide⟩
def TEf (i : Ix) : Nat := if i.1 < 2 then 3 else 89
def kkf (i : Ix) : Nat := if i.1 < 2 then 1 else encM.k
/-- what the rows hold: 0: known values, 1: neighbours, 2 and up: boxes -/
def csF (K N : Nat → List Int) (B : Nat → Nat → List Msg) (i : Ix) : List Value := match i.1 with
  | 0 => intsV (K i.2)
  | 1 => intsV (N i.2)
  | r + 2 => flatR encM (B r i.2)
def lenF (K N : Nat → List Int) (B : Nat → Nat → List Msg) (i : Ix) : Nat := match i.1 with
  | 0 => (K i.2).length
  | 1 => (N i.2).length
  | r + 2 => (B r i.2).length
abbrev GW (w : World) (lo : Nat) (I : Ix → Prop) (ad : Ix → Nat × Nat) (vs : Ix → Value) (K N : Nat → List Int) (B : Nat → Nat → List Msg) : Prop := GridA w lo I ad vs TEf kkf (lenF K N B) (csF K N B)
section
variable {w w' : World} {lo : Nat} {I : Ix → Prop} {ad : Ix → Nat × Nat} {vs : Ix → Value} {K N : Nat → List Int} {B B' : Nat → Nat → List Msg} {r t : Nat}
theorem GW.box (h : GW w lo I ad vs K N B) (hi : I (r + 2, t)) : w.ownsRow lo 89 encM.k (vs (r + 2, t)) (B r t).length (flatR encM (B r t)) := h.own _ hi
theorem GW.kn (h : GW w lo I ad vs K N B) (hi : I (0, t)) : w.ownsRow lo 3 1 (vs (0, t)) (K t).length (intsV (K t)) := h.own _ hi
/-- other words for the boxes -/
theorem GW.boxes (h : GW w lo I ad vs K N B) (e : ∀ r t, I (r + 2, t) → B r t = B' r t) : GW w lo I ad vs K N B' := h.congr (fun i hi => by
    obtain ⟨a, b⟩ := i
    match a with
    | 0 => rfl
    | 1 => rfl
    | r + 2 => show (B r b).length = (B' r b).length; rw [e r b hi]) (fun i hi => by
    obtain ⟨a, b⟩ := i
    match a with
    | 0 => rfl
    | 1 => rfl
    | r + 2 => show flatR encM (B r b) = flatR encM (B' r b); rw [e r b hi])
/-- a box has turned: what it became is stored -/
theorem GW.step {l : List Msg} {v : Value} (h : GW w lo I ad vs K N B) (hi : I (r + 2, t)) (hg : w.grownBy w' (vs (r + 2, t)).ownBlock) (hown : w'.ownsRow lo 89 encM.k v l.length (flatR encM l)) (hat : ∀ b, v.ownBlock = some b → (vs (r + 2, t)).ownBlock = some b ∨ w.heap.size ≤ b) :
    GW (w'.setCell ⟨(ad (r + 2, t)).1, (ad (r + 2, t)).2, none⟩ v) lo I ad (updX vs (r + 2, t) v) K N (fun r' t' => if r' = r ∧ t' = t then l else B r' t') := by
  refine (GridA.step h hi hg hown hat).congr (fun i _ => ?_) (fun i _ => ?_)
  all_goals
    obtain ⟨a, b⟩ := i
    unfold updX
    match a with
    | 0 => rw [if_neg (fun e => by have := (Prod.mk.inj e).1; omega)]; rfl
    | 1 => rw [if_neg (fun e => by have := (Prod.mk.inj e).1; omega)]; rfl
    | a + 2 =>
      by_cases e : a = r ∧ b = t
      · obtain ⟨rfl, rfl⟩ := e
        rw [if_pos rfl]
        simp [lenF, csF]
      · rw [if_neg (fun q => e ⟨by have := (Prod.mk.inj q).1; omega, (Prod.mk.inj q).2⟩)]
        simp [lenF, csF, e]
end
end Go.Proofs.YtdkmdcdoiaelfaaGreat

namespace Go.Proofs.YtdkmdcdoiaelfaaGreat
open Go.RowKit Go.BigFrame

/-- what has been told of the first k nodes -/
def telK (es : List E2) (n P : Nat) (ow : Nat → Nat) (w : Nat) (x : List Int) (wh : Nat → Bool) (k t : Nat) : List Msg :=
  ((List.range k).filter fun v => (ow v == w && wh v) && decide (t ∈ ownL es n P ow v)).map fun (v : Nat) => ((v : Int), x.getD v 0, false)
theorem telK_all (es : List E2) (n P : Nat) (ow : Nat → Nat) (w : Nat) (x : List Int) (wh : Nat → Bool) (t : Nat) : telK es n P ow w x wh n t = telL es n P ow w x wh t := rfl
theorem telK_step (es : List E2) (n P : Nat) (ow : Nat → Nat) (w : Nat) (x : List Int) (wh : Nat → Bool) (k t : Nat) : telK es n P ow w x wh (k + 1) t = telK es n P ow w x wh k t ++ if ((ow k == w && wh k) && decide (t ∈ ownL es n P ow k)) = true then [((k : Int), x.getD k 0, false)] else [] := by
  unfold telK
  rw [List.range_succ, List.filter_append, List.map_append]
  congr 1
  by_cases h : ((ow k == w && wh k) && decide (t ∈ ownL es n P ow k)) = true
  · rw [if_pos h, List.filter_cons, if_pos h]; rfl
  · rw [if_neg h, List.filter_cons, if_neg h]; rfl
theorem telK_no (es : List E2) (n P : Nat) (ow : Nat → Nat) (w : Nat) (x : List Int) (wh : Nat → Bool) (k t : Nat) (h : ¬ (ow k = w ∧ wh k = true)) : telK es n P ow w x wh (k + 1) t = telK es n P ow w x wh k t := by
  rw [telK_step, if_neg, List.append_nil]
  intro q
  simp only [Bool.and_eq_true, beq_iff_eq] at q
  exact h q.1
theorem telK_len (es : List E2) (n P : Nat) (ow : Nat → Nat) (w : Nat) (x : List Int) (wh : Nat → Bool) (k t : Nat) : (telK es n P ow w x wh k t).length ≤ k := by
  unfold telK
  rw [List.length_map]
  exact Nat.le_trans (List.length_filter_le _ _) (by rw [List.length_range]; exact Nat.le_refl _)
theorem ownL_len64 (es : List E2) (n P : Nat) (ow : Nat → Nat) (v : Nat) : (ownL es n P ow v).length ≤ P := Nat.le_trans (List.length_filter_le _ _) (by rw [List.length_range]; exact Nat.le_refl _)
theorem ownL_nodup2 (es : List E2) (n P : Nat) (ow : Nat → Nat) (v : Nat) : (ownL es n P ow v).Nodup := List.nodup_range.filter _
/-- the blocks that telling writes -/
def tellD (R P r : Nat) (vs : Ix → Value) (b : Nat) : Prop := b = R ∨ ∃ t, t < P ∧ (vs (r + 2, t)).ownBlock = some b
theorem ix_ne {r t t' : Nat} (h : t' ≠ t) : (r + 2, t') ≠ ((r + 2, t) : Ix) := fun e => h (Prod.mk.inj e).2
theorem cells6 {w : World} {g T : Nat} {c0 c1 c2 c3 c4 c5 : Value} (h : w.heap[g]? = some (.cells #[c0, c1, c2, c3, c4, c5] T (0, 0))) : w.cell? ⟨g, 0, none⟩ = some c0 ∧ w.cell? ⟨g, 1, none⟩ = some c1 ∧ w.cell? ⟨g, 2, none⟩ = some c2 ∧ w.cell? ⟨g, 3, none⟩ = some c3 ∧ w.cell? ⟨g, 4, none⟩ = some c4 ∧ w.cell? ⟨g, 5, none⟩ = some c5 := ⟨cell_blk h, cell_blk h, cell_blk h, cell_blk h, cell_blk h, cell_blk h⟩
set_option linter.unusedSimpArgs false in
set_option maxRecDepth 100000 in
set_option maxHeartbeats 6400000 in
theorem rdtellS_any (n P o r R cR gK : Nat) (hv0 : Value) (es : List E2) (ow : Nat → Nat) (ao aN ag : Option Addr) (co cN cg lo : Nat) (x : List Int) (wh : Nat → Bool) (I : Ix → Prop) (ad : Ix → Nat × Nat) (vs : Ix → Value) (K N : Nat → List Int) (B : Nat → Nat → List Msg) (Qn : Nat → Prop) (w : World)
    (hn : n ≤ 64) (hP : P ≤ 64) (how : ∀ v, v < n → ow v < P) (hlo : lo ≤ w.heap.size) (hW : GW w lo I ad vs K N B) (hI : ∀ t, t < P → I (r + 2, t)) (hA : ∀ t, t < P → ad (r + 2, t) = (R, t)) (_hcR : P ≤ cR) (hR : R < w.heap.size)
    (hO : IntsAt w (.slice ao n co) (owI n ow)) (hOd : ∀ n' c p, Value.slice ao n co = .slice (some p) n' c → ¬ tellD R P r vs p.block) (hN : RowsX Qn w (.slice aN n cN) (nearL es n)) (hNd : ∀ b, Qn b → ¬ tellD R P r vs b)
    (hK : ∀ i, i < n → ag = some ⟨gK, 0, none⟩ ∧ w.cell? ⟨gK, i, none⟩ = some (.int .i64 (x.getD i 0))) (hKd : ¬ tellD R P r vs gK) (hcg : n ≤ cg) (hB : ∀ t, t < P → (B r t).length ≤ 1000000)
    (hwh : ∀ v, v < n → ∀ W, Fr (tellD R P r vs) w W → Calls Tryz.prog 38 #[.int .i64 (v : Int)] W fun e W' => e = .returned (.bool (wh v)) ∧ ∃ m, W' = W.drewN m) :
    Calls Tryz.prog 37 #[.agg #[.int .i64 P, .slice ao n co, hv0, .slice aN n cN, .int .i64 (o : Int), .slice ag n cg], .slice (some ⟨R, 0, none⟩) P cR, .func (.func 38) #[] #[]] w fun e w' => e = .returned (.tuple #[]) ∧ ∃ vs', GW w' lo I ad vs' K N (fun r' t' => if r' = r then B r t' ++ telL es n P ow o x wh t' else B r' t') ∧ Fr (tellD R P r vs) w w' ∧ (∀ t, t < P → ∀ b, (vs' (r + 2, t)).ownBlock = some b → tellD R P r vs b ∨ w.heap.size ≤ b) ∧ (∀ i, (∀ t, t < P → i ≠ (r + 2, t)) → vs' i = vs i) := by
  obtain ⟨hXX, hb0⟩ := boxG_new w #[.int .i64 P, .slice ao n co, hv0, .slice aN n cN, .int .i64 (o : Int), .slice ag n cg] 74
  obtain ⟨wA, hwA⟩ : ∃ W : World, W = w.alloc (.cells #[.int .i64 P, .slice ao n co, hv0, .slice aN n cN, .int .i64 (o : Int), .slice ag n cg] 74) := ⟨_, rfl⟩
  obtain ⟨X, hX⟩ : ∃ X, w.heap.size = X := ⟨_, rfl⟩
  rw [← hwA] at hXX hb0
  have hzA : wA.heap.size = X + 1 := by rw [hwA, ← hX]; simp
  have HWA := Lib.hid hwA
  have HX := Lib.hid hX
  obtain ⟨D, hD⟩ : ∃ D, tellD R P r vs = D := ⟨_, rfl⟩
  rw [hD] at hOd hNd hKd hwh ⊢
  have hDl : ∀ b, D b → b < X := fun b h => by
    rw [← hD] at h
    rcases h with h | ⟨t, ht, h⟩
    · omega
    · have := ((hW.own _ (hI t ht)).lt b h).2; omega
  have hDX : ¬ D X := fun h => by have := hDl X h; omega
  have hDo : ∀ t, t < P → ∀ b, (vs (r + 2, t)).ownBlock = some b → D b := fun t ht b h => by rw [← hD]; exact .inr ⟨t, ht, h⟩
  have hDR : D R := by rw [← hD]; exact .inl rfl
  have hWA := hW.below hb0
  rw [hX] at hXX hb0 hR hlo ⊢
  have hF0 : Fr D w wA := Fr.of_below (by rw [hX]; exact hb0)
  have hOA := hF0.ints hO hOd
  have hNA := hF0.rows hN hNd
  have hKA : ∀ i, i < n → ag = some ⟨gK, 0, none⟩ ∧ wA.cell? ⟨gK, i, none⟩ = some (.int .i64 (x.getD i 0)) ∧ gK < X := fun i hi => ⟨(hK i hi).1, hF0.cell (hK i hi).2 hKd, by have := cell_lt (hK i hi).2; omega⟩
  have hwA2 : ∀ v, v < n → ∀ W, Fr D wA W → Calls Tryz.prog 38 #[.int .i64 (v : Int)] W fun e W' => e = .returned (.bool (wh v)) ∧ ∃ m, W' = W.drewN m := fun v hv W h => hwh v hv W (hF0.trans h (fun b hb => .inl hb))
  obtain ⟨-, hcN, -⟩ := hNA.len
  have hWH := Lib.hid hwA2
  have hKH := Lib.hid hKA
  have hAH := Lib.hid hA
  have hIH := Lib.hid hI
  have hBH := Lib.hid hB
  have hOdH := Lib.hid hOd
  have hDlH := Lib.hid hDl
  have hDoH := Lib.hid hDo
  clear hwA hX hW hO hN hK hwh hwA2 hKA hA hI hB hOd hDl hDo
  obtain ⟨q0, q1, q2, q3, q4, q5⟩ := cells6 hXX
  go_enter Tryz.func37, Tryz.ntmps37
  go_wp2_with (rw [← HWA.out, HX.out])
  clear q0 q1 q2 q3 q4 q5
  go_loopw [13] (fun vi wr => ∃ (k : Nat) (vs1 : Ix → Value), k ≤ n ∧ vi = .int .i64 (k : Int) ∧ GW wr lo I ad vs1 K N (fun r' t' => if r' = r then B r t' ++ telK es n P ow o x wh k t' else B r' t') ∧ Fr D wA wr ∧ Hid (∀ t, t < P → ∀ b, (vs1 (r + 2, t)).ownBlock = some b → D b ∨ X < b) ∧ Hid (∀ i, (∀ t, t < P → i ≠ (r + 2, t)) → vs1 i = vs i)) (fun vi _ => n - (intOf vi).toNat)
  case atStart => exact ⟨0, vs, Nat.zero_le _, rfl, GW.boxes hWA (fun r' t' _ => by by_cases e : r' = r <;> simp [e, telK]), Fr.refl _ _, (show ∀ t, _ from fun t ht b h => .inl (hDoH.out t ht b h)), (show ∀ i, _ from fun i _ => rfl)⟩
  case round =>
    obtain ⟨k, vs1, hk, rfl, hG, hF, HV, HE⟩ := hrel
    have hXr := hF.blk hXX hDX
    obtain ⟨q0, q1, q2, q3, q4, q5⟩ := cells6 hXr
    by_cases hlt : k < n
    · have hlt3 : (k : Int) < n := by omega
      have hOr := hF.ints hOA (hOdH.out)
      have hNr := hF.rows hNA hNd
      obtain ⟨rfl, cKA, hgK⟩ := hKH.out k hlt
      have cKr := hF.cell cKA hKd
      have hcw := hWH.out k hlt
      obtain ⟨bO, oO, rfl, ck, hcO⟩ : ∃ b off, ao = some ⟨b, off, none⟩ ∧ wr.cell? ⟨b, off + k, none⟩ = some (.int .i64 (ow k : Int)) ∧ n ≤ co := by
        obtain ⟨_, _, hv', h1, _, _, h4⟩ := (show IntsAt wr (.slice ao (owI n ow).length co) (owI n ow) by rw [owI_length]; exact hOr)
        cases hv'
        rw [owI_length] at h1
        obtain ⟨b, off, rfl, c⟩ := h4 k _ (owI_get n ow k hlt)
        exact ⟨b, off, rfl, c, h1⟩
      by_cases hok : ow k = o
      case neg =>
        have d1 : ((ow k : Int) != (o : Int)) = true := by simp; omega
        have hno := fun t => telK_no es n P ow o x wh k t (fun q => hok q.1)
        have HNO := Lib.hid hno
        clear hno
        go_wp2_with fail
        go_quiet (fail)
        have hbd := (Below.refl wr.heap.size wr).drewN nq
        have hG2 := GW.boxes (hG.below hbd) (B' := fun r' t' => if r' = r then B r t' ++ telK es n P ow o x wh (k + 1) t' else B r' t') (fun r' t' _ => by rw [HNO.out])
        have hF2 := hF.grown (grown_of_below hbd) (fun b e => by cases e)
        clear hF hG
        go_wp2_with fail
        go_roundw
        case rel => exact ⟨k + 1, vs1, by omega, by go_num, hG2, hF2, HV, HE⟩
        case measure => simp [intOf]; omega
      case pos =>
        have d1 : ((ow k : Int) != (o : Int)) = false := by simp; omega
        have hq := fun m => Calls.quiet_of (n := m) (hcw (wr.drewN m) (hF.grown (grown_of_below ((Below.refl wr.heap.size wr).drewN m)) (fun b e => by cases e)))
        obtain ⟨DW, hDW⟩ : ∃ D, wh k = D := ⟨_, rfl⟩
        rw [hDW] at hq
        have HDW := Lib.hid hDW
        clear hcw
        cases DW with
        | false =>
          have hno := fun t => telK_no es n P ow o x wh k t (fun q => by rw [HDW.out] at q; exact absurd q.2 (by simp))
          have HNO := Lib.hid hno
          clear hno
          go_wp2_with fail
          go_quiet ((go_at_call 38; exact hq _))
          have hbd := (Below.refl wr.heap.size wr).drewN nq
          have hG2 := GW.boxes (hG.below hbd) (B' := fun r' t' => if r' = r then B r t' ++ telK es n P ow o x wh (k + 1) t' else B r' t') (fun r' t' _ => by rw [HNO.out])
          have hF2 := hF.grown (grown_of_below hbd) (fun b e => by cases e)
          clear hF hG
          go_wp2_with fail
          go_roundw
          case rel => exact ⟨k + 1, vs1, by omega, by go_num, hG2, hF2, HV, HE⟩
          case measure => simp [intOf]; omega
        | true =>
          go_wp2_with fail
          go_quiet ((go_at_call 38; exact hq _))
          have hbd := (Below.refl wr.heap.size wr).drewN nq
          obtain ⟨w1, hw1⟩ : ∃ W : World, W = wr.drewN nq := ⟨_, rfl⟩
          rw [← hw1] at hbd ⊢
          have hG1 := hG.below hbd
          have hF1 := hF.grown (grown_of_below hbd) (fun b e => by cases e)
          have hX1 := lit_next' hbd hXr
          have how2 := rdowners_any n P k hv0 es ow (some ⟨bO, oO, none⟩) aN co cN Qn w1 hn hlt how (hOr.below hbd) (hNr.below hbd)
          obtain ⟨OL, hOL⟩ : ∃ L, ownL es n P ow k = L := ⟨_, rfl⟩
          have hOLl := ownL_len64 es n P ow k
          have hOLn := ownL_nodup2 es n P ow k
          have hOLp : ∀ t ∈ OL, t < P := fun t ht => by rw [← hOL] at ht; exact (ownL_mem.1 ht).1
          rw [hOL] at how2 hOLl hOLn
          have HCL := Lib.hid (castL_length OL)
          have HOL := Lib.hid hOL
          have hR1 : R < w1.heap.size := by have := hF1.size; omega
          have hDn : ∀ b, tellD R P r vs1 b → D b ∨ X < b := fun b h => by
            rcases h with h | ⟨t, ht, h⟩
            · left; rw [h]; exact hDR
            · exact HV.out t ht b h
          have hDn1 : ∀ b, tellD R P r vs1 b → b < w1.heap.size := fun b h => by
            rcases h with h | ⟨t, ht, h⟩
            · omega
            · exact ((hG1.own _ (hIH.out t ht)).lt b h).2
          have HDN := Lib.hid hDn
          have HDN1 := Lib.hid hDn1
          have cK1 := hF1.cell cKA hKd
          clear hw1 hG hF hq q0 q1 q2 q3 q4 q5 hOr hNr ck cKr hXr hOL hDn hDn1
          obtain ⟨q0, q1, q2, q3, q4, q5⟩ := cells6 hX1
          go_wp2_with fail
          refine how2.mono ?_
          rintro e w2 ⟨a5, c5, rfl, hi5, hp5, hb2⟩
          have hG2 := hG1.below hb2
          have hF2 := hF1.grown (grown_of_below hb2) (fun b e => by cases e)
          have hX2 := lit_next' hb2 hX1
          have cK2 := (hb2.cell (p := ⟨gK, k, none⟩) (cell_lt cK1)).trans cK1
          have hD2X : ¬ tellD R P r vs1 X := fun h => by
            rcases HDN.out X h with h | h
            · exact hDX h
            · omega
          have hD2K : ¬ tellD R P r vs1 gK := fun h => by
            rcases HDN.out gK h with h | h
            · exact hKd h
            · omega
          have hD2o : ∀ t, t < P → ∀ b, (vs1 (r + 2, t)).ownBlock = some b → tellD R P r vs1 b := fun t ht b h => .inr ⟨t, ht, h⟩
          obtain ⟨D2, hD2⟩ : ∃ D2, tellD R P r vs1 = D2 := ⟨_, rfl⟩
          have hD2R : D2 R := by rw [← hD2]; exact .inl rfl
          have hi5d : ∀ n' c p, Value.slice a5 (castL OL).length c5 = .slice (some p) n' c → ¬ D2 p.block := fun n' c p e h => by
            obtain rfl : a5 = some p := (Value.slice.inj e).1
            have h1 := hp5 p rfl
            rw [← hD2] at h
            have h2 := HDN1.out _ h
            omega
          rw [hD2] at hD2X hD2K hD2o HDN HDN1
          have hXg : X < w2.heap.size := blk_lt hX2
          have hXR : X ≠ R := fun e => hDX (e ▸ hDR)
          have hgR : gK ≠ R := fun e => hKd (e ▸ hDR)
          have hi5H := Lib.hid hi5d
          have hD2oH := Lib.hid hD2o
          obtain ⟨xk, hxk⟩ : ∃ z, x.getD k 0 = z := ⟨_, rfl⟩
          rw [hxk] at cK2
          have HXK := Lib.hid hxk
          clear hG1 hF1 hX1 hD2 cK1 hi5d hD2o q0 q1 q2 q3 q4 q5 how2 hp5 hxk cKA
          go_wp2_with fail
          go_loopw [37] (fun vi wr => ∃ (j : Nat) (vs2 : Ix → Value), j ≤ (castL OL).length ∧ vi = .int .i64 (j : Int) ∧ GW wr lo I ad vs2 K N (fun r' t' => if r' = r then (B r t' ++ telK es n P ow o x wh k t') ++ (if t' ∈ OL.take j then [((k : Int), xk, false)] else []) else B r' t') ∧ Fr D2 w2 wr ∧ Hid (∀ t, t < P → ∀ b, (vs2 (r + 2, t)).ownBlock = some b → D2 b ∨ w2.heap.size ≤ b) ∧ Hid (∀ i, (∀ t, t < P → i ≠ (r + 2, t)) → vs2 i = vs i)) (fun vi _ => (castL OL).length - (intOf vi).toNat)
          case atStart => exact ⟨0, vs1, Nat.zero_le _, rfl, GW.boxes hG2 (fun r' t' _ => by by_cases e : r' = r <;> simp [e]), Fr.refl _ _, (show ∀ t, _ from fun t ht b h => .inl (hD2oH.out t ht b h)), HE⟩
          case round =>
            obtain ⟨j, vs2, hj, rfl, hG3, hF3, HV3, HE3⟩ := hrel
            by_cases hltj : j < (castL OL).length
            · have hltj3 : (j : Int) < (castL OL).length := by omega
              have hjs : j < OL.length := by rw [← HCL.out]; exact hltj
              obtain ⟨t, ht⟩ : ∃ t, OL[j]? = some t := ⟨_, List.getElem?_eq_getElem hjs⟩
              have htP : t < P := hOLp t (List.mem_of_getElem? ht)
              have htn : t ∉ OL.take j := fun hm => by
                obtain ⟨i, hi, hie⟩ := List.getElem_of_mem hm
                rw [List.length_take] at hi
                rw [List.getElem_take] at hie
                have h1 := (List.getElem?_eq_some_iff.1 ht).2
                exact (List.pairwise_iff_getElem.1 hOLn) i j (by omega) hjs (by omega) (hie.trans h1.symm)
              have htk := take_at _ _ _ ht
              obtain ⟨b5, o5, t', e5, hz5, -, -, c5t⟩ := (hF3.ints hi5 hi5H.out).at j hltj
              obtain rfl : t' = (t : Int) := by
                unfold castL at hz5
                rw [List.getElem?_map, ht] at hz5
                exact (Option.some.inj hz5).symm
              subst e5
              have hti : (t : Int) < P := by omega
              have hX3 := hF3.blk hX2 hD2X
              have cK3 := hF3.cell cK2 hD2K
              have x5 := cell_blk (j := 5) hX3
              have hown0 := GW.box hG3 (hIH.out t htP)
              rw [if_pos rfl, if_neg htn, List.append_nil] at hown0
              have hLl : (B r t ++ telK es n P ow o x wh k t).length ≤ 1100000 := by
                have h1 := hBH.out t htP
                have h2 := telK_len es n P ow o x wh k t
                rw [List.length_append]; omega
              obtain ⟨L, hL⟩ : ∃ L, B r t ++ telK es n P ow o x wh k t = L := ⟨_, rfl⟩
              rw [hL] at hown0 hLl
              have HL := Lib.hid hL
              have cRt := hG3.cell _ (hIH.out t htP)
              have fR := hG3.free _ (hIH.out t htP)
              rw [hAH.out t htP] at cRt fR
              dsimp only at cRt fR
              obtain ⟨av, cv, hvs⟩ := owns_shape hown0
              have HVS := Lib.hid hvs
              rw [hvs] at hown0 cRt
              have hoX : (Value.slice av L.length cv).ownBlock ≠ some X := fun e => by
                rw [← hvs] at e
                rcases HV3.out t htP X e with h | h
                · exact hD2X h
                · omega
              have hoK : (Value.slice av L.length cv).ownBlock ≠ some gK := fun e => by
                rw [← hvs] at e
                rcases HV3.out t htP gK e with h | h
                · exact hD2K h
                · omega
              have hoR : (Value.slice av L.length cv).ownBlock ≠ some R := fun e => by
                rw [← hvs] at e
                have := hG3.off _ _ (hIH.out t htP) (hIH.out t htP)
                rw [hAH.out t htP] at this
                exact this e
              have hal := fun o => (Below.refl wr.heap.size wr).alloc (Nat.le_refl _) o
              have hlit := rows_lit1 (E := encM) wr ((k : Int), xk, false) 89 #[.int .i64 (k : Int), .int .i64 xk, .bool false] rfl
              have hownA := hown0.alloc (.cells #[.int .i64 (k : Int), .int .i64 xk, .bool false] 89)
              have hlow : lo ≤ wr.heap.size + 1 := by have := hF3.size; have := hF2.size; omega
              obtain ⟨n1, n2⟩ : ¬ (X = R) ∧ ¬ (R = X) := ⟨hXR, fun e => hXR e.symm⟩
              obtain ⟨n3, n4⟩ : ¬ (gK = R) ∧ ¬ (R = gK) := ⟨hgR, fun e => hgR e.symm⟩
              clear hvs hL hz5 ht
              go_upto_region 8 with fail
              refine wp_region_heldK (k := 16) (S := fun b W => (W.cell? ⟨X, 5, none⟩ = some (.slice (some ⟨gK, 0, none⟩) n cg) ∧ W.cell? ⟨gK, k, none⟩ = some (.int .i64 xk)) ∧ (match b with | false => W.cell? ⟨R, t, none⟩ = some (.slice av L.length cv) | true => True)) (by kernel_rfl) ?_
              have hS0 : (wr.drew.cell? ⟨X, 5, none⟩ = some (.slice (some ⟨gK, 0, none⟩) n cg) ∧ wr.drew.cell? ⟨gK, k, none⟩ = some (.int .i64 xk)) ∧ wr.drew.cell? ⟨R, t, none⟩ = some (.slice av L.length cv) := ⟨⟨x5, cK3⟩, cRt⟩
              refine wpAnyK_take (i := 0) (v := .slice (some ⟨R, 0, none⟩) P cR) true rfl (by kernel_rfl) (by kernel_rfl) (by kernel_rfl) (by kernel_rfl) (by kernel_rfl) (fun _ _ _ h => h) (fun _ h => ⟨h.1, trivial⟩) (Or.inl ⟨by rfl, by intro w hSw; dsimp only at hSw; go_simp⟩) (b := false) (by kernel_rfl) hS0 ?_
              try simp only [Act.put, List.setIfInBounds_toArray, List.set_cons_zero, List.set_cons_succ]
              refine wpAnyK_take (i := 1) (v := .int .i64 (t : Int)) true rfl (by kernel_rfl) (by kernel_rfl) (by kernel_rfl) (by kernel_rfl) (by kernel_rfl) (fun _ _ _ h => h) (fun _ h => ⟨h.1, trivial⟩) (Or.inl ⟨by rfl, by intro w hSw; dsimp only at hSw; go_simp⟩) (b := false) (by kernel_rfl) hS0 ?_
              try simp only [Act.put, List.setIfInBounds_toArray, List.set_cons_zero, List.set_cons_succ]
              refine wpAnyK_take (i := 2) (v := .slice (some ⟨R, 0, none⟩) P cR) true rfl (by kernel_rfl) (by kernel_rfl) (by kernel_rfl) (by kernel_rfl) (by kernel_rfl) (fun _ _ _ h => h) (fun _ h => ⟨h.1, trivial⟩) (Or.inl ⟨by rfl, by intro w hSw; dsimp only at hSw; go_simp⟩) (b := false) (by kernel_rfl) hS0 ?_
              try simp only [Act.put, List.setIfInBounds_toArray, List.set_cons_zero, List.set_cons_succ]
              refine wpAnyK_take (i := 3) (v := .int .i64 (t : Int)) true rfl (by kernel_rfl) (by kernel_rfl) (by kernel_rfl) (by kernel_rfl) (by kernel_rfl) (fun _ _ _ h => h) (fun _ h => ⟨h.1, trivial⟩) (Or.inl ⟨by rfl, by intro w hSw; dsimp only at hSw; go_simp⟩) (b := false) (by kernel_rfl) hS0 ?_
              try simp only [Act.put, List.setIfInBounds_toArray, List.set_cons_zero, List.set_cons_succ]
              refine wpAnyK_take (i := 4) (v := .pointer (some ⟨R, t, none⟩)) true rfl (by kernel_rfl) (by kernel_rfl) (by kernel_rfl) (by kernel_rfl) (by kernel_rfl) (fun _ _ _ h => h) (fun _ h => ⟨h.1, trivial⟩) (Or.inl ⟨by rfl, by intro w hSw; dsimp only at hSw; go_simp⟩) (b := false) (by kernel_rfl) hS0 ?_
              try simp only [Act.put, List.setIfInBounds_toArray, List.set_cons_zero, List.set_cons_succ]
              refine wpAnyK_take (i := 5) (v := .slice av L.length cv) false rfl (by kernel_rfl) (by kernel_rfl) (by kernel_rfl) (by kernel_rfl) (by kernel_rfl) (fun _ _ _ h => h) (fun _ h => ⟨h.1, trivial⟩) (Or.inl ⟨by rfl, by intro w hSw; dsimp only at hSw; go_simp⟩) (b := false) (by kernel_rfl) hS0 ?_
              try simp only [Act.put, List.setIfInBounds_toArray, List.set_cons_zero, List.set_cons_succ]
              refine wpAnyK_take (i := 6) (v := .int .i64 (k : Int)) true rfl (by kernel_rfl) (by kernel_rfl) (by kernel_rfl) (by kernel_rfl) (by kernel_rfl) (fun _ _ _ h => h) (fun _ h => ⟨h.1, trivial⟩) (Or.inl ⟨by rfl, by intro w hSw; dsimp only at hSw; go_simp⟩) (b := false) (by kernel_rfl) hS0 ?_
              try simp only [Act.put, List.setIfInBounds_toArray, List.set_cons_zero, List.set_cons_succ]
              refine wpAnyK_take (i := 7) (v := .pointer (some ⟨X, 5, none⟩)) true rfl (by kernel_rfl) (by kernel_rfl) (by kernel_rfl) (by kernel_rfl) (by kernel_rfl) (fun _ _ _ h => h) (fun _ h => ⟨h.1, trivial⟩) (Or.inl ⟨by rfl, by intro w hSw; dsimp only at hSw; go_simp⟩) (b := false) (by kernel_rfl) hS0 ?_
              try simp only [Act.put, List.setIfInBounds_toArray, List.set_cons_zero, List.set_cons_succ]
              refine wpAnyK_take (i := 8) (v := .slice (some ⟨gK, 0, none⟩) n cg) true rfl (by kernel_rfl) (by kernel_rfl) (by kernel_rfl) (by kernel_rfl) (by kernel_rfl) (fun _ _ _ h => h) (fun _ h => ⟨h.1, trivial⟩) (Or.inl ⟨by rfl, by intro w hSw; dsimp only at hSw; go_simp⟩) (b := false) (by kernel_rfl) hS0 ?_
              try simp only [Act.put, List.setIfInBounds_toArray, List.set_cons_zero, List.set_cons_succ]
              refine wpAnyK_take (i := 9) (v := .int .i64 (k : Int)) true rfl (by kernel_rfl) (by kernel_rfl) (by kernel_rfl) (by kernel_rfl) (by kernel_rfl) (fun _ _ _ h => h) (fun _ h => ⟨h.1, trivial⟩) (Or.inl ⟨by rfl, by intro w hSw; dsimp only at hSw; go_simp⟩) (b := false) (by kernel_rfl) hS0 ?_
              try simp only [Act.put, List.setIfInBounds_toArray, List.set_cons_zero, List.set_cons_succ]
              refine wpAnyK_take (i := 10) (v := .pointer (some ⟨gK, k, none⟩)) true rfl (by kernel_rfl) (by kernel_rfl) (by kernel_rfl) (by kernel_rfl) (by kernel_rfl) (fun _ _ _ h => h) (fun _ h => ⟨h.1, trivial⟩) (Or.inl ⟨by rfl, by intro w hSw; dsimp only at hSw; go_simp⟩) (b := false) (by kernel_rfl) hS0 ?_
              try simp only [Act.put, List.setIfInBounds_toArray, List.set_cons_zero, List.set_cons_succ]
              refine wpAnyK_take (i := 11) (v := .int .i64 xk) true rfl (by kernel_rfl) (by kernel_rfl) (by kernel_rfl) (by kernel_rfl) (by kernel_rfl) (fun _ _ _ h => h) (fun _ h => ⟨h.1, trivial⟩) (Or.inl ⟨by rfl, by intro w hSw; dsimp only at hSw; go_simp⟩) (b := false) (by kernel_rfl) hS0 ?_
              try simp only [Act.put, List.setIfInBounds_toArray, List.set_cons_zero, List.set_cons_succ]
              refine wpAnyK_take (i := 12) (v := .agg #[.int .i64 (k : Int), .int .i64 xk, .bool false]) true rfl (by kernel_rfl) (by kernel_rfl) (by kernel_rfl) (by kernel_rfl) (by kernel_rfl) (fun _ _ _ h => h) (fun _ h => ⟨h.1, trivial⟩) (Or.inl ⟨by rfl, by intro w hSw; dsimp only at hSw; go_simp⟩) (b := false) (by kernel_rfl) hS0 ?_
              try simp only [Act.put, List.setIfInBounds_toArray, List.set_cons_zero, List.set_cons_succ]
              refine wpAnyK_one (i := 13) (by kernel_rfl) rfl (by rfl) (b := false) (by kernel_rfl) (fun K hK => ?_)
              go_simp
              refine hK.out _ _ ⟨⟨cell_alloc x5, cell_alloc cK3⟩, cell_alloc cRt⟩ ?_
              try simp only [Act.put, List.setIfInBounds_toArray, List.set_cons_zero, List.set_cons_succ]
              refine wpAnyK_one (i := 14) (by kernel_rfl) rfl (by rfl) (b := false) (by kernel_rfl) (fun K hK => ?_)
              refine wp_app_rows_at msgT (.tmp 46) (.tmp 54) rfl lo (.slice av L.length cv) _ L [((k : Int), xk, false)] rfl (by exact hownA) rfl (by exact hlit) (by rw [List.length_singleton]; omega) (by rw [List.length_singleton]; omega) (by simpa using hlow) ?_
              intro v6 w6 hown6 hg6 hat6
              have x56 := grown_blk hg6 (show (wr.alloc (.cells #[.int .i64 (k : Int), .int .i64 xk, .bool false] 89)).drew.heap[X]? = _ from (Below.heap_alloc _ _ _ (blk_lt hX3)).trans hX3) (fun e => hoX e.symm)
              have cK6 := hg6.cell (show (wr.alloc (.cells #[.int .i64 (k : Int), .int .i64 xk, .bool false] 89)).drew.cell? ⟨gK, k, none⟩ = _ from cell_alloc cK3) (fun e => hoK e.symm)
              have cR6 := hg6.cell (show (wr.alloc (.cells #[.int .i64 (k : Int), .int .i64 xk, .bool false] 89)).drew.cell? ⟨R, t, none⟩ = _ from cell_alloc cRt) (fun e => hoR e.symm)
              have hG4 := (hG3.below (hal (.cells #[.int .i64 (k : Int), .int .i64 xk, .bool false] 89))).below (Below.refl _ _).drew
              have hst := GW.step (v := v6) hG4 (hIH.out t htP) (by rw [HVS.out]; exact hg6) hown6 (fun b e => by
                rw [HVS.out]
                rcases hat6 with h | h
                · left; rw [← h]; exact e
                · right; rw [h] at e; have := Option.some.inj e; omega)
              have hF4 := (hF3.grown (grown_of_below (hal (.cells #[.int .i64 (k : Int), .int .i64 xk, .bool false] 89)).drew) (fun b e => by cases e)).grown hg6 (fun b e => by rw [← HVS.out] at e; exact HV3.out t htP b e)
              have hF5 := hF4.grown (grown_store (b := R) (j := t) (v := v6)) (fun b e => by cases e; exact .inl hD2R)
              rw [hAH.out t htP] at hst
              have fR6 : w6.frozen? ⟨R, t, none⟩ = false := (heap_cell (hg6.block R (show R < (wr.alloc (.cells #[.int .i64 (k : Int), .int .i64 xk, .bool false] 89)).heap.size by have := cell_lt cRt; simp; omega) (fun e => hoR e.symm))).2.trans ((heap_cell (Below.heap_alloc _ _ _ (cell_lt cRt))).2.trans fR)
              have hv6 : ∀ b, v6.ownBlock = some b → D2 b ∨ w2.heap.size ≤ b := fun b e => by
                rcases hat6 with h | h
                · rw [h, ← HVS.out] at e; exact HV3.out t htP b e
                · rw [h] at e
                  have h1 := Option.some.inj e
                  have h2 := hF3.size
                  right
                  have h3 : (wr.alloc (.cells #[.int .i64 (k : Int), .int .i64 xk, .bool false] 89)).drew.heap.size = wr.heap.size + 1 := by simp
                  omega
              obtain ⟨a6, c6, hv6s⟩ := owns_shape hown6
              subst hv6s
              refine hK.out _ _ ⟨⟨cell_blk x56, cK6⟩, cR6⟩ ?_
              try simp only [Act.put, List.setIfInBounds_toArray, List.set_cons_zero, List.set_cons_succ]
              refine wpAnyK_take (i := 15) (v := .pointer (some ⟨R, t, none⟩)) true rfl (by kernel_rfl) (by kernel_rfl) (by kernel_rfl) (by kernel_rfl) (by kernel_rfl) (fun _ _ _ h => h) (fun _ h => ⟨h.1, trivial⟩) (Or.inl ⟨by rfl, by intro w hSw; dsimp only at hSw; go_simp⟩) (b := false) (by kernel_rfl) ⟨⟨cell_blk x56, cK6⟩, cR6⟩ ?_
              try simp only [Act.put, List.setIfInBounds_toArray, List.set_cons_zero, List.set_cons_succ]
              refine wpAnyK_one (i := 16) (by kernel_rfl) rfl (by rfl) (b := true) (by kernel_rfl) (fun K hK => ?_)
              go_simp
              refine hK.out _ _ ⟨⟨(World.cell?_setCell_far _ _ _ _ n2).trans (cell_blk x56), (World.cell?_setCell_far _ _ _ _ n4).trans cK6⟩, trivial⟩ (wpAnyK_done (by kernel_rfl) ?_ _)
              have hG5 := GW.boxes hst (B' := fun r' t' => if r' = r then (B r t' ++ telK es n P ow o x wh k t') ++ (if t' ∈ OL.take (j + 1) then [((k : Int), xk, false)] else []) else B r' t') (fun r' t' _ => by
                rw [htk]
                by_cases e1 : r' = r
                · subst e1
                  by_cases e2 : t' = t
                  · subst e2
                    rw [if_pos ⟨rfl, rfl⟩, if_pos rfl, if_pos (by simp), HL.out]
                  · rw [if_neg (fun q => e2 q.2), if_pos rfl, if_pos rfl]
                    congr 1
                    by_cases e3 : t' ∈ OL.take j
                    · rw [if_pos e3, if_pos (List.mem_append_left _ e3)]
                    · rw [if_neg e3, if_neg (fun q => by rcases List.mem_append.1 q with q | q; exact e3 q; exact e2 (List.mem_singleton.1 q))]
                · rw [if_neg (fun q => e1 q.1), if_neg e1, if_neg e1])
              have HV5 : Hid (∀ t1, t1 < P → ∀ b, (updX vs2 (r + 2, t) (.slice a6 (L ++ [((k : Int), xk, false)]).length c6) (r + 2, t1)).ownBlock = some b → D2 b ∨ w2.heap.size ≤ b) := (show ∀ t1, _ from fun t1 h1 b e => by
                unfold updX at e
                by_cases q : t1 = t
                · rw [if_pos (by rw [q])] at e; exact hv6 b e
                · rw [if_neg (ix_ne q)] at e; exact HV3.out t1 h1 b e)
              have HE5 : Hid (∀ i, (∀ t, t < P → i ≠ (r + 2, t)) → updX vs2 (r + 2, t) (.slice a6 (L ++ [((k : Int), xk, false)]).length c6) i = vs i) := (show ∀ i, _ from fun i hi => by
                unfold updX
                rw [if_neg (hi t htP)]
                exact HE3.out i hi)
              have hll : (L ++ [((k : Int), xk, false)]).length = L.length + 1 := by simp
              rw [hll] at hG5 HV5 HE5 hF5
              clear hst hG4 hF4 hown6 hg6 hat6 hv6 fR6 cR6 cK6 x56 hll
              go_wp2_with fail
              go_roundw
              case rel => exact ⟨j + 1, _, by omega, by go_num, hG5, hF5, HV5, HE5⟩
              case measure => simp [intOf]; omega
            · have hje : j = OL.length := by rw [← HCL.out]; omega
              have hG4 := GW.boxes hG3 (B' := fun r' t' => if r' = r then B r t' ++ telK es n P ow o x wh (k + 1) t' else B r' t') (fun r' t' _ => by
                by_cases e1 : r' = r
                · rw [if_pos e1, if_pos e1, telK_step, hje, List.take_length, List.append_assoc, HOL.out, HXK.out, hok, HDW.out]
                  congr 2
                  simp
                · rw [if_neg e1, if_neg e1])
              have hF4 := hF2.trans hF3 (fun b h => by
                rcases HDN.out b h with h | h
                · exact .inl h
                · right; omega)
              have HV4 : Hid (∀ t, t < P → ∀ b, (vs2 (r + 2, t)).ownBlock = some b → D b ∨ X < b) := (show ∀ t, _ from fun t ht b h => by
                rcases HV3.out t ht b h with h | h
                · exact HDN.out b h
                · right; omega)
              clear hG3 hF3
              go_wp2_with fail
              go_roundw
              case rel => exact ⟨k + 1, vs2, by omega, by go_num, hG4, hF4, HV4, HE3⟩
              case measure => simp [intOf]; omega
    · obtain rfl : k = n := by omega
      have hG4 := GW.boxes hG (B' := fun r' t' => if r' = r then B r t' ++ telL es k P ow o x wh t' else B r' t') (fun r' t' _ => rfl)
      have hF4 := hF0.trans hF (fun b h => .inl h)
      go_wp2_with fail
      go_end0
      exact ⟨rfl, vs1, hG4, hF4, (fun t ht b h => by
        rcases HV.out t ht b h with h | h
        · exact .inl h
        · right; omega), HE.out⟩
set_option linter.unusedSimpArgs false in
set_option maxRecDepth 100000 in
set_option maxHeartbeats 6400000 in
theorem rdtellD_any (n P o r R cR gK : Nat) (A9 A10 : Nat) (hv0 : Value) (es : List E2) (ow : Nat → Nat) (ao aN ag : Option Addr) (co cN cg lo : Nat) (x : List Int) (wh : Nat → Bool) (I : Ix → Prop) (ad : Ix → Nat × Nat) (vs : Ix → Value) (K N : Nat → List Int) (B : Nat → Nat → List Msg) (Qn : Nat → Prop) (w : World)
    (hn : n ≤ 64) (hP : P ≤ 64) (how : ∀ v, v < n → ow v < P) (hlo : lo ≤ w.heap.size) (hW : GW w lo I ad vs K N B) (hI : ∀ t, t < P → I (r + 2, t)) (hA : ∀ t, t < P → ad (r + 2, t) = (R, t)) (_hcR : P ≤ cR) (hR : R < w.heap.size)
    (hO : IntsAt w (.slice ao n co) (owI n ow)) (hOd : ∀ n' c p, Value.slice ao n co = .slice (some p) n' c → ¬ tellD R P r vs p.block) (hN : RowsX Qn w (.slice aN n cN) (nearL es n)) (hNd : ∀ b, Qn b → ¬ tellD R P r vs b)
    (hK : ∀ i, i < n → ag = some ⟨gK, 0, none⟩ ∧ w.cell? ⟨gK, i, none⟩ = some (.int .i64 (x.getD i 0))) (hKd : ¬ tellD R P r vs gK) (hcg : n ≤ cg) (hB : ∀ t, t < P → (B r t).length ≤ 1000000)
    (hwh : ∀ v, v < n → ∀ W, Fr (tellD R P r vs) w W → Calls Tryz.prog 80 #[.int .i64 (v : Int), .pointer (some ⟨A10, 0, none⟩), .pointer (some ⟨A9, 0, none⟩)] W fun e W' => e = .returned (.bool (wh v)) ∧ ∃ m, W' = W.drewN m) :
    Calls Tryz.prog 37 #[.agg #[.int .i64 P, .slice ao n co, hv0, .slice aN n cN, .int .i64 (o : Int), .slice ag n cg], .slice (some ⟨R, 0, none⟩) P cR, .func (.func 80) #[] #[.pointer (some ⟨A10, 0, none⟩), .pointer (some ⟨A9, 0, none⟩)]] w fun e w' => e = .returned (.tuple #[]) ∧ ∃ vs', GW w' lo I ad vs' K N (fun r' t' => if r' = r then B r t' ++ telL es n P ow o x wh t' else B r' t') ∧ Fr (tellD R P r vs) w w' ∧ (∀ t, t < P → ∀ b, (vs' (r + 2, t)).ownBlock = some b → tellD R P r vs b ∨ w.heap.size ≤ b) ∧ (∀ i, (∀ t, t < P → i ≠ (r + 2, t)) → vs' i = vs i) := by
  obtain ⟨hXX, hb0⟩ := boxG_new w #[.int .i64 P, .slice ao n co, hv0, .slice aN n cN, .int .i64 (o : Int), .slice ag n cg] 74
  obtain ⟨wA, hwA⟩ : ∃ W : World, W = w.alloc (.cells #[.int .i64 P, .slice ao n co, hv0, .slice aN n cN, .int .i64 (o : Int), .slice ag n cg] 74) := ⟨_, rfl⟩
  obtain ⟨X, hX⟩ : ∃ X, w.heap.size = X := ⟨_, rfl⟩
  rw [← hwA] at hXX hb0
  have hzA : wA.heap.size = X + 1 := by rw [hwA, ← hX]; simp
  have HWA := Lib.hid hwA
  have HX := Lib.hid hX
  obtain ⟨D, hD⟩ : ∃ D, tellD R P r vs = D := ⟨_, rfl⟩
  rw [hD] at hOd hNd hKd hwh ⊢
  have hDl : ∀ b, D b → b < X := fun b h => by
    rw [← hD] at h
    rcases h with h | ⟨t, ht, h⟩
    · omega
    · have := ((hW.own _ (hI t ht)).lt b h).2; omega
  have hDX : ¬ D X := fun h => by have := hDl X h; omega
  have hDo : ∀ t, t < P → ∀ b, (vs (r + 2, t)).ownBlock = some b → D b := fun t ht b h => by rw [← hD]; exact .inr ⟨t, ht, h⟩
  have hDR : D R := by rw [← hD]; exact .inl rfl
  have hWA := hW.below hb0
  rw [hX] at hXX hb0 hR hlo ⊢
  have hF0 : Fr D w wA := Fr.of_below (by rw [hX]; exact hb0)
  have hOA := hF0.ints hO hOd
  have hNA := hF0.rows hN hNd
  have hKA : ∀ i, i < n → ag = some ⟨gK, 0, none⟩ ∧ wA.cell? ⟨gK, i, none⟩ = some (.int .i64 (x.getD i 0)) ∧ gK < X := fun i hi => ⟨(hK i hi).1, hF0.cell (hK i hi).2 hKd, by have := cell_lt (hK i hi).2; omega⟩
  have hwA2 : ∀ v, v < n → ∀ W, Fr D wA W → Calls Tryz.prog 80 #[.int .i64 (v : Int), .pointer (some ⟨A10, 0, none⟩), .pointer (some ⟨A9, 0, none⟩)] W fun e W' => e = .returned (.bool (wh v)) ∧ ∃ m, W' = W.drewN m := fun v hv W h => hwh v hv W (hF0.trans h (fun b hb => .inl hb))
  obtain ⟨-, hcN, -⟩ := hNA.len
  have hWH := Lib.hid hwA2
  have hKH := Lib.hid hKA
  have hAH := Lib.hid hA
  have hIH := Lib.hid hI
  have hBH := Lib.hid hB
  have hOdH := Lib.hid hOd
  have hDlH := Lib.hid hDl
  have hDoH := Lib.hid hDo
  clear hwA hX hW hO hN hK hwh hwA2 hKA hA hI hB hOd hDl hDo
  obtain ⟨q0, q1, q2, q3, q4, q5⟩ := cells6 hXX
  go_enter Tryz.func37, Tryz.ntmps37
  go_wp2_with (rw [← HWA.out, HX.out])
  clear q0 q1 q2 q3 q4 q5
  go_loopw [13] (fun vi wr => ∃ (k : Nat) (vs1 : Ix → Value), k ≤ n ∧ vi = .int .i64 (k : Int) ∧ GW wr lo I ad vs1 K N (fun r' t' => if r' = r then B r t' ++ telK es n P ow o x wh k t' else B r' t') ∧ Fr D wA wr ∧ Hid (∀ t, t < P → ∀ b, (vs1 (r + 2, t)).ownBlock = some b → D b ∨ X < b) ∧ Hid (∀ i, (∀ t, t < P → i ≠ (r + 2, t)) → vs1 i = vs i)) (fun vi _ => n - (intOf vi).toNat)
  case atStart => exact ⟨0, vs, Nat.zero_le _, rfl, GW.boxes hWA (fun r' t' _ => by by_cases e : r' = r <;> simp [e, telK]), Fr.refl _ _, (show ∀ t, _ from fun t ht b h => .inl (hDoH.out t ht b h)), (show ∀ i, _ from fun i _ => rfl)⟩
  case round =>
    obtain ⟨k, vs1, hk, rfl, hG, hF, HV, HE⟩ := hrel
    have hXr := hF.blk hXX hDX
    obtain ⟨q0, q1, q2, q3, q4, q5⟩ := cells6 hXr
    by_cases hlt : k < n
    · have hlt3 : (k : Int) < n := by omega
      have hOr := hF.ints hOA (hOdH.out)
      have hNr := hF.rows hNA hNd
      obtain ⟨rfl, cKA, hgK⟩ := hKH.out k hlt
      have cKr := hF.cell cKA hKd
      have hcw := hWH.out k hlt
      obtain ⟨bO, oO, rfl, ck, hcO⟩ : ∃ b off, ao = some ⟨b, off, none⟩ ∧ wr.cell? ⟨b, off + k, none⟩ = some (.int .i64 (ow k : Int)) ∧ n ≤ co := by
        obtain ⟨_, _, hv', h1, _, _, h4⟩ := (show IntsAt wr (.slice ao (owI n ow).length co) (owI n ow) by rw [owI_length]; exact hOr)
        cases hv'
        rw [owI_length] at h1
        obtain ⟨b, off, rfl, c⟩ := h4 k _ (owI_get n ow k hlt)
        exact ⟨b, off, rfl, c, h1⟩
      by_cases hok : ow k = o
      case neg =>
        have d1 : ((ow k : Int) != (o : Int)) = true := by simp; omega
        have hno := fun t => telK_no es n P ow o x wh k t (fun q => hok q.1)
        have HNO := Lib.hid hno
        clear hno
        go_wp2_with fail
        go_quiet (fail)
        have hbd := (Below.refl wr.heap.size wr).drewN nq
        have hG2 := GW.boxes (hG.below hbd) (B' := fun r' t' => if r' = r then B r t' ++ telK es n P ow o x wh (k + 1) t' else B r' t') (fun r' t' _ => by rw [HNO.out])
        have hF2 := hF.grown (grown_of_below hbd) (fun b e => by cases e)
        clear hF hG
        go_wp2_with fail
        go_roundw
        case rel => exact ⟨k + 1, vs1, by omega, by go_num, hG2, hF2, HV, HE⟩
        case measure => simp [intOf]; omega
      case pos =>
        have d1 : ((ow k : Int) != (o : Int)) = false := by simp; omega
        have hq := fun m => Calls.quiet_of (n := m) (hcw (wr.drewN m) (hF.grown (grown_of_below ((Below.refl wr.heap.size wr).drewN m)) (fun b e => by cases e)))
        obtain ⟨DW, hDW⟩ : ∃ D, wh k = D := ⟨_, rfl⟩
        rw [hDW] at hq
        have HDW := Lib.hid hDW
        clear hcw
        cases DW with
        | false =>
          have hno := fun t => telK_no es n P ow o x wh k t (fun q => by rw [HDW.out] at q; exact absurd q.2 (by simp))
          have HNO := Lib.hid hno
          clear hno
          go_wp2_with fail
          go_quiet ((go_at_call 80; exact hq _))
          have hbd := (Below.refl wr.heap.size wr).drewN nq
          have hG2 := GW.boxes (hG.below hbd) (B' := fun r' t' => if r' = r then B r t' ++ telK es n P ow o x wh (k + 1) t' else B r' t') (fun r' t' _ => by rw [HNO.out])
          have hF2 := hF.grown (grown_of_below hbd) (fun b e => by cases e)
          clear hF hG
          go_wp2_with fail
          go_roundw
          case rel => exact ⟨k + 1, vs1, by omega, by go_num, hG2, hF2, HV, HE⟩
          case measure => simp [intOf]; omega
        | true =>
          go_wp2_with fail
          go_quiet ((go_at_call 80; exact hq _))
          have hbd := (Below.refl wr.heap.size wr).drewN nq
          obtain ⟨w1, hw1⟩ : ∃ W : World, W = wr.drewN nq := ⟨_, rfl⟩
          rw [← hw1] at hbd ⊢
          have hG1 := hG.below hbd
          have hF1 := hF.grown (grown_of_below hbd) (fun b e => by cases e)
          have hX1 := lit_next' hbd hXr
          have how2 := rdowners_any n P k hv0 es ow (some ⟨bO, oO, none⟩) aN co cN Qn w1 hn hlt how (hOr.below hbd) (hNr.below hbd)
          obtain ⟨OL, hOL⟩ : ∃ L, ownL es n P ow k = L := ⟨_, rfl⟩
          have hOLl := ownL_len64 es n P ow k
          have hOLn := ownL_nodup2 es n P ow k
          have hOLp : ∀ t ∈ OL, t < P := fun t ht => by rw [← hOL] at ht; exact (ownL_mem.1 ht).1
          rw [hOL] at how2 hOLl hOLn
          have HCL := Lib.hid (castL_length OL)
          have HOL := Lib.hid hOL
          have hR1 : R < w1.heap.size := by have := hF1.size; omega
          have hDn : ∀ b, tellD R P r vs1 b → D b ∨ X < b := fun b h => by
            rcases h with h | ⟨t, ht, h⟩
            · left; rw [h]; exact hDR
            · exact HV.out t ht b h
          have hDn1 : ∀ b, tellD R P r vs1 b → b < w1.heap.size := fun b h => by
            rcases h with h | ⟨t, ht, h⟩
            · omega
            · exact ((hG1.own _ (hIH.out t ht)).lt b h).2
          have HDN := Lib.hid hDn
          have HDN1 := Lib.hid hDn1
          have cK1 := hF1.cell cKA hKd
          clear hw1 hG hF hq q0 q1 q2 q3 q4 q5 hOr hNr ck cKr hXr hOL hDn hDn1
          obtain ⟨q0, q1, q2, q3, q4, q5⟩ := cells6 hX1
          go_wp2_with fail
          refine how2.mono ?_
          rintro e w2 ⟨a5, c5, rfl, hi5, hp5, hb2⟩
          have hG2 := hG1.below hb2
          have hF2 := hF1.grown (grown_of_below hb2) (fun b e => by cases e)
          have hX2 := lit_next' hb2 hX1
          have cK2 := (hb2.cell (p := ⟨gK, k, none⟩) (cell_lt cK1)).trans cK1
          have hD2X : ¬ tellD R P r vs1 X := fun h => by
            rcases HDN.out X h with h | h
            · exact hDX h
            · omega
          have hD2K : ¬ tellD R P r vs1 gK := fun h => by
            rcases HDN.out gK h with h | h
            · exact hKd h
            · omega
          have hD2o : ∀ t, t < P → ∀ b, (vs1 (r + 2, t)).ownBlock = some b → tellD R P r vs1 b := fun t ht b h => .inr ⟨t, ht, h⟩
          obtain ⟨D2, hD2⟩ : ∃ D2, tellD R P r vs1 = D2 := ⟨_, rfl⟩
          have hD2R : D2 R := by rw [← hD2]; exact .inl rfl
          have hi5d : ∀ n' c p, Value.slice a5 (castL OL).length c5 = .slice (some p) n' c → ¬ D2 p.block := fun n' c p e h => by
            obtain rfl : a5 = some p := (Value.slice.inj e).1
            have h1 := hp5 p rfl
            rw [← hD2] at h
            have h2 := HDN1.out _ h
            omega
          rw [hD2] at hD2X hD2K hD2o HDN HDN1
          have hXg : X < w2.heap.size := blk_lt hX2
          have hXR : X ≠ R := fun e => hDX (e ▸ hDR)
          have hgR : gK ≠ R := fun e => hKd (e ▸ hDR)
          have hi5H := Lib.hid hi5d
          have hD2oH := Lib.hid hD2o
          obtain ⟨xk, hxk⟩ : ∃ z, x.getD k 0 = z := ⟨_, rfl⟩
          rw [hxk] at cK2
          have HXK := Lib.hid hxk
          clear hG1 hF1 hX1 hD2 cK1 hi5d hD2o q0 q1 q2 q3 q4 q5 how2 hp5 hxk cKA
          go_wp2_with fail
          go_loopw [37] (fun vi wr => ∃ (j : Nat) (vs2 : Ix → Value), j ≤ (castL OL).length ∧ vi = .int .i64 (j : Int) ∧ GW wr lo I ad vs2 K N (fun r' t' => if r' = r then (B r t' ++ telK es n P ow o x wh k t') ++ (if t' ∈ OL.take j then [((k : Int), xk, false)] else []) else B r' t') ∧ Fr D2 w2 wr ∧ Hid (∀ t, t < P → ∀ b, (vs2 (r + 2, t)).ownBlock = some b → D2 b ∨ w2.heap.size ≤ b) ∧ Hid (∀ i, (∀ t, t < P → i ≠ (r + 2, t)) → vs2 i = vs i)) (fun vi _ => (castL OL).length - (intOf vi).toNat)
          case atStart => exact ⟨0, vs1, Nat.zero_le _, rfl, GW.boxes hG2 (fun r' t' _ => by by_cases e : r' = r <;> simp [e]), Fr.refl _ _, (show ∀ t, _ from fun t ht b h => .inl (hD2oH.out t ht b h)), HE⟩
          case round =>
            obtain ⟨j, vs2, hj, rfl, hG3, hF3, HV3, HE3⟩ := hrel
            by_cases hltj : j < (castL OL).length
            · have hltj3 : (j : Int) < (castL OL).length := by omega
              have hjs : j < OL.length := by rw [← HCL.out]; exact hltj
              obtain ⟨t, ht⟩ : ∃ t, OL[j]? = some t := ⟨_, List.getElem?_eq_getElem hjs⟩
              have htP : t < P := hOLp t (List.mem_of_getElem? ht)
              have htn : t ∉ OL.take j := fun hm => by
                obtain ⟨i, hi, hie⟩ := List.getElem_of_mem hm
                rw [List.length_take] at hi
                rw [List.getElem_take] at hie
                have h1 := (List.getElem?_eq_some_iff.1 ht).2
                exact (List.pairwise_iff_getElem.1 hOLn) i j (by omega) hjs (by omega) (hie.trans h1.symm)
              have htk := take_at _ _ _ ht
              obtain ⟨b5, o5, t', e5, hz5, -, -, c5t⟩ := (hF3.ints hi5 hi5H.out).at j hltj
              obtain rfl : t' = (t : Int) := by
                unfold castL at hz5
                rw [List.getElem?_map, ht] at hz5
                exact (Option.some.inj hz5).symm
              subst e5
              have hti : (t : Int) < P := by omega
              have hX3 := hF3.blk hX2 hD2X
              have cK3 := hF3.cell cK2 hD2K
              have x5 := cell_blk (j := 5) hX3
              have hown0 := GW.box hG3 (hIH.out t htP)
              rw [if_pos rfl, if_neg htn, List.append_nil] at hown0
              have hLl : (B r t ++ telK es n P ow o x wh k t).length ≤ 1100000 := by
                have h1 := hBH.out t htP
                have h2 := telK_len es n P ow o x wh k t
                rw [List.length_append]; omega
              obtain ⟨L, hL⟩ : ∃ L, B r t ++ telK es n P ow o x wh k t = L := ⟨_, rfl⟩
              rw [hL] at hown0 hLl
              have HL := Lib.hid hL
              have cRt := hG3.cell _ (hIH.out t htP)
              have fR := hG3.free _ (hIH.out t htP)
              rw [hAH.out t htP] at cRt fR
              dsimp only at cRt fR
              obtain ⟨av, cv, hvs⟩ := owns_shape hown0
              have HVS := Lib.hid hvs
              rw [hvs] at hown0 cRt
              have hoX : (Value.slice av L.length cv).ownBlock ≠ some X := fun e => by
                rw [← hvs] at e
                rcases HV3.out t htP X e with h | h
                · exact hD2X h
                · omega
              have hoK : (Value.slice av L.length cv).ownBlock ≠ some gK := fun e => by
                rw [← hvs] at e
                rcases HV3.out t htP gK e with h | h
                · exact hD2K h
                · omega
              have hoR : (Value.slice av L.length cv).ownBlock ≠ some R := fun e => by
                rw [← hvs] at e
                have := hG3.off _ _ (hIH.out t htP) (hIH.out t htP)
                rw [hAH.out t htP] at this
                exact this e
              have hal := fun o => (Below.refl wr.heap.size wr).alloc (Nat.le_refl _) o
              have hlit := rows_lit1 (E := encM) wr ((k : Int), xk, false) 89 #[.int .i64 (k : Int), .int .i64 xk, .bool false] rfl
              have hownA := hown0.alloc (.cells #[.int .i64 (k : Int), .int .i64 xk, .bool false] 89)
              have hlow : lo ≤ wr.heap.size + 1 := by have := hF3.size; have := hF2.size; omega
              obtain ⟨n1, n2⟩ : ¬ (X = R) ∧ ¬ (R = X) := ⟨hXR, fun e => hXR e.symm⟩
              obtain ⟨n3, n4⟩ : ¬ (gK = R) ∧ ¬ (R = gK) := ⟨hgR, fun e => hgR e.symm⟩
              clear hvs hL hz5 ht
              go_upto_region 8 with fail
              refine wp_region_heldK (k := 16) (S := fun b W => (W.cell? ⟨X, 5, none⟩ = some (.slice (some ⟨gK, 0, none⟩) n cg) ∧ W.cell? ⟨gK, k, none⟩ = some (.int .i64 xk)) ∧ (match b with | false => W.cell? ⟨R, t, none⟩ = some (.slice av L.length cv) | true => True)) (by kernel_rfl) ?_
              have hS0 : (wr.drew.cell? ⟨X, 5, none⟩ = some (.slice (some ⟨gK, 0, none⟩) n cg) ∧ wr.drew.cell? ⟨gK, k, none⟩ = some (.int .i64 xk)) ∧ wr.drew.cell? ⟨R, t, none⟩ = some (.slice av L.length cv) := ⟨⟨x5, cK3⟩, cRt⟩
              refine wpAnyK_take (i := 0) (v := .slice (some ⟨R, 0, none⟩) P cR) true rfl (by kernel_rfl) (by kernel_rfl) (by kernel_rfl) (by kernel_rfl) (by kernel_rfl) (fun _ _ _ h => h) (fun _ h => ⟨h.1, trivial⟩) (Or.inl ⟨by rfl, by intro w hSw; dsimp only at hSw; go_simp⟩) (b := false) (by kernel_rfl) hS0 ?_
              try simp only [Act.put, List.setIfInBounds_toArray, List.set_cons_zero, List.set_cons_succ]
              refine wpAnyK_take (i := 1) (v := .int .i64 (t : Int)) true rfl (by kernel_rfl) (by kernel_rfl) (by kernel_rfl) (by kernel_rfl) (by kernel_rfl) (fun _ _ _ h => h) (fun _ h => ⟨h.1, trivial⟩) (Or.inl ⟨by rfl, by intro w hSw; dsimp only at hSw; go_simp⟩) (b := false) (by kernel_rfl) hS0 ?_
              try simp only [Act.put, List.setIfInBounds_toArray, List.set_cons_zero, List.set_cons_succ]
              refine wpAnyK_take (i := 2) (v := .slice (some ⟨R, 0, none⟩) P cR) true rfl (by kernel_rfl) (by kernel_rfl) (by kernel_rfl) (by kernel_rfl) (by kernel_rfl) (fun _ _ _ h => h) (fun _ h => ⟨h.1, trivial⟩) (Or.inl ⟨by rfl, by intro w hSw; dsimp only at hSw; go_simp⟩) (b := false) (by kernel_rfl) hS0 ?_
              try simp only [Act.put, List.setIfInBounds_toArray, List.set_cons_zero, List.set_cons_succ]
              refine wpAnyK_take (i := 3) (v := .int .i64 (t : Int)) true rfl (by kernel_rfl) (by kernel_rfl) (by kernel_rfl) (by kernel_rfl) (by kernel_rfl) (fun _ _ _ h => h) (fun _ h => ⟨h.1, trivial⟩) (Or.inl ⟨by rfl, by intro w hSw; dsimp only at hSw; go_simp⟩) (b := false) (by kernel_rfl) hS0 ?_
              try simp only [Act.put, List.setIfInBounds_toArray, List.set_cons_zero, List.set_cons_succ]
              refine wpAnyK_take (i := 4) (v := .pointer (some ⟨R, t, none⟩)) true rfl (by kernel_rfl) (by kernel_rfl) (by kernel_rfl) (by kernel_rfl) (by kernel_rfl) (fun _ _ _ h => h) (fun _ h => ⟨h.1, trivial⟩) (Or.inl ⟨by rfl, by intro w hSw; dsimp only at hSw; go_simp⟩) (b := false) (by kernel_rfl) hS0 ?_
              try simp only [Act.put, List.setIfInBounds_toArray, List.set_cons_zero, List.set_cons_succ]
              refine wpAnyK_take (i := 5) (v := .slice av L.length cv) false rfl (by kernel_rfl) (by kernel_rfl) (by kernel_rfl) (by kernel_rfl) (by kernel_rfl) (fun _ _ _ h => h) (fun _ h => ⟨h.1, trivial⟩) (Or.inl ⟨by rfl, by intro w hSw; dsimp only at hSw; go_simp⟩) (b := false) (by kernel_rfl) hS0 ?_
              try simp only [Act.put, List.setIfInBounds_toArray, List.set_cons_zero, List.set_cons_succ]
              refine wpAnyK_take (i := 6) (v := .int .i64 (k : Int)) true rfl (by kernel_rfl) (by kernel_rfl) (by kernel_rfl) (by kernel_rfl) (by kernel_rfl) (fun _ _ _ h => h) (fun _ h => ⟨h.1, trivial⟩) (Or.inl ⟨by rfl, by intro w hSw; dsimp only at hSw; go_simp⟩) (b := false) (by kernel_rfl) hS0 ?_
              try simp only [Act.put, List.setIfInBounds_toArray, List.set_cons_zero, List.set_cons_succ]
              refine wpAnyK_take (i := 7) (v := .pointer (some ⟨X, 5, none⟩)) true rfl (by kernel_rfl) (by kernel_rfl) (by kernel_rfl) (by kernel_rfl) (by kernel_rfl) (fun _ _ _ h => h) (fun _ h => ⟨h.1, trivial⟩) (Or.inl ⟨by rfl, by intro w hSw; dsimp only at hSw; go_simp⟩) (b := false) (by kernel_rfl) hS0 ?_
              try simp only [Act.put, List.setIfInBounds_toArray, List.set_cons_zero, List.set_cons_succ]
              refine wpAnyK_take (i := 8) (v := .slice (some ⟨gK, 0, none⟩) n cg) true rfl (by kernel_rfl) (by kernel_rfl) (by kernel_rfl) (by kernel_rfl) (by kernel_rfl) (fun _ _ _ h => h) (fun _ h => ⟨h.1, trivial⟩) (Or.inl ⟨by rfl, by intro w hSw; dsimp only at hSw; go_simp⟩) (b := false) (by kernel_rfl) hS0 ?_
              try simp only [Act.put, List.setIfInBounds_toArray, List.set_cons_zero, List.set_cons_succ]
              refine wpAnyK_take (i := 9) (v := .int .i64 (k : Int)) true rfl (by kernel_rfl) (by kernel_rfl) (by kernel_rfl) (by kernel_rfl) (by kernel_rfl) (fun _ _ _ h => h) (fun _ h => ⟨h.1, trivial⟩) (Or.inl ⟨by rfl, by intro w hSw; dsimp only at hSw; go_simp⟩) (b := false) (by kernel_rfl) hS0 ?_
              try simp only [Act.put, List.setIfInBounds_toArray, List.set_cons_zero, List.set_cons_succ]
              refine wpAnyK_take (i := 10) (v := .pointer (some ⟨gK, k, none⟩)) true rfl (by kernel_rfl) (by kernel_rfl) (by kernel_rfl) (by kernel_rfl) (by kernel_rfl) (fun _ _ _ h => h) (fun _ h => ⟨h.1, trivial⟩) (Or.inl ⟨by rfl, by intro w hSw; dsimp only at hSw; go_simp⟩) (b := false) (by kernel_rfl) hS0 ?_
              try simp only [Act.put, List.setIfInBounds_toArray, List.set_cons_zero, List.set_cons_succ]
              refine wpAnyK_take (i := 11) (v := .int .i64 xk) true rfl (by kernel_rfl) (by kernel_rfl) (by kernel_rfl) (by kernel_rfl) (by kernel_rfl) (fun _ _ _ h => h) (fun _ h => ⟨h.1, trivial⟩) (Or.inl ⟨by rfl, by intro w hSw; dsimp only at hSw; go_simp⟩) (b := false) (by kernel_rfl) hS0 ?_
              try simp only [Act.put, List.setIfInBounds_toArray, List.set_cons_zero, List.set_cons_succ]
              refine wpAnyK_take (i := 12) (v := .agg #[.int .i64 (k : Int), .int .i64 xk, .bool false]) true rfl (by kernel_rfl) (by kernel_rfl) (by kernel_rfl) (by kernel_rfl) (by kernel_rfl) (fun _ _ _ h => h) (fun _ h => ⟨h.1, trivial⟩) (Or.inl ⟨by rfl, by intro w hSw; dsimp only at hSw; go_simp⟩) (b := false) (by kernel_rfl) hS0 ?_
              try simp only [Act.put, List.setIfInBounds_toArray, List.set_cons_zero, List.set_cons_succ]
              refine wpAnyK_one (i := 13) (by kernel_rfl) rfl (by rfl) (b := false) (by kernel_rfl) (fun K hK => ?_)
              go_simp
              refine hK.out _ _ ⟨⟨cell_alloc x5, cell_alloc cK3⟩, cell_alloc cRt⟩ ?_
              try simp only [Act.put, List.setIfInBounds_toArray, List.set_cons_zero, List.set_cons_succ]
              refine wpAnyK_one (i := 14) (by kernel_rfl) rfl (by rfl) (b := false) (by kernel_rfl) (fun K hK => ?_)
              refine wp_app_rows_at msgT (.tmp 46) (.tmp 54) rfl lo (.slice av L.length cv) _ L [((k : Int), xk, false)] rfl (by exact hownA) rfl (by exact hlit) (by rw [List.length_singleton]; omega) (by rw [List.length_singleton]; omega) (by simpa using hlow) ?_
              intro v6 w6 hown6 hg6 hat6
              have x56 := grown_blk hg6 (show (wr.alloc (.cells #[.int .i64 (k : Int), .int .i64 xk, .bool false] 89)).drew.heap[X]? = _ from (Below.heap_alloc _ _ _ (blk_lt hX3)).trans hX3) (fun e => hoX e.symm)
              have cK6 := hg6.cell (show (wr.alloc (.cells #[.int .i64 (k : Int), .int .i64 xk, .bool false] 89)).drew.cell? ⟨gK, k, none⟩ = _ from cell_alloc cK3) (fun e => hoK e.symm)
              have cR6 := hg6.cell (show (wr.alloc (.cells #[.int .i64 (k : Int), .int .i64 xk, .bool false] 89)).drew.cell? ⟨R, t, none⟩ = _ from cell_alloc cRt) (fun e => hoR e.symm)
              have hG4 := (hG3.below (hal (.cells #[.int .i64 (k : Int), .int .i64 xk, .bool false] 89))).below (Below.refl _ _).drew
              have hst := GW.step (v := v6) hG4 (hIH.out t htP) (by rw [HVS.out]; exact hg6) hown6 (fun b e => by
                rw [HVS.out]
                rcases hat6 with h | h
                · left; rw [← h]; exact e
                · right; rw [h] at e; have := Option.some.inj e; omega)
              have hF4 := (hF3.grown (grown_of_below (hal (.cells #[.int .i64 (k : Int), .int .i64 xk, .bool false] 89)).drew) (fun b e => by cases e)).grown hg6 (fun b e => by rw [← HVS.out] at e; exact HV3.out t htP b e)
              have hF5 := hF4.grown (grown_store (b := R) (j := t) (v := v6)) (fun b e => by cases e; exact .inl hD2R)
              rw [hAH.out t htP] at hst
              have fR6 : w6.frozen? ⟨R, t, none⟩ = false := (heap_cell (hg6.block R (show R < (wr.alloc (.cells #[.int .i64 (k : Int), .int .i64 xk, .bool false] 89)).heap.size by have := cell_lt cRt; simp; omega) (fun e => hoR e.symm))).2.trans ((heap_cell (Below.heap_alloc _ _ _ (cell_lt cRt))).2.trans fR)
              have hv6 : ∀ b, v6.ownBlock = some b → D2 b ∨ w2.heap.size ≤ b := fun b e => by
                rcases hat6 with h | h
                · rw [h, ← HVS.out] at e; exact HV3.out t htP b e
                · rw [h] at e
                  have h1 := Option.some.inj e
                  have h2 := hF3.size
                  right
                  have h3 : (wr.alloc (.cells #[.int .i64 (k : Int), .int .i64 xk, .bool false] 89)).drew.heap.size = wr.heap.size + 1 := by simp
                  omega
              obtain ⟨a6, c6, hv6s⟩ := owns_shape hown6
              subst hv6s
              refine hK.out _ _ ⟨⟨cell_blk x56, cK6⟩, cR6⟩ ?_
              try simp only [Act.put, List.setIfInBounds_toArray, List.set_cons_zero, List.set_cons_succ]
              refine wpAnyK_take (i := 15) (v := .pointer (some ⟨R, t, none⟩)) true rfl (by kernel_rfl) (by kernel_rfl) (by kernel_rfl) (by kernel_rfl) (by kernel_rfl) (fun _ _ _ h => h) (fun _ h => ⟨h.1, trivial⟩) (Or.inl ⟨by rfl, by intro w hSw; dsimp only at hSw; go_simp⟩) (b := false) (by kernel_rfl) ⟨⟨cell_blk x56, cK6⟩, cR6⟩ ?_
              try simp only [Act.put, List.setIfInBounds_toArray, List.set_cons_zero, List.set_cons_succ]
              refine wpAnyK_one (i := 16) (by kernel_rfl) rfl (by rfl) (b := true) (by kernel_rfl) (fun K hK => ?_)
              go_simp
              refine hK.out _ _ ⟨⟨(World.cell?_setCell_far _ _ _ _ n2).trans (cell_blk x56), (World.cell?_setCell_far _ _ _ _ n4).trans cK6⟩, trivial⟩ (wpAnyK_done (by kernel_rfl) ?_ _)
              have hG5 := GW.boxes hst (B' := fun r' t' => if r' = r then (B r t' ++ telK es n P ow o x wh k t') ++ (if t' ∈ OL.take (j + 1) then [((k : Int), xk, false)] else []) else B r' t') (fun r' t' _ => by
                rw [htk]
                by_cases e1 : r' = r
                · subst e1
                  by_cases e2 : t' = t
                  · subst e2
                    rw [if_pos ⟨rfl, rfl⟩, if_pos rfl, if_pos (by simp), HL.out]
                  · rw [if_neg (fun q => e2 q.2), if_pos rfl, if_pos rfl]
                    congr 1
                    by_cases e3 : t' ∈ OL.take j
                    · rw [if_pos e3, if_pos (List.mem_append_left _ e3)]
                    · rw [if_neg e3, if_neg (fun q => by rcases List.mem_append.1 q with q | q; exact e3 q; exact e2 (List.mem_singleton.1 q))]
                · rw [if_neg (fun q => e1 q.1), if_neg e1, if_neg e1])
              have HV5 : Hid (∀ t1, t1 < P → ∀ b, (updX vs2 (r + 2, t) (.slice a6 (L ++ [((k : Int), xk, false)]).length c6) (r + 2, t1)).ownBlock = some b → D2 b ∨ w2.heap.size ≤ b) := (show ∀ t1, _ from fun t1 h1 b e => by
                unfold updX at e
                by_cases q : t1 = t
                · rw [if_pos (by rw [q])] at e; exact hv6 b e
                · rw [if_neg (ix_ne q)] at e; exact HV3.out t1 h1 b e)
              have HE5 : Hid (∀ i, (∀ t, t < P → i ≠ (r + 2, t)) → updX vs2 (r + 2, t) (.slice a6 (L ++ [((k : Int), xk, false)]).length c6) i = vs i) := (show ∀ i, _ from fun i hi => by
                unfold updX
                rw [if_neg (hi t htP)]
                exact HE3.out i hi)
              have hll : (L ++ [((k : Int), xk, false)]).length = L.length + 1 := by simp
              rw [hll] at hG5 HV5 HE5 hF5
              clear hst hG4 hF4 hown6 hg6 hat6 hv6 fR6 cR6 cK6 x56 hll
              go_wp2_with fail
              go_roundw
              case rel => exact ⟨j + 1, _, by omega, by go_num, hG5, hF5, HV5, HE5⟩
              case measure => simp [intOf]; omega
            · have hje : j = OL.length := by rw [← HCL.out]; omega
              have hG4 := GW.boxes hG3 (B' := fun r' t' => if r' = r then B r t' ++ telK es n P ow o x wh (k + 1) t' else B r' t') (fun r' t' _ => by
                by_cases e1 : r' = r
                · rw [if_pos e1, if_pos e1, telK_step, hje, List.take_length, List.append_assoc, HOL.out, HXK.out, hok, HDW.out]
                  congr 2
                  simp
                · rw [if_neg e1, if_neg e1])
              have hF4 := hF2.trans hF3 (fun b h => by
                rcases HDN.out b h with h | h
                · exact .inl h
                · right; omega)
              have HV4 : Hid (∀ t, t < P → ∀ b, (vs2 (r + 2, t)).ownBlock = some b → D b ∨ X < b) := (show ∀ t, _ from fun t ht b h => by
                rcases HV3.out t ht b h with h | h
                · exact HDN.out b h
                · right; omega)
              clear hG3 hF3
              go_wp2_with fail
              go_roundw
              case rel => exact ⟨k + 1, vs2, by omega, by go_num, hG4, hF4, HV4, HE3⟩
              case measure => simp [intOf]; omega
    · obtain rfl : k = n := by omega
      have hG4 := GW.boxes hG (B' := fun r' t' => if r' = r then B r t' ++ telL es k P ow o x wh t' else B r' t') (fun r' t' _ => rfl)
      have hF4 := hF0.trans hF (fun b h => .inl h)
      go_wp2_with fail
      go_end0
      exact ⟨rfl, vs1, hG4, hF4, (fun t ht b h => by
        rcases HV.out t ht b h with h | h
        · exact .inl h
        · right; omega), HE.out⟩
end Go.Proofs.YtdkmdcdoiaelfaaGreat

namespace Go.Proofs.YtdkmdcdoiaelfaaGreat
open Go.RowKit Go.BigFrame

/-- a slice's three parts -/
abbrev Sl := Option Addr × Nat × Nat
def slV (s : Sl) : Value := .slice s.1 s.2.1 s.2.2
/-- a row of slices, each with what it holds -/
def encP (α : Type) : Enc (Sl × α) where
  k := 1
  enc p := [slV p.1]
  len _ := rfl
  one p u hu := by rw [List.mem_singleton] at hu; subst hu; rfl
  pos := by decide
/-- rows of rows, read: R says how one of them is read -/
def NestA {α : Type} (R : World → Value → α → Prop) (w : World) (v : Value) (xs : List α) : Prop := ∃ L : List (Sl × α), RowAt (encP α) w v L ∧ L.map Prod.snd = xs ∧ ∀ p ∈ L, R w (slV p.1) p.2
theorem NestA.below {α : Type} {R : World → Value → α → Prop} {w w' : World} {v : Value} {xs : List α} (hR : ∀ u x, R w u x → R w' u x) (h : NestA R w v xs) (hb : Below w.heap.size w w') : NestA R w' v xs := by
  obtain ⟨L, h1, h2, h3⟩ := h
  exact ⟨L, h1.below hb, h2, fun p hp => hR _ _ (h3 p hp)⟩
theorem NestA.at {α : Type} {R : World → Value → α → Prop} {w : World} {a : Option Addr} {n c : Nat} {xs : List α} (h : NestA R w (.slice a n c) xs) (i : Nat) (x : α) (hx : xs[i]? = some x) : n = xs.length ∧ n ≤ c ∧ ∃ b off s, a = some ⟨b, off, none⟩ ∧ w.cell? ⟨b, off + i, none⟩ = some (slV s) ∧ R w (slV s) x := by
  obtain ⟨L, h1, h2, h3⟩ := h
  have hl : L.length = xs.length := by rw [← h2, List.length_map]
  have hi := (List.getElem?_eq_some_iff.1 hx).1
  obtain ⟨_, _, e, hc, _⟩ := id h1
  cases e
  obtain ⟨b, off, p, rfl, hp, _, hc0⟩ := h1.elem i (by omega)
  have hxp : p.2 = x := by
    rw [← h2, List.getElem?_map, hp] at hx
    exact Option.some.inj hx
  refine ⟨hl, hc, b, off, p.1, rfl, ?_, hxp ▸ h3 p (List.mem_of_getElem? hp)⟩
  have := hc0 0 _ rfl
  have hk : (encP α).k = 1 := rfl
  rw [hk, Nat.mul_one, Nat.add_zero] at this
  exact this
theorem NestA.len {α : Type} {R : World → Value → α → Prop} {w : World} {a : Option Addr} {n c : Nat} {xs : List α} (h : NestA R w (.slice a n c) xs) : n = xs.length ∧ n ≤ c ∧ (a = none → c = 0) := by
  obtain ⟨L, h1, h2, -⟩ := h
  have hl : L.length = xs.length := by rw [← h2, List.length_map]
  obtain ⟨a', cap, e, hc, hn, _⟩ := h1
  cases e
  exact ⟨hl, hc, hn⟩
/-- boxes of a worker; of all workers -/
abbrev BoxR : World → Value → List (List Msg) → Prop := NestA (RowAt encM)
abbrev BoxA : World → Value → List (List (List Msg)) → Prop := NestA BoxR
abbrev KnA : World → Value → List (List Int) → Prop := NestA IntsAt
theorem BoxR.below {w w' : World} {v : Value} {xs : List (List Msg)} (h : BoxR w v xs) (hb : Below w.heap.size w w') : BoxR w' v xs := NestA.below (fun _ _ hx => hx.below hb) h hb
theorem BoxA.below {w w' : World} {v : Value} {xs : List (List (List Msg))} (h : BoxA w v xs) (hb : Below w.heap.size w w') : BoxA w' v xs := NestA.below (fun _ _ hx => BoxR.below hx hb) h hb
theorem KnA.below {w w' : World} {v : Value} {xs : List (List Int)} (h : KnA w v xs) (hb : Below w.heap.size w w') : KnA w' v xs := NestA.below (fun _ _ hx => hx.below hb) h hb
def encE : Enc E2 := ⟨2, fun p => [.int .i64 p.1, .int .i64 p.2], fun _ => rfl, fun e u hu => by simp at hu; rcases hu with h | h <;> subst h <;> rfl, by decide⟩
theorem EdgesAt.row {w : World} {v : Value} {es : List E2} (h : EdgesAt w v es) (hl : es.length ≤ 1000000) : RowAt encE w v es := by
  obtain ⟨a, cap, rfl, h1, h2, _, h4⟩ := h
  refine ⟨a, cap, rfl, h1, h2, by omega, fun j u hj => ?_⟩
  have hjl := (List.getElem?_eq_some_iff.1 hj).1
  rw [flatR_length] at hjl
  have hk : encE.k = 2 := rfl
  rw [hk] at hjl
  have hq : j / 2 < es.length := by omega
  obtain ⟨b, off, ha, c0, c1⟩ := h4 (j / 2) _ (List.getElem?_eq_getElem hq)
  refine ⟨b, off, ha, ?_⟩
  have hu : (flatE es)[j]? = some u := hj
  by_cases hp : j % 2 = 0
  · have hj2 : j = j / 2 * 2 := by omega
    rw [hj2] at hu ⊢
    rw [(flatE_get es _ _ (List.getElem?_eq_getElem hq)).1] at hu
    rw [← Option.some.inj hu]
    exact c0
  · have hj2 : j = j / 2 * 2 + 1 := by omega
    rw [hj2] at hu ⊢
    rw [(flatE_get es _ _ (List.getElem?_eq_getElem hq)).2] at hu
    rw [← Option.some.inj hu]
    exact c1
theorem geRT : SliceT Tryz.prog 23 62 (.agg #[.int .i64 0, .int .i64 0]) encE.k 16 := ⟨Tryz.underlying23, by kernel_rfl, rfl, by decide⟩
theorem ge_nil (x : Addr) (n c : Nat) (w : World) : (binOp .eql 23 (.slice (some x) n c) (.slice none 0 0)).run Tryz.prog w = .ok (.bool false) w := by
  have h : ∀ d : Nat, (Op.equalIn (d + 1) 23 (.slice (some x) n c) (.slice none 0 0)).run Tryz.prog w = .ok false w := fun d => by
    simp [Op.equalIn, run_underlying Tryz.underlying23]
  simp only [binOp]
  simp [Op.equal, Op.maxDepth, h 9999]
set_option maxRecDepth 100000 in
theorem geclone_any (v : Value) (xs : List _) (w : World) (hi : RowAt encE w v xs) (hn : xs.length ≤ 1000000) :
    Calls Tryz.prog 65 #[v] w fun e w' => ∃ x, e = .returned x ∧ w'.ownsRow w.heap.size 62 encE.k x xs.length (flatR encE xs) ∧ Below w.heap.size w w' := by
  obtain ⟨a, cap, rfl, h1, h2⟩ := hi.shape
  cases a with
  | none =>
    obtain rfl := h2 rfl
    obtain rfl : xs = [] := List.eq_nil_of_length_eq_zero (by omega)
    have hnil := @Lib.run_eql_slice_nil
    go_enter Tryz.func65, Tryz.ntmps65
    go_wp2
    go_ret
    exact ⟨_, rfl, World.ownsRow_nil _ _ _ _, Below.refl _ _⟩
  | some ad =>
    clear h2
    have hnil := ge_nil ad xs.length cap
    have hb0 : Below w.heap.size w (w.alloc (.cells #[] 62)) := (Below.refl _ _).alloc (Nat.le_refl _) _
    have hown0 : (w.alloc (.cells #[] 62)).ownsRow w.heap.size 62 encE.k (.slice (some ⟨w.heap.size, 0, none⟩) 0 0) 0 (flatR encE []) := World.ownsRow_lit w #[] 0 (Nat.le_refl _) (by unfold maxLen; omega) rfl
    go_enter Tryz.func65, Tryz.ntmps65
    go_wp2_with (at_builtin; refine wpList_app_rows geRT rfl _ _ rfl w.heap.size _ _ [] xs rfl hown0 rfl (hi.below hb0) (by simp; omega) (by simp; omega) (by simp) ?_; intro v6 w6 hown6 hg6)
    go_ret
    have hb6 := below_app' hb0 hown0 hg6
    rw [List.nil_append] at hown6
    exact ⟨_, rfl, hown6, hb6⟩
theorem rrT (α : Type) : SliceT Tryz.prog 33 22 (.slice none 0 0) (encP α).k 24 := ⟨Tryz.underlying33, by kernel_rfl, rfl, Nat.zero_lt_one⟩
theorem rmT (α : Type) : SliceT Tryz.prog 75 87 (.slice none 0 0) (encP α).k 24 := ⟨Tryz.underlying75, by kernel_rfl, rfl, Nat.zero_lt_one⟩
theorem rrmT (α : Type) : SliceT Tryz.prog 34 75 (.slice none 0 0) (encP α).k 24 := ⟨Tryz.underlying34, by kernel_rfl, rfl, Nat.zero_lt_one⟩
theorem rrclone_nil (x : Addr) (n c : Nat) (w : World) : (binOp .eql 33 (.slice (some x) n c) (.slice none 0 0)).run Tryz.prog w = .ok (.bool false) w := by
  have h : ∀ d : Nat, (Op.equalIn (d + 1) 33 (.slice (some x) n c) (.slice none 0 0)).run Tryz.prog w = .ok false w := fun d => by
    simp [Op.equalIn, run_underlying Tryz.underlying33]
  simp only [binOp]
  simp [Op.equal, Op.maxDepth, h 9999]
set_option maxRecDepth 100000 in
theorem rrclone_any {α : Type} (v : Value) (xs : List _) (w : World) (hi : RowAt (encP α) w v xs) (hn : xs.length ≤ 1000000) :
    Calls Tryz.prog 66 #[v] w fun e w' => ∃ x, e = .returned x ∧ w'.ownsRow w.heap.size 22 (encP α).k x xs.length (flatR (encP α) xs) ∧ Below w.heap.size w w' := by
  obtain ⟨a, cap, rfl, h1, h2⟩ := hi.shape
  cases a with
  | none =>
    obtain rfl := h2 rfl
    obtain rfl : xs = [] := List.eq_nil_of_length_eq_zero (by omega)
    have hnil := @Lib.run_eql_slice_nil
    go_enter Tryz.func66, Tryz.ntmps66
    go_wp2
    go_ret
    exact ⟨_, rfl, World.ownsRow_nil _ _ _ _, Below.refl _ _⟩
  | some ad =>
    clear h2
    have hnil := rrclone_nil ad xs.length cap
    have hb0 : Below w.heap.size w (w.alloc (.cells #[] 22)) := (Below.refl _ _).alloc (Nat.le_refl _) _
    have hown0 : (w.alloc (.cells #[] 22)).ownsRow w.heap.size 22 (encP α).k (.slice (some ⟨w.heap.size, 0, none⟩) 0 0) 0 (flatR (encP α) []) := World.ownsRow_lit w #[] 0 (Nat.le_refl _) (by unfold maxLen; omega) rfl
    go_enter Tryz.func66, Tryz.ntmps66
    go_wp2_with (at_builtin; refine wpList_app_rows (rrT α) rfl _ _ rfl w.heap.size _ _ [] xs rfl hown0 rfl (hi.below hb0) (by simp; omega) (by simp; omega) (by simp) ?_; intro v6 w6 hown6 hg6)
    go_ret
    have hb6 := below_app' hb0 hown0 hg6
    rw [List.nil_append] at hown6
    exact ⟨_, rfl, hown6, hb6⟩
theorem rrmclone_nil (x : Addr) (n c : Nat) (w : World) : (binOp .eql 34 (.slice (some x) n c) (.slice none 0 0)).run Tryz.prog w = .ok (.bool false) w := by
  have h : ∀ d : Nat, (Op.equalIn (d + 1) 34 (.slice (some x) n c) (.slice none 0 0)).run Tryz.prog w = .ok false w := fun d => by
    simp [Op.equalIn, run_underlying Tryz.underlying34]
  simp only [binOp]
  simp [Op.equal, Op.maxDepth, h 9999]
set_option maxRecDepth 100000 in
theorem rrmclone_any {α : Type} (v : Value) (xs : List _) (w : World) (hi : RowAt (encP α) w v xs) (hn : xs.length ≤ 1000000) :
    Calls Tryz.prog 67 #[v] w fun e w' => ∃ x, e = .returned x ∧ w'.ownsRow w.heap.size 75 (encP α).k x xs.length (flatR (encP α) xs) ∧ Below w.heap.size w w' := by
  obtain ⟨a, cap, rfl, h1, h2⟩ := hi.shape
  cases a with
  | none =>
    obtain rfl := h2 rfl
    obtain rfl : xs = [] := List.eq_nil_of_length_eq_zero (by omega)
    have hnil := @Lib.run_eql_slice_nil
    go_enter Tryz.func67, Tryz.ntmps67
    go_wp2
    go_ret
    exact ⟨_, rfl, World.ownsRow_nil _ _ _ _, Below.refl _ _⟩
  | some ad =>
    clear h2
    have hnil := rrmclone_nil ad xs.length cap
    have hb0 : Below w.heap.size w (w.alloc (.cells #[] 75)) := (Below.refl _ _).alloc (Nat.le_refl _) _
    have hown0 : (w.alloc (.cells #[] 75)).ownsRow w.heap.size 75 (encP α).k (.slice (some ⟨w.heap.size, 0, none⟩) 0 0) 0 (flatR (encP α) []) := World.ownsRow_lit w #[] 0 (Nat.le_refl _) (by unfold maxLen; omega) rfl
    go_enter Tryz.func67, Tryz.ntmps67
    go_wp2_with (at_builtin; refine wpList_app_rows (rrmT α) rfl _ _ rfl w.heap.size _ _ [] xs rfl hown0 rfl (hi.below hb0) (by simp; omega) (by simp; omega) (by simp) ?_; intro v6 w6 hown6 hg6)
    go_ret
    have hb6 := below_app' hb0 hown0 hg6
    rw [List.nil_append] at hown6
    exact ⟨_, rfl, hown6, hb6⟩
theorem rmclone_nil (x : Addr) (n c : Nat) (w : World) : (binOp .eql 75 (.slice (some x) n c) (.slice none 0 0)).run Tryz.prog w = .ok (.bool false) w := by
  have h : ∀ d : Nat, (Op.equalIn (d + 1) 75 (.slice (some x) n c) (.slice none 0 0)).run Tryz.prog w = .ok false w := fun d => by
    simp [Op.equalIn, run_underlying Tryz.underlying75]
  simp only [binOp]
  simp [Op.equal, Op.maxDepth, h 9999]
set_option maxRecDepth 100000 in
theorem rmclone_any {α : Type} (v : Value) (xs : List _) (w : World) (hi : RowAt (encP α) w v xs) (hn : xs.length ≤ 1000000) :
    Calls Tryz.prog 68 #[v] w fun e w' => ∃ x, e = .returned x ∧ w'.ownsRow w.heap.size 87 (encP α).k x xs.length (flatR (encP α) xs) ∧ Below w.heap.size w w' := by
  obtain ⟨a, cap, rfl, h1, h2⟩ := hi.shape
  cases a with
  | none =>
    obtain rfl := h2 rfl
    obtain rfl : xs = [] := List.eq_nil_of_length_eq_zero (by omega)
    have hnil := @Lib.run_eql_slice_nil
    go_enter Tryz.func68, Tryz.ntmps68
    go_wp2
    go_ret
    exact ⟨_, rfl, World.ownsRow_nil _ _ _ _, Below.refl _ _⟩
  | some ad =>
    clear h2
    have hnil := rmclone_nil ad xs.length cap
    have hb0 : Below w.heap.size w (w.alloc (.cells #[] 87)) := (Below.refl _ _).alloc (Nat.le_refl _) _
    have hown0 : (w.alloc (.cells #[] 87)).ownsRow w.heap.size 87 (encP α).k (.slice (some ⟨w.heap.size, 0, none⟩) 0 0) 0 (flatR (encP α) []) := World.ownsRow_lit w #[] 0 (Nat.le_refl _) (by unfold maxLen; omega) rfl
    go_enter Tryz.func68, Tryz.ntmps68
    go_wp2_with (at_builtin; refine wpList_app_rows (rmT α) rfl _ _ rfl w.heap.size _ _ [] xs rfl hown0 rfl (hi.below hb0) (by simp; omega) (by simp; omega) (by simp) ?_; intro v6 w6 hown6 hg6)
    go_ret
    have hb6 := below_app' hb0 hown0 hg6
    rw [List.nil_append] at hown6
    exact ⟨_, rfl, hown6, hb6⟩
theorem msgclone_nil (x : Addr) (n c : Nat) (w : World) : (binOp .eql 87 (.slice (some x) n c) (.slice none 0 0)).run Tryz.prog w = .ok (.bool false) w := by
  have h : ∀ d : Nat, (Op.equalIn (d + 1) 87 (.slice (some x) n c) (.slice none 0 0)).run Tryz.prog w = .ok false w := fun d => by
    simp [Op.equalIn, run_underlying Tryz.underlying87]
  simp only [binOp]
  simp [Op.equal, Op.maxDepth, h 9999]
set_option maxRecDepth 100000 in
theorem msgclone_any (v : Value) (xs : List _) (w : World) (hi : RowAt encM w v xs) (hn : xs.length ≤ 1000000) :
    Calls Tryz.prog 69 #[v] w fun e w' => ∃ x, e = .returned x ∧ w'.ownsRow w.heap.size 89 (encM).k x xs.length (flatR encM xs) ∧ Below w.heap.size w w' := by
  obtain ⟨a, cap, rfl, h1, h2⟩ := hi.shape
  cases a with
  | none =>
    obtain rfl := h2 rfl
    obtain rfl : xs = [] := List.eq_nil_of_length_eq_zero (by omega)
    have hnil := @Lib.run_eql_slice_nil
    go_enter Tryz.func69, Tryz.ntmps69
    go_wp2
    go_ret
    exact ⟨_, rfl, World.ownsRow_nil _ _ _ _, Below.refl _ _⟩
  | some ad =>
    clear h2
    have hnil := msgclone_nil ad xs.length cap
    have hb0 : Below w.heap.size w (w.alloc (.cells #[] 89)) := (Below.refl _ _).alloc (Nat.le_refl _) _
    have hown0 : (w.alloc (.cells #[] 89)).ownsRow w.heap.size 89 (encM).k (.slice (some ⟨w.heap.size, 0, none⟩) 0 0) 0 (flatR encM []) := World.ownsRow_lit w #[] 0 (Nat.le_refl _) (by unfold maxLen; omega) rfl
    go_enter Tryz.func69, Tryz.ntmps69
    go_wp2_with (at_builtin; refine wpList_app_rows msgT rfl _ _ rfl w.heap.size _ _ [] xs rfl hown0 rfl (hi.below hb0) (by simp; omega) (by simp; omega) (by simp) ?_; intro v6 w6 hown6 hg6)
    go_ret
    have hb6 := below_app' hb0 hown0 hg6
    rw [List.nil_append] at hown6
    exact ⟨_, rfl, hown6, hb6⟩
/-- one more cell: a row of one's own in a new block is stored into it -/
theorem GridA.insert {w w1 : World} {lo : Nat} {I : Ix → Prop} {ad : Ix → Nat × Nat} {vs : Ix → Value} {TE kk len : Ix → Nat} {cs : Ix → List Value} {j : Ix} {n : Nat} {v u : Value} {c : List Value} (h : GridA w lo I ad vs TE kk len cs) (hj : ¬ I j) (hb : Below w.heap.size w w1) (hown : w1.ownsRow w.heap.size (TE j) (kk j) v n c)
    (hc : w.cell? ⟨(ad j).1, (ad j).2, none⟩ = some u) (hf : w.frozen? ⟨(ad j).1, (ad j).2, none⟩ = false) (hl : lo ≤ (ad j).1) (hls : lo ≤ w.heap.size) (ho : ∀ i, I i → (vs i).ownBlock ≠ some (ad j).1) (hd : ∀ i, I i → ad i ≠ ad j) :
    GridA (w1.setCell ⟨(ad j).1, (ad j).2, none⟩ v) lo (fun i => I i ∨ i = j) ad (updX vs j v) TE kk (updX len j n) (updX cs j c) := by
  have h1 := h.below hb
  have hc1 : w1.cell? ⟨(ad j).1, (ad j).2, none⟩ = some u := (hb.cell (p := ⟨(ad j).1, (ad j).2, none⟩) (cell_lt hc)).trans hc
  have hf1 : w1.frozen? ⟨(ad j).1, (ad j).2, none⟩ = false := (heap_cell (hb.block _ (cell_lt hc))).2.trans hf
  have hst : w1.grownBy (w1.setCell ⟨(ad j).1, (ad j).2, none⟩ v) (some (ad j).1) := grown_store
  have hne : ∀ i, I i → i ≠ j := fun i hi e => hj (e ▸ hi)
  have hlt := cell_lt hc
  refine ⟨fun i hi => ?_, fun i hi => ?_, fun i hi => ?_, fun i hi => ?_, fun i l hi hl2 => ?_, fun i l hi hl2 hil b hb2 => ?_, fun i l hi hl2 hil => ?_⟩
  · rcases hi with hi | rfl
    · exact h.low i hi
    · exact hl
  · unfold updX
    rcases hi with hi | rfl
    · rw [if_neg (hne i hi), World.cell?_setCell_other]
      · exact h1.cell i hi
      · intro e
        have := Addr.mk.inj e
        exact hd i hi (Prod.ext this.1.symm this.2.1.symm)
    · rw [if_pos rfl]; exact World.cell?_setCell_same _ _ _ hc1
  · rw [World.frozen?_setCell]
    rcases hi with hi | rfl
    · exact h1.free i hi
    · exact hf1
  · unfold updX
    rcases hi with hi | rfl
    · rw [if_neg (hne i hi), if_neg (hne i hi), if_neg (hne i hi)]
      exact (h1.own i hi).kept hst (.inr (ho i hi))
    · rw [if_pos rfl, if_pos rfl, if_pos rfl]
      refine (owns_base hown hls).kept hst (.inr fun e => ?_)
      have := (hown.lt _ e).1
      omega
  · unfold updX
    have hvl : ∀ l, I l ∨ l = j → v.ownBlock ≠ some (ad l).1 := fun l hl2 e => by
      have h2 := (hown.lt _ e).1
      rcases hl2 with hl2 | rfl
      · have := h.lt l hl2; omega
      · omega
    rcases hi with hi | rfl
    · rw [if_neg (hne i hi)]
      rcases hl2 with hl2 | rfl
      · exact h.off i l hi hl2
      · exact ho i hi
    · rw [if_pos rfl]; exact hvl l hl2
  · unfold updX at hb2 ⊢
    rcases hi with hi | rfl
    · rw [if_neg (hne i hi)] at hb2
      rcases hl2 with hl2 | rfl
      · rw [if_neg (hne l hl2)]; exact h.apart i l hi hl2 hil b hb2
      · rw [if_pos rfl]
        intro e
        have h2 := (hown.lt _ e).1
        have := ((h.own i hi).lt b hb2).2
        omega
    · rw [if_pos rfl] at hb2
      have h2 := (hown.lt _ hb2).1
      rcases hl2 with hl2 | rfl
      · rw [if_neg (hne l hl2)]
        intro e
        have := ((h.own l hl2).lt b e).2
        omega
      · exact absurd rfl hil
  · rcases hi with hi | rfl
    · rcases hl2 with hl2 | rfl
      · exact h.dist i l hi hl2 hil
      · exact hd i hi
    · rcases hl2 with hl2 | rfl
      · exact fun e => hd l hl2 e.symm
      · exact absurd rfl hil
theorem GridA.empty (w : World) (lo : Nat) (ad : Ix → Nat × Nat) (vs : Ix → Value) (TE kk len : Ix → Nat) (cs : Ix → List Value) {I : Ix → Prop} (hI : ∀ i, ¬ I i) : GridA w lo I ad vs TE kk len cs :=
  ⟨fun i h => absurd h (hI i), fun i h => absurd h (hI i), fun i h => absurd h (hI i), fun i h => absurd h (hI i), fun i _ h => absurd h (hI i), fun i _ h => absurd h (hI i), fun i _ h => absurd h (hI i)⟩
theorem GridA.addr {w : World} {lo : Nat} {I : Ix → Prop} {ad ad' : Ix → Nat × Nat} {vs vs' : Ix → Value} {TE kk len : Ix → Nat} {cs : Ix → List Value} (h : GridA w lo I ad vs TE kk len cs) (e : ∀ i, I i → ad i = ad' i) (e2 : ∀ i, I i → vs i = vs' i) : GridA w lo I ad' vs' TE kk len cs :=
  ⟨fun i hi => by rw [← e i hi]; exact h.low i hi, fun i hi => by rw [← e i hi, ← e2 i hi]; exact h.cell i hi, fun i hi => by rw [← e i hi]; exact h.free i hi, fun i hi => by rw [← e2 i hi]; exact h.own i hi, fun i j hi hj => by rw [← e j hj, ← e2 i hi]; exact h.off i j hi hj, fun i j hi hj hne b hb => by rw [← e2 j hj]; rw [← e2 i hi] at hb; exact h.apart i j hi hj hne b hb, fun i j hi hj hne => by rw [← e i hi, ← e j hj]; exact h.dist i j hi hj hne⟩
end Go.Proofs.YtdkmdcdoiaelfaaGreat
