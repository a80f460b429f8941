/- The contract of a worker's settling. The contract of the other workers that own neighbours of a node. The memory of a world of workers: rows of numbers and boxes of messages; what stays as it was. -/
import Derived.Test.YtdkmdcdoiaelfaaRdNb
import Derived.Test.YtdkmdcdoiaelfaaRndP
import Derived.Test.YtdkmdcdoiaelfaaDegH
import Derived.Deep.RegionHeld3
import Derived.Deep.DeepCutAuto
import Derived.Test.YtdkmdcdoiaelfaaShelf
import Derived.Test.YtdkmdcdoiaelfaaAppAt
namespace Go.Proofs.Ytdkmdcdoiaelfaa
open Go.RowKit Go.BigFrame

/-- the owners of all nodes -/
def owI (n : Nat) (ow : Nat → Nat) : List Int := fnL n fun v => (ow v : Int)
theorem owI_length (n : Nat) (ow : Nat → Nat) : (owI n ow).length = n := fnL_length _ _
theorem owI_get (n : Nat) (ow : Nat → Nat) (i : Nat) (h : i < n) : (owI n ow)[i]? = some ((ow i : Nat) : Int) := fnL_get _ _ _ h
theorem nearL_length (es : List E2) (n : Nat) : (nearL es n).length = n := by simp [nearL]
theorem nearL_get (es : List E2) (n i : Nat) (h : i < n) : (nearL es n)[i]? = some (castL (nbL es n i)) := by
  unfold nearL
  rw [List.getElem?_map, List.getElem?_range h]; rfl
/-- what a worker sees: the owners, the neighbours, and the list that it knows, which is its own -/
structure SetW (w : World) (s n : Nat) (es : List E2) (ow : Nat → Nat) (ao aN ag : Option Addr) (co cN cg : Nat) (z : List Int) : Prop where
  own : w.ownsRow s 3 1 (.slice ag n cg) n (intsV z)
  ow : IntsAt w (.slice ao n co) (owI n ow)
  oof : ∀ b, (Value.slice ag n cg).ownBlock = some b → Off b (.slice ao n co)
  nr : RowsX (fun b => (Value.slice ag n cg).ownBlock ≠ some b) w (.slice aN n cN) (nearL es n)
section
variable {w w' : World} {s n : Nat} {es : List E2} {ow : Nat → Nat} {ao aN ag : Option Addr} {co cN cg : Nat} {z z' : List Int}
theorem SetW.turn (h : SetW w s n es ow ao aN ag co cN cg z) (hg : w.grownBy w' (Value.slice ag n cg).ownBlock) (hown : w'.ownsRow s 3 1 (.slice ag n cg) n (intsV z')) : SetW w' s n es ow ao aN ag co cN cg z' :=
  ⟨hown, h.ow.grown hg (fun g e => h.oof g e), h.oof, h.nr.grown hg (fun _ hq => hq)⟩
theorem SetW.below (h : SetW w s n es ow ao aN ag co cN cg z) (hb : Below w.heap.size w w') : SetW w' s n es ow ao aN ag co cN cg z :=
  h.turn (grown_none (grown_of_below hb)) (h.own.kept (grown_of_below hb) (Classical.em _))
theorem SetW.len (h : SetW w s n es ow ao aN ag co cN cg z) : z.length = n := by have := h.own.1; simpa [intsV] using this
end
/-- the numbers that a row holds -/
def readL (w : World) (v : Value) (n : Nat) : List Int := match v with
  | .slice (some p) _ _ => (List.range n).map fun i => intOf ((w.cell? ⟨p.block, p.off + i, none⟩).getD default)
  | _ => []
theorem readL_own {w : World} {s n : Nat} {v : Value} {z : List Int} (h : w.ownsRow s 3 1 v n (intsV z)) : readL w v n = z := by
  have hz : z.length = n := by have := h.1; simpa [intsV] using this
  by_cases hn : 0 < n
  · obtain ⟨g, cap, rfl, -, -, -, -, hc⟩ := ownsI_at h hn
    unfold readL
    apply List.ext_getElem?
    intro i
    by_cases hi : i < n
    · have hx : z[i]? = some z[i] := List.getElem?_eq_getElem (by omega)
      rw [List.getElem?_map, List.getElem?_range hi, hx]
      simp only [Option.map_some, Nat.zero_add]
      rw [hc i _ hx]; rfl
    · rw [List.getElem?_eq_none (by simp; omega), List.getElem?_eq_none (by omega)]
  · obtain rfl : n = 0 := by omega
    obtain rfl : z = [] := List.eq_nil_of_length_eq_zero hz
    unfold readL
    split <;> simp
theorem swpV_ne {es : List E2} {n : Nat} {ow : Nat → Nat} {o k : Nat} {y z : List Int} (hl : z.length = n) (hd : Dn y z) (hk : k < n) (h1 : ow k = o) (h2 : nbH es n k z < z.getD k 0) : swpV es n ow o z k = z.set k (nbH es n k z) ∧ z.set k (nbH es n k z) ≠ y := by
  refine ⟨by unfold swpV; rw [if_pos ⟨h1, h2⟩], fun e => ?_⟩
  have h3 := getD_set z k k (nbH es n k z)
  rw [if_pos ⟨rfl, by omega⟩, e] at h3
  have := hd.le k
  omega
set_option maxRecDepth 100000 in
set_option maxHeartbeats 6400000 in
theorem rdsettle_any (n o : Nat) (P : Int) (hv0 : Value) (es : List E2) (ow : Nat → Nat) (ao aN ag : Option Addr) (co cN cg s : Nat) (x : List Int) (w : World) (hn : n ≤ 64) (hW : SetW w s n es ow ao aN ag co cN cg x) :
    Calls Try.prog 69 #[.agg #[.int .i64 P, .slice ao n co, hv0, .slice aN n cN, .int .i64 o, .slice ag n cg]] w fun e w' => e = .returned (.tuple #[]) ∧ w'.ownsRow s 3 1 (.slice ag n cg) n (intsV (setX es n ow o x)) ∧ w.grownBy w' (Value.slice ag n cg).ownBlock := by
  obtain ⟨hXX, hb0⟩ := boxG_new w #[.int .i64 P, .slice ao n co, hv0, .slice aN n cN, .int .i64 o, .slice ag n cg] 110
  obtain ⟨wA, hwA⟩ : ∃ W : World, W = w.alloc (.cells #[.int .i64 P, .slice ao n co, hv0, .slice aN n cN, .int .i64 o, .slice ag n cg] 110) := ⟨_, rfl⟩
  rw [← hwA] at hXX hb0
  have HWA := Lib.hid hwA
  have hWA := hW.below hb0
  have hXo : (Value.slice ag n cg).ownBlock ≠ some w.heap.size := fun e => by have := (hW.own.lt _ e).2; omega
  clear hwA hW
  go_enter Try.func69, Try.ntmps69
  go_wp2_with (rw [← HWA.out])
  go_loopw [2] (fun vc wr => ∃ (y : List Int) (c : Bool), vc = .bool c ∧ Hid (c = false → swpL es n ow o y = y) ∧ Hid (setX es n ow o y = setX es n ow o x) ∧ SetW wr s n es ow ao aN ag co cN cg y ∧ wA.grownBy wr (Value.slice ag n cg).ownBlock) (fun vc wr => match vc with | .bool true => posS (readL wr (.slice ag n cg) n) + 1 | _ => 0)
  case atStart => exact ⟨x, true, rfl, (show _ → _ from fun e => by cases e), (show _ = _ from rfl), hWA, World.grownBy.refl _ _⟩
  case round =>
    obtain ⟨y, c, rfl, HC, HY, hSW, hg⟩ := hrel
    have hXr := grown_blk hg hXX (fun e => hXo e.symm)
    obtain ⟨q0, q1, q2, q3, q4, q5⟩ : wr.cell? ⟨w.heap.size, 0, none⟩ = some (.int .i64 P) ∧ wr.cell? ⟨w.heap.size, 1, none⟩ = some (.slice ao n co) ∧ wr.cell? ⟨w.heap.size, 2, none⟩ = some hv0 ∧ wr.cell? ⟨w.heap.size, 3, none⟩ = some (.slice aN n cN) ∧ wr.cell? ⟨w.heap.size, 4, none⟩ = some (.int .i64 (o : Int)) ∧ wr.cell? ⟨w.heap.size, 5, none⟩ = some (.slice ag n cg) := ⟨cell_blk hXr, cell_blk hXr, cell_blk hXr, cell_blk hXr, cell_blk hXr, cell_blk hXr⟩
    cases c with
    | false =>
      have hfix := HC.out rfl
      have hres : setX es n ow o x = y := by rw [← HY.out, setX_fixed hfix]
      clear q0 q1 q2 q3 q4 q5
      go_wp2_with fail
      go_end0
      exact ⟨rfl, by first | exact hSW.own | (rw [hres]; exact hSW.own), grown_trans (grown_none (grown_of_below hb0)) hg⟩
    | true =>
      have hyl := hSW.len
      have hpy : posS (readL wr (.slice ag n cg) n) = posS y := by rw [readL_own hSW.own]
      go_wp2_with fail
      go_loopw [2, 14] (fun vc vi wr2 => ∃ (k : Nat) (c : Bool), k ≤ n ∧ vi = .int .i64 (k : Int) ∧ vc = .bool c ∧ Hid (c = true ↔ swpK es n ow o y k ≠ y) ∧ SetW wr2 s n es ow ao aN ag co cN cg (swpK es n ow o y k) ∧ wA.grownBy wr2 (Value.slice ag n cg).ownBlock) (fun _ vi _ => n - (intOf vi).toNat)
      case atStart => exact ⟨0, false, Nat.zero_le _, rfl, rfl, (show _ ↔ _ from ⟨(fun e => by cases e), fun e => absurd rfl e⟩), hSW, hg⟩
      case round =>
        clear q0 q1 q2 q3 q4 q5 hXr
        obtain ⟨k, c, hk, rfl, rfl, HC2, hSW2, hg2⟩ := hrel
        have hXr := grown_blk hg2 hXX (fun e => hXo e.symm)
        obtain ⟨q0, q1, q2, q3, q4, q5⟩ : wr.cell? ⟨w.heap.size, 0, none⟩ = some (.int .i64 P) ∧ wr.cell? ⟨w.heap.size, 1, none⟩ = some (.slice ao n co) ∧ wr.cell? ⟨w.heap.size, 2, none⟩ = some hv0 ∧ wr.cell? ⟨w.heap.size, 3, none⟩ = some (.slice aN n cN) ∧ wr.cell? ⟨w.heap.size, 4, none⟩ = some (.int .i64 (o : Int)) ∧ wr.cell? ⟨w.heap.size, 5, none⟩ = some (.slice ag n cg) := ⟨cell_blk hXr, cell_blk hXr, cell_blk hXr, cell_blk hXr, cell_blk hXr, cell_blk hXr⟩
        by_cases hlt : k < n
        · have hlt3 : (k : Int) < n := by omega
          have hzl := hSW2.len
          obtain ⟨z, hz⟩ : ∃ z, swpK es n ow o y k = z := ⟨_, rfl⟩
          have hst := swpK_step (es := es) (n := n) (ow := ow) (w := o) y k
          have hdn := swpK_dn (es := es) (n := n) (ow := ow) (w := o) y k
          rw [hz] at hst hzl hSW2 hdn
          have HST := Lib.hid hst
          have HZ := Lib.hid hz
          clear hst hz
          obtain ⟨-, bN, oN, a5, c5, rfl, hcN, -, cN1, hrow, hrowQ⟩ := hSW2.nr.at k _ (nearL_get es n k hlt)
          obtain ⟨bO, oO, rfl, cO⟩ : ∃ b off, ao = some ⟨b, off, none⟩ ∧ wr.cell? ⟨b, off + k, none⟩ = some (.int .i64 (ow k : Int)) := by
            have hi := hSW2.ow
            obtain ⟨_, _, hv', h1, _, _, h4⟩ := (show IntsAt wr (.slice ao (owI n ow).length co) (owI n ow) by rw [owI_length]; exact hi)
            cases hv'
            exact h4 k _ (owI_get n ow k hlt)
          have hcO : n ≤ co := by
            have hi := hSW2.ow
            obtain ⟨_, _, hv', h1, _⟩ := (show IntsAt wr (.slice (some ⟨bO, oO, none⟩) (owI n ow).length co) (owI n ow) by rw [owI_length]; exact hi)
            cases hv'
            rw [owI_length] at h1; exact h1
          obtain ⟨hbK, oK, gK, cK, hgK, hcK⟩ : ∃ (_ : True) (_ : True) (g c : Nat), (Value.slice ag n cg) = .slice (some ⟨g, 0, none⟩) n c ∧ (g < wr.heap.size ∧ (∀ j, wr.frozen? ⟨g, j, none⟩ = false) ∧ (∀ i x, z[i]? = some x → wr.cell? ⟨g, i, none⟩ = some (.int .i64 x)) ∧ n ≤ c) := by
            obtain ⟨g, c, e, -, h1, h2, h3, h4⟩ := ownsI_at hSW2.own (by omega)
            exact ⟨trivial, trivial, g, c, e, h2, h3, h4, h1⟩
          obtain ⟨hgl, hgf, hgc, hgn⟩ := hcK
          obtain ⟨rfl, -, rfl⟩ : ag = some ⟨gK, 0, none⟩ ∧ True ∧ cg = cK := by cases hgK; exact ⟨rfl, trivial, rfl⟩
          have hkz : z[k]? = some (z.getD k 0) := get_of_getD (by omega)
          have cK0 := hgc k _ hkz
          by_cases hok : ow k = o
          · have d1 : ((ow k : Int) != (o : Int)) = false := by simp; omega
            have hNl : (nbL es n k).length ≤ 64 := Nat.le_trans (List.length_filter_le _ _) (by rw [List.length_range]; exact hn)
            have hNn : ∀ u ∈ nbL es n k, u < n := fun u hu => List.mem_range.1 (List.mem_filter.1 hu).1
            have HCL := Lib.hid (castL_length (nbL es n k))
            have hNc : (castL (nbL es n k)).length ≤ 64 := by rw [HCL.out]; exact hNl
            go_wp2_with fail
            go_quiet (fail)
            obtain ⟨w1, hw1⟩ : ∃ W : World, W = wr.drewN nq := ⟨_, rfl⟩
            have hbd : Below wr.heap.size wr w1 := by rw [hw1]; exact (Below.refl _ _).drewN nq
            rw [← hw1]
            have hSW3 := hSW2.below hbd
            have hg3 := grown_trans hg2 (grown_none (grown_of_below hbd))
            have hX1 := lit_next' hbd hXr
            have hrow1 := hrow.below hbd
            clear hw1 hbd q0 q1 q2 q3 q4 q5 hSW2 hg2 hXr hrow cN1 cO cK0 hgc hgf hgl
            go_wp2_with fail
            go_loopw [5, 31] (fun vs vi wr2 => ∃ t : Nat, t ≤ (castL (nbL es n k)).length ∧ vi = .int .i64 (t : Int) ∧ ∃ L : List Int, Hid (L = ((nbL es n k).take t).map fun u => z.getD u 0) ∧ L.length ≤ t ∧ wr2.ownsRow w1.heap.size 3 1 vs L.length (intsV L) ∧ Below w1.heap.size w1 wr2) (fun _ vi _ => (castL (nbL es n k)).length - (intOf vi).toNat)
            case atStart => exact ⟨0, Nat.zero_le _, rfl, [], (show _ = _ by simp), by simp, World.ownsRow_nil _ _ _ _, Below.refl _ _⟩
            case round =>
              obtain ⟨t, ht, rfl, L, HL, hLt, hown, hb2⟩ := hrel
              obtain ⟨av, cv, hvs⟩ := owns_shape hown
              subst hvs
              have hXw := lit_next' hb2 hX1
              obtain ⟨q0, q1, q2, q3, q4, q5⟩ : wr.cell? ⟨w.heap.size, 0, none⟩ = some (.int .i64 P) ∧ wr.cell? ⟨w.heap.size, 1, none⟩ = some (.slice (some ⟨bO, oO, none⟩) n co) ∧ wr.cell? ⟨w.heap.size, 2, none⟩ = some hv0 ∧ wr.cell? ⟨w.heap.size, 3, none⟩ = some (.slice (some ⟨bN, oN, none⟩) n cN) ∧ wr.cell? ⟨w.heap.size, 4, none⟩ = some (.int .i64 (o : Int)) ∧ wr.cell? ⟨w.heap.size, 5, none⟩ = some (.slice (some ⟨gK, 0, none⟩) n cg) := ⟨cell_blk hXw, cell_blk hXw, cell_blk hXw, cell_blk hXw, cell_blk hXw, cell_blk hXw⟩
              have hSW4 := hSW3.below hb2
              have hg4 := grown_trans hg3 (grown_none (grown_of_below hb2))
              obtain ⟨gK2, cK2, eK, -, -, hgl, hgf, hgc⟩ := ownsI_at hSW4.own (by omega)
              obtain rfl : gK = gK2 := by cases eK; rfl
              by_cases hlt2 : t < (castL (nbL es n k)).length
              · have hlt4 : (t : Int) < (castL (nbL es n k)).length := by omega
                have hts : t < (nbL es n k).length := by rw [← HCL.out]; exact hlt2
                obtain ⟨u, hu⟩ : ∃ u, (nbL es n k)[t]? = some u := ⟨_, List.getElem?_eq_getElem hts⟩
                have hun : u < n := hNn u (List.mem_of_getElem? hu)
                obtain ⟨b5, o5, u', e5, hz5, -, -, c5⟩ := (hrow1.below hb2).at t hlt2
                obtain rfl : u' = (u : Int) := by
                  unfold castL at hz5
                  rw [List.getElem?_map, hu] at hz5
                  exact (Option.some.inj hz5).symm
                subst e5
                have cu := hgc u _ (get_of_getD (by omega))
                obtain ⟨zu, hzu⟩ : ∃ q, z.getD u 0 = q := ⟨_, rfl⟩
                rw [hzu] at cu
                have hui : (u : Int) < n := by omega
                have HL2 : Hid (L ++ [zu] = ((nbL es n k).take (t + 1)).map fun u => z.getD u 0) := (show _ = _ by rw [take_at _ _ _ hu, List.map_append, ← HL.out]; simp only [List.map_cons, List.map_nil]; rw [hzu])
                have hlx := ints_lit1 wr zu 3
                have hownA := hown.alloc (.cells #[.int .i64 zu] 3)
                have hbA := hb2.alloc hb2.size (.cells #[.int .i64 zu] 3)
                clear hzu hz5 hu HL hgc hgf
                go_wp2_with (at_builtin; refine wpList_app_ints intsT rfl _ _ rfl _ (.slice av L.length cv) _ L [zu] rfl hownA rfl hlx (by rw [List.length_singleton]; omega) hbA.size ?_; intro v7 w7 hown7 hgr7)
                have hb7 := hbA.grown hgr7 hbA.size (fun g e => (hownA.lt g e).1)
                go_roundw
                case rel => exact ⟨t + 1, by omega, by go_num, L ++ [zu], HL2, by simp; omega, hown7, hb7⟩
                case measure => simp [intOf]; omega
              · have htk : t = (nbL es n k).length := by rw [← HCL.out]; omega
                have hLN : (hX L : Int) = nbH es n k z := by
                  unfold nbH
                  rw [HL.out, htk, List.take_length]
                obtain ⟨a7, c7, e7, hi7, -⟩ := IntsAt.of_owns hown (by omega)
                cases e7
                have hH := degh_any av cv L wr hi7 (by omega)
                obtain ⟨H, hHH⟩ : ∃ H, hX L = H := ⟨_, rfl⟩
                rw [hHH] at hH hLN
                have HLN := Lib.hid hLN
                clear hHH hLN HL hi7 hown htk q0 q1 q2 q3 q4 q5 hgc hgf
                go_wp2_with fail
                refine hH.mono ?_
                rintro e w7 ⟨rfl, hb7⟩
                have hXw7 := lit_next' hb7 hXw
                obtain ⟨q0, q1, q2, q3, q4, q5⟩ : w7.cell? ⟨w.heap.size, 0, none⟩ = some (.int .i64 P) ∧ w7.cell? ⟨w.heap.size, 1, none⟩ = some (.slice (some ⟨bO, oO, none⟩) n co) ∧ w7.cell? ⟨w.heap.size, 2, none⟩ = some hv0 ∧ w7.cell? ⟨w.heap.size, 3, none⟩ = some (.slice (some ⟨bN, oN, none⟩) n cN) ∧ w7.cell? ⟨w.heap.size, 4, none⟩ = some (.int .i64 (o : Int)) ∧ w7.cell? ⟨w.heap.size, 5, none⟩ = some (.slice (some ⟨gK, 0, none⟩) n cg) := ⟨cell_blk hXw7, cell_blk hXw7, cell_blk hXw7, cell_blk hXw7, cell_blk hXw7, cell_blk hXw7⟩
                have hSW7 := hSW4.below hb7
                have hg7 := grown_trans hg4 (grown_none (grown_of_below hb7))
                obtain ⟨gK3, cK3, eK3, -, -, hgl3, hgf3, hgc3⟩ := ownsI_at hSW7.own (by omega)
                obtain rfl : gK = gK3 := by cases eK3; rfl
                have cKk := hgc3 k _ hkz
                have fKk := hgf3 k
                have hc6 : c = true ↔ z ≠ y := by have h := HC2.out; rw [HZ.out] at h; exact h
                obtain ⟨zk, hzk⟩ : ∃ q, z.getD k 0 = q := ⟨_, rfl⟩
                rw [hzk] at cKk
                clear hgc3 hgf3
                by_cases hlt5 : (H : Int) < zk
                · have hlt6 : decide ((H : Int) < zk) = true := decide_eq_true hlt5
                  obtain ⟨hsv, hne⟩ := swpV_ne (ow := ow) (o := o) hzl hdn hlt hok (by rw [← HLN.out, hzk]; exact hlt5)
                  have h6 : swpK es n ow o y (k + 1) = z.set k (H : Int) := by rw [HST.out, hsv, HLN.out]
                  rw [← HLN.out] at hne
                  have H6 := Lib.hid h6
                  have hownS := ownsI_set hSW7.own k (H : Int)
                  have hgS : w7.grownBy (w7.setCell ⟨gK, k, none⟩ (.int .i64 (H : Int))) (some gK) := grown_store
                  have hSW8 := hSW7.turn hgS hownS
                  have hg8 := grown_trans hg7 hgS
                  clear h6 hsv
                  go_wp2_with fail
                  go_roundw
                  case rel => exact ⟨k + 1, true, by omega, by go_num, rfl, (show _ ↔ _ by rw [H6.out]; exact ⟨fun _ => hne, fun _ => rfl⟩), by rw [H6.out]; exact hSW8, hg8⟩
                  case measure => simp [intOf]; omega
                · have hlt6 : decide ((H : Int) < zk) = false := decide_eq_false hlt5
                  have h6 : swpK es n ow o y (k + 1) = z := by rw [HST.out]; unfold swpV; rw [if_neg (fun q => hlt5 (by rw [HLN.out, ← hzk]; exact q.2))]
                  have H6 := Lib.hid h6
                  clear h6
                  go_wp2_with fail
                  go_roundw
                  case rel => exact ⟨k + 1, c, by omega, by go_num, rfl, (show _ ↔ _ by rw [H6.out]; exact hc6), by rw [H6.out]; exact hSW7, hg7⟩
                  case measure => simp [intOf]; omega
          · have d1 : ((ow k : Int) != (o : Int)) = true := by simp; omega
            clear hgc hgf
            have h6 : swpK es n ow o y (k + 1) = z := by rw [HST.out]; unfold swpV; rw [if_neg (fun q => hok q.1)]
            go_wp2_with fail
            go_quiet (fail)
            have hSW3 := hSW2.below ((Below.refl wr.heap.size wr).drewN nq)
            have hg3 := grown_trans hg2 (grown_none (grown_of_below ((Below.refl wr.heap.size wr).drewN nq)))
            have hc6 : c = true ↔ z ≠ y := by have h := HC2.out; rw [HZ.out] at h; exact h
            go_wp2_with fail
            go_roundw
            case rel => exact ⟨k + 1, c, by omega, by go_num, rfl, (show _ ↔ _ by rw [h6]; exact hc6), by rw [h6]; exact hSW3, hg3⟩
            case measure => simp [intOf]; omega
        · obtain rfl : k = n := by omega
          have hc6 : c = true ↔ swpL es k ow o y ≠ y := HC2.out
          have hp6 : c = true → posS (swpL es k ow o y) < posS y := fun e => posS_lt (swpL_dn y) (hc6.1 e)
          have hs6 : setX es k ow o (swpL es k ow o y) = setX es k ow o x := by
            rw [← HY.out]
            have h := setX_eq (es := es) (n := k) (ow := ow) (w := o) y
            by_cases e : swpL es k ow o y = y
            · rw [e]
            · rw [if_neg e] at h; exact h.symm
          have hf6 : c = false → swpL es k ow o (swpL es k ow o y) = swpL es k ow o y := fun e => by
            have : swpL es k ow o y = y := Classical.byContradiction fun h => by rw [hc6.2 h] at e; cases e
            rw [this, this]
          have hSW6 : SetW wr s k es ow ao aN ag co cN cg (swpL es k ow o y) := hSW2
          have hr6 := readL_own hSW6.own
          have HF6 := Lib.hid hf6
          have HP6 := Lib.hid hp6
          have HS6 := Lib.hid hs6
          have HR6 := Lib.hid hr6
          have HPY := Lib.hid hpy
          clear hf6 hp6 hs6 hr6 hpy hc6
          go_wp2_with fail
          go_roundw
          case rel => exact ⟨swpL es k ow o y, c, rfl, HF6, HS6, hSW6, hg2⟩
          case measure =>
            rw [HPY.out]
            cases c with
            | false => exact Nat.succ_pos _
            | true =>
              show posS (readL wr (.slice ag k cg) k) + 1 < posS y + 1
              rw [HR6.out]
              have := HP6.out rfl
              omega
end Go.Proofs.Ytdkmdcdoiaelfaa

namespace Go.Proofs.Ytdkmdcdoiaelfaa
open Go.RowKit Go.BigFrame

theorem arr_get (zs : List Int) (j : Nat) (h : j < zs.length) : zs.toArray[j]! = zs[j] := by
  simp [h]
/-- what Compact leaves of a list in order -/
theorem compact_asc (zs : List Int) (h : zs.Pairwise (· ≤ ·)) : Asc (Lib.compact zs) := by
  unfold Asc Lib.compact Lib.compactUpTo
  rw [List.pairwise_map]
  refine List.Pairwise.imp_of_mem (fun {i j} hi hj hij => ?_) ((List.pairwise_lt_range (n := zs.length)).filter _)
  obtain ⟨hi1, -⟩ := List.mem_filter.1 hi
  obtain ⟨hj1, hj2⟩ := List.mem_filter.1 hj
  have hi3 := List.mem_range.1 hi1
  have hj3 := List.mem_range.1 hj1
  unfold Lib.keeps at hj2
  rw [decide_eq_true_eq] at hj2
  rcases hj2 with e | e
  · omega
  · rw [arr_get zs j hj3, arr_get zs (j - 1) (by omega)] at e
    rw [arr_get zs j hj3, arr_get zs i hi3]
    have hp := List.pairwise_iff_getElem.1 h
    have h1 : zs[j - 1] ≤ zs[j] := hp (j - 1) j (by omega) hj3 (by omega)
    have h2 : zs[i] ≤ zs[j - 1] := by
      by_cases e2 : i = j - 1
      · subst e2; exact Int.le_refl _
      · exact hp i (j - 1) hi3 (by omega) (by omega)
    omega
theorem compact_mem (zs : List Int) (x : Int) : x ∈ Lib.compact zs ↔ x ∈ zs := by
  unfold Lib.compact Lib.compactUpTo
  rw [List.mem_map]
  constructor
  · rintro ⟨j, hj, rfl⟩
    have hj3 := List.mem_range.1 (List.mem_filter.1 hj).1
    rw [arr_get zs j hj3]
    exact List.getElem_mem _
  · intro hx
    obtain ⟨j, hj, rfl⟩ := List.getElem_of_mem hx
    have key : ∀ m (hm : m < zs.length), ∃ i, i ∈ (List.range zs.length).filter (Lib.keeps zs.toArray) ∧ zs.toArray[i]! = zs[m] := by
      intro m
      induction m with
      | zero => intro hm; exact ⟨0, List.mem_filter.2 ⟨List.mem_range.2 hm, by simp [Lib.keeps]⟩, arr_get zs 0 hm⟩
      | succ m ih =>
        intro hm
        by_cases e : zs[m + 1] = zs[m]
        · obtain ⟨i, h1, h2⟩ := ih (by omega)
          exact ⟨i, h1, by rw [h2, e]⟩
        · refine ⟨m + 1, List.mem_filter.2 ⟨List.mem_range.2 hm, ?_⟩, arr_get zs (m + 1) hm⟩
          unfold Lib.keeps
          rw [decide_eq_true_eq]
          right
          rw [arr_get zs (m + 1) hm, show m + 1 - 1 = m from rfl, arr_get zs m (by omega)]
          exact e
    exact key j hj
/-- the owners of the neighbours that another one owns -/
def ownQ (es : List E2) (n : Nat) (ow : Nat → Nat) (v t : Nat) : List Int := (((nbL es n v).take t).filter fun y => ow y != ow v).map fun y => ((ow y : Nat) : Int)
theorem ownQ_step (es : List E2) (n : Nat) (ow : Nat → Nat) (v t u : Nat) (h : (nbL es n v)[t]? = some u) : ownQ es n ow v (t + 1) = if ow u = ow v then ownQ es n ow v t else ownQ es n ow v t ++ [((ow u : Nat) : Int)] := by
  unfold ownQ
  rw [take_at _ _ _ h, List.filter_append, List.map_append]
  by_cases e : ow u = ow v
  · rw [if_pos e]; simp [e]
  · rw [if_neg e]; simp [e]
theorem ownQ_own {es : List E2} {n P : Nat} {ow : Nat → Nat} (how : ∀ v, v < n → ow v < P) (v : Nat) : Lib.compact (srt (ownQ es n ow v (nbL es n v).length)) = castL (ownL es n P ow v) := by
  refine asc_eq _ _ (compact_asc _ (srt_asc _)) (asc_range _ P) fun x => ?_
  rw [compact_mem, (srt_perm _).mem_iff]
  unfold ownQ castL
  rw [List.take_length, List.mem_map, List.mem_map]
  constructor
  · rintro ⟨y, hy, rfl⟩
    obtain ⟨h1, h2⟩ := List.mem_filter.1 hy
    obtain ⟨h3, h4⟩ := List.mem_filter.1 h1
    have h5 := List.mem_range.1 h3
    exact ⟨ow y, ownL_mem.2 ⟨how y h5, by simpa using h2, y, h5, h4, rfl⟩, rfl⟩
  · rintro ⟨t, ht, rfl⟩
    obtain ⟨h1, h2, y, h3, h4, h5⟩ := ownL_mem.1 ht
    exact ⟨y, List.mem_filter.2 ⟨List.mem_filter.2 ⟨List.mem_range.2 h3, h4⟩, by simpa [h5] using h2⟩, by rw [h5]⟩
theorem below_setCells {B : Nat} {w : World} (b : Nat) (hb : B ≤ b) : ∀ (vs : List Value) (o : Nat) (W : World), Below B w W → Below B w (W.setCells b o vs) := by
  intro vs
  induction vs with
  | nil => intro o W h; exact h
  | cons v vs ih => intro o W h; exact ih (o + 1) _ (h.setCell (p := ⟨b, o, none⟩) hb v)
/-- slices.Compact at a row of one's own in a new block -/
theorem compact_own {s : Nat} (v : Value) (xs : List Int) (w : World) (hown : w.ownsRow s 3 1 v xs.length (intsV xs)) (hl : xs.length ≤ 1000000) :
    Calls Try.prog 144 #[v] w fun e w' => ∃ a c, e = .returned (.slice a (Lib.compact xs).length c) ∧ IntsAt w' (.slice a (Lib.compact xs).length c) (Lib.compact xs) ∧ (∀ p, a = some p → s ≤ p.block) ∧ Below s w w' := by
  rcases hown.2 with ⟨rfl, h0⟩ | ⟨g, cap, cur, rfl, hbase, hb, h1, h2, h3, h4⟩
  · obtain rfl := List.eq_nil_of_length_eq_zero h0
    refine (Try.slices_Compact_int_empty none 0 w).mono ?_
    rintro e w' ⟨rfl, rfl⟩
    exact ⟨none, 0, rfl, ints_nil _, (fun p h => by cases h), Below.refl _ _⟩
  · have hat : ∀ j, j < xs.length → w.cell? ⟨g, j, none⟩ = some (.int .i64 (xs.getD j 0)) := fun j hj => by
      rw [cell_blk hb]
      have h5 : (intsV xs)[j]? = some (.int .i64 xs[j]) := by simp [intsV, List.getElem?_eq_getElem hj]
      rw [← h4, List.getElem?_take] at h5
      split at h5
      · rw [List.getD_eq_getElem?_getD, List.getElem?_eq_getElem hj]
        simpa using h5
      · omega
    have hcl := Lib.compact_length_le xs
    refine (Try.slices_Compact_int_cells g 0 xs.length cap xs w (Nat.le_refl _) (by omega) h1 (fun j hj => by rw [Nat.zero_add]; exact hat j hj) (fun j _ => by rw [Nat.zero_add]; exact free_blk hb)).mono ?_
    rintro e w' ⟨rfl, q, rfl⟩
    rw [List.take_length]
    refine ⟨_, cap, rfl, ⟨_, cap, rfl, by omega, (fun h => by cases h), by omega, fun i x hi => ⟨g, 0, rfl, ?_⟩⟩, (fun p h => by cases h; exact hbase), below_setCells g hbase _ _ _ (show Below s w (w.drewN q) from (Below.refl s w).drewN q)⟩
    have hlt := (List.getElem?_eq_some_iff.1 hi).1
    have hin := World.cell?_setCells_in g ((Lib.compact xs ++ List.replicate (xs.length - (Lib.compact xs).length) 0).map (Value.int .i64)) 0 (w.drewN q) (fun j hj => by
      rw [List.length_map, List.length_append, List.length_replicate] at hj
      rw [Nat.zero_add]
      show ((w.cell? ⟨g, j, none⟩).isSome = true)
      rw [hat j (by omega)]; rfl) i (by rw [List.length_map, List.length_append, List.length_replicate]; omega)
    rw [hin]
    congr 1
    have h6 := (List.getElem?_eq_some_iff.1 hi).2
    rw [List.getElem_map, List.getElem_append_left hlt, h6]
def OwPost (w : World) (l : List Int) (e : Ending) (w' : World) : Prop := ∃ a c, e = .returned (.slice a l.length c) ∧ IntsAt w' (.slice a l.length c) l ∧ (∀ p, a = some p → w.heap.size ≤ p.block) ∧ Below w.heap.size w w'
set_option maxRecDepth 100000 in
set_option maxHeartbeats 6400000 in
theorem rdowners_any (n P v : Nat) (hv0 : Value) (es : List E2) (ow : Nat → Nat) (ao aN : Option Addr) (co cN : Nat) (Q : Nat → Prop) (w : World) (hn : n ≤ 64) (hvn : v < n) (how : ∀ v, v < n → ow v < P)
    (hO : IntsAt w (.slice ao n co) (owI n ow)) (hN : RowsX Q w (.slice aN n cN) (nearL es n)) :
    Calls Try.prog 117 #[.agg #[.int .i64 P, .slice ao n co, hv0, .slice aN n cN], .int .i64 v] w (OwPost w (castL (ownL es n P ow v))) := by
  obtain ⟨hXX, hb0⟩ := boxG_new w #[.int .i64 P, .slice ao n co, hv0, .slice aN n cN] 106
  obtain ⟨wA, hwA⟩ : ∃ W : World, W = w.alloc (.cells #[.int .i64 P, .slice ao n co, hv0, .slice aN n cN] 106) := ⟨_, rfl⟩
  rw [← hwA] at hXX hb0
  have HWA := Lib.hid hwA
  have hOA := hO.below hb0
  have hNA := hN.below hb0
  have hres := ownQ_own (es := es) how v
  obtain ⟨RES, hRES⟩ : ∃ R, castL (ownL es n P ow v) = R := ⟨_, rfl⟩
  rw [hRES] at hres ⊢
  have HRES := Lib.hid hres
  have hNl : (nbL es n v).length ≤ 64 := Nat.le_trans (List.length_filter_le _ _) (by rw [List.length_range]; exact hn)
  have hNn : ∀ u ∈ nbL es n v, u < n := fun u hu => List.mem_range.1 (List.mem_filter.1 hu).1
  have HCL := Lib.hid (castL_length (nbL es n v))
  have hNc : (castL (nbL es n v)).length ≤ 64 := by rw [HCL.out]; exact hNl
  obtain ⟨-, bN, oN, a5, c5, rfl, hcN, -, cN1, hrow, -⟩ := hNA.at v _ (nearL_get es n v hvn)
  have hvi : (v : Int) < n := by omega
  obtain ⟨bO, oO, rfl, hOc, hcO⟩ : ∃ b off, ao = some ⟨b, off, none⟩ ∧ (∀ i, i < n → wA.cell? ⟨b, off + i, none⟩ = some (.int .i64 (ow i : Int))) ∧ n ≤ co := by
    obtain ⟨_, _, hv', h1, _, _, h4⟩ := (show IntsAt wA (.slice ao (owI n ow).length co) (owI n ow) by rw [owI_length]; exact hOA)
    cases hv'
    rw [owI_length] at h1
    obtain ⟨b, off, rfl, -⟩ := h4 v _ (owI_get n ow v hvn)
    refine ⟨b, off, rfl, fun i hi => ?_, h1⟩
    obtain ⟨b', off', e, c⟩ := h4 i _ (owI_get n ow i hi)
    cases e; exact c
  have HOC := Lib.hid hOc
  have ov0 := hOc v hvn
  obtain ⟨q0, q1, q2, q3⟩ := cells4 hXX
  clear hwA hO hN hOA hNA hres hRES hOc
  go_enter Try.func117, Try.ntmps117
  go_wp2_with (rw [← HWA.out])
  clear q0 q1 q2 q3 cN1 ov0
  go_loopw [5, 14] (fun vo vi wr => ∃ t : Nat, t ≤ (castL (nbL es n v)).length ∧ vi = .int .i64 (t : Int) ∧ ∃ L : List Int, Hid (L = ownQ es n ow v t) ∧ L.length ≤ t ∧ wr.ownsRow wA.heap.size 3 1 vo L.length (intsV L) ∧ Below wA.heap.size wA wr) (fun _ vi _ => (castL (nbL es n v)).length - (intOf vi).toNat)
  case atStart => exact ⟨0, Nat.zero_le _, rfl, [], (show _ = _ by simp [ownQ]), by simp, World.ownsRow_nil _ _ _ _, Below.refl _ _⟩
  case round =>
    obtain ⟨t, ht, rfl, L, HL, hLt, hown, hb⟩ := hrel
    obtain ⟨av, cv, hvs⟩ := owns_shape hown
    subst hvs
    have hXr := lit_next' hb hXX
    by_cases hlt : t < (castL (nbL es n v)).length
    · have hlt3 : (t : Int) < (castL (nbL es n v)).length := by omega
      have hts : t < (nbL es n v).length := by rw [← HCL.out]; exact hlt
      obtain ⟨u, hu⟩ : ∃ u, (nbL es n v)[t]? = some u := ⟨_, List.getElem?_eq_getElem hts⟩
      have hun : u < n := hNn u (List.mem_of_getElem? hu)
      obtain ⟨b5, o5, u', e5, hz5, -, -, c5'⟩ := (hrow.below hb).at t hlt
      obtain rfl : u' = (u : Int) := by
        unfold castL at hz5
        rw [List.getElem?_map, hu] at hz5
        exact (Option.some.inj hz5).symm
      subst e5
      have hui : (u : Int) < n := by omega
      have ou := (hb.cell (p := ⟨bO, oO + u, none⟩) (cell_lt (HOC.out u hun))).trans (HOC.out u hun)
      have ov := (hb.cell (p := ⟨bO, oO + v, none⟩) (cell_lt (HOC.out v hvn))).trans (HOC.out v hvn)
      have hst := ownQ_step es n ow v t u hu
      rw [← HL.out] at hst
      have HST := Lib.hid hst
      obtain ⟨q0, q1, q2, q3⟩ := cells4 hXr
      clear hst hz5 hu HL
      by_cases hd : ow u = ow v
      · have d1 : ((ow u : Int) != (ow v : Int)) = false := by simp; omega
        have h6 := HST.out
        rw [if_pos hd] at h6
        have H6 := Lib.hid h6.symm
        clear h6
        go_wp2_with fail
        go_quiet (fail)
        have hown7 := hown.kept (grown_of_below ((Below.refl wr.heap.size wr).drewN nq)) (Classical.em _)
        have hb7 := hb.drewN nq
        go_wp2_with fail
        go_roundw
        case rel => exact ⟨t + 1, by omega, by go_num, L, H6, by omega, hown7, hb7⟩
        case measure => simp [intOf]; omega
      · have d1 : ((ow u : Int) != (ow v : Int)) = true := by simp; omega
        have h6 := HST.out
        rw [if_neg hd] at h6
        have H6 := Lib.hid h6.symm
        clear h6
        go_wp2_with fail
        go_quiet (fail)
        obtain ⟨w1, hw1⟩ : ∃ W : World, W = wr.drewN nq := ⟨_, rfl⟩
        have hbd : Below wr.heap.size wr w1 := by rw [hw1]; exact (Below.refl _ _).drewN nq
        rw [← hw1]
        have hown1 := hown.kept (grown_of_below hbd) (Classical.em _)
        have hb1 := hb.trans (hbd.mono hb.size)
        have hX1 := lit_next' hbd hXr
        have ou1 := (hbd.cell (p := ⟨bO, oO + u, none⟩) (cell_lt ou)).trans ou
        clear hw1 q0 q1 q2 q3 ou ov
        obtain ⟨q0, q1, q2, q3⟩ := cells4 hX1
        have hlx := ints_lit1 w1 (ow u : Int) 3
        have hownA := hown1.alloc (.cells #[.int .i64 (ow u : Int)] 3)
        have hbA := hb1.alloc hb1.size (.cells #[.int .i64 (ow u : Int)] 3)
        go_wp2_with (at_builtin; refine wpList_app_ints intsT rfl _ _ rfl _ (.slice av L.length cv) _ L [(ow u : Int)] rfl hownA rfl hlx (by rw [List.length_singleton]; omega) hbA.size ?_; intro v7 w7 hown7 hgr7)
        have hb7 := hbA.grown hgr7 hbA.size (fun g e => (hownA.lt g e).1)
        go_roundw
        case rel => exact ⟨t + 1, by omega, by go_num, L ++ [(ow u : Int)], H6, by simp; omega, hown7, hb7⟩
        case measure => simp [intOf]; omega
    · have htk : t = (nbL es n v).length := by rw [← HCL.out]; omega
      have hLN : Lib.compact (srt L) = RES := by rw [HL.out, htk]; exact HRES.out
      have hso := sort_own (.slice av L.length cv) L wr hown (by omega)
      have hsl := srt_length L
      have HLN := Lib.hid hLN
      have hlo := fun k e => (hown.lt k e).1
      clear hLN HL hown htk
      go_wp2_with fail
      refine hso.mono ?_
      rintro e w2 ⟨rfl, hown2, hg2⟩
      have hb2 := hb.grown hg2 hb.size hlo
      have hown3 : w2.ownsRow wA.heap.size 3 1 (.slice av L.length cv) (srt L).length (intsV (srt L)) := by rw [hsl]; exact hown2
      have hco := compact_own (.slice av L.length cv) (srt L) w2 hown3 (by omega)
      rw [HLN.out] at hco
      clear hso hsl hown2
      go_wp2_with fail
      refine hco.mono ?_
      rintro e w3 ⟨a3, c3, rfl, hi3, hp3, hb3⟩
      go_wp2_with fail
      go_ret
      exact ⟨a3, c3, rfl, hi3, fun p hp => Nat.le_trans hb0.size (hp3 p hp), hb0.trans ((hb2.trans hb3).mono hb0.size)⟩
end Go.Proofs.Ytdkmdcdoiaelfaa

namespace Go.Proofs.Ytdkmdcdoiaelfaa
open Go.RowKit Go.BigFrame

/-- all blocks are as they were but those of which D holds -/
structure Fr (D : Nat → Prop) (w w' : World) : Prop where
  os : w'.os = w.os
  tape : w'.tape = w.tape
  output : w'.output = w.output
  size : w.heap.size ≤ w'.heap.size
  block : ∀ b, b < w.heap.size → ¬ D b → w'.heap[b]? = w.heap[b]?
section
variable {D D' : Nat → Prop} {w w1 w2 : World}
theorem Fr.refl (D : Nat → Prop) (w : World) : Fr D w w := ⟨rfl, rfl, rfl, Nat.le_refl _, fun _ _ _ => rfl⟩
theorem Fr.grown {r : Option Nat} (h : Fr D w w1) (g : w1.grownBy w2 r) (hr : ∀ b, r = some b → D b ∨ w.heap.size ≤ b) : Fr D w w2 :=
  ⟨g.os.trans h.os, g.tape.trans h.tape, g.output.trans h.output, Nat.le_trans h.size g.size, fun b hb hd => (g.block b (Nat.lt_of_lt_of_le hb h.size) (fun e => by
    rcases hr b e.symm with h1 | h1
    · exact hd h1
    · omega)).trans (h.block b hb hd)⟩
theorem Fr.trans (h : Fr D w w1) (g : Fr D' w1 w2) (hr : ∀ b, D' b → D b ∨ w.heap.size ≤ b) : Fr D w w2 :=
  ⟨g.os.trans h.os, g.tape.trans h.tape, g.output.trans h.output, Nat.le_trans h.size g.size, fun b hb hd => (g.block b (Nat.lt_of_lt_of_le hb h.size) (fun e => by
    rcases hr b e with h1 | h1
    · exact hd h1
    · omega)).trans (h.block b hb hd)⟩
theorem Fr.mono (h : Fr D w w1) (hd : ∀ b, D b → D' b) : Fr D' w w1 := ⟨h.os, h.tape, h.output, h.size, fun b hb hn => h.block b hb (fun e => hn (hd b e))⟩
theorem Fr.of_below (h : Below w.heap.size w w1) : Fr D w w1 := ⟨h.os, h.tape, h.output, h.size, fun b hb _ => h.block b hb⟩
theorem Fr.below {lo : Nat} (h : Fr D w w1) (hd : ∀ b, D b → lo ≤ b) (hl : lo ≤ w.heap.size) : Below lo w w1 :=
  ⟨h.os, h.tape, h.output, h.size, fun b hb => h.block b (by omega) (fun e => by have := hd b e; omega)⟩
theorem Fr.cell {b o : Nat} {v : Value} (h : Fr D w w1) (hc : w.cell? ⟨b, o, none⟩ = some v) (hd : ¬ D b) : w1.cell? ⟨b, o, none⟩ = some v := (heap_cell (h.block b (cell_lt hc) hd)).1.trans hc
theorem Fr.blk {g : Nat} {o : Obj} (h : Fr D w w1) (hg : w.heap[g]? = some o) (hd : ¬ D g) : w1.heap[g]? = some o := (h.block g (blk_lt hg) hd).trans hg
theorem Fr.ints {v : Value} {xs : List Int} (h : Fr D w w1) (hi : IntsAt w v xs) (hd : ∀ n c p, v = .slice (some p) n c → ¬ D p.block) : IntsAt w1 v xs := by
  obtain ⟨a, cap, rfl, h1, h2, h3, h4⟩ := hi
  refine ⟨a, cap, rfl, h1, h2, h3, fun i e he => ?_⟩
  obtain ⟨b, off, rfl, c0⟩ := h4 i e he
  exact ⟨b, off, rfl, h.cell c0 (hd _ _ _ rfl)⟩
theorem Fr.rows {Q : Nat → Prop} {v : Value} {Ls : List (List Int)} (h : Fr D w w1) (hr : RowsX Q w v Ls) (hd : ∀ b, Q b → ¬ D b) : RowsX Q w1 v Ls := by
  obtain ⟨a, cap, rfl, h1, h2, h3, h4⟩ := hr
  refine ⟨a, cap, rfl, h1, h2, h3, fun i L hL => ?_⟩
  obtain ⟨b, off, a2, c2, rfl, hq, hc, hi, hp⟩ := h4 i L hL
  exact ⟨b, off, a2, c2, rfl, hq, h.cell hc (hd b hq), h.ints hi (fun n c p e => by
    obtain rfl : a2 = some p := (Value.slice.inj e).1
    exact hd _ (hp p rfl)), hp⟩
end
/-- messages -/
def encM : Enc Msg where
  k := 3
  enc m := [.int .i64 m.1, .int .i64 m.2.1, .bool m.2.2]
  len _ := rfl
  one m u hu := by simp only [List.mem_cons, List.not_mem_nil, or_false] at hu; rcases hu with rfl | rfl | rfl <;> rfl
  pos := by decide
theorem msgT : SliceT Try.prog 63 85 (.agg #[.int .i64 0, .int .i64 0, .bool false]) encM.k 24 := ⟨Try.underlying63, by kernel_rfl, rfl, by decide⟩
def TEf (i : Ix) : Nat := if i.1 < 2 then 3 else 85
def kkf (i : Ix) : Nat := if i.1 < 2 then 1 else encM.k
/-- what the rows hold: 0: known values, 1: neighbours, 2 and up: boxes -/
def csF (K N : Nat → List Int) (B : Nat → Nat → List Msg) (i : Ix) : List Value := match i.1 with
  | 0 => intsV (K i.2)
  | 1 => intsV (N i.2)
  | r + 2 => flatR encM (B r i.2)
def lenF (K N : Nat → List Int) (B : Nat → Nat → List Msg) (i : Ix) : Nat := match i.1 with
  | 0 => (K i.2).length
  | 1 => (N i.2).length
  | r + 2 => (B r i.2).length
abbrev GW (w : World) (lo : Nat) (I : Ix → Prop) (ad : Ix → Nat × Nat) (vs : Ix → Value) (K N : Nat → List Int) (B : Nat → Nat → List Msg) : Prop := GridA w lo I ad vs TEf kkf (lenF K N B) (csF K N B)
section
variable {w w' : World} {lo : Nat} {I : Ix → Prop} {ad : Ix → Nat × Nat} {vs : Ix → Value} {K N : Nat → List Int} {B B' : Nat → Nat → List Msg} {r t : Nat}
theorem GW.box (h : GW w lo I ad vs K N B) (hi : I (r + 2, t)) : w.ownsRow lo 85 encM.k (vs (r + 2, t)) (B r t).length (flatR encM (B r t)) := h.own _ hi
theorem GW.kn (h : GW w lo I ad vs K N B) (hi : I (0, t)) : w.ownsRow lo 3 1 (vs (0, t)) (K t).length (intsV (K t)) := h.own _ hi
theorem GW.nr (h : GW w lo I ad vs K N B) (hi : I (1, t)) : w.ownsRow lo 3 1 (vs (1, t)) (N t).length (intsV (N t)) := h.own _ hi
/-- other words for the boxes -/
theorem GW.boxes (h : GW w lo I ad vs K N B) (e : ∀ r t, I (r + 2, t) → B r t = B' r t) : GW w lo I ad vs K N B' := h.congr (fun i hi => by
    obtain ⟨a, b⟩ := i
    match a with
    | 0 => rfl
    | 1 => rfl
    | r + 2 => show (B r b).length = (B' r b).length; rw [e r b hi]) (fun i hi => by
    obtain ⟨a, b⟩ := i
    match a with
    | 0 => rfl
    | 1 => rfl
    | r + 2 => show flatR encM (B r b) = flatR encM (B' r b); rw [e r b hi])
/-- a box has turned: what it became is stored -/
theorem GW.step {l : List Msg} {v : Value} (h : GW w lo I ad vs K N B) (hi : I (r + 2, t)) (hg : w.grownBy w' (vs (r + 2, t)).ownBlock) (hown : w'.ownsRow lo 85 encM.k v l.length (flatR encM l)) (hat : ∀ b, v.ownBlock = some b → (vs (r + 2, t)).ownBlock = some b ∨ w.heap.size ≤ b) :
    GW (w'.setCell ⟨(ad (r + 2, t)).1, (ad (r + 2, t)).2, none⟩ v) lo I ad (updX vs (r + 2, t) v) K N (fun r' t' => if r' = r ∧ t' = t then l else B r' t') := by
  refine (GridA.step h hi hg hown hat).congr (fun i _ => ?_) (fun i _ => ?_)
  all_goals
    obtain ⟨a, b⟩ := i
    unfold updX
    match a with
    | 0 => rw [if_neg (fun e => by have := (Prod.mk.inj e).1; omega)]; rfl
    | 1 => rw [if_neg (fun e => by have := (Prod.mk.inj e).1; omega)]; rfl
    | a + 2 =>
      by_cases e : a = r ∧ b = t
      · obtain ⟨rfl, rfl⟩ := e
        rw [if_pos rfl]
        simp [lenF, csF]
      · rw [if_neg (fun q => e ⟨by have := (Prod.mk.inj q).1; omega, (Prod.mk.inj q).2⟩)]
        simp [lenF, csF, e]
end
end Go.Proofs.Ytdkmdcdoiaelfaa
