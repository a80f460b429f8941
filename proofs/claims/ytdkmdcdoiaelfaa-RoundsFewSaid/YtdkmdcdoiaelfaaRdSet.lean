/- The contract of a worker's settling. -/
import Derived.Test.YtdkmdcdoiaelfaaRdNb
import Derived.Test.YtdkmdcdoiaelfaaRndP
import Derived.Test.YtdkmdcdoiaelfaaDegH
import Derived.Deep.RegionHeld3
import Derived.Deep.DeepCutAuto
namespace Go.Proofs.Ytdkmdcdoiaelfaa
open Go.RowKit Go.BigFrame

/-- the owners of all nodes -/
def owI (n : Nat) (ow : Nat → Nat) : List Int := fnL n fun v => (ow v : Int)
theorem owI_length (n : Nat) (ow : Nat → Nat) : (owI n ow).length = n := fnL_length _ _
theorem owI_get (n : Nat) (ow : Nat → Nat) (i : Nat) (h : i < n) : (owI n ow)[i]? = some ((ow i : Nat) : Int) := fnL_get _ _ _ h
theorem nearL_length (es : List E2) (n : Nat) : (nearL es n).length = n := by simp [nearL]
theorem nearL_get (es : List E2) (n i : Nat) (h : i < n) : (nearL es n)[i]? = some (castL (nbL es n i)) := by
  unfold nearL
  rw [List.getElem?_map, List.getElem?_range h]; rfl
/-- what a worker sees: the owners, the neighbours, and the list that it knows, which is its own -/
structure SetW (w : World) (s n : Nat) (es : List E2) (ow : Nat → Nat) (ao aN ag : Option Addr) (co cN cg : Nat) (z : List Int) : Prop where
  own : w.ownsRow s 3 1 (.slice ag n cg) n (intsV z)
  ow : IntsAt w (.slice ao n co) (owI n ow)
  oof : ∀ b, (Value.slice ag n cg).ownBlock = some b → Off b (.slice ao n co)
  nr : RowsX (fun b => (Value.slice ag n cg).ownBlock ≠ some b) w (.slice aN n cN) (nearL es n)
section
variable {w w' : World} {s n : Nat} {es : List E2} {ow : Nat → Nat} {ao aN ag : Option Addr} {co cN cg : Nat} {z z' : List Int}
theorem SetW.turn (h : SetW w s n es ow ao aN ag co cN cg z) (hg : w.grownBy w' (Value.slice ag n cg).ownBlock) (hown : w'.ownsRow s 3 1 (.slice ag n cg) n (intsV z')) : SetW w' s n es ow ao aN ag co cN cg z' :=
  ⟨hown, h.ow.grown hg (fun g e => h.oof g e), h.oof, h.nr.grown hg (fun _ hq => hq)⟩
theorem SetW.below (h : SetW w s n es ow ao aN ag co cN cg z) (hb : Below w.heap.size w w') : SetW w' s n es ow ao aN ag co cN cg z :=
  h.turn (grown_none (grown_of_below hb)) (h.own.kept (grown_of_below hb) (Classical.em _))
theorem SetW.len (h : SetW w s n es ow ao aN ag co cN cg z) : z.length = n := by have := h.own.1; simpa [intsV] using this
end
/-- the numbers that a row holds -/
def readL (w : World) (v : Value) (n : Nat) : List Int := match v with
  | .slice (some p) _ _ => (List.range n).map fun i => intOf ((w.cell? ⟨p.block, p.off + i, none⟩).getD default)
  | _ => []
theorem readL_own {w : World} {s n : Nat} {v : Value} {z : List Int} (h : w.ownsRow s 3 1 v n (intsV z)) : readL w v n = z := by
  have hz : z.length = n := by have := h.1; simpa [intsV] using this
  by_cases hn : 0 < n
  · obtain ⟨g, cap, rfl, -, -, -, -, hc⟩ := ownsI_at h hn
    unfold readL
    apply List.ext_getElem?
    intro i
    by_cases hi : i < n
    · have hx : z[i]? = some z[i] := List.getElem?_eq_getElem (by omega)
      rw [List.getElem?_map, List.getElem?_range hi, hx]
      simp only [Option.map_some, Nat.zero_add]
      rw [hc i _ hx]; rfl
    · rw [List.getElem?_eq_none (by simp; omega), List.getElem?_eq_none (by omega)]
  · obtain rfl : n = 0 := by omega
    obtain rfl : z = [] := List.eq_nil_of_length_eq_zero hz
    unfold readL
    split <;> simp
theorem swpV_ne {es : List E2} {n : Nat} {ow : Nat → Nat} {o k : Nat} {y z : List Int} (hl : z.length = n) (hd : Dn y z) (hk : k < n) (h1 : ow k = o) (h2 : nbH es n k z < z.getD k 0) : swpV es n ow o z k = z.set k (nbH es n k z) ∧ z.set k (nbH es n k z) ≠ y := by
  refine ⟨by unfold swpV; rw [if_pos ⟨h1, h2⟩], fun e => ?_⟩
  have h3 := getD_set z k k (nbH es n k z)
  rw [if_pos ⟨rfl, by omega⟩, e] at h3
  have := hd.le k
  omega
set_option maxRecDepth 100000 in
set_option maxHeartbeats 6400000 in
theorem rdsettle_any (n o : Nat) (P : Int) (hv0 : Value) (es : List E2) (ow : Nat → Nat) (ao aN ag : Option Addr) (co cN cg s : Nat) (x : List Int) (w : World) (hn : n ≤ 64) (hW : SetW w s n es ow ao aN ag co cN cg x) :
    Calls Try.prog 69 #[.agg #[.int .i64 P, .slice ao n co, hv0, .slice aN n cN, .int .i64 o, .slice ag n cg]] w fun e w' => e = .returned (.tuple #[]) ∧ w'.ownsRow s 3 1 (.slice ag n cg) n (intsV (setX es n ow o x)) ∧ w.grownBy w' (Value.slice ag n cg).ownBlock := by
  obtain ⟨hXX, hb0⟩ := boxG_new w #[.int .i64 P, .slice ao n co, hv0, .slice aN n cN, .int .i64 o, .slice ag n cg] 110
  obtain ⟨wA, hwA⟩ : ∃ W : World, W = w.alloc (.cells #[.int .i64 P, .slice ao n co, hv0, .slice aN n cN, .int .i64 o, .slice ag n cg] 110) := ⟨_, rfl⟩
  rw [← hwA] at hXX hb0
  have HWA := Lib.hid hwA
  have hWA := hW.below hb0
  have hXo : (Value.slice ag n cg).ownBlock ≠ some w.heap.size := fun e => by have := (hW.own.lt _ e).2; omega
  clear hwA hW
  go_enter Try.func69, Try.ntmps69
  go_wp2_with (rw [← HWA.out])
  go_loopw [2] (fun vc wr => ∃ (y : List Int) (c : Bool), vc = .bool c ∧ Hid (c = false → swpL es n ow o y = y) ∧ Hid (setX es n ow o y = setX es n ow o x) ∧ SetW wr s n es ow ao aN ag co cN cg y ∧ wA.grownBy wr (Value.slice ag n cg).ownBlock) (fun vc wr => match vc with | .bool true => posS (readL wr (.slice ag n cg) n) + 1 | _ => 0)
  case atStart => exact ⟨x, true, rfl, (show _ → _ from fun e => by cases e), (show _ = _ from rfl), hWA, World.grownBy.refl _ _⟩
  case round =>
    obtain ⟨y, c, rfl, HC, HY, hSW, hg⟩ := hrel
    have hXr := grown_blk hg hXX (fun e => hXo e.symm)
    obtain ⟨q0, q1, q2, q3, q4, q5⟩ : wr.cell? ⟨w.heap.size, 0, none⟩ = some (.int .i64 P) ∧ wr.cell? ⟨w.heap.size, 1, none⟩ = some (.slice ao n co) ∧ wr.cell? ⟨w.heap.size, 2, none⟩ = some hv0 ∧ wr.cell? ⟨w.heap.size, 3, none⟩ = some (.slice aN n cN) ∧ wr.cell? ⟨w.heap.size, 4, none⟩ = some (.int .i64 (o : Int)) ∧ wr.cell? ⟨w.heap.size, 5, none⟩ = some (.slice ag n cg) := ⟨cell_blk hXr, cell_blk hXr, cell_blk hXr, cell_blk hXr, cell_blk hXr, cell_blk hXr⟩
    cases c with
    | false =>
      have hfix := HC.out rfl
      have hres : setX es n ow o x = y := by rw [← HY.out, setX_fixed hfix]
      clear q0 q1 q2 q3 q4 q5
      go_wp2_with fail
      go_end0
      exact ⟨rfl, by first | exact hSW.own | (rw [hres]; exact hSW.own), grown_trans (grown_none (grown_of_below hb0)) hg⟩
    | true =>
      have hyl := hSW.len
      have hpy : posS (readL wr (.slice ag n cg) n) = posS y := by rw [readL_own hSW.own]
      go_wp2_with fail
      go_loopw [2, 14] (fun vc vi wr2 => ∃ (k : Nat) (c : Bool), k ≤ n ∧ vi = .int .i64 (k : Int) ∧ vc = .bool c ∧ Hid (c = true ↔ swpK es n ow o y k ≠ y) ∧ SetW wr2 s n es ow ao aN ag co cN cg (swpK es n ow o y k) ∧ wA.grownBy wr2 (Value.slice ag n cg).ownBlock) (fun _ vi _ => n - (intOf vi).toNat)
      case atStart => exact ⟨0, false, Nat.zero_le _, rfl, rfl, (show _ ↔ _ from ⟨(fun e => by cases e), fun e => absurd rfl e⟩), hSW, hg⟩
      case round =>
        clear q0 q1 q2 q3 q4 q5 hXr
        obtain ⟨k, c, hk, rfl, rfl, HC2, hSW2, hg2⟩ := hrel
        have hXr := grown_blk hg2 hXX (fun e => hXo e.symm)
        obtain ⟨q0, q1, q2, q3, q4, q5⟩ : wr.cell? ⟨w.heap.size, 0, none⟩ = some (.int .i64 P) ∧ wr.cell? ⟨w.heap.size, 1, none⟩ = some (.slice ao n co) ∧ wr.cell? ⟨w.heap.size, 2, none⟩ = some hv0 ∧ wr.cell? ⟨w.heap.size, 3, none⟩ = some (.slice aN n cN) ∧ wr.cell? ⟨w.heap.size, 4, none⟩ = some (.int .i64 (o : Int)) ∧ wr.cell? ⟨w.heap.size, 5, none⟩ = some (.slice ag n cg) := ⟨cell_blk hXr, cell_blk hXr, cell_blk hXr, cell_blk hXr, cell_blk hXr, cell_blk hXr⟩
        by_cases hlt : k < n
        · have hlt3 : (k : Int) < n := by omega
          have hzl := hSW2.len
          obtain ⟨z, hz⟩ : ∃ z, swpK es n ow o y k = z := ⟨_, rfl⟩
          have hst := swpK_step (es := es) (n := n) (ow := ow) (w := o) y k
          have hdn := swpK_dn (es := es) (n := n) (ow := ow) (w := o) y k
          rw [hz] at hst hzl hSW2 hdn
          have HST := Lib.hid hst
          have HZ := Lib.hid hz
          clear hst hz
          obtain ⟨-, bN, oN, a5, c5, rfl, hcN, -, cN1, hrow, hrowQ⟩ := hSW2.nr.at k _ (nearL_get es n k hlt)
          obtain ⟨bO, oO, rfl, cO⟩ : ∃ b off, ao = some ⟨b, off, none⟩ ∧ wr.cell? ⟨b, off + k, none⟩ = some (.int .i64 (ow k : Int)) := by
            have hi := hSW2.ow
            obtain ⟨_, _, hv', h1, _, _, h4⟩ := (show IntsAt wr (.slice ao (owI n ow).length co) (owI n ow) by rw [owI_length]; exact hi)
            cases hv'
            exact h4 k _ (owI_get n ow k hlt)
          have hcO : n ≤ co := by
            have hi := hSW2.ow
            obtain ⟨_, _, hv', h1, _⟩ := (show IntsAt wr (.slice (some ⟨bO, oO, none⟩) (owI n ow).length co) (owI n ow) by rw [owI_length]; exact hi)
            cases hv'
            rw [owI_length] at h1; exact h1
          obtain ⟨hbK, oK, gK, cK, hgK, hcK⟩ : ∃ (_ : True) (_ : True) (g c : Nat), (Value.slice ag n cg) = .slice (some ⟨g, 0, none⟩) n c ∧ (g < wr.heap.size ∧ (∀ j, wr.frozen? ⟨g, j, none⟩ = false) ∧ (∀ i x, z[i]? = some x → wr.cell? ⟨g, i, none⟩ = some (.int .i64 x)) ∧ n ≤ c) := by
            obtain ⟨g, c, e, -, h1, h2, h3, h4⟩ := ownsI_at hSW2.own (by omega)
            exact ⟨trivial, trivial, g, c, e, h2, h3, h4, h1⟩
          obtain ⟨hgl, hgf, hgc, hgn⟩ := hcK
          obtain ⟨rfl, -, rfl⟩ : ag = some ⟨gK, 0, none⟩ ∧ True ∧ cg = cK := by cases hgK; exact ⟨rfl, trivial, rfl⟩
          have hkz : z[k]? = some (z.getD k 0) := get_of_getD (by omega)
          have cK0 := hgc k _ hkz
          by_cases hok : ow k = o
          · have d1 : ((ow k : Int) != (o : Int)) = false := by simp; omega
            have hNl : (nbL es n k).length ≤ 64 := Nat.le_trans (List.length_filter_le _ _) (by rw [List.length_range]; exact hn)
            have hNn : ∀ u ∈ nbL es n k, u < n := fun u hu => List.mem_range.1 (List.mem_filter.1 hu).1
            have HCL := Lib.hid (castL_length (nbL es n k))
            have hNc : (castL (nbL es n k)).length ≤ 64 := by rw [HCL.out]; exact hNl
            go_wp2_with fail
            go_quiet (fail)
            obtain ⟨w1, hw1⟩ : ∃ W : World, W = wr.drewN nq := ⟨_, rfl⟩
            have hbd : Below wr.heap.size wr w1 := by rw [hw1]; exact (Below.refl _ _).drewN nq
            rw [← hw1]
            have hSW3 := hSW2.below hbd
            have hg3 := grown_trans hg2 (grown_none (grown_of_below hbd))
            have hX1 := lit_next' hbd hXr
            have hrow1 := hrow.below hbd
            clear hw1 hbd q0 q1 q2 q3 q4 q5 hSW2 hg2 hXr hrow cN1 cO cK0 hgc hgf hgl
            go_wp2_with fail
            go_loopw [5, 31] (fun vs vi wr2 => ∃ t : Nat, t ≤ (castL (nbL es n k)).length ∧ vi = .int .i64 (t : Int) ∧ ∃ L : List Int, Hid (L = ((nbL es n k).take t).map fun u => z.getD u 0) ∧ L.length ≤ t ∧ wr2.ownsRow w1.heap.size 3 1 vs L.length (intsV L) ∧ Below w1.heap.size w1 wr2) (fun _ vi _ => (castL (nbL es n k)).length - (intOf vi).toNat)
            case atStart => exact ⟨0, Nat.zero_le _, rfl, [], (show _ = _ by simp), by simp, World.ownsRow_nil _ _ _ _, Below.refl _ _⟩
            case round =>
              obtain ⟨t, ht, rfl, L, HL, hLt, hown, hb2⟩ := hrel
              obtain ⟨av, cv, hvs⟩ := owns_shape hown
              subst hvs
              have hXw := lit_next' hb2 hX1
              obtain ⟨q0, q1, q2, q3, q4, q5⟩ : wr.cell? ⟨w.heap.size, 0, none⟩ = some (.int .i64 P) ∧ wr.cell? ⟨w.heap.size, 1, none⟩ = some (.slice (some ⟨bO, oO, none⟩) n co) ∧ wr.cell? ⟨w.heap.size, 2, none⟩ = some hv0 ∧ wr.cell? ⟨w.heap.size, 3, none⟩ = some (.slice (some ⟨bN, oN, none⟩) n cN) ∧ wr.cell? ⟨w.heap.size, 4, none⟩ = some (.int .i64 (o : Int)) ∧ wr.cell? ⟨w.heap.size, 5, none⟩ = some (.slice (some ⟨gK, 0, none⟩) n cg) := ⟨cell_blk hXw, cell_blk hXw, cell_blk hXw, cell_blk hXw, cell_blk hXw, cell_blk hXw⟩
              have hSW4 := hSW3.below hb2
              have hg4 := grown_trans hg3 (grown_none (grown_of_below hb2))
              obtain ⟨gK2, cK2, eK, -, -, hgl, hgf, hgc⟩ := ownsI_at hSW4.own (by omega)
              obtain rfl : gK = gK2 := by cases eK; rfl
              by_cases hlt2 : t < (castL (nbL es n k)).length
              · have hlt4 : (t : Int) < (castL (nbL es n k)).length := by omega
                have hts : t < (nbL es n k).length := by rw [← HCL.out]; exact hlt2
                obtain ⟨u, hu⟩ : ∃ u, (nbL es n k)[t]? = some u := ⟨_, List.getElem?_eq_getElem hts⟩
                have hun : u < n := hNn u (List.mem_of_getElem? hu)
                obtain ⟨b5, o5, u', e5, hz5, -, -, c5⟩ := (hrow1.below hb2).at t hlt2
                obtain rfl : u' = (u : Int) := by
                  unfold castL at hz5
                  rw [List.getElem?_map, hu] at hz5
                  exact (Option.some.inj hz5).symm
                subst e5
                have cu := hgc u _ (get_of_getD (by omega))
                obtain ⟨zu, hzu⟩ : ∃ q, z.getD u 0 = q := ⟨_, rfl⟩
                rw [hzu] at cu
                have hui : (u : Int) < n := by omega
                have HL2 : Hid (L ++ [zu] = ((nbL es n k).take (t + 1)).map fun u => z.getD u 0) := (show _ = _ by rw [take_at _ _ _ hu, List.map_append, ← HL.out]; simp only [List.map_cons, List.map_nil]; rw [hzu])
                have hlx := ints_lit1 wr zu 3
                have hownA := hown.alloc (.cells #[.int .i64 zu] 3)
                have hbA := hb2.alloc hb2.size (.cells #[.int .i64 zu] 3)
                clear hzu hz5 hu HL hgc hgf
                go_wp2_with (at_builtin; refine wpList_app_ints intsT rfl _ _ rfl _ (.slice av L.length cv) _ L [zu] rfl hownA rfl hlx (by rw [List.length_singleton]; omega) hbA.size ?_; intro v7 w7 hown7 hgr7)
                have hb7 := hbA.grown hgr7 hbA.size (fun g e => (hownA.lt g e).1)
                go_roundw
                case rel => exact ⟨t + 1, by omega, by go_num, L ++ [zu], HL2, by simp; omega, hown7, hb7⟩
                case measure => simp [intOf]; omega
              · have htk : t = (nbL es n k).length := by rw [← HCL.out]; omega
                have hLN : (hX L : Int) = nbH es n k z := by
                  unfold nbH
                  rw [HL.out, htk, List.take_length]
                obtain ⟨a7, c7, e7, hi7, -⟩ := IntsAt.of_owns hown (by omega)
                cases e7
                have hH := degh_any av cv L wr hi7 (by omega)
                obtain ⟨H, hHH⟩ : ∃ H, hX L = H := ⟨_, rfl⟩
                rw [hHH] at hH hLN
                have HLN := Lib.hid hLN
                clear hHH hLN HL hi7 hown htk q0 q1 q2 q3 q4 q5 hgc hgf
                go_wp2_with fail
                refine hH.mono ?_
                rintro e w7 ⟨rfl, hb7⟩
                have hXw7 := lit_next' hb7 hXw
                obtain ⟨q0, q1, q2, q3, q4, q5⟩ : w7.cell? ⟨w.heap.size, 0, none⟩ = some (.int .i64 P) ∧ w7.cell? ⟨w.heap.size, 1, none⟩ = some (.slice (some ⟨bO, oO, none⟩) n co) ∧ w7.cell? ⟨w.heap.size, 2, none⟩ = some hv0 ∧ w7.cell? ⟨w.heap.size, 3, none⟩ = some (.slice (some ⟨bN, oN, none⟩) n cN) ∧ w7.cell? ⟨w.heap.size, 4, none⟩ = some (.int .i64 (o : Int)) ∧ w7.cell? ⟨w.heap.size, 5, none⟩ = some (.slice (some ⟨gK, 0, none⟩) n cg) := ⟨cell_blk hXw7, cell_blk hXw7, cell_blk hXw7, cell_blk hXw7, cell_blk hXw7, cell_blk hXw7⟩
                have hSW7 := hSW4.below hb7
                have hg7 := grown_trans hg4 (grown_none (grown_of_below hb7))
                obtain ⟨gK3, cK3, eK3, -, -, hgl3, hgf3, hgc3⟩ := ownsI_at hSW7.own (by omega)
                obtain rfl : gK = gK3 := by cases eK3; rfl
                have cKk := hgc3 k _ hkz
                have fKk := hgf3 k
                have hc6 : c = true ↔ z ≠ y := by have h := HC2.out; rw [HZ.out] at h; exact h
                obtain ⟨zk, hzk⟩ : ∃ q, z.getD k 0 = q := ⟨_, rfl⟩
                rw [hzk] at cKk
                clear hgc3 hgf3
                by_cases hlt5 : (H : Int) < zk
                · have hlt6 : decide ((H : Int) < zk) = true := decide_eq_true hlt5
                  obtain ⟨hsv, hne⟩ := swpV_ne (ow := ow) (o := o) hzl hdn hlt hok (by rw [← HLN.out, hzk]; exact hlt5)
                  have h6 : swpK es n ow o y (k + 1) = z.set k (H : Int) := by rw [HST.out, hsv, HLN.out]
                  rw [← HLN.out] at hne
                  have H6 := Lib.hid h6
                  have hownS := ownsI_set hSW7.own k (H : Int)
                  have hgS : w7.grownBy (w7.setCell ⟨gK, k, none⟩ (.int .i64 (H : Int))) (some gK) := grown_store
                  have hSW8 := hSW7.turn hgS hownS
                  have hg8 := grown_trans hg7 hgS
                  clear h6 hsv
                  go_wp2_with fail
                  go_roundw
                  case rel => exact ⟨k + 1, true, by omega, by go_num, rfl, (show _ ↔ _ by rw [H6.out]; exact ⟨fun _ => hne, fun _ => rfl⟩), by rw [H6.out]; exact hSW8, hg8⟩
                  case measure => simp [intOf]; omega
                · have hlt6 : decide ((H : Int) < zk) = false := decide_eq_false hlt5
                  have h6 : swpK es n ow o y (k + 1) = z := by rw [HST.out]; unfold swpV; rw [if_neg (fun q => hlt5 (by rw [HLN.out, ← hzk]; exact q.2))]
                  have H6 := Lib.hid h6
                  clear h6
                  go_wp2_with fail
                  go_roundw
                  case rel => exact ⟨k + 1, c, by omega, by go_num, rfl, (show _ ↔ _ by rw [H6.out]; exact hc6), by rw [H6.out]; exact hSW7, hg7⟩
                  case measure => simp [intOf]; omega
          · have d1 : ((ow k : Int) != (o : Int)) = true := by simp; omega
            clear hgc hgf
            have h6 : swpK es n ow o y (k + 1) = z := by rw [HST.out]; unfold swpV; rw [if_neg (fun q => hok q.1)]
            go_wp2_with fail
            go_quiet (fail)
            have hSW3 := hSW2.below ((Below.refl wr.heap.size wr).drewN nq)
            have hg3 := grown_trans hg2 (grown_none (grown_of_below ((Below.refl wr.heap.size wr).drewN nq)))
            have hc6 : c = true ↔ z ≠ y := by have h := HC2.out; rw [HZ.out] at h; exact h
            go_wp2_with fail
            go_roundw
            case rel => exact ⟨k + 1, c, by omega, by go_num, rfl, (show _ ↔ _ by rw [h6]; exact hc6), by rw [h6]; exact hSW3, hg3⟩
            case measure => simp [intOf]; omega
        · obtain rfl : k = n := by omega
          have hc6 : c = true ↔ swpL es k ow o y ≠ y := HC2.out
          have hp6 : c = true → posS (swpL es k ow o y) < posS y := fun e => posS_lt (swpL_dn y) (hc6.1 e)
          have hs6 : setX es k ow o (swpL es k ow o y) = setX es k ow o x := by
            rw [← HY.out]
            have h := setX_eq (es := es) (n := k) (ow := ow) (w := o) y
            by_cases e : swpL es k ow o y = y
            · rw [e]
            · rw [if_neg e] at h; exact h.symm
          have hf6 : c = false → swpL es k ow o (swpL es k ow o y) = swpL es k ow o y := fun e => by
            have : swpL es k ow o y = y := Classical.byContradiction fun h => by rw [hc6.2 h] at e; cases e
            rw [this, this]
          have hSW6 : SetW wr s k es ow ao aN ag co cN cg (swpL es k ow o y) := hSW2
          have hr6 := readL_own hSW6.own
          have HF6 := Lib.hid hf6
          have HP6 := Lib.hid hp6
          have HS6 := Lib.hid hs6
          have HR6 := Lib.hid hr6
          have HPY := Lib.hid hpy
          clear hf6 hp6 hs6 hr6 hpy hc6
          go_wp2_with fail
          go_roundw
          case rel => exact ⟨swpL es k ow o y, c, rfl, HF6, HS6, hSW6, hg2⟩
          case measure =>
            rw [HPY.out]
            cases c with
            | false => exact Nat.succ_pos _
            | true =>
              show posS (readL wr (.slice ag k cg) k) + 1 < posS y + 1
              rw [HR6.out]
              have := HP6.out rfl
              omega
end Go.Proofs.Ytdkmdcdoiaelfaa
