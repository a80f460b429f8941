/- The walk of the law on the sums of the squares. -/
import Derived.Test.YtbkacbbhiecnkaaDoorSqNums
import Derived.Test.YtbkacbbhiecnkaaDoorRef03New
import Derived.Test.YtbkacbbhiecnkaaDoorMkGraph
namespace Go.Proofs.YtbkacbbhiecnkaaDoor
open Go.RowKit Go.BigFrame

/-- the sum of the pairs with u that lie above u and before v -/
def rowUp (G : Nat → Nat → Int) (u v : Nat) : Int := sumN (fun x => if u < x then G u x else 0) v
theorem rowUp_start (G : Nat → Nat → Int) (u : Nat) : rowUp G u (u + 1) = 0 := by
  unfold rowUp
  rw [sumN_congr _ (fun _ => 0) (u + 1) (fun v hv => if_neg (by omega)), sumN_zero]
theorem rowUp_step (G : Nat → Nat → Int) (u v : Nat) (h : u < v) : rowUp G u (v + 1) = rowUp G u v + G u v := by
  show sumN _ v + (if u < v then G u v else 0) = _
  rw [if_pos h]; rfl
theorem sumN_cut (g : Nat → Int) (x : Nat) : ∀ n, x ≤ n → sumN (fun u => if u < x then g u else 0) n = sumN g x := by
  intro n
  induction n with
  | zero => intro h; rw [show x = 0 by omega]; rfl
  | succ n ih =>
    intro h
    by_cases hx : x = n + 1
    · subst hx; exact sumN_congr _ _ _ fun v hv => if_pos hv
    · show sumN _ n + (if n < x then g n else 0) = _
      rw [ih (by omega), if_neg (by omega), Int.add_zero]
theorem rowUp_all (G : Nat → Nat → Int) (n : Nat) : sumN (fun u => rowUp G u n) n = sort2 n (fun a b => G b a) := by
  unfold rowUp sort2
  rw [sumN_swap]
  exact sumN_congr _ _ n fun x hx => sumN_cut (fun u => G u x) x n (by omega)
theorem cmL_comm (es : List E2) (n u v : Nat) : cmL es n u v = cmL es n v u := by
  unfold cmL
  exact List.filter_congr fun x _ => Bool.and_comm _ _
def comG (es : List E2) (n : Nat) (u v : Nat) : Int := ((chS (cmL es n u v).length 2 : Nat) : Int)
theorem comG_eq (es : List E2) (n u v : Nat) : comG es n u v = pairI ((cmL es n u v).length : Int) := by
  have h1 := ch_two (cmL es n u v).length
  have h2 := pairI_two ((cmL es n u v).length : Int)
  unfold comG
  omega
theorem comG_all {n : Nat} {es : List E2} (hv : Valid n es) : sumN (fun u => rowUp (comG es n) u n) n = 2 * ((cyc30 es n).length : Int) := by
  rw [rowUp_all, ← sort2_com hv]
  unfold sort2
  refine sumN_congr _ _ n fun a _ => sumN_congr _ _ a fun b _ => ?_
  show comG es n b a = pairI ((cmL es n a b).length : Int)
  rw [comG_eq, cmL_comm]
theorem cmL_len (es : List E2) (n u v : Nat) : (cmL es n u v).length ≤ n := by
  have h := List.length_filter_le (fun x => adjB es u x && adjB es v x) (List.range n)
  rw [List.length_range] at h; exact h
theorem comG_bd (es : List E2) (n u v : Nat) (hn : n ≤ 9) : 0 ≤ comG es n u v ∧ comG es n u v ≤ 40 := by
  have h1 := ch_two (cmL es n u v).length
  have h2 := cmL_len es n u v
  refine ⟨Int.natCast_nonneg _, ?_⟩
  unfold comG
  rcases (by omega : (cmL es n u v).length = 0 ∨ (cmL es n u v).length = 1 ∨ (cmL es n u v).length = 2 ∨ (cmL es n u v).length = 3 ∨ (cmL es n u v).length = 4 ∨ (cmL es n u v).length = 5 ∨ (cmL es n u v).length = 6 ∨ (cmL es n u v).length = 7 ∨ (cmL es n u v).length = 8 ∨ (cmL es n u v).length = 9) with h | h | h | h | h | h | h | h | h | h <;> rw [h] at h1 ⊢ <;> omega
theorem rowUp_bd (es : List E2) (n u : Nat) (hn : n ≤ 9) : ∀ v, 0 ≤ rowUp (comG es n) u v ∧ rowUp (comG es n) u v ≤ v * 40 := by
  intro v
  induction v with
  | zero => exact ⟨Int.le_refl _, Int.le_refl _⟩
  | succ v ih =>
    have h := comG_bd es n u v hn
    show 0 ≤ rowUp (comG es n) u v + (if u < v then comG es n u v else 0) ∧ rowUp (comG es n) u v + (if u < v then comG es n u v else 0) ≤ _
    split <;> omega
theorem allUp_bd (es : List E2) (n : Nat) (hn : n ≤ 9) : ∀ u, 0 ≤ sumN (fun u => rowUp (comG es n) u n) u ∧ sumN (fun u => rowUp (comG es n) u n) u ≤ u * 400 := by
  intro u
  induction u with
  | zero => exact ⟨Int.le_refl _, Int.le_refl _⟩
  | succ u ih =>
    have h := rowUp_bd es n u hn n
    show 0 ≤ sumN _ u + rowUp (comG es n) u n ∧ sumN _ u + rowUp (comG es n) u n ≤ _
    omega
theorem ovS_next (es : List E2) (k : Nat) (e : E2) (h : es[k]? = some e) : (ovS es (k + 1)).sum = (ovS es k).sum + ((ovN es e.1.toNat e.2.toNat).length : Int) := by
  unfold ovS
  rw [take_at _ _ _ h, List.map_append, List.sum_append]
  simp
theorem ovS_bd (es : List E2) : ∀ k, k ≤ es.length → 0 ≤ (ovS es k).sum ∧ (ovS es k).sum ≤ k * 4096 := by
  intro k
  induction k with
  | zero => intro _; simp [ovS]
  | succ k ih =>
    intro hk
    have h := ih (by omega)
    have h2 := ovN_len es es[k].1.toNat es[k].2.toNat
    rw [ovS_next es k es[k] (List.getElem?_eq_getElem (by omega))]
    omega
theorem ovS_get (es : List E2) (k : Nat) (hk : k < es.length) : (ovS es es.length)[k]? = some ((ovN es es[k].1.toNat es[k].2.toNat).length : Int) := by
  unfold ovS
  rw [List.take_length, List.getElem?_map, List.getElem?_eq_getElem hk]; rfl
set_option maxRecDepth 100000 in
set_option maxHeartbeats 6400000 in
theorem sums_law (a : Option Addr) (len cap : Nat) (w : World) (hl : ListAt w a len) (hT : TzAt w) :
    Calls Tryd.prog 12 #[.slice a len cap] w fun e w' => e = .returned (.bool true) ∧ Below w.heap.size w w' := by
  by_cases hfew : len ≤ 500
  case neg =>
    have hd : decide (len ≤ 500) = false := by simpa using hfew
    go_enter Tryd.func12, Tryd.ntmps12
    go_wp2_with (first
      | (go_at_call 15; refine (few_any _ _ _ _).mono ?_; rintro e w' ⟨rfl, rfl⟩)
      | (go_at_call 32; refine (awake30_any _ hT).mono ?_; rintro e w' ⟨rfl, hb⟩))
    go_ret
    exact ⟨rfl, hb⟩
  case pos =>
  have hd : decide (len ≤ 500) = true := by simpa using hfew
  have hdk := deck_new (cap := cap) hl
  have hb1 : Below w.heap.size w (w.alloc (.cells #[.slice a len cap, .int .i64 0] 81)) := (Below.refl _ _).alloc (Nat.le_refl _) _
  go_enter Tryd.func12, Tryd.ntmps12
  go_wp2_with (first
    | (go_at_call 15; refine (few_any _ _ _ _).mono ?_; rintro e w' ⟨rfl, rfl⟩)
    | (go_at_call 18; refine (new_any _ _ _ _).mono ?_; rintro e w' ⟨rfl, rfl⟩)
    | (go_at_call 17; refine (mkgraph_any w.heap.size 9 _ hdk (by omega) (by omega)).mono ?_; rintro e w2 ⟨n0, es, a2, cap2, rfl, he2, hv, hn9, hd2, hg2, ho2⟩))
  have hb2 : Below w.heap.size w w2 := below_deck hb1 hg2 (Nat.le_refl _) hb1.size
  obtain ⟨n, rfl⟩ := Int.eq_ofNat_of_zero_le hv.1
  have hn9 : n ≤ 9 := by omega
  have hel := hv.length_le
  have hG := heap_alloc_new w2 (.cells #[.int .i64 n, .slice a2 es.length cap2] 27)
  have hb3 := hb2.alloc hb2.size (.cells #[.int .i64 n, .slice a2 es.length cap2] 27)
  have he3 := he2.below ((Below.refl _ _).alloc (Nat.le_refl _) (.cells #[.int .i64 n, .slice a2 es.length cap2] 27))
  obtain ⟨Q, hQ⟩ : ∃ Q, (cyc30 es n).length = Q := ⟨_, rfl⟩
  have hsq := sqT_four hv
  have hco := comG_all hv
  have hov := ovS_sum hv
  rw [hQ] at hsq hco hov
  have hsb := sqT_bd es n (by omega) n
  have hcnt := fun W h hT => scount_any n a2 cap2 es W h hv hT
  rw [hsq, show 4 * (Q : Int) / 4 = Q by omega] at hcnt
  have HSQ := Lib.hid hsq
  have HCO := Lib.hid hco
  have HOV := Lib.hid hov
  have hQb : (Q : Int) ≤ 9 * 2199023255552 := by omega
  clear hsq hco hov hb1 hdk hd2 hg2 ho2 he2 hb2 hQ hsb
  go_wp2_with fail
  refine (hcnt _ he3 (hT.below hb3)).mono ?_
  rintro e w4 ⟨rfl, hb4⟩
  have hb34 := hb3.trans (hb4.mono hb3.size)
  have he4 := he3.below hb4
  have hG4 := lit_next' hb4 hG
  have g0 : w4.cell? ⟨w2.heap.size, 0, none⟩ = some (.int .i64 n) := by rw [cell_blk hG4]; rfl
  have g1 : w4.cell? ⟨w2.heap.size, 1, none⟩ = some (.slice a2 es.length cap2) := by rw [cell_blk hG4]; rfl
  clear hcnt hb3 he3 hG hb4
  go_wp2_with fail
  refine (snodes_any n a2 cap2 es _ he4 hv (hT.below hb34)).mono ?_
  rintro e w5 ⟨gp, rfl, -, hNp, hb5⟩
  have hb35 := hb34.trans (hb5.mono hb34.size)
  have he5 := he4.below hb5
  have hG5 := lit_next' hb5 hG4
  have g0' : w5.cell? ⟨w2.heap.size, 0, none⟩ = some (.int .i64 n) := by rw [cell_blk hG5]; rfl
  have g1' : w5.cell? ⟨w2.heap.size, 1, none⟩ = some (.slice a2 es.length cap2) := by rw [cell_blk hG5]; rfl
  clear g0 g1 hb34 he4 hG4 hb5
  go_wp2_with fail
  refine (sedges_any n a2 cap2 es _ he5 hv (hT.below hb35)).mono ?_
  rintro e w6 ⟨gq, rfl, -, hNq, hb6⟩
  have hb36 := hb35.trans (hb6.mono hb35.size)
  have he6 := he5.below hb6
  have hG6 := lit_next' hb6 hG5
  have hNp6 := hNp.below hb6
  clear g0' g1' hb35 he5 hG5 hb6 hNp
  go_wp2_with fail
  go_loopw [43, 10] (fun i va wr => ∃ k : Nat, k ≤ n ∧ i = .int .i64 k ∧ ∃ A : Int, va = .int .i64 A ∧ Hid (A = sqT es n k) ∧ 0 ≤ A ∧ A ≤ k * 2199023255552 ∧ Below w6.heap.size w6 wr) (fun i _ _ => n - (intOf i).toNat)
  case atStart => exact ⟨0, Nat.zero_le _, rfl, 0, rfl, rfl, by omega, by omega, Below.refl _ _⟩
  case round =>
    obtain ⟨k, hk, rfl, A, rfl, HA, hA0, hA1, hb⟩ := hrel
    by_cases hlt : k < n
    · have c0 := (hNp6.below hb).cell k _ (sqV_get es n n 0 k hlt)
      rw [if_pos hlt] at c0
      have sb := sqN_bd es n (by omega) k n
      have tb := sqT_bd es n (by omega) (k + 1)
      have hst : sqT es n (k + 1) = A + sqN es n k n := by rw [HA.out]; rfl
      rw [hst] at tb
      have HST := Lib.hid hst
      clear hst HA
      generalize sqN es n k n = s at *
      have v1 : IntKind.i64.wrap (A + s) = A + s := IntWalk.i64_in _ (by omega)
      go_wp2_with fail
      go_roundw
      case rel => exact ⟨k + 1, by omega, by go_num, A + s, rfl, HST.out.symm, tb.1, by omega, hb⟩
      case measure => simp [intOf]; omega
    · obtain rfl : k = n := by omega
      obtain rfl : A = 4 * (Q : Int) := by rw [HA.out]; exact HSQ.out
      clear HA hA0 hA1
      have hb37 := hb36.trans (hb.mono hb36.size)
      have he7 := he6.below hb
      have hG7 := lit_next' hb hG6
      have hNq7 := hNq.below hb
      clear hb36 he6 hG6 hNp6 hNq hb
      go_wp2_with fail
      obtain ⟨w7, hw7⟩ : ∃ W : World, W = wr := ⟨_, rfl⟩
      rw [← hw7] at hb37 he7 hG7 hNq7 ⊢
      clear hw7
      go_loopw [53, 11] (fun i va wr => ∃ j : Nat, j ≤ es.length ∧ i = .int .i64 j ∧ ∃ A : Int, va = .int .i64 A ∧ Hid (A = (ovS es j).sum) ∧ 0 ≤ A ∧ A ≤ j * 4096 ∧ Below w7.heap.size w7 wr) (fun i _ _ => es.length - (intOf i).toNat)
      case atStart => exact ⟨0, Nat.zero_le _, rfl, 0, rfl, (show (0 : Int) = _ by simp [ovS]), by omega, by omega, Below.refl _ _⟩
      case round =>
        obtain ⟨j, hj, rfl, A, rfl, HA, hA0, hA1, hb⟩ := hrel
        by_cases hlt : j < es.length
        · have c0 := (hNq7.below hb).cell j _ (ovS_get es j hlt)
          have sb := ovN_len es es[j].1.toNat es[j].2.toNat
          have hst := ovS_next es j es[j] (List.getElem?_eq_getElem hlt)
          rw [← HA.out] at hst
          have HST := Lib.hid hst
          clear hst HA
          generalize (ovN es es[j].1.toNat es[j].2.toNat).length = s at *
          have v1 : IntKind.i64.wrap (A + (s : Int)) = A + s := IntWalk.i64_in _ (by omega)
          go_wp2_with fail
          go_roundw
          case rel => exact ⟨j + 1, by omega, by go_num, A + s, rfl, HST.out.symm, by omega, by omega, hb⟩
          case measure => simp [intOf]; omega
        · obtain rfl : j = es.length := by omega
          obtain rfl : A = 4 * (Q : Int) := by rw [HA.out]; exact HOV.out
          clear HA hA0 hA1
          have hb38 := hb37.trans (hb.mono hb37.size)
          have he8 := he7.below hb
          have hG8 := lit_next' hb hG7
          clear hb37 he7 hG7 hNq7 hb
          go_wp2_with fail
          obtain ⟨w8, hw8⟩ : ∃ W : World, W = wr := ⟨_, rfl⟩
          rw [← hw8] at hb38 he8 hG8 ⊢
          clear hw8
          go_loopw [17, 12] (fun i va wr => ∃ u : Nat, u ≤ k ∧ i = .int .i64 u ∧ ∃ A : Int, va = .int .i64 A ∧ Hid (A = sumN (fun u => rowUp (comG es k) u k) u) ∧ 0 ≤ A ∧ A ≤ u * 400 ∧ Below w8.heap.size w8 wr) (fun i _ _ => k - (intOf i).toNat)
          case atStart => exact ⟨0, Nat.zero_le _, rfl, 0, rfl, rfl, by omega, by omega, Below.refl _ _⟩
          case round =>
            obtain ⟨u, hu, rfl, A, rfl, HA, hA0, hA1, hb⟩ := hrel
            have hG9 := lit_next' hb hG8
            have g0 : wr.cell? ⟨w2.heap.size, 0, none⟩ = some (.int .i64 k) := by rw [cell_blk hG9]; rfl
            have g1 : wr.cell? ⟨w2.heap.size, 1, none⟩ = some (.slice a2 es.length cap2) := by rw [cell_blk hG9]; rfl
            by_cases hltu : u < k
            · have hT1 : Hid (sumN (fun u => rowUp (comG es k) u k) (u + 1) = A + rowUp (comG es k) u k) := by show _ = _; rw [HA.out]; rfl
              have hS1 : Hid (rowUp (comG es k) u (u + 1) = 0) := rowUp_start _ u
              clear HA
              go_wp2_with fail
              clear g0 g1
              go_loopw [18, 12] (fun i va wr => ∃ v : Nat, u < v ∧ v ≤ k ∧ i = .int .i64 v ∧ ∃ C : Int, va = .int .i64 (A + C) ∧ Hid (C = rowUp (comG es k) u v) ∧ 0 ≤ C ∧ C ≤ v * 40 ∧ Below w8.heap.size w8 wr) (fun i _ _ => k - (intOf i).toNat)
              case atStart => exact ⟨u + 1, by omega, by omega, by go_num, 0, by simp, hS1.out.symm, by omega, by omega, hb⟩
              case round =>
                obtain ⟨v, huv, hvk, rfl, C, rfl, HC, hC0, hC1, hb⟩ := hrel
                have hG9 := lit_next' hb hG8
                have g0 : wr.cell? ⟨w2.heap.size, 0, none⟩ = some (.int .i64 k) := by rw [cell_blk hG9]; rfl
                have g1 : wr.cell? ⟨w2.heap.size, 1, none⟩ = some (.slice a2 es.length cap2) := by rw [cell_blk hG9]; rfl
                by_cases hltv : v < k
                · have hcm := common_new (k : Int) a2 cap2 es u v wr (he8.below hb) hv (by omega)
                  rw [common_eq hv] at hcm
                  have hml := cmL_len es k u v
                  have hch := fun W => choose_any (cmL es k u v).length 2 W (by omega) (by omega)
                  have hcb := comG_bd es k u v hn9
                  have hst := rowUp_step (comG es k) u v huv
                  rw [← HC.out] at hst
                  have hll : ((cmL es k u v).map fun (i : Nat) => (i : Int)).length = (cmL es k u v).length := List.length_map _
                  unfold IntsNew at hcm
                  rw [hll] at hcm
                  obtain ⟨S, hS⟩ : ∃ S, comG es k u v = S := ⟨_, rfl⟩
                  have hSS : ((chS (cmL es k u v).length 2 : Nat) : Int) = S := hS
                  rw [hS] at hst hcb
                  rw [hSS] at hch
                  obtain ⟨M, hM⟩ : ∃ M, (cmL es k u v).length = M := ⟨_, rfl⟩
                  rw [hM] at hcm hch
                  have HST := Lib.hid hst
                  clear hst HC hS hSS hM hll hml
                  have v1 : IntKind.i64.wrap (A + C + S) = A + C + S := IntWalk.i64_in _ (by omega)
                  go_wp2_with fail
                  refine hcm.mono ?_
                  rintro e w10 ⟨a10, c10, rfl, -, hb10, -⟩
                  go_wp2_with fail
                  refine (hch _).mono ?_
                  rintro e w11 ⟨rfl, hb11⟩
                  go_wp2_with fail
                  go_roundw
                  case rel => exact ⟨v + 1, by omega, by omega, by go_num, C + S, by rw [Int.add_assoc], HST.out.symm, by omega, by omega, (hb.trans (hb10.mono hb.size)).trans (hb11.mono (Nat.le_trans hb.size hb10.size))⟩
                  case measure => simp [intOf]; omega
                · obtain rfl : v = k := by omega
                  have hTT : Hid (A + C = sumN (fun u => rowUp (comG es v) u v) (u + 1)) := by show _ = _; rw [hT1.out, HC.out]
                  clear HC
                  go_wp2_with fail
                  go_roundw
                  case rel => exact ⟨u + 1, by omega, by go_num, A + C, rfl, hTT, by omega, by omega, hb⟩
                  case measure => simp [intOf]; omega
            · obtain rfl : u = k := by omega
              obtain rfl : A = 2 * (Q : Int) := by rw [HA.out]; exact HCO.out
              clear HA hA0 hA1
              have hb39 := hb38.trans (hb.mono hb38.size)
              have v1 : IntKind.i64.wrap (4 * (Q : Int)) = 4 * (Q : Int) := IntWalk.i64_in _ (by omega)
              have v2 : IntKind.i64.wrap (2 * (Q : Int)) = 2 * (Q : Int) := IntWalk.i64_in _ (by omega)
              go_wp2_with fail
              refine (awake30_any _ (hT.below hb39)).mono ?_
              rintro e w12 ⟨rfl, hb12⟩
              go_wp2_with fail
              go_ret
              exact ⟨rfl, hb39.trans (hb12.mono hb39.size)⟩
end Go.Proofs.YtbkacbbhiecnkaaDoor
