/- The contract of the other workers that own neighbours of a node. -/
import Derived.Test.YtdkmdcdoiaelfaaRdSet
import Derived.Test.YtdkmdcdoiaelfaaShelf
namespace Go.Proofs.Ytdkmdcdoiaelfaa
open Go.RowKit Go.BigFrame

theorem arr_get (zs : List Int) (j : Nat) (h : j < zs.length) : zs.toArray[j]! = zs[j] := by
  simp [h]
/-- what Compact leaves of a list in order -/
theorem compact_asc (zs : List Int) (h : zs.Pairwise (· ≤ ·)) : Asc (Lib.compact zs) := by
  unfold Asc Lib.compact Lib.compactUpTo
  rw [List.pairwise_map]
  refine List.Pairwise.imp_of_mem (fun {i j} hi hj hij => ?_) ((List.pairwise_lt_range (n := zs.length)).filter _)
  obtain ⟨hi1, -⟩ := List.mem_filter.1 hi
  obtain ⟨hj1, hj2⟩ := List.mem_filter.1 hj
  have hi3 := List.mem_range.1 hi1
  have hj3 := List.mem_range.1 hj1
  unfold Lib.keeps at hj2
  rw [decide_eq_true_eq] at hj2
  rcases hj2 with e | e
  · omega
  · rw [arr_get zs j hj3, arr_get zs (j - 1) (by omega)] at e
    rw [arr_get zs j hj3, arr_get zs i hi3]
    have hp := List.pairwise_iff_getElem.1 h
    have h1 : zs[j - 1] ≤ zs[j] := hp (j - 1) j (by omega) hj3 (by omega)
    have h2 : zs[i] ≤ zs[j - 1] := by
      by_cases e2 : i = j - 1
      · subst e2; exact Int.le_refl _
      · exact hp i (j - 1) hi3 (by omega) (by omega)
    omega
theorem compact_mem (zs : List Int) (x : Int) : x ∈ Lib.compact zs ↔ x ∈ zs := by
  unfold Lib.compact Lib.compactUpTo
  rw [List.mem_map]
  constructor
  · rintro ⟨j, hj, rfl⟩
    have hj3 := List.mem_range.1 (List.mem_filter.1 hj).1
    rw [arr_get zs j hj3]
    exact List.getElem_mem _
  · intro hx
    obtain ⟨j, hj, rfl⟩ := List.getElem_of_mem hx
    have key : ∀ m (hm : m < zs.length), ∃ i, i ∈ (List.range zs.length).filter (Lib.keeps zs.toArray) ∧ zs.toArray[i]! = zs[m] := by
      intro m
      induction m with
      | zero => intro hm; exact ⟨0, List.mem_filter.2 ⟨List.mem_range.2 hm, by simp [Lib.keeps]⟩, arr_get zs 0 hm⟩
      | succ m ih =>
        intro hm
        by_cases e : zs[m + 1] = zs[m]
        · obtain ⟨i, h1, h2⟩ := ih (by omega)
          exact ⟨i, h1, by rw [h2, e]⟩
        · refine ⟨m + 1, List.mem_filter.2 ⟨List.mem_range.2 hm, ?_⟩, arr_get zs (m + 1) hm⟩
          unfold Lib.keeps
          rw [decide_eq_true_eq]
          right
          rw [arr_get zs (m + 1) hm, show m + 1 - 1 = m from rfl, arr_get zs m (by omega)]
          exact e
    exact key j hj
/-- the owners of the neighbours that another one owns -/
def ownQ (es : List E2) (n : Nat) (ow : Nat → Nat) (v t : Nat) : List Int := (((nbL es n v).take t).filter fun y => ow y != ow v).map fun y => ((ow y : Nat) : Int)
theorem ownQ_step (es : List E2) (n : Nat) (ow : Nat → Nat) (v t u : Nat) (h : (nbL es n v)[t]? = some u) : ownQ es n ow v (t + 1) = if ow u = ow v then ownQ es n ow v t else ownQ es n ow v t ++ [((ow u : Nat) : Int)] := by
  unfold ownQ
  rw [take_at _ _ _ h, List.filter_append, List.map_append]
  by_cases e : ow u = ow v
  · rw [if_pos e]; simp [e]
  · rw [if_neg e]; simp [e]
theorem ownQ_own {es : List E2} {n P : Nat} {ow : Nat → Nat} (how : ∀ v, v < n → ow v < P) (v : Nat) : Lib.compact (srt (ownQ es n ow v (nbL es n v).length)) = castL (ownL es n P ow v) := by
  refine asc_eq _ _ (compact_asc _ (srt_asc _)) (asc_range _ P) fun x => ?_
  rw [compact_mem, (srt_perm _).mem_iff]
  unfold ownQ castL
  rw [List.take_length, List.mem_map, List.mem_map]
  constructor
  · rintro ⟨y, hy, rfl⟩
    obtain ⟨h1, h2⟩ := List.mem_filter.1 hy
    obtain ⟨h3, h4⟩ := List.mem_filter.1 h1
    have h5 := List.mem_range.1 h3
    exact ⟨ow y, ownL_mem.2 ⟨how y h5, by simpa using h2, y, h5, h4, rfl⟩, rfl⟩
  · rintro ⟨t, ht, rfl⟩
    obtain ⟨h1, h2, y, h3, h4, h5⟩ := ownL_mem.1 ht
    exact ⟨y, List.mem_filter.2 ⟨List.mem_filter.2 ⟨List.mem_range.2 h3, h4⟩, by simpa [h5] using h2⟩, by rw [h5]⟩
theorem below_setCells {B : Nat} {w : World} (b : Nat) (hb : B ≤ b) : ∀ (vs : List Value) (o : Nat) (W : World), Below B w W → Below B w (W.setCells b o vs) := by
  intro vs
  induction vs with
  | nil => intro o W h; exact h
  | cons v vs ih => intro o W h; exact ih (o + 1) _ (h.setCell (p := ⟨b, o, none⟩) hb v)
/-- slices.Compact at a row of one's own in a new block -/
theorem compact_own {s : Nat} (v : Value) (xs : List Int) (w : World) (hown : w.ownsRow s 3 1 v xs.length (intsV xs)) (hl : xs.length ≤ 1000000) :
    Calls Try.prog 144 #[v] w fun e w' => ∃ a c, e = .returned (.slice a (Lib.compact xs).length c) ∧ IntsAt w' (.slice a (Lib.compact xs).length c) (Lib.compact xs) ∧ (∀ p, a = some p → s ≤ p.block) ∧ Below s w w' := by
  rcases hown.2 with ⟨rfl, h0⟩ | ⟨g, cap, cur, rfl, hbase, hb, h1, h2, h3, h4⟩
  · obtain rfl := List.eq_nil_of_length_eq_zero h0
    refine (Try.slices_Compact_int_empty none 0 w).mono ?_
    rintro e w' ⟨rfl, rfl⟩
    exact ⟨none, 0, rfl, ints_nil _, (fun p h => by cases h), Below.refl _ _⟩
  · have hat : ∀ j, j < xs.length → w.cell? ⟨g, j, none⟩ = some (.int .i64 (xs.getD j 0)) := fun j hj => by
      rw [cell_blk hb]
      have h5 : (intsV xs)[j]? = some (.int .i64 xs[j]) := by simp [intsV, List.getElem?_eq_getElem hj]
      rw [← h4, List.getElem?_take] at h5
      split at h5
      · rw [List.getD_eq_getElem?_getD, List.getElem?_eq_getElem hj]
        simpa using h5
      · omega
    have hcl := Lib.compact_length_le xs
    refine (Try.slices_Compact_int_cells g 0 xs.length cap xs w (Nat.le_refl _) (by omega) h1 (fun j hj => by rw [Nat.zero_add]; exact hat j hj) (fun j _ => by rw [Nat.zero_add]; exact free_blk hb)).mono ?_
    rintro e w' ⟨rfl, q, rfl⟩
    rw [List.take_length]
    refine ⟨_, cap, rfl, ⟨_, cap, rfl, by omega, (fun h => by cases h), by omega, fun i x hi => ⟨g, 0, rfl, ?_⟩⟩, (fun p h => by cases h; exact hbase), below_setCells g hbase _ _ _ (show Below s w (w.drewN q) from (Below.refl s w).drewN q)⟩
    have hlt := (List.getElem?_eq_some_iff.1 hi).1
    have hin := World.cell?_setCells_in g ((Lib.compact xs ++ List.replicate (xs.length - (Lib.compact xs).length) 0).map (Value.int .i64)) 0 (w.drewN q) (fun j hj => by
      rw [List.length_map, List.length_append, List.length_replicate] at hj
      rw [Nat.zero_add]
      show ((w.cell? ⟨g, j, none⟩).isSome = true)
      rw [hat j (by omega)]; rfl) i (by rw [List.length_map, List.length_append, List.length_replicate]; omega)
    rw [hin]
    congr 1
    have h6 := (List.getElem?_eq_some_iff.1 hi).2
    rw [List.getElem_map, List.getElem_append_left hlt, h6]
def OwPost (w : World) (l : List Int) (e : Ending) (w' : World) : Prop := ∃ a c, e = .returned (.slice a l.length c) ∧ IntsAt w' (.slice a l.length c) l ∧ (∀ p, a = some p → w.heap.size ≤ p.block) ∧ Below w.heap.size w w'
set_option maxRecDepth 100000 in
set_option maxHeartbeats 6400000 in
theorem rdowners_any (n P v : Nat) (hv0 : Value) (es : List E2) (ow : Nat → Nat) (ao aN : Option Addr) (co cN : Nat) (Q : Nat → Prop) (w : World) (hn : n ≤ 64) (hvn : v < n) (how : ∀ v, v < n → ow v < P)
    (hO : IntsAt w (.slice ao n co) (owI n ow)) (hN : RowsX Q w (.slice aN n cN) (nearL es n)) :
    Calls Try.prog 117 #[.agg #[.int .i64 P, .slice ao n co, hv0, .slice aN n cN], .int .i64 v] w (OwPost w (castL (ownL es n P ow v))) := by
  obtain ⟨hXX, hb0⟩ := boxG_new w #[.int .i64 P, .slice ao n co, hv0, .slice aN n cN] 106
  obtain ⟨wA, hwA⟩ : ∃ W : World, W = w.alloc (.cells #[.int .i64 P, .slice ao n co, hv0, .slice aN n cN] 106) := ⟨_, rfl⟩
  rw [← hwA] at hXX hb0
  have HWA := Lib.hid hwA
  have hOA := hO.below hb0
  have hNA := hN.below hb0
  have hres := ownQ_own (es := es) how v
  obtain ⟨RES, hRES⟩ : ∃ R, castL (ownL es n P ow v) = R := ⟨_, rfl⟩
  rw [hRES] at hres ⊢
  have HRES := Lib.hid hres
  have hNl : (nbL es n v).length ≤ 64 := Nat.le_trans (List.length_filter_le _ _) (by rw [List.length_range]; exact hn)
  have hNn : ∀ u ∈ nbL es n v, u < n := fun u hu => List.mem_range.1 (List.mem_filter.1 hu).1
  have HCL := Lib.hid (castL_length (nbL es n v))
  have hNc : (castL (nbL es n v)).length ≤ 64 := by rw [HCL.out]; exact hNl
  obtain ⟨-, bN, oN, a5, c5, rfl, hcN, -, cN1, hrow, -⟩ := hNA.at v _ (nearL_get es n v hvn)
  have hvi : (v : Int) < n := by omega
  obtain ⟨bO, oO, rfl, hOc, hcO⟩ : ∃ b off, ao = some ⟨b, off, none⟩ ∧ (∀ i, i < n → wA.cell? ⟨b, off + i, none⟩ = some (.int .i64 (ow i : Int))) ∧ n ≤ co := by
    obtain ⟨_, _, hv', h1, _, _, h4⟩ := (show IntsAt wA (.slice ao (owI n ow).length co) (owI n ow) by rw [owI_length]; exact hOA)
    cases hv'
    rw [owI_length] at h1
    obtain ⟨b, off, rfl, -⟩ := h4 v _ (owI_get n ow v hvn)
    refine ⟨b, off, rfl, fun i hi => ?_, h1⟩
    obtain ⟨b', off', e, c⟩ := h4 i _ (owI_get n ow i hi)
    cases e; exact c
  have HOC := Lib.hid hOc
  have ov0 := hOc v hvn
  obtain ⟨q0, q1, q2, q3⟩ := cells4 hXX
  clear hwA hO hN hOA hNA hres hRES hOc
  go_enter Try.func117, Try.ntmps117
  go_wp2_with (rw [← HWA.out])
  clear q0 q1 q2 q3 cN1 ov0
  go_loopw [5, 14] (fun vo vi wr => ∃ t : Nat, t ≤ (castL (nbL es n v)).length ∧ vi = .int .i64 (t : Int) ∧ ∃ L : List Int, Hid (L = ownQ es n ow v t) ∧ L.length ≤ t ∧ wr.ownsRow wA.heap.size 3 1 vo L.length (intsV L) ∧ Below wA.heap.size wA wr) (fun _ vi _ => (castL (nbL es n v)).length - (intOf vi).toNat)
  case atStart => exact ⟨0, Nat.zero_le _, rfl, [], (show _ = _ by simp [ownQ]), by simp, World.ownsRow_nil _ _ _ _, Below.refl _ _⟩
  case round =>
    obtain ⟨t, ht, rfl, L, HL, hLt, hown, hb⟩ := hrel
    obtain ⟨av, cv, hvs⟩ := owns_shape hown
    subst hvs
    have hXr := lit_next' hb hXX
    by_cases hlt : t < (castL (nbL es n v)).length
    · have hlt3 : (t : Int) < (castL (nbL es n v)).length := by omega
      have hts : t < (nbL es n v).length := by rw [← HCL.out]; exact hlt
      obtain ⟨u, hu⟩ : ∃ u, (nbL es n v)[t]? = some u := ⟨_, List.getElem?_eq_getElem hts⟩
      have hun : u < n := hNn u (List.mem_of_getElem? hu)
      obtain ⟨b5, o5, u', e5, hz5, -, -, c5'⟩ := (hrow.below hb).at t hlt
      obtain rfl : u' = (u : Int) := by
        unfold castL at hz5
        rw [List.getElem?_map, hu] at hz5
        exact (Option.some.inj hz5).symm
      subst e5
      have hui : (u : Int) < n := by omega
      have ou := (hb.cell (p := ⟨bO, oO + u, none⟩) (cell_lt (HOC.out u hun))).trans (HOC.out u hun)
      have ov := (hb.cell (p := ⟨bO, oO + v, none⟩) (cell_lt (HOC.out v hvn))).trans (HOC.out v hvn)
      have hst := ownQ_step es n ow v t u hu
      rw [← HL.out] at hst
      have HST := Lib.hid hst
      obtain ⟨q0, q1, q2, q3⟩ := cells4 hXr
      clear hst hz5 hu HL
      by_cases hd : ow u = ow v
      · have d1 : ((ow u : Int) != (ow v : Int)) = false := by simp; omega
        have h6 := HST.out
        rw [if_pos hd] at h6
        have H6 := Lib.hid h6.symm
        clear h6
        go_wp2_with fail
        go_quiet (fail)
        have hown7 := hown.kept (grown_of_below ((Below.refl wr.heap.size wr).drewN nq)) (Classical.em _)
        have hb7 := hb.drewN nq
        go_wp2_with fail
        go_roundw
        case rel => exact ⟨t + 1, by omega, by go_num, L, H6, by omega, hown7, hb7⟩
        case measure => simp [intOf]; omega
      · have d1 : ((ow u : Int) != (ow v : Int)) = true := by simp; omega
        have h6 := HST.out
        rw [if_neg hd] at h6
        have H6 := Lib.hid h6.symm
        clear h6
        go_wp2_with fail
        go_quiet (fail)
        obtain ⟨w1, hw1⟩ : ∃ W : World, W = wr.drewN nq := ⟨_, rfl⟩
        have hbd : Below wr.heap.size wr w1 := by rw [hw1]; exact (Below.refl _ _).drewN nq
        rw [← hw1]
        have hown1 := hown.kept (grown_of_below hbd) (Classical.em _)
        have hb1 := hb.trans (hbd.mono hb.size)
        have hX1 := lit_next' hbd hXr
        have ou1 := (hbd.cell (p := ⟨bO, oO + u, none⟩) (cell_lt ou)).trans ou
        clear hw1 q0 q1 q2 q3 ou ov
        obtain ⟨q0, q1, q2, q3⟩ := cells4 hX1
        have hlx := ints_lit1 w1 (ow u : Int) 3
        have hownA := hown1.alloc (.cells #[.int .i64 (ow u : Int)] 3)
        have hbA := hb1.alloc hb1.size (.cells #[.int .i64 (ow u : Int)] 3)
        go_wp2_with (at_builtin; refine wpList_app_ints intsT rfl _ _ rfl _ (.slice av L.length cv) _ L [(ow u : Int)] rfl hownA rfl hlx (by rw [List.length_singleton]; omega) hbA.size ?_; intro v7 w7 hown7 hgr7)
        have hb7 := hbA.grown hgr7 hbA.size (fun g e => (hownA.lt g e).1)
        go_roundw
        case rel => exact ⟨t + 1, by omega, by go_num, L ++ [(ow u : Int)], H6, by simp; omega, hown7, hb7⟩
        case measure => simp [intOf]; omega
    · have htk : t = (nbL es n v).length := by rw [← HCL.out]; omega
      have hLN : Lib.compact (srt L) = RES := by rw [HL.out, htk]; exact HRES.out
      have hso := sort_own (.slice av L.length cv) L wr hown (by omega)
      have hsl := srt_length L
      have HLN := Lib.hid hLN
      have hlo := fun k e => (hown.lt k e).1
      clear hLN HL hown htk
      go_wp2_with fail
      refine hso.mono ?_
      rintro e w2 ⟨rfl, hown2, hg2⟩
      have hb2 := hb.grown hg2 hb.size hlo
      have hown3 : w2.ownsRow wA.heap.size 3 1 (.slice av L.length cv) (srt L).length (intsV (srt L)) := by rw [hsl]; exact hown2
      have hco := compact_own (.slice av L.length cv) (srt L) w2 hown3 (by omega)
      rw [HLN.out] at hco
      clear hso hsl hown2
      go_wp2_with fail
      refine hco.mono ?_
      rintro e w3 ⟨a3, c3, rfl, hi3, hp3, hb3⟩
      go_wp2_with fail
      go_ret
      exact ⟨a3, c3, rfl, hi3, fun p hp => Nat.le_trans hb0.size (hp3 p hp), hb0.trans ((hb2.trans hb3).mono hb0.size)⟩
end Go.Proofs.Ytdkmdcdoiaelfaa
