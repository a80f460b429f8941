/- The contracts of the squares over an edge, of the numbers of edges and of nodes. The contracts of the numbers of squares of nodes and of edges. -/
import Derived.Test.YtekbpoppajbljaaDoorGrFind
import Derived.Test.YtekbpoppajbljaaDoorSqSumsPlain
import Derived.Test.YtekbpoppajbljaaDoorAppAt
import Derived.Test.YtekbpoppajbljaaDoorRef25
namespace Go.Proofs.YtekbpoppajbljaaDoor
open Go.RowKit Go.BigFrame

theorem adj_min {n : Int} {es : List E2} (hv : Valid n es) (p q : Nat) : decide ((min (p : Int) (q : Int), max (p : Int) (q : Int)) ∈ es) = adjB es p q := by
  by_cases h : adjB es p q = true
  · rw [h, decide_eq_true_eq]
    rcases (adjB_iff es p q).1 h with h | h
    · have := (hv.2.2.1 _ h).2.1
      rw [Int.min_eq_left (by omega), Int.max_eq_right (by omega)]; exact h
    · have := (hv.2.2.1 _ h).2.1
      rw [Int.min_eq_right (by omega), Int.max_eq_left (by omega)]; exact h
  · have hf : adjB es p q = false := by simpa using h
    rw [hf, decide_eq_false_iff_not]
    intro hm
    apply h
    rw [adjB_iff]
    by_cases hpq : (p : Int) ≤ q
    · rw [Int.min_eq_left hpq, Int.max_eq_right hpq] at hm; exact .inl hm
    · rw [Int.min_eq_right (by omega), Int.max_eq_left (by omega)] at hm; exact .inr hm
set_option maxRecDepth 100000 in
set_option maxHeartbeats 1600000 in
theorem gfind_any (n : Nat) (a : Option Addr) (cap : Nat) (es : List E2) (u v : Nat) (w : World) (he : EdgesAt w (.slice a es.length cap) es) (hv : Valid n es) :
    Calls Tryd.prog 87 #[.agg #[.int .i64 n, .slice a es.length cap], .int .i64 u, .int .i64 v] w fun e w' => ∃ r : Int, e = .returned (.int .i64 r) ∧ decide (0 ≤ r) = adjB es u v ∧ Below w.heap.size w w' := by
  have hel := hv.length_le
  have hb0 : Below w.heap.size w (w.alloc (.cells #[.int .i64 n, .slice a es.length cap] 27)) := (Below.refl _ _).alloc (Nat.le_refl _) _
  have hG0 := heap_alloc_new w (.cells #[.int .i64 n, .slice a es.length cap] 27)
  have hpl := fun W h => place_any n a cap es u v W h hv.2.2.2 (by omega)
  rw [adj_min hv] at hpl
  have hck := fun W h => gcheck_any n a cap es W h
  rw [(valid_iff n es).2 hv] at hck
  obtain ⟨D, hD⟩ : ∃ D, adjB es u v = D := ⟨_, rfl⟩
  rw [hD] at hpl
  have HD := Lib.hid hD
  clear hD
  go_enter Tryd.func87, Tryd.ntmps87
  go_wp2_with fail
  refine (hpl _ (he.below hb0)).mono ?_
  rintro e w1 ⟨i, rfl, -, -, hb1⟩
  have hb01 := hb0.trans (hb1.mono hb0.size)
  have hG1 := lit_next' hb1 hG0
  have g0 : w1.cell? ⟨w.heap.size, 0, none⟩ = some (.int .i64 n) := by rw [cell_blk hG1]; rfl
  have g1 : w1.cell? ⟨w.heap.size, 1, none⟩ = some (.slice a es.length cap) := by rw [cell_blk hG1]; rfl
  clear hb1 hb0 hG0 hpl
  cases D with
  | false =>
    go_wp2_with fail
    go_ret
    exact ⟨-1, rfl, by rw [HD.out]; rfl, hb01⟩
  | true =>
    go_wp2_with fail
    refine (hck _ (he.below hb01)).mono ?_
    rintro e w2 ⟨rfl, hb2⟩
    go_wp2_with fail
    go_ret
    exact ⟨i, rfl, by rw [HD.out]; simp, hb01.trans (hb2.mono hb01.size)⟩

def encP : Enc (Nat × Nat) := ⟨2, fun p => [.int .i64 p.1, .int .i64 p.2], fun _ => rfl, fun e u hu => by simp at hu; rcases hu with h | h <;> subst h <;> rfl, by decide⟩
theorem prRT : SliceT Tryd.prog 60 59 (.agg #[.int .i64 0, .int .i64 0]) encP.k 16 := ⟨Tryd.underlying60, by kernel_rfl, rfl, by decide⟩
theorem ovB_snoc (es : List E2) (u a : Nat) (l : List Nat) (m b : Nat) (h : l[m]? = some b) : ovB es u a (l.take (m + 1)) = ovB es u a (l.take m) ++ (if (b != u && adjB es a b) = true then [(a, b)] else []) := by
  rw [take_at _ _ _ h]
  unfold ovB
  rw [List.filter_append, List.map_append]
  congr 1
  rw [List.filter_cons, List.filter_nil]
  split <;> rfl
theorem ovA_snoc (es : List E2) (u v : Nat) (l' l : List Nat) (k a : Nat) (h : l'[k]? = some a) : ovA es u v (l'.take (k + 1)) l = ovA es u v (l'.take k) l ++ (if a = v then [] else ovB es u a l) := by
  rw [take_at _ _ _ h]
  unfold ovA
  rw [List.flatMap_append]
  simp
theorem nbI_get {es : List E2} {v : Nat} {w : World} {a : Option Addr} {cap : Nat} (h : IntsAt w (.slice a (nbS es v).length cap) (nbS es v)) (k : Nat) (hk : k < (nbN es v).length) : ∃ b off x, a = some ⟨b, off, none⟩ ∧ (nbN es v)[k]? = some x ∧ x < 64 ∧ w.cell? ⟨b, off + k, none⟩ = some (.int .i64 (x : Nat)) := by
  obtain ⟨a', c', hv, _, _, _, hc⟩ := h
  obtain ⟨b, off, ha, c⟩ := hc k (((nbN es v)[k] : Nat) : Int) (by rw [nbS_eq]; simp [hk])
  obtain ⟨h1, _, _⟩ := Value.slice.inj hv
  exact ⟨b, off, (nbN es v)[k], h1.trans ha, List.getElem?_eq_getElem hk, nbN_lt es v _ (List.getElem_mem hk), c⟩
theorem nbS_len (es : List E2) (v : Nat) : (nbS es v).length = (nbN es v).length := by rw [nbS_eq, List.length_map]
set_option maxRecDepth 100000 in
set_option maxHeartbeats 6400000 in
theorem over_any (n u v : Nat) (a : Option Addr) (cap : Nat) (es : List E2) (w : World) (he : EdgesAt w (.slice a es.length cap) es) (hv : Valid n es) (hu : u < n) (hvn : v < n) (hT : TzAt w) :
    Calls Tryd.prog 60 #[.agg #[.int .i64 n, .slice a es.length cap], .int .i64 u, .int .i64 v] w fun e w' => ∃ a1 c1, e = .returned (.slice a1 (ovN es u v).length c1) ∧ RowAt encP w' (.slice a1 (ovN es u v).length c1) (ovN es u v) ∧ Below w.heap.size w w' := by
  have hn64 : n ≤ 64 := by have := hv.2.1; omega
  have hb0 : Below w.heap.size w (w.alloc (.cells #[.int .i64 n, .slice a es.length cap] 27)) := (Below.refl _ _).alloc (Nat.le_refl _) _
  have hG0 := heap_alloc_new w (.cells #[.int .i64 n, .slice a es.length cap] 27)
  have hnu := nbN_length es u
  have hnv := nbN_length es v
  have hlu := nbS_len es u
  have hlv := nbS_len es v
  go_enter Tryd.func60, Tryd.ntmps60
  go_wp2_with fail
  refine (gneigh_any n u a cap es _ (he.below hb0) hv hu (hT.below hb0)).mono ?_
  rintro e w1 ⟨x1, rfl, hown1, hb1⟩
  obtain ⟨a1, cap1, rfl, hi1, -⟩ := IntsAt.of_owns hown1 (by omega)
  have hG1 := lit_next' hb1 hG0
  have hb01 := hb0.trans (hb1.mono hb0.size)
  clear hb0 hb1 hG0 hown1
  have hNU : (nbN es u).length ≤ 64 := hnu
  clear hnu
  go_wp2_with fail
  go_loopw [16, 7] (fun i vo wr => ∃ k : Nat, k ≤ (nbN es u).length ∧ i = .int .i64 k ∧ ∃ P : List (Nat × Nat), Hid (P = ovA es u v ((nbN es u).take k) (nbN es v)) ∧ P.length ≤ 4096 ∧ wr.ownsRow w1.heap.size 59 encP.k vo P.length (flatR encP P) ∧ Below w1.heap.size w1 wr) (fun i _ _ => (nbN es u).length - (intOf i).toNat)
  case atStart => exact ⟨0, Nat.zero_le _, rfl, [], rfl, by simp, World.ownsRow_nil _ _ _ _, Below.refl _ _⟩
  case round =>
    obtain ⟨k, hk, rfl, P, HP, hPl, hown, hb⟩ := hrel
    obtain ⟨ao, co, hvo⟩ := owns_shape hown
    subst hvo
    have hG := lit_next' hb hG1
    have g0 : wr.cell? ⟨w.heap.size, 0, none⟩ = some (.int .i64 n) := by rw [cell_blk hG]; rfl
    have g1 : wr.cell? ⟨w.heap.size, 1, none⟩ = some (.slice a es.length cap) := by rw [cell_blk hG]; rfl
    have hbw := hb01.trans (hb.mono hb01.size)
    by_cases hlt : k < (nbN es u).length
    · obtain ⟨bb, off, x, rfl, hx, hx64, c0⟩ := nbI_get (hi1.below hb) k hlt
      have hstep := ovA_snoc es u v (nbN es u) (nbN es v) k x hx
      rw [← HP.out] at hstep
      have hol := ovA_len es u v (nbN es v) hnv ((nbN es u).take (k + 1))
      have htk : ((nbN es u).take (k + 1)).length ≤ 64 := by rw [List.length_take]; omega
      have hlt2 : k < (nbS es u).length := by omega
      have d2 : decide (k < (nbS es u).length) = true := by simpa using hlt2
      by_cases hxv : x = v
      · subst hxv
        rw [if_pos rfl, List.append_nil] at hstep
        have HST := Lib.hid hstep
        clear hstep hx hol
        go_wp2_with fail
        go_roundw
        case rel => exact ⟨k + 1, by omega, by go_num, P, HST.out.symm, hPl, hown, hb⟩
        case measure => simp [intOf]; omega
      · rw [if_neg hxv] at hstep
        rw [hstep, List.length_append] at hol
        have HOL := Lib.hid hol
        have HST := Lib.hid hstep
        have dxv : ((x : Int) == (v : Int)) = false := by simp; omega
        clear hstep hx hol
        go_wp2_with fail
        refine (gneigh_any n v a cap es _ (he.below hbw) hv hvn (hT.below hbw)).mono ?_
        rintro e w3 ⟨x3, rfl, hown3, hb3⟩
        obtain ⟨a3, cap3, rfl, hi3, hp3⟩ := IntsAt.of_owns hown3 (by omega)
        have hq3 : ∀ p, a3 = some p → wr.heap.size ≤ p.block ∧ p.block < w3.heap.size := fun p hp => ⟨hp3 p hp, (hown3.lt p.block (by rw [hp]; rfl)).2⟩
        obtain ⟨B3, hB3⟩ : ∃ B, wr.heap.size = B := ⟨_, rfl⟩
        have hlo := hown.lt
        have hw3s := hb3.size
        rw [hB3] at hq3 hlo
        have ho3 := hown.kept (grown_of_below hb3) (Classical.em _)
        have hG3 := lit_next' hb3 hG
        have hb13 := hb.trans (hb3.mono hb.size)
        clear hown hown3 hG g0 g1 c0 hbw HP
        go_wp2_with fail
        go_loopw [27, 7] (fun i vo wr => ∃ m : Nat, m ≤ (nbN es v).length ∧ i = .int .i64 m ∧ ∃ R : List (Nat × Nat), Hid (R = P ++ ovB es u x ((nbN es v).take m)) ∧ R.length ≤ 8192 ∧ wr.ownsRow w1.heap.size 59 encP.k vo R.length (flatR encP R) ∧ Below w1.heap.size w1 wr ∧ IntsAt wr (.slice a3 (nbS es v).length cap3) (nbS es v) ∧ (∀ g, vo.ownBlock = some g → g < B3 ∨ w3.heap.size ≤ g) ∧ w3.heap.size ≤ wr.heap.size) (fun i _ _ => (nbN es v).length - (intOf i).toNat)
        case atStart => exact ⟨0, Nat.zero_le _, rfl, P, (show P = _ by simp [ovB]), by omega, ho3, hb13, hi3, (fun g e => .inl (hlo g e).2), Nat.le_refl _⟩
        case round =>
          clear ho3 hi3
          obtain ⟨m, hm, rfl, R, HR, hRl, hownm, hb1m, hi3m, hdm, hszm⟩ := hrel
          obtain ⟨am, cm, hvm⟩ := owns_shape hownm
          subst hvm
          have hGm := lit_next' hb1m hG1
          have g0 : wr.cell? ⟨w.heap.size, 0, none⟩ = some (.int .i64 n) := by rw [cell_blk hGm]; rfl
          have g1 : wr.cell? ⟨w.heap.size, 1, none⟩ = some (.slice a es.length cap) := by rw [cell_blk hGm]; rfl
          have hbwm := hb01.trans (hb1m.mono hb01.size)
          by_cases hltm : m < (nbN es v).length
          · obtain ⟨bb3, off3, y, rfl, hy, hy64, c0⟩ := nbI_get hi3m m hltm
            have hst2 := ovB_snoc es u x (nbN es v) m y hy
            have hobl := ovB_len es u x ((nbN es v).take (m + 1))
            have htm : ((nbN es v).take (m + 1)).length ≤ 64 := by rw [List.length_take]; omega
            have hlt3 : m < (nbS es v).length := by omega
            have d3 : decide (m < (nbS es v).length) = true := by simpa using hlt3
            have hfd := fun W h => gfind_any n a cap es x y W h hv
            obtain ⟨A, hA⟩ : ∃ A, adjB es x y = A := ⟨_, rfl⟩
            rw [hA] at hfd hst2
            clear hA hy
            by_cases hyu : y = u
            · subst hyu
              have HS2 : Hid (R = P ++ ovB es y x ((nbN es v).take (m + 1))) := by show _ = _; rw [hst2, HR.out]; simp
              clear hst2 hfd hobl HR
              go_wp2_with fail
              go_roundw
              case rel => exact ⟨m + 1, by omega, by go_num, R, HS2, hRl, hownm, hb1m, hi3m, hdm, hszm⟩
              case measure => simp [intOf]; omega
            · have dyu : ((y : Int) != (u : Int)) = true := by simp; omega
              have hne : (y != u) = true := by simpa using hyu
              rw [hne, Bool.true_and] at hst2
              go_wp2_with fail
              refine (hfd _ (he.below hbwm)).mono ?_
              rintro e w5 ⟨r, rfl, hr, hb5⟩
              have hb15 := hb1m.trans (hb5.mono hb1m.size)
              have hi5 := hi3m.below hb5
              have ho5 := hownm.kept (grown_of_below hb5) (Classical.em _)
              have hw5 := hb5.size
              clear hownm hfd g0 g1 c0 hGm
              cases A with
              | false =>
                have HS2 : Hid (R = P ++ ovB es u x ((nbN es v).take (m + 1))) := by show _ = _; rw [hst2, HR.out]; simp
                clear hst2 hobl HR
                go_wp2_with fail
                go_roundw
                case rel => exact ⟨m + 1, by omega, by go_num, R, HS2, hRl, ho5, hb15, hi5, hdm, by omega⟩
                case measure => simp [intOf]; omega
              | true =>
                rw [if_pos rfl] at hst2
                have HS2 : Hid (R ++ [(x, y)] = P ++ ovB es u x ((nbN es v).take (m + 1))) := by show _ = _; rw [hst2, HR.out, List.append_assoc]
                have hRl2 : (R ++ [(x, y)]).length ≤ 8192 := by rw [HS2.out, List.length_append]; omega
                have hRl3 := hRl2
                rw [List.length_append] at hRl3
                have hl1 : RowAt encP (w5.alloc (.cells #[.int .i64 x, .int .i64 y] 59)) (.slice (some ⟨w5.heap.size, 0, none⟩) 1 1) [(x, y)] := rows_lit1 (E := encP) w5 (x, y) 59 #[.int .i64 x, .int .i64 y] rfl
                have hoA := ho5.alloc (.cells #[.int .i64 x, .int .i64 y] 59)
                have hiA := hi5.below ((Below.refl _ _).alloc (Nat.le_refl _) (.cells #[.int .i64 x, .int .i64 y] 59))
                have hbA := hb15.alloc hb15.size (.cells #[.int .i64 x, .int .i64 y] 59)
                have hwA := hb15.size
                clear hst2 hobl HR
                go_wp2_with (at_builtin; refine wpList_app_rows_at' prRT rfl _ _ rfl w1.heap.size (.slice am R.length cm) (.slice (some ⟨w5.heap.size, 0, none⟩) 1 1) R [(x, y)] rfl hoA rfl hl1 (by simp; omega) (by simp; omega) (by simp; omega) ?_; intro v6 w6 hown6 hg6 hat6)
                go_roundw
                case rel =>
                  refine ⟨m + 1, by omega, by go_num, R ++ [(x, y)], HS2, hRl2, hown6, hbA.grown hg6 hbA.size (fun g e => (hoA.lt g e).1), hiA.grown hg6 (fun g e n c p ep => ?_), fun g e => ?_, by have := hg6.size; simp at this; omega⟩
                  · obtain ⟨h1, _, _⟩ := Value.slice.inj ep
                    have := hq3 p h1
                    have := hdm g e
                    omega
                  · rcases hat6 with h | h
                    · rw [h] at e; exact hdm g e
                    · rw [h] at e; have h1 := Option.some.inj e; simp at h1; omega
                case measure => simp [intOf]; omega
          · obtain rfl : m = (nbN es v).length := by omega
            have d3 : decide ((nbN es v).length < (nbS es v).length) = false := by simp; omega
            have HRR : Hid (R = ovA es u v ((nbN es u).take (k + 1)) (nbN es v)) := by show _ = _; rw [HR.out, List.take_length, HST.out]
            have hRl4 : R.length ≤ 4096 := by have h1 := HOL.out; rw [HR.out, List.take_length, List.length_append]; omega
            clear HR
            go_wp2_with fail
            go_roundw
            case rel => exact ⟨k + 1, by omega, by go_num, R, HRR, hRl4, hownm, hb1m⟩
            case measure => simp [intOf]; omega
    · obtain rfl : k = (nbN es u).length := by omega
      have d2 : decide ((nbN es u).length < (nbS es u).length) = false := by simp; omega
      have hPN : P = ovN es u v := by rw [HP.out, List.take_length]; rfl
      obtain ⟨a6, c6, hv6, hr6, -⟩ := RowAt.of_owns hown (by omega)
      cases hv6
      clear HP
      go_wp2_with fail
      go_ret
      rw [← hPN]
      exact ⟨ao, co, rfl, hr6, hbw⟩
end Go.Proofs.YtekbpoppajbljaaDoor

namespace Go.Proofs.YtekbpoppajbljaaDoor
open Go.RowKit Go.BigFrame

set_option maxRecDepth 100000 in
set_option maxHeartbeats 1600000 in
theorem snodes_any (n : Nat) (a : Option Addr) (cap : Nat) (es : List E2) (w : World) (he : EdgesAt w (.slice a es.length cap) es) (hv : Valid n es) (hT : TzAt w) :
    Calls Tryd.prog 27 #[.agg #[.int .i64 n, .slice a es.length cap]] w fun e w' => ∃ g, e = .returned (.tuple #[.slice (some ⟨g, 0, none⟩) n n, .int .i64 0]) ∧ w.heap.size ≤ g ∧ NumAt w' g (sqV es n n 0) ∧ Below w.heap.size w w' := by
  have hb0 : Below w.heap.size w (w.alloc (.cells #[.int .i64 n, .slice a es.length cap] 27)) := (Below.refl _ _).alloc (Nat.le_refl _) _
  have hG0 := heap_alloc_new w (.cells #[.int .i64 n, .slice a es.length cap] 27)
  have hck := fun W h => gcheck_any n a cap es W h
  rw [(valid_iff n es).2 hv] at hck
  go_enter Tryd.func27, Tryd.ntmps27
  go_wp2_with fail
  refine (hck _ (he.below hb0)).mono ?_
  rintro e w1 ⟨rfl, hb1⟩
  have hb01 := hb0.trans (hb1.mono hb0.size)
  have hG1 := lit_next' hb1 hG0
  have g0 : w1.cell? ⟨w.heap.size, 0, none⟩ = some (.int .i64 n) := by rw [cell_blk hG1]; rfl
  have g1 : w1.cell? ⟨w.heap.size, 1, none⟩ = some (.slice a es.length cap) := by rw [cell_blk hG1]; rfl
  clear hb1 hb0 hG0 hck
  go_wp2_with fail
  refine (counts_any n a cap es _ (he.below hb01) hv (hT.below hb01)).mono ?_
  rintro e w2 ⟨g, rfl, hg, hN, hb2⟩
  go_wp2_with fail
  go_ret2
  exact ⟨g, rfl, Nat.le_trans hb01.size hg, hN, hb01.trans (hb2.mono hb01.size)⟩
theorem ovS_len (es : List E2) (k : Nat) (hk : k ≤ es.length) : (ovS es k).length = k := by unfold ovS; rw [List.length_map, List.length_take, Nat.min_eq_left hk]
theorem ovS_step (es : List E2) (k : Nat) (e : E2) (h : es[k]? = some e) : (ovS es k ++ List.replicate (es.length - k) 0).set k ((ovN es e.1.toNat e.2.toNat).length : Int) = ovS es (k + 1) ++ List.replicate (es.length - (k + 1)) 0 := by
  have hlt := (List.getElem?_eq_some_iff.1 h).1
  have hl := ovS_len es k (by omega)
  have e1 : ovS es (k + 1) = ovS es k ++ [((ovN es e.1.toNat e.2.toNat).length : Int)] := by
    unfold ovS
    rw [take_at _ _ _ h, List.map_append]; rfl
  have e2 : List.replicate (es.length - k) (0 : Int) = 0 :: List.replicate (es.length - (k + 1)) 0 := by
    rw [show es.length - k = (es.length - (k + 1)) + 1 by omega]; rfl
  rw [List.set_append_right k _ (by omega), hl, Nat.sub_self, e2, List.set_cons_zero, e1, List.append_assoc]; rfl
set_option maxRecDepth 100000 in
set_option maxHeartbeats 3200000 in
theorem sedges_any (n : Nat) (a : Option Addr) (cap : Nat) (es : List E2) (w : World) (he : EdgesAt w (.slice a es.length cap) es) (hv : Valid n es) (hT : TzAt w) :
    Calls Tryd.prog 28 #[.agg #[.int .i64 n, .slice a es.length cap]] w fun e w' => ∃ g, e = .returned (.tuple #[.slice (some ⟨g, 0, none⟩) es.length es.length, .int .i64 0]) ∧ w.heap.size ≤ g ∧ NumAt w' g (ovS es es.length) ∧ Below w.heap.size w w' := by
  have hel := hv.length_le
  have hb0 : Below w.heap.size w (w.alloc (.cells #[.int .i64 n, .slice a es.length cap] 27)) := (Below.refl _ _).alloc (Nat.le_refl _) _
  have hG0 := heap_alloc_new w (.cells #[.int .i64 n, .slice a es.length cap] 27)
  have hck := fun W h => gcheck_any n a cap es W h
  rw [(valid_iff n es).2 hv] at hck
  have hmk := make_ints es.length (by omega)
  go_enter Tryd.func28, Tryd.ntmps28
  go_wp2_with fail
  refine (hck _ (he.below hb0)).mono ?_
  rintro e w1 ⟨rfl, hb1⟩
  have hb01 := hb0.trans (hb1.mono hb0.size)
  have hG1 := lit_next' hb1 hG0
  have g1 : w1.cell? ⟨w.heap.size, 1, none⟩ = some (.slice a es.length cap) := by rw [cell_blk hG1]; rfl
  have hG2 := (Below.heap_alloc w1 (.cells (intsV (List.replicate es.length 0)).toArray 3) _ (blk_lt hG1)).trans hG1
  have g2 : (w1.alloc (.cells (intsV (List.replicate es.length 0)).toArray 3)).cell? ⟨w.heap.size, 1, none⟩ = some (.slice a es.length cap) := by rw [cell_blk hG2]; rfl
  have hN0 : NumAt (w1.alloc (.cells (intsV (List.replicate es.length 0)).toArray 3)) w1.heap.size (ovS es 0 ++ List.replicate (es.length - 0) 0) := heap_alloc_new _ _
  have hb02 := hb01.alloc hb01.size (.cells (intsV (List.replicate es.length 0)).toArray 3)
  have hz1 := blk_lt hG1
  have hw1 := hb01.size
  clear hb1 hb0 hG0 hck
  go_wp2_with fail
  clear hmk g1 g2
  generalize w1.alloc (.cells (intsV (List.replicate es.length 0)).toArray 3) = w2 at *
  go_loopw [20] (fun i wr => ∃ k : Nat, k ≤ es.length ∧ i = .int .i64 k ∧ NumAt wr w1.heap.size (ovS es k ++ List.replicate (es.length - k) 0) ∧ Below w.heap.size w wr ∧ wr.heap[w.heap.size]? = some (.cells #[.int .i64 n, .slice a es.length cap] 27 (0, 0))) (fun i _ => es.length - (intOf i).toNat)
  case atStart => exact ⟨0, Nat.zero_le _, rfl, hN0, hb02, hG2⟩
  case round =>
    clear hN0 hb02 hG2
    obtain ⟨k, hk, rfl, hN, hb, hG⟩ := hrel
    have hNz := blk_lt hN
    by_cases hlt : k < es.length
    · have hxi := hv.2.2.1 es[k] (List.getElem_mem hlt)
      have hstep := ovS_step es k es[k] (List.getElem?_eq_getElem hlt)
      obtain ⟨a', cap', hvv, _, _, _, hcell⟩ := he.below hb
      obtain ⟨bb, off, ha, c0, c1⟩ := hcell k _ (List.getElem?_eq_getElem hlt)
      cases hvv
      subst ha
      obtain ⟨x, hx⟩ : ∃ x, es[k].1 = x := ⟨_, rfl⟩
      obtain ⟨y, hy⟩ : ∃ y, es[k].2 = y := ⟨_, rfl⟩
      have hi1 : 0 ≤ x := by rw [← hx]; exact hxi.1
      have hi2 : x < y := by rw [← hx, ← hy]; exact hxi.2.1
      have hi3 : y < n := by rw [← hy]; exact hxi.2.2
      rw [hx, hy] at hstep
      rw [hx] at c0
      rw [hy] at c1
      clear hx hy hxi hcell
      obtain ⟨x, rfl⟩ := Int.eq_ofNat_of_zero_le hi1
      obtain ⟨y, rfl⟩ := Int.eq_ofNat_of_zero_le (show 0 ≤ y by omega)
      rw [Int.toNat_natCast, Int.toNat_natCast] at hstep
      have HST := Lib.hid hstep
      clear hstep
      have hE := heap_alloc_new wr (.cells #[.int .i64 x, .int .i64 y] 42)
      have hbn := (Below.refl wr.heap.size wr).alloc (Nat.le_refl _) (.cells #[.int .i64 x, .int .i64 y] 42)
      have hGn := lit_next' hbn hG
      have g0 : (wr.alloc (.cells #[.int .i64 x, .int .i64 y] 42)).cell? ⟨w.heap.size, 0, none⟩ = some (.int .i64 n) := by rw [cell_blk hGn]; rfl
      have g1 : (wr.alloc (.cells #[.int .i64 x, .int .i64 y] 42)).cell? ⟨w.heap.size, 1, none⟩ = some (.slice (some ⟨bb, off, none⟩) es.length cap) := by rw [cell_blk hGn]; rfl
      have hbwn := hb.trans (hbn.mono hb.size)
      go_wp2_with fail
      refine (over_any n x y (some ⟨bb, off, none⟩) cap es _ (he.below hbwn) hv (by omega) (by omega) (hT.below hbwn)).mono ?_
      rintro e w3 ⟨a3, c3, rfl, -, hb3⟩
      have hb13 := hbn.trans (hb3.mono hbn.size)
      have hN3 := hN.below hb13
      have hG3 := lit_next' hb13 hG
      have hb03 := hb.trans (hb13.mono hb.size)
      obtain ⟨z0, hz0⟩ : ∃ z, w3.cell? ⟨w1.heap.size, k, none⟩ = some (.int .i64 z) := by
        have hl := ovS_len es k hk
        refine ⟨0, hN3.cell k 0 ?_⟩
        rw [List.getElem?_append_right (by omega), hl, Nat.sub_self, List.getElem?_replicate, if_pos (by omega)]
      have f0 : w3.frozen? ⟨w1.heap.size, k, none⟩ = false := free_blk hN3
      have hset := hN3.set k ((ovN es x y).length : Int)
      rw [HST.out] at hset
      have HSE := Lib.hid hset
      clear hset hN3 hN g0 g1 c0 c1 hE hGn hb3
      go_wp2_with fail
      go_roundw
      case rel => exact ⟨k + 1, by omega, by go_num, HSE.out, hb03.setCell (p := ⟨w1.heap.size, k, none⟩) hw1 _, (Below.heap_setCell _ _ _ _ (by show w.heap.size ≠ w1.heap.size; omega)).trans hG3⟩
      case measure => simp [intOf]; omega
    · obtain rfl : k = es.length := by omega
      rw [Nat.sub_self, List.replicate_zero, List.append_nil] at hN
      go_wp2_with fail
      go_ret2
      exact ⟨w1.heap.size, rfl, hw1, hN, hb⟩
end Go.Proofs.YtekbpoppajbljaaDoor
