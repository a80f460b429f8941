/- The contracts of the reference's triangles of an edge, of the number of those within a set, and of the list of all edges. The contracts of the reference's number of triangles within a set, of all edges, and of what is in the first list and not in the second. -/
import Derived.Test.YtbkacbbhiecnkaaDoorTrFns
import Derived.Test.YtbkacbbhiecnkaaDoorRef03New
import Derived.Deep.RegionHeld3
namespace Go.Proofs.YtbkacbbhiecnkaaDoor
open Go.RowKit Go.BigFrame

theorem find_idx (p : E2) : ∀ (es : List E2) (k : Nat), p ∈ es → findFrom k es p = ((k + es.idxOf p : Nat) : Int) := by
  intro es
  induction es with
  | nil => intro k h; cases h
  | cons e es ih =>
    intro k h
    unfold findFrom
    by_cases he : e = p
    · rw [if_pos he, he, List.idxOf_cons_self]; simp
    · rw [if_neg he, ih _ (by rcases List.mem_cons.1 h with h | h; exact absurd h.symm he; exact h), List.idxOf_cons, show (e == p) = false by simpa using he]
      simp only [cond_false]
      omega
theorem find_ix {n : Int} {es : List E2} (hv : Valid n es) (u x : Nat) (h : adjB es u x = true) : findS es u x = (ixN es u x : Int) := by
  unfold findS ixN
  rw [find_idx _ es 0 (adj_mem hv u x h).1, Nat.zero_add]
theorem fourc {w : World} {X Y T T' : Nat} {x y z u : Value} (h : w.heap[X]? = some (.cells #[x, y] T (0, 0))) (h2 : w.heap[Y]? = some (.cells #[z, u] T' (0, 0))) : w.cell? ⟨X, 0, none⟩ = some x ∧ w.cell? ⟨X, 1, none⟩ = some y ∧ w.cell? ⟨Y, 0, none⟩ = some z ∧ w.cell? ⟨Y, 1, none⟩ = some u :=
  ⟨by rw [cell_blk h]; rfl, by rw [cell_blk h]; rfl, by rw [cell_blk h2]; rfl, by rw [cell_blk h2]; rfl⟩
set_option maxRecDepth 100000 in
set_option maxHeartbeats 3200000 in
theorem rpairs_any (n i : Nat) (a : Option Addr) (cap : Nat) (es : List E2) (w : World) (he : EdgesAt w (.slice a es.length cap) es) (hv : Valid n es) (hi : i < es.length) :
    Calls Tryd.prog 115 #[.agg #[.int .i64 n, .slice a es.length cap], .int .i64 i] w fun e w' => ∃ a1 c1, e = .returned (.slice a1 (triN es n i).length c1) ∧ RowAt encQ w' (.slice a1 (triN es n i).length c1) (triN es n i) ∧ (∀ p, a1 = some p → w.heap.size ≤ p.block) ∧ Below w.heap.size w w' := by
  have hel := hv.length_le
  have hn64 := hv.2.1
  have hb0 : Below w.heap.size w (w.alloc (.cells #[.int .i64 n, .slice a es.length cap] 27)) := (Below.refl _ _).alloc (Nat.le_refl _) _
  have hG0 := heap_alloc_new w (.cells #[.int .i64 n, .slice a es.length cap] 27)
  have hk2 : es[i]? = some es[i] := List.getElem?_eq_getElem hi
  obtain ⟨u, v, huv, hltuv, hvn, hadj⟩ := edge_at hv i _ hk2
  rw [huv] at hk2
  obtain ⟨b0, o0, hb0', c0, c1⟩ : ∃ b off, a = some ⟨b, off, none⟩ ∧ (w.alloc (.cells #[.int .i64 n, .slice a es.length cap] 27)).cell? ⟨b, off + i * 2, none⟩ = some (.int .i64 (u : Int)) ∧ (w.alloc (.cells #[.int .i64 n, .slice a es.length cap] 27)).cell? ⟨b, off + i * 2 + 1, none⟩ = some (.int .i64 (v : Int)) := by
    obtain ⟨_, _, hv', _, _, _, hc⟩ := he.below hb0
    cases hv'
    exact hc i _ hk2
  have hce : es.length ≤ cap := by obtain ⟨_, _, hv', h1, _⟩ := he; cases hv'; exact h1
  have hi3 : (i : Int) < es.length := by omega
  have htl := triN_len (n := n) i u v hk2
  have HK := Lib.hid hk2
  clear hk2 huv
  subst hb0'
  have hEn := heap_alloc_new (w.alloc (.cells #[.int .i64 n, .slice (some ⟨b0, o0, none⟩) es.length cap] 27)) (.cells #[.int .i64 (u : Int), .int .i64 (v : Int)] 42)
  have hbE := hb0.alloc hb0.size (.cells #[.int .i64 (u : Int), .int .i64 (v : Int)] 42)
  have hGE := lit_next' ((Below.refl _ _).alloc (Nat.le_refl _) (.cells #[.int .i64 (u : Int), .int .i64 (v : Int)] 42)) hG0
  have hz1 : (w.alloc (.cells #[.int .i64 n, .slice (some ⟨b0, o0, none⟩) es.length cap] 27)).heap.size = w.heap.size + 1 := by simp
  rw [hz1] at hEn
  have hcm := common_new n (some ⟨b0, o0, none⟩) cap es u v _ (he.below hbE) hv (by omega)
  rw [common_eq hv] at hcm
  unfold IntsNew at hcm
  go_enter Tryd.func115, Tryd.ntmps115
  go_wp2_with fail
  refine hcm.mono ?_
  rintro e w3 ⟨a3, c3, rfl, hi3c, hb3, hnw3⟩
  have hcl := cmL_length es n u v
  have hml : ((cmL es n u v).map fun (i : Nat) => (i : Int)).length = (cmL es n u v).length := List.length_map _
  have hG3 := lit_next' hb3 hGE
  have hE3 := lit_next' hb3 hEn
  have hb03 := hbE.trans (hb3.mono hbE.size)
  have hi3d : IntsAt w3 (.slice a3 (cmI es n u v).length c3) (cmI es n u v) := hi3c
  rw [hml]
  have hz3 := blk_lt hE3
  clear hcm hi3c hb3 hnw3 hbE hGE hEn hG0 hb0 c0 c1 hz1 hml
  go_wp2_with fail
  go_loopw [5, 21] (fun vo vi wr => ∃ t : Nat, t ≤ (cmL es n u v).length ∧ vi = .int .i64 t ∧ wr.ownsRow w3.heap.size 77 encQ.k vo t (flatR encQ ((triN es n i).take t)) ∧ Below w3.heap.size w3 wr) (fun _ vi _ => (cmL es n u v).length - (intOf vi).toNat)
  case atStart => exact ⟨0, Nat.zero_le _, rfl, World.ownsRow_nil _ _ _ _, Below.refl _ _⟩
  case round =>
    obtain ⟨t, ht, rfl, hown, hb⟩ := hrel
    obtain ⟨ao, co, hvo⟩ := owns_shape hown
    subst hvo
    by_cases hltt : t < (cmL es n u v).length
    · have hlt3 : (t : Int) < (cmL es n u v).length := by omega
      have hx : (cmL es n u v)[t]? = some (cmL es n u v)[t] := List.getElem?_eq_getElem hltt
      obtain ⟨x, hxx⟩ : ∃ x, (cmL es n u v)[t] = x := ⟨_, rfl⟩
      rw [hxx] at hx
      obtain ⟨hxn, hux, hvx⟩ := (cmL_mem es n u v x).1 (List.mem_of_getElem? hx)
      obtain ⟨b7, o7, hb7, y0⟩ : ∃ b off, a3 = some ⟨b, off, none⟩ ∧ wr.cell? ⟨b, off + t, none⟩ = some (.int .i64 (x : Int)) := by
        obtain ⟨_, _, hv', _, _, _, hc⟩ := hi3d.below hb
        cases hv'
        refine hc t _ ?_
        unfold cmI
        rw [List.getElem?_map, hx]; rfl
      have hcc : (cmL es n u v).length ≤ c3 := by obtain ⟨_, _, hv', h1, _⟩ := hi3d; cases hv'; rw [cmI_length] at h1; exact h1
      have hb0w := hb03.trans (hb.mono hb03.size)
      have hfu := fun W h => find_any n (some ⟨b0, o0, none⟩) cap es u x W h hv
      have hfv := fun W h => find_any n (some ⟨b0, o0, none⟩) cap es v x W h hv
      rw [find_ix hv u x hux] at hfu
      rw [find_ix hv v x hvx] at hfv
      have htk := triN_take (n := n) i t u v x HK.out hx
      have htl2 : ((triN es n i).take t).length = t := by rw [List.length_take, htl]; omega
      have heW := (he.below hb0w).below (Below.refl _ _).drew
      have hGW : wr.drew.heap[w.heap.size]? = _ := lit_next' hb.drew hG3
      have hEW : wr.drew.heap[w.heap.size + 1]? = _ := lit_next' hb.drew hE3
      have gw0 : wr.cell? ⟨w.heap.size, 0, none⟩ = some (.int .i64 n) := by have h := cell_blk (j := 0) hGW; exact h
      have gw1 : wr.cell? ⟨w.heap.size, 1, none⟩ = some (.slice (some ⟨b0, o0, none⟩) es.length cap) := by have h := cell_blk (j := 1) hGW; exact h
      have ew0 : wr.cell? ⟨w.heap.size + 1, 0, none⟩ = some (.int .i64 (u : Int)) := by have h := cell_blk (j := 0) hEW; exact h
      have ew1 : wr.cell? ⟨w.heap.size + 1, 1, none⟩ = some (.int .i64 (v : Int)) := by have h := cell_blk (j := 1) hEW; exact h
      have hownd : wr.drew.ownsRow w3.heap.size 77 encQ.k (.slice ao t co) t (flatR encQ ((triN es n i).take t)) := hown
      have hbd : Below w3.heap.size w3 wr.drew := hb.drew
      obtain ⟨P, hP⟩ : ∃ P, (triN es n i).take t = P := ⟨_, rfl⟩
      rw [hP] at htk htl2 hownd
      have HTK := Lib.hid htk
      have HTL := Lib.hid htl2
      have hownd2 : wr.drew.ownsRow w3.heap.size 77 encQ.k (.slice ao t co) P.length (flatR encQ P) := by rw [htl2]; exact hownd
      clear htk htl2 hP hx hxx hown hownd
      generalize ixN es u x = i1 at *
      generalize ixN es v x = i2 at *
      subst hb7
      go_wp2_with fail
      go_region_held3 (fun w' => w'.cell? ⟨w.heap.size, 0, none⟩ = some (.int .i64 n) ∧ w'.cell? ⟨w.heap.size, 1, none⟩ = some (.slice (some ⟨b0, o0, none⟩) es.length cap) ∧ w'.cell? ⟨w.heap.size + 1, 0, none⟩ = some (.int .i64 (u : Int)) ∧ w'.cell? ⟨w.heap.size + 1, 1, none⟩ = some (.int .i64 (v : Int)))
        (first
          | go_keep
          | exact fourc hG4 hE4
          | exact fourc hG5 hE5
          | exact fourc hG5A hE5A
          | exact fourc hG6 hE6)
        (first
          | (refine step_app_rows pqRT rfl (.tmp 25) (.tmp 37) rfl w3.heap.size _ _ P [(i1, i2)] rfl (by exact hown5) rfl (by exact hlx5) (by rw [HTL.out]; simp; omega) (by rw [HTL.out]; simp; omega) (by exact hb5A.size) ?_; intro v6 w6 hown6 hg6; have hG6 := grown_blk hg6 hG5A (by intro e; have := (hown5.lt _ e.symm).1; omega); have hE6 := grown_blk hg6 hE5A (by intro e; have := (hown5.lt _ e.symm).1; omega))
          | (go_at_call 59; (first | with_reducible refine (hfu _ he4).mono ?_ | with_reducible refine (hfv _ he4).mono ?_); rintro e w5 ⟨rfl, hb5⟩; have hG5 := lit_next' hb5 hG4; have hE5 := lit_next' hb5 hE4; have hG5A := lit_next' ((Below.refl _ _).alloc (Nat.le_refl _) (.cells #[.int .i64 (i1 : Int), .int .i64 (i2 : Int)] 77)) hG5; have hE5A := lit_next' ((Below.refl _ _).alloc (Nat.le_refl _) (.cells #[.int .i64 (i1 : Int), .int .i64 (i2 : Int)] 77)) hE5; have hown5 := (hown4.kept (grown_of_below hb5) (Classical.em _)).alloc (.cells #[.int .i64 (i1 : Int), .int .i64 (i2 : Int)] 77); have hlx5 := rows_lit1 (E := encQ) w5 (i1, i2) 77 #[.int .i64 (i1 : Int), .int .i64 (i2 : Int)] rfl; have hb5A := (hb4.trans (hb5.mono hb4.size)).alloc (hb4.trans (hb5.mono hb4.size)).size (.cells #[.int .i64 (i1 : Int), .int .i64 (i2 : Int)] 77))
          | (go_at_call 59; (first | with_reducible refine (hfu _ heW).mono ?_ | with_reducible refine (hfv _ heW).mono ?_); rintro e w4 ⟨rfl, hb4'⟩; have he4 := heW.below hb4'; have hG4 := lit_next' hb4' hGW; have hE4 := lit_next' hb4' hEW; have hown4 := hownd2.kept (grown_of_below hb4') (Classical.em _); have hb4 := hbd.trans (hb4'.mono hbd.size)))
      all_goals
        have hl6 : (P ++ [(i1, i2)]).length = t + 1 := by rw [List.length_append, HTL.out]; rfl
        rw [hl6, ← HTK.out] at hown6
        go_wp2_with fail
        go_roundw
        case rel => exact ⟨t + 1, by omega, by go_num, hown6, hb5A.grown hg6 hb5A.size (fun g e => (hown5.lt g e).1)⟩
        case measure => simp [intOf]; omega
    · obtain rfl : t = (cmL es n u v).length := by omega
      rw [List.take_of_length_le (by omega), ← htl] at hown
      obtain ⟨a8, c8, hv8, hr8, hp8⟩ := RowAt.of_owns hown (by omega)
      cases hv8
      have hz := hb03.size
      go_wp2_with fail
      go_ret
      exact ⟨ao, co, by rw [htl]; rfl, hr8, fun p h => Nat.le_trans hz (hp8 p h), hb03.trans (hb.mono hz)⟩
end Go.Proofs.YtbkacbbhiecnkaaDoor

namespace Go.Proofs.YtbkacbbhiecnkaaDoor
open Go.RowKit Go.BigFrame

def wiP (xs : List Int) (p : Nat × Nat) : Bool := decide ((p.1 : Int) ∈ xs) && decide ((p.2 : Int) ∈ xs)
def wiN (es : List E2) (n i : Nat) (xs : List Int) (t : Nat) : Nat := (((triN es n i).take t).filter (wiP xs)).length
theorem wiN_step (es : List E2) (n i : Nat) (xs : List Int) (t : Nat) (p : Nat × Nat) (h : (triN es n i)[t]? = some p) : wiN es n i xs (t + 1) = wiN es n i xs t + (if wiP xs p = true then 1 else 0) := by
  unfold wiN
  rw [take_at _ _ _ h, List.filter_append, List.length_append]
  congr 1
  cases hq : wiP xs p <;> simp [List.filter, hq]
theorem wiN_le (es : List E2) (n i : Nat) (xs : List Int) (t : Nat) : wiN es n i xs t ≤ n := by
  unfold wiN
  refine Nat.le_trans (List.length_filter_le _ _) ?_
  have := tri_le es n i
  rw [List.length_take]; omega
theorem mem_castL (l : List Nat) (x : Nat) : (x : Int) ∈ castL l ↔ x ∈ l := by
  unfold castL
  rw [List.mem_map]
  constructor
  · rintro ⟨y, hy, e⟩
    have : y = x := by omega
    rw [← this]; exact hy
  · intro h; exact ⟨x, h, rfl⟩
/-- within a list of edges: the support there -/
theorem wiN_sup (es : List E2) (n i : Nat) (l : List Nat) (S : Nat → Bool) (h : ∀ x, S x = true ↔ x ∈ l) : wiN es n i (castL l) (triN es n i).length = trS es n S i := by
  unfold wiN trS supT
  rw [List.take_length]
  congr 1
  refine List.filter_congr fun p _ => ?_
  unfold wiP
  have e : ∀ x : Nat, decide ((x : Int) ∈ castL l) = S x := fun x => by
    rw [Bool.eq_iff_iff, decide_eq_true_eq, mem_castL, h]
  rw [e, e]
set_option maxRecDepth 100000 in
set_option maxHeartbeats 3200000 in
theorem rwithin12_any (n i : Nat) (a : Option Addr) (cap : Nat) (es : List E2) (a2 : Option Addr) (cap2 : Nat) (xs : List Int) (w : World) (he : EdgesAt w (.slice a es.length cap) es) (hv : Valid n es) (hi : i < es.length) (hx : IntsAt w (.slice a2 xs.length cap2) xs) :
    Calls Tryd.prog 107 #[.agg #[.int .i64 n, .slice a es.length cap], .int .i64 i, .slice a2 xs.length cap2] w fun e w' => e = .returned (.int .i64 (wiN es n i xs (triN es n i).length : Int)) ∧ Below w.heap.size w w' := by
  have hb0 : Below w.heap.size w (w.alloc (.cells #[.int .i64 n, .slice a es.length cap] 27)) := (Below.refl _ _).alloc (Nat.le_refl _) _
  go_enter Tryd.func107, Tryd.ntmps107
  go_wp2_with fail
  refine (rpairs_any n i a cap es _ (he.below hb0) hv hi).mono ?_
  rintro e w1 ⟨a1, c1, rfl, hr1, -, hb1⟩
  have hb01 := hb0.trans (hb1.mono hb0.size)
  have hx1 := hx.below hb01
  have hn64 := hv.2.1
  have htb := tri_le es n i
  clear hb0 hb1 hx
  go_wp2_with fail
  go_loopw [7, 14] (fun vc vi wr => ∃ t : Nat, t ≤ (triN es n i).length ∧ vi = .int .i64 t ∧ ∃ C : Nat, vc = .int .i64 C ∧ Hid (C = wiN es n i xs t) ∧ C ≤ n ∧ Below w1.heap.size w1 wr) (fun _ vi _ => (triN es n i).length - (intOf vi).toNat)
  case atStart => exact ⟨0, Nat.zero_le _, rfl, 0, rfl, (show (0 : Nat) = _ by simp [wiN]), Nat.zero_le _, Below.refl _ _⟩
  case round =>
    obtain ⟨t, ht, rfl, C, rfl, HC, hCn, hb⟩ := hrel
    by_cases hlt : t < (triN es n i).length
    · obtain ⟨b9, o9, p, rfl, hp, hcap9, hat9⟩ := (hr1.below hb).elem t hlt
      have x0 : wr.cell? ⟨b9, o9 + t * 2, none⟩ = some (.int .i64 (p.1 : Int)) := hat9 0 _ rfl
      have x1 : wr.cell? ⟨b9, o9 + t * 2 + 1, none⟩ = some (.int .i64 (p.2 : Int)) := hat9 1 _ rfl
      have hlt3 : (t : Int) < (triN es n i).length := by omega
      have hst := wiN_step es n i xs t p hp
      have hle := wiN_le es n i xs (t + 1)
      rw [← HC.out] at hst
      rw [hst] at hle
      have HST := Lib.hid hst
      have hbA := hb.alloc hb.size (.cells #[.int .i64 (p.1 : Int), .int .i64 (p.2 : Int)] 77)
      have h1 := has_any a2 cap2 xs (p.1 : Int) _ (hx1.below hbA)
      have h2 := has_any a2 cap2 xs (p.2 : Int) _ (hx1.below hbA)
      have hw : wiP xs p = (decide ((p.1 : Int) ∈ xs) && decide ((p.2 : Int) ∈ xs)) := rfl
      rw [hw] at HST hle
      obtain ⟨A, hA⟩ : ∃ A, decide ((p.1 : Int) ∈ xs) = A := ⟨_, rfl⟩
      obtain ⟨B, hB⟩ : ∃ B, decide ((p.2 : Int) ∈ xs) = B := ⟨_, rfl⟩
      rw [hA, hB] at HST hle
      rw [hA] at h1
      rw [hB] at h2
      clear hst hw hA hB hat9 hp HC
      cases A with
      | false =>
        go_wp2_with (go_at_call 138; with_reducible refine h1.mono ?_; rintro e w4 ⟨rfl, rfl⟩)
        go_roundw
        case rel => exact ⟨t + 1, by omega, by go_num, C, rfl, (show C = _ by rw [HST.out]; simp), hCn, hbA⟩
        case measure => simp [intOf]; omega
      | true =>
        cases B with
        | false =>
          go_wp2_with (first
            | (go_at_call 138; with_reducible refine h1.mono ?_; rintro e w4 ⟨rfl, rfl⟩)
            | (go_at_call 138; with_reducible refine h2.mono ?_; rintro e w4 ⟨rfl, rfl⟩))
          go_roundw
          case rel => exact ⟨t + 1, by omega, by go_num, C, rfl, (show C = _ by rw [HST.out]; simp), hCn, hbA⟩
          case measure => simp [intOf]; omega
        | true =>
          go_wp2_with (first
            | (go_at_call 138; with_reducible refine h1.mono ?_; rintro e w4 ⟨rfl, rfl⟩)
            | (go_at_call 138; with_reducible refine h2.mono ?_; rintro e w4 ⟨rfl, rfl⟩))
          go_roundw
          case rel => exact ⟨t + 1, by omega, by go_num, C + 1, by go_num, (show C + 1 = _ by rw [HST.out]; simp), by simpa using hle, hbA⟩
          case measure => simp [intOf]; omega
    · obtain rfl : t = (triN es n i).length := by omega
      have hz := hb01.size
      go_wp2_with fail
      go_ret
      exact ⟨by rw [HC.out]; rfl, hb01.trans (hb.mono hz)⟩
def IntsNw (w : World) (ys : List Int) (e : Ending) (w' : World) : Prop := ∃ a cap, e = .returned (.slice a ys.length cap) ∧ IntsAt w' (.slice a ys.length cap) ys ∧ (∀ p, a = some p → w.heap.size ≤ p.block) ∧ Below w.heap.size w w'
theorem ints_nw {w w' : World} {T : Nat} {v : Value} {xs : List Int} (hb : Below w.heap.size w w') (hown : w'.ownsRow w.heap.size T 1 v xs.length (intsV xs)) (hl : xs.length ≤ 70368744177664) : IntsNw w xs (.returned v) w' := by
  obtain ⟨a, cap, rfl, h, hp⟩ := IntsAt.of_owns hown hl
  exact ⟨a, cap, rfl, h, hp, hb⟩
set_option maxRecDepth 100000 in
set_option maxHeartbeats 1600000 in
theorem rall12_any (n : Int) (a : Option Addr) (cap : Nat) (es : List E2) (w : World) (hel : es.length ≤ 100000) :
    Calls Tryd.prog 106 #[.agg #[.int .i64 n, .slice a es.length cap]] w (IntsNw w (castL (List.range es.length))) := by
  have hb0 : Below w.heap.size w (w.alloc (.cells #[.int .i64 n, .slice a es.length cap] 27)) := (Below.refl _ _).alloc (Nat.le_refl _) _
  go_enter Tryd.func106, Tryd.ntmps106
  go_wp2_with fail
  go_loopw [3, 8] (fun vo vi wr => ∃ k : Nat, k ≤ es.length ∧ vi = .int .i64 k ∧ wr.ownsRow w.heap.size 3 1 vo k (intsV (castL (List.range k))) ∧ Below w.heap.size w wr) (fun _ vi _ => es.length - (intOf vi).toNat)
  case atStart => exact ⟨0, Nat.zero_le _, rfl, World.ownsRow_nil _ _ _ _, hb0⟩
  case round =>
    obtain ⟨k, hk, rfl, hown, hb⟩ := hrel
    obtain ⟨ao, co, hvo⟩ := owns_shape hown
    subst hvo
    by_cases hlt : k < es.length
    · have hlt3 : (k : Int) < es.length := by omega
      have hlx := ints_lit1 wr (k : Int) 3
      have hownA := hown.alloc (.cells #[.int .i64 (k : Int)] 3)
      have hbA := hb.alloc hb.size (.cells #[.int .i64 (k : Int)] 3)
      have hsl : (castL (List.range k)).length = k := by rw [castL_length, List.length_range]
      go_wp2_with (at_builtin; refine wpList_app_ints intsT rfl _ _ rfl w.heap.size (.slice ao k co) _ (castL (List.range k)) [(k : Int)] rfl (by rw [hsl]; exact hownA) rfl hlx (by rw [hsl]; simp; omega) hbA.size ?_; intro v6 w6 hown6 hg6)
      have hl6 : (castL (List.range k) ++ [(k : Int)]).length = k + 1 := by rw [List.length_append, hsl]; rfl
      rw [hl6, ← castL_snoc, ← List.range_succ] at hown6
      go_roundw
      case rel => exact ⟨k + 1, by omega, by go_num, hown6, hbA.grown hg6 hbA.size (fun g e => (hownA.lt g e).1)⟩
      case measure => simp [intOf]; omega
    · obtain rfl : k = es.length := by omega
      have hsl : (castL (List.range es.length)).length = es.length := by rw [castL_length, List.length_range]
      have hp := ints_nw hb (by rw [hsl]; exact hown) (by rw [hsl]; omega)
      go_wp2_with fail
      go_ret
      exact hp
def minusS (xs ys : List Int) : List Int := (ofS xs).filter (fun x => !decide (x ∈ ys))
set_option maxRecDepth 100000 in
set_option maxHeartbeats 1600000 in
theorem minus_any (a a2 : Option Addr) (cap cap2 : Nat) (xs ys : List Int) (w : World) (hi : IntsAt w (.slice a xs.length cap) xs) (hj : IntsAt w (.slice a2 ys.length cap2) ys) (hn : xs.length ≤ 1073741824) :
    Calls Tryd.prog 108 #[.slice a xs.length cap, .slice a2 ys.length cap2] w (IntsNw w (minusS xs ys)) := by
  go_enter Tryd.func108, Tryd.ntmps108
  go_wp2_with fail
  refine (of_any a cap xs _ hi hn).mono ?_
  rintro e w1 ⟨a1, c1, rfl, hi1, hb1⟩
  have hol := ofS_length xs
  have hj1 := hj.below hb1
  have hmn : minusS xs ys = (ofS xs).filter (fun x => !decide (x ∈ ys)) := rfl
  obtain ⟨zs, hzs⟩ : ∃ zs, ofS xs = zs := ⟨_, rfl⟩
  rw [hzs] at hi1 hol hmn ⊢
  have HMN := Lib.hid hmn
  clear hzs hmn
  go_wp2_with fail
  go_loopw [5, 11] (fun vo vi wr => ∃ k : Nat, k ≤ zs.length ∧ vi = .int .i64 k ∧ ∃ P : List Int, wr.ownsRow w1.heap.size 3 1 vo P.length (intsV P) ∧ Hid (P = (zs.take k).filter (fun x => !decide (x ∈ ys))) ∧ P.length ≤ k ∧ Below w1.heap.size w1 wr) (fun _ vi _ => zs.length - (intOf vi).toNat)
  case atStart => exact ⟨0, Nat.zero_le _, rfl, [], World.ownsRow_nil _ _ _ _, (show _ = _ by simp), Nat.le_refl _, Below.refl _ _⟩
  case round =>
    obtain ⟨k, hk, rfl, P, hown, HP, hPk, hb⟩ := hrel
    obtain ⟨ao, co, hvo⟩ := owns_shape hown
    subst hvo
    by_cases hlt : k < zs.length
    · obtain ⟨b9, o9, z, rfl, hz, _, _, c0⟩ := (hi1.below hb).at k hlt
      have htk : (zs.take (k + 1)).filter (fun x => !decide (x ∈ ys)) = P ++ (if z ∈ ys then [] else [z]) := by
        rw [take_at _ _ _ hz, List.filter_append, ← HP.out]
        congr 1
        by_cases h : z ∈ ys <;> simp [h]
      have hhas := has_any a2 cap2 ys z _ (hj1.below hb)
      have hlt3 : (k : Int) < zs.length := by omega
      by_cases hzy : z ∈ ys
      · rw [if_pos hzy, List.append_nil] at htk
        have HT := Lib.hid htk
        rw [decide_eq_true hzy] at hhas
        clear htk hz hzy
        go_wp2_with (go_at_call 138; with_reducible refine hhas.mono ?_; rintro e w4 ⟨rfl, rfl⟩)
        go_roundw
        case rel => exact ⟨k + 1, by omega, by go_num, P, hown, HT.out.symm, by omega, hb⟩
        case measure => simp [intOf]; omega
      · rw [if_neg hzy] at htk
        have HT := Lib.hid htk
        rw [decide_eq_false hzy] at hhas
        have hlx := ints_lit1 wr z 3
        have hownA := hown.alloc (.cells #[.int .i64 z] 3)
        have hbA := hb.alloc hb.size (.cells #[.int .i64 z] 3)
        clear htk hz hzy
        go_wp2_with (first
          | (go_at_call 138; with_reducible refine hhas.mono ?_; rintro e w4 ⟨rfl, rfl⟩)
          | (at_builtin; refine wpList_app_ints intsT rfl _ _ rfl w1.heap.size (.slice ao P.length co) _ P [z] rfl hownA rfl hlx (by simp; omega) hbA.size ?_; intro v6 w6 hown6 hg6))
        go_roundw
        case rel => exact ⟨k + 1, by omega, by go_num, P ++ [z], hown6, HT.out.symm, by simp; omega, hbA.grown hg6 hbA.size (fun g e => (hownA.lt g e).1)⟩
        case measure => simp [intOf]; omega
    · obtain rfl : k = zs.length := by omega
      have hPP := HP.out
      rw [List.take_length] at hPP
      have hz := hb1.size
      have hp := ints_nw (w := w) (hb1.trans (hb.mono hz)) (owns_base hown hz) (by omega)
      have hq : IntsNw w (minusS xs ys) (.returned (.slice ao P.length co)) wr := by rw [HMN.out, ← hPP]; exact hp
      clear hPP hp
      go_wp2_with fail
      go_ret
      exact hq
end Go.Proofs.YtbkacbbhiecnkaaDoor
