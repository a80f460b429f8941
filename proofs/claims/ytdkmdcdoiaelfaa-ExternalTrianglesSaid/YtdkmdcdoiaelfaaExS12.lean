/- The contracts of the references' supports and count of triangles (printed by wip/mkexs12.py out of the texts of other seats). -/
import Derived.Test.YtdkmdcdoiaelfaaRef03New
import Derived.Test.YtdkmdcdoiaelfaaAdj
import Derived.Test.YtdkmdcdoiaelfaaNumAt
import Derived.Test.YtdkmdcdoiaelfaaNumFn
import Derived.Test.YtdkmdcdoiaelfaaAppAt
import Derived.Test.YtdkmdcdoiaelfaaRefCheck
import Derived.Test.YtdkmdcdoiaelfaaExNb
import Derived.Deep.RegionHeld3
namespace Go.Proofs.Ytdkmdcdoiaelfaa
open Go.RowKit Go.BigFrame
/-- the sum over the nodes before N -/
def sumN (f : Nat → Int) : Nat → Int
  | 0 => 0
  | N + 1 => sumN f N + f N
theorem sumN_add (f g : Nat → Int) : ∀ N, sumN (fun v => f v + g v) N = sumN f N + sumN g N := by
  intro N
  induction N with
  | zero => rfl
  | succ N ih => simp only [sumN, ih]; omega
theorem sumN_congr (f g : Nat → Int) : ∀ N, (∀ v, v < N → f v = g v) → sumN f N = sumN g N := by
  intro N
  induction N with
  | zero => intro _; rfl
  | succ N ih => intro h; simp only [sumN]; rw [ih (fun v hv => h v (by omega)), h N (by omega)]
theorem sumN_zero : ∀ N, sumN (fun _ => 0) N = 0 := by
  intro N
  induction N with
  | zero => rfl
  | succ N ih => simp only [sumN, ih]; rfl
theorem sumN_single (q : Nat) (t : Nat → Int) : ∀ n, sumN (fun a => if a = q then t a else 0) n = if q < n then t q else 0 := by
  intro n
  induction n with
  | zero => simp [sumN]
  | succ n ih =>
    simp only [sumN, ih]
    by_cases h : n = q
    · subst h; simp
    · rw [if_neg h]
      by_cases h2 : q < n
      · rw [if_pos h2, if_pos (by omega)]; omega
      · rw [if_neg h2, if_neg (by omega)]; rfl
def natI (l : List Nat) : List Int := l.map fun (n : Nat) => (n : Int)
theorem natI_length (l : List Nat) : (natI l).length = l.length := by simp [natI]
theorem natI_at {w : World} {a : Option Addr} {n cap : Nat} {l : List Nat} (h : IntsAt w (.slice a n cap) (natI l)) (k : Nat) (hk : k < n) : ∃ b off, a = some ⟨b, off, none⟩ ∧ w.cell? ⟨b, off + k, none⟩ = some (.int .i64 (l.getD k 0 : Nat)) := by
  have hl : n = (natI l).length := by obtain ⟨_, _, hv, _⟩ := h; simp at hv; exact hv.2.1
  subst hl
  obtain ⟨b, off, y, ha, hy, _, _, hc⟩ := h.at k hk
  refine ⟨b, off, ha, ?_⟩
  rw [hc]
  simp only [natI, List.getElem?_map, Option.map_eq_some_iff] at hy
  obtain ⟨z, hz, rfl⟩ := hy
  rw [List.getD_eq_getElem?_getD, hz]; rfl
theorem cells2 {w : World} {g T : Nat} {x y : Value} {f : Nat × Nat} (h : w.heap[g]? = some (.cells #[x, y] T f)) : w.cell? ⟨g, 0, none⟩ = some x ∧ w.cell? ⟨g, 1, none⟩ = some y := ⟨cell_blk h, cell_blk h⟩
/-- the index of the edge between two nodes -/
def ixN (es : List E2) (p q : Nat) : Nat := es.idxOf (min (p : Int) (q : Int), max (p : Int) (q : Int))
theorem adj_mem {n : Int} {es : List E2} (hv : Valid n es) (p q : Nat) (h : adjB es p q = true) : (min (p : Int) (q : Int), max (p : Int) (q : Int)) ∈ es ∧ p ≠ q := by
  have hne : p ≠ q := fun e => by rw [e, adj_irrefl hv] at h; cases h
  refine ⟨?_, hne⟩
  by_cases hpq : p < q
  · have := (adj_lt hv hpq).1 h
    rw [Int.min_eq_left (by omega), Int.max_eq_right (by omega)]; exact this
  · have h' : adjB es q p = true := by rw [adj_comm]; exact h
    have := (adj_lt hv (show q < p by omega)).1 h'
    rw [Int.min_eq_right (by omega), Int.max_eq_left (by omega)]; exact this
/-- the triangles of edge i: the other two edges of each -/
def triN (es : List E2) (n i : Nat) : List (Nat × Nat) := match es[i]? with
  | none => []
  | some e => (cmL es n e.1.toNat e.2.toNat).map fun w => (ixN es e.1.toNat w, ixN es e.2.toNat w)
theorem triN_at (es : List E2) (n i : Nat) (u v : Nat) (h : es[i]? = some ((u : Int), (v : Int))) : triN es n i = (cmL es n u v).map fun w => (ixN es u w, ixN es v w) := by
  unfold triN; rw [h]; simp
theorem edge_at {n : Nat} {es : List E2} (hv : Valid n es) (i : Nat) (e : E2) (h : es[i]? = some e) : ∃ u v : Nat, e = ((u : Int), (v : Int)) ∧ u < v ∧ v < n ∧ adjB es u v = true := by
  have hm := List.mem_of_getElem? h
  have hins := hv.2.2.1 _ hm
  unfold Ins at hins
  refine ⟨e.1.toNat, e.2.toNat, ?_, by omega, by omega, ?_⟩
  · rw [Int.toNat_of_nonneg (by omega), Int.toNat_of_nonneg (by omega)]
  · rw [adjB_iff, Int.toNat_of_nonneg (by omega), Int.toNat_of_nonneg (by omega)]; exact .inl hm
theorem cmL_mem (es : List E2) (n u v w : Nat) : w ∈ cmL es n u v ↔ w < n ∧ adjB es u w = true ∧ adjB es v w = true := by
  unfold cmL
  rw [List.mem_filter, List.mem_range, Bool.and_eq_true]
def cmI (es : List E2) (n u v : Nat) : List Int := (cmL es n u v).map fun (i : Nat) => (i : Int)
theorem cmI_length (es : List E2) (n u v : Nat) : (cmI es n u v).length = (cmL es n u v).length := List.length_map _
theorem cmL_length (es : List E2) (n u v : Nat) : (cmL es n u v).length ≤ n := by
  have h := List.length_filter_le (fun x => adjB es u x && adjB es v x) (List.range n)
  rw [List.length_range] at h; exact h
def encQ : Enc (Nat × Nat) := ⟨2, fun p => [.int .i64 p.1, .int .i64 p.2], fun _ => rfl, fun e u hu => by simp at hu; rcases hu with h | h <;> subst h <;> rfl, by decide⟩
theorem pqRT : SliceT Try.prog 31 37 (.agg #[.int .i64 0, .int .i64 0]) encQ.k 16 := ⟨Try.underlying31, by kernel_rfl, rfl, by decide⟩
theorem triN_len {n : Nat} {es : List E2} (i : Nat) (u v : Nat) (h : es[i]? = some ((u : Int), (v : Int))) : (triN es n i).length = (cmL es n u v).length := by
  rw [triN_at es n i u v h, List.length_map]
theorem triN_take {n : Nat} {es : List E2} (i t : Nat) (u v x : Nat) (h : es[i]? = some ((u : Int), (v : Int))) (hx : (cmL es n u v)[t]? = some x) : (triN es n i).take (t + 1) = (triN es n i).take t ++ [(ixN es u x, ixN es v x)] := by
  refine take_at _ _ _ ?_
  rw [triN_at es n i u v h, List.getElem?_map, hx]; rfl
theorem tri_le (es : List E2) (n x : Nat) : (triN es n x).length ≤ n := by
  unfold triN
  split
  · exact Nat.zero_le _
  · rw [List.length_map]; exact cmL_length _ _ _ _
theorem find_idx (p : E2) : ∀ (es : List E2) (k : Nat), p ∈ es → findFrom k es p = ((k + es.idxOf p : Nat) : Int) := by
  intro es
  induction es with
  | nil => intro k h; cases h
  | cons e es ih =>
    intro k h
    unfold findFrom
    by_cases he : e = p
    · rw [if_pos he, he, List.idxOf_cons_self]; simp
    · rw [if_neg he, ih _ (by rcases List.mem_cons.1 h with h | h; exact absurd h.symm he; exact h), List.idxOf_cons, show (e == p) = false by simpa using he]
      simp only [cond_false]
      omega
theorem find_ix {n : Int} {es : List E2} (hv : Valid n es) (u x : Nat) (h : adjB es u x = true) : findS es u x = (ixN es u x : Int) := by
  unfold findS ixN
  rw [find_idx _ es 0 (adj_mem hv u x h).1, Nat.zero_add]
theorem fourc {w : World} {X Y T T' : Nat} {x y z u : Value} (h : w.heap[X]? = some (.cells #[x, y] T (0, 0))) (h2 : w.heap[Y]? = some (.cells #[z, u] T' (0, 0))) : w.cell? ⟨X, 0, none⟩ = some x ∧ w.cell? ⟨X, 1, none⟩ = some y ∧ w.cell? ⟨Y, 0, none⟩ = some z ∧ w.cell? ⟨Y, 1, none⟩ = some u :=
  ⟨by rw [cell_blk h]; rfl, by rw [cell_blk h]; rfl, by rw [cell_blk h2]; rfl, by rw [cell_blk h2]; rfl⟩
set_option maxRecDepth 100000 in
set_option maxHeartbeats 3200000 in
theorem rpairs_any (n i : Nat) (a : Option Addr) (cap : Nat) (es : List E2) (w : World) (he : EdgesAt w (.slice a es.length cap) es) (hv : Valid n es) (hi : i < es.length) :
    Calls Try.prog 77 #[.agg #[.int .i64 n, .slice a es.length cap], .int .i64 i] w fun e w' => ∃ a1 c1, e = .returned (.slice a1 (triN es n i).length c1) ∧ RowAt encQ w' (.slice a1 (triN es n i).length c1) (triN es n i) ∧ (∀ p, a1 = some p → w.heap.size ≤ p.block) ∧ Below w.heap.size w w' := by
  have hel := hv.length_le
  have hn64 := hv.2.1
  have hb0 : Below w.heap.size w (w.alloc (.cells #[.int .i64 n, .slice a es.length cap] 27)) := (Below.refl _ _).alloc (Nat.le_refl _) _
  have hG0 := heap_alloc_new w (.cells #[.int .i64 n, .slice a es.length cap] 27)
  have hk2 : es[i]? = some es[i] := List.getElem?_eq_getElem hi
  obtain ⟨u, v, huv, hltuv, hvn, hadj⟩ := edge_at hv i _ hk2
  rw [huv] at hk2
  obtain ⟨b0, o0, hb0', c0, c1⟩ : ∃ b off, a = some ⟨b, off, none⟩ ∧ (w.alloc (.cells #[.int .i64 n, .slice a es.length cap] 27)).cell? ⟨b, off + i * 2, none⟩ = some (.int .i64 (u : Int)) ∧ (w.alloc (.cells #[.int .i64 n, .slice a es.length cap] 27)).cell? ⟨b, off + i * 2 + 1, none⟩ = some (.int .i64 (v : Int)) := by
    obtain ⟨_, _, hv', _, _, _, hc⟩ := he.below hb0
    cases hv'
    exact hc i _ hk2
  have hce : es.length ≤ cap := by obtain ⟨_, _, hv', h1, _⟩ := he; cases hv'; exact h1
  have hi3 : (i : Int) < es.length := by omega
  have htl := triN_len (n := n) i u v hk2
  have HK := Lib.hid hk2
  clear hk2 huv
  subst hb0'
  have hEn := heap_alloc_new (w.alloc (.cells #[.int .i64 n, .slice (some ⟨b0, o0, none⟩) es.length cap] 27)) (.cells #[.int .i64 (u : Int), .int .i64 (v : Int)] 73)
  have hbE := hb0.alloc hb0.size (.cells #[.int .i64 (u : Int), .int .i64 (v : Int)] 73)
  have hGE := lit_next' ((Below.refl _ _).alloc (Nat.le_refl _) (.cells #[.int .i64 (u : Int), .int .i64 (v : Int)] 73)) hG0
  have hz1 : (w.alloc (.cells #[.int .i64 n, .slice (some ⟨b0, o0, none⟩) es.length cap] 27)).heap.size = w.heap.size + 1 := by simp
  rw [hz1] at hEn
  have hcm := common_new n (some ⟨b0, o0, none⟩) cap es u v _ (he.below hbE) hv (by omega)
  rw [common_eq hv] at hcm
  unfold IntsNew at hcm
  go_enter Try.func77, Try.ntmps77
  go_wp2_with fail
  refine hcm.mono ?_
  rintro e w3 ⟨a3, c3, rfl, hi3c, hb3, hnw3⟩
  have hcl := cmL_length es n u v
  have hml : ((cmL es n u v).map fun (i : Nat) => (i : Int)).length = (cmL es n u v).length := List.length_map _
  have hG3 := lit_next' hb3 hGE
  have hE3 := lit_next' hb3 hEn
  have hb03 := hbE.trans (hb3.mono hbE.size)
  have hi3d : IntsAt w3 (.slice a3 (cmI es n u v).length c3) (cmI es n u v) := hi3c
  rw [hml]
  have hz3 := blk_lt hE3
  clear hcm hi3c hb3 hnw3 hbE hGE hEn hG0 hb0 c0 c1 hz1 hml
  go_wp2_with fail
  go_loopw [5, 21] (fun vo vi wr => ∃ t : Nat, t ≤ (cmL es n u v).length ∧ vi = .int .i64 t ∧ wr.ownsRow w3.heap.size 37 encQ.k vo t (flatR encQ ((triN es n i).take t)) ∧ Below w3.heap.size w3 wr) (fun _ vi _ => (cmL es n u v).length - (intOf vi).toNat)
  case atStart => exact ⟨0, Nat.zero_le _, rfl, World.ownsRow_nil _ _ _ _, Below.refl _ _⟩
  case round =>
    obtain ⟨t, ht, rfl, hown, hb⟩ := hrel
    obtain ⟨ao, co, hvo⟩ := owns_shape hown
    subst hvo
    by_cases hltt : t < (cmL es n u v).length
    · have hlt3 : (t : Int) < (cmL es n u v).length := by omega
      have hx : (cmL es n u v)[t]? = some (cmL es n u v)[t] := List.getElem?_eq_getElem hltt
      obtain ⟨x, hxx⟩ : ∃ x, (cmL es n u v)[t] = x := ⟨_, rfl⟩
      rw [hxx] at hx
      obtain ⟨hxn, hux, hvx⟩ := (cmL_mem es n u v x).1 (List.mem_of_getElem? hx)
      obtain ⟨b7, o7, hb7, y0⟩ : ∃ b off, a3 = some ⟨b, off, none⟩ ∧ wr.cell? ⟨b, off + t, none⟩ = some (.int .i64 (x : Int)) := by
        obtain ⟨_, _, hv', _, _, _, hc⟩ := hi3d.below hb
        cases hv'
        refine hc t _ ?_
        unfold cmI
        rw [List.getElem?_map, hx]; rfl
      have hcc : (cmL es n u v).length ≤ c3 := by obtain ⟨_, _, hv', h1, _⟩ := hi3d; cases hv'; rw [cmI_length] at h1; exact h1
      have hb0w := hb03.trans (hb.mono hb03.size)
      have hfu := fun W h => find_any n (some ⟨b0, o0, none⟩) cap es u x W h hv
      have hfv := fun W h => find_any n (some ⟨b0, o0, none⟩) cap es v x W h hv
      rw [find_ix hv u x hux] at hfu
      rw [find_ix hv v x hvx] at hfv
      have htk := triN_take (n := n) i t u v x HK.out hx
      have htl2 : ((triN es n i).take t).length = t := by rw [List.length_take, htl]; omega
      have heW := (he.below hb0w).below (Below.refl _ _).drew
      have hGW : wr.drew.heap[w.heap.size]? = _ := lit_next' hb.drew hG3
      have hEW : wr.drew.heap[w.heap.size + 1]? = _ := lit_next' hb.drew hE3
      have gw0 : wr.cell? ⟨w.heap.size, 0, none⟩ = some (.int .i64 n) := by have h := cell_blk (j := 0) hGW; exact h
      have gw1 : wr.cell? ⟨w.heap.size, 1, none⟩ = some (.slice (some ⟨b0, o0, none⟩) es.length cap) := by have h := cell_blk (j := 1) hGW; exact h
      have ew0 : wr.cell? ⟨w.heap.size + 1, 0, none⟩ = some (.int .i64 (u : Int)) := by have h := cell_blk (j := 0) hEW; exact h
      have ew1 : wr.cell? ⟨w.heap.size + 1, 1, none⟩ = some (.int .i64 (v : Int)) := by have h := cell_blk (j := 1) hEW; exact h
      have hownd : wr.drew.ownsRow w3.heap.size 37 encQ.k (.slice ao t co) t (flatR encQ ((triN es n i).take t)) := hown
      have hbd : Below w3.heap.size w3 wr.drew := hb.drew
      obtain ⟨P, hP⟩ : ∃ P, (triN es n i).take t = P := ⟨_, rfl⟩
      rw [hP] at htk htl2 hownd
      have HTK := Lib.hid htk
      have HTL := Lib.hid htl2
      have hownd2 : wr.drew.ownsRow w3.heap.size 37 encQ.k (.slice ao t co) P.length (flatR encQ P) := by rw [htl2]; exact hownd
      clear htk htl2 hP hx hxx hown hownd
      generalize ixN es u x = i1 at *
      generalize ixN es v x = i2 at *
      subst hb7
      go_wp2_with fail
      go_region_held3 (fun w' => w'.cell? ⟨w.heap.size, 0, none⟩ = some (.int .i64 n) ∧ w'.cell? ⟨w.heap.size, 1, none⟩ = some (.slice (some ⟨b0, o0, none⟩) es.length cap) ∧ w'.cell? ⟨w.heap.size + 1, 0, none⟩ = some (.int .i64 (u : Int)) ∧ w'.cell? ⟨w.heap.size + 1, 1, none⟩ = some (.int .i64 (v : Int)))
        (first
          | go_keep
          | exact fourc hG4 hE4
          | exact fourc hG5 hE5
          | exact fourc hG5A hE5A
          | exact fourc hG6 hE6)
        (first
          | (refine step_app_rows pqRT rfl (.tmp 25) (.tmp 37) rfl w3.heap.size _ _ P [(i1, i2)] rfl (by exact hown5) rfl (by exact hlx5) (by rw [HTL.out]; simp; omega) (by rw [HTL.out]; simp; omega) (by exact hb5A.size) ?_; intro v6 w6 hown6 hg6; have hG6 := grown_blk hg6 hG5A (by intro e; have := (hown5.lt _ e.symm).1; omega); have hE6 := grown_blk hg6 hE5A (by intro e; have := (hown5.lt _ e.symm).1; omega))
          | (go_at_call 121; (first | with_reducible refine (hfu _ he4).mono ?_ | with_reducible refine (hfv _ he4).mono ?_); rintro e w5 ⟨rfl, hb5⟩; have hG5 := lit_next' hb5 hG4; have hE5 := lit_next' hb5 hE4; have hG5A := lit_next' ((Below.refl _ _).alloc (Nat.le_refl _) (.cells #[.int .i64 (i1 : Int), .int .i64 (i2 : Int)] 37)) hG5; have hE5A := lit_next' ((Below.refl _ _).alloc (Nat.le_refl _) (.cells #[.int .i64 (i1 : Int), .int .i64 (i2 : Int)] 37)) hE5; have hown5 := (hown4.kept (grown_of_below hb5) (Classical.em _)).alloc (.cells #[.int .i64 (i1 : Int), .int .i64 (i2 : Int)] 37); have hlx5 := rows_lit1 (E := encQ) w5 (i1, i2) 37 #[.int .i64 (i1 : Int), .int .i64 (i2 : Int)] rfl; have hb5A := (hb4.trans (hb5.mono hb4.size)).alloc (hb4.trans (hb5.mono hb4.size)).size (.cells #[.int .i64 (i1 : Int), .int .i64 (i2 : Int)] 37))
          | (go_at_call 121; (first | with_reducible refine (hfu _ heW).mono ?_ | with_reducible refine (hfv _ heW).mono ?_); rintro e w4 ⟨rfl, hb4'⟩; have he4 := heW.below hb4'; have hG4 := lit_next' hb4' hGW; have hE4 := lit_next' hb4' hEW; have hown4 := hownd2.kept (grown_of_below hb4') (Classical.em _); have hb4 := hbd.trans (hb4'.mono hbd.size)))
      all_goals
        have hl6 : (P ++ [(i1, i2)]).length = t + 1 := by rw [List.length_append, HTL.out]; rfl
        rw [hl6, ← HTK.out] at hown6
        go_wp2_with fail
        go_roundw
        case rel => exact ⟨t + 1, by omega, by go_num, hown6, hb5A.grown hg6 hb5A.size (fun g e => (hown5.lt g e).1)⟩
        case measure => simp [intOf]; omega
    · obtain rfl : t = (cmL es n u v).length := by omega
      rw [List.take_of_length_le (by omega), ← htl] at hown
      obtain ⟨a8, c8, hv8, hr8, hp8⟩ := RowAt.of_owns hown (by omega)
      cases hv8
      have hz := hb03.size
      go_wp2_with fail
      go_ret
      exact ⟨ao, co, by rw [htl]; rfl, hr8, fun p h => Nat.le_trans hz (hp8 p h), hb03.trans (hb.mono hz)⟩
def supV (es : List E2) (n k : Nat) : List Int := (List.range k).map fun i => ((triN es n i).length : Int)
theorem supV_length (es : List E2) (n k : Nat) : (supV es n k).length = k := by simp [supV]
theorem supV_step (es : List E2) (n k : Nat) : supV es n (k + 1) = supV es n k ++ [((triN es n k).length : Int)] := by simp [supV, List.range_succ]
def supX (n : Int) (es : List E2) : List Int × Int := if checkS n es ≠ 0 then ([], checkS n es) else (supV es n.toNat es.length, 0)
set_option maxRecDepth 100000 in
set_option maxHeartbeats 1600000 in
theorem rsupport12_any (n : Int) (a : Option Addr) (cap : Nat) (es : List E2) (w : World) (he : EdgesAt w (.slice a es.length cap) es) :
    Calls Try.prog 36 #[.agg #[.int .i64 n, .slice a es.length cap]] w (TPost w (supX n es)) := by
  have hb0 : Below w.heap.size w (w.alloc (.cells #[.int .i64 n, .slice a es.length cap] 27)) := (Below.refl _ _).alloc (Nat.le_refl _) _
  have hG0 := heap_alloc_new w (.cells #[.int .i64 n, .slice a es.length cap] 27)
  have hck := fun W h => check_any n a cap es W h
  unfold TPost supX
  by_cases hC : checkS n es = 0
  case neg =>
    rw [if_pos hC]
    obtain ⟨C, hCC⟩ : ∃ C, checkS n es = C := ⟨_, rfl⟩
    rw [hCC] at hck hC ⊢
    have d1 : (C != 0) = true := by simpa using hC
    have d2 : (C == 0) = false := by simpa using hC
    clear hC hCC
    go_enter Try.func36, Try.ntmps36
    go_wp2_with fail
    refine (hck _ (he.below hb0)).mono ?_
    rintro e w1 ⟨rfl, hb1⟩
    go_wp2_with fail
    go_ret2
    exact ⟨none, 0, rfl, ints_nil _, fun p h => (by cases h), hb0.trans (hb1.mono hb0.size)⟩
  have hv := (valid_iff n es).1 hC
  rw [if_neg (by simpa using hC)]
  rw [hC] at hck
  obtain ⟨n, rfl⟩ := Int.eq_ofNat_of_zero_le hv.1
  rw [Int.toNat_natCast]
  have hel := hv.length_le
  go_enter Try.func36, Try.ntmps36
  go_wp2_with fail
  refine (hck _ (he.below hb0)).mono ?_
  rintro e w1 ⟨rfl, hb1⟩
  have hb01 := hb0.trans (hb1.mono hb0.size)
  have hG1 := lit_next' hb1 hG0
  have g1 : w1.cell? ⟨w.heap.size, 1, none⟩ = some (.slice a es.length cap) := by rw [cell_blk hG1]; rfl
  clear hck hG0 hb0 hb1
  go_wp2_with fail
  clear g1
  go_loopw [5, 15] (fun vo vi wr => ∃ k : Nat, k ≤ es.length ∧ vi = .int .i64 k ∧ wr.ownsRow w1.heap.size 3 1 vo k (intsV (supV es n k)) ∧ Below w1.heap.size w1 wr) (fun _ vi _ => es.length - (intOf vi).toNat)
  case atStart => exact ⟨0, Nat.zero_le _, rfl, World.ownsRow_nil _ _ _ _, Below.refl _ _⟩
  case round =>
    obtain ⟨k, hk, rfl, hown, hb⟩ := hrel
    obtain ⟨ao, co, hvo⟩ := owns_shape hown
    subst hvo
    have hbw := hb01.trans (hb.mono hb01.size)
    by_cases hlt : k < es.length
    · have hlt3 : (k : Int) < es.length := by omega
      have hG := lit_next' hb hG1
      have g0 : wr.cell? ⟨w.heap.size, 0, none⟩ = some (.int .i64 n) := by rw [cell_blk hG]; rfl
      have g1 : wr.cell? ⟨w.heap.size, 1, none⟩ = some (.slice a es.length cap) := by rw [cell_blk hG]; rfl
      have hrp := rpairs_any n k a cap es wr (he.below hbw) hv hlt
      have hst := supV_step es n k
      have hsl := supV_length es n k
      have HS := Lib.hid hst
      clear hst hG
      go_wp2_with fail
      refine hrp.mono ?_
      rintro e w2 ⟨a7, c7, rfl, hr7, -, hb2⟩
      have hb12 := hb.trans (hb2.mono hb.size)
      have hown2 : w2.ownsRow w1.heap.size 3 1 (.slice ao k co) k (intsV (supV es n k)) := hown.kept (grown_of_below hb2) (by
        cases hs : (Value.slice ao k co).ownBlock with
        | none => exact .inl rfl
        | some g => exact .inr (by simp))
      have hlx := ints_lit1 w2 ((triN es n k).length : Int) 3
      have hownA := hown2.alloc (.cells #[.int .i64 ((triN es n k).length : Int)] 3)
      have hbA := hb12.alloc hb12.size (.cells #[.int .i64 ((triN es n k).length : Int)] 3)
      clear hr7 hrp g0 g1 hown hb2
      generalize (triN es n k).length = lk at *
      go_wp2_with (at_builtin; refine wpList_app_ints intsT rfl _ _ rfl w1.heap.size (.slice ao k co) _ (supV es n k) [(lk : Int)] rfl (by rw [hsl]; exact hownA) rfl hlx (by rw [hsl]; simp; omega) hbA.size ?_; intro v6 w6 hown6 hg6)
      have hl6 : (supV es n k ++ [(lk : Int)]).length = k + 1 := by rw [List.length_append, hsl]; rfl
      rw [hl6, ← HS.out] at hown6
      go_roundw
      case rel => exact ⟨k + 1, by omega, by go_num, hown6, hbA.grown hg6 hbA.size (fun g e => (hownA.lt g e).1)⟩
      case measure => simp [intOf]; omega
    · obtain rfl : k = es.length := by omega
      have hsl := supV_length es n es.length
      obtain ⟨a8, c8, hv8, hi8, hp8⟩ := IntsAt.of_owns (xs := supV es n es.length) (by rw [hsl]; exact hown) (by omega)
      rw [hsl] at hv8
      cases hv8
      have hz := hb01.size
      go_wp2_with fail
      go_ret2
      exact ⟨_, _, by rw [hsl]; rfl, hi8, fun p h => Nat.le_trans hz (hp8 p h), hbw⟩
/-- how often x occurs -/
def occ (P : List Nat) (x : Nat) : Int := ((P.filter fun y => y == x).length : Int)
theorem occ_snoc (P : List Nat) (x y : Nat) : occ (P ++ [x]) y = occ P y + if x = y then 1 else 0 := by
  unfold occ
  rw [List.filter_append, List.length_append]
  by_cases h : x = y
  · subst h; simp
  · have : (x == y) = false := by simpa using h
    simp [this, h]
/-- the numbers from 0 to n - 1 of a list, each as often as it occurs -/
def cntW (n : Nat) (P : List Nat) : List Int := (List.range n).map fun (i : Nat) => wrap64 (occ P i)
theorem cntW_length (n : Nat) (P : List Nat) : (cntW n P).length = n := by simp [cntW]
theorem cntW_get (n : Nat) (P : List Nat) (i : Nat) (hi : i < n) : (cntW n P)[i]? = some (wrap64 (occ P i)) := by simp [cntW, hi]
theorem cntW_nil (n : Nat) : cntW n [] = List.replicate n 0 := by
  apply List.ext_getElem?
  intro i
  by_cases hi : i < n
  · rw [cntW_get _ _ _ hi, List.getElem?_replicate, if_pos hi]; simp [occ, wrap64]
  · rw [List.getElem?_eq_none (by rw [cntW_length]; omega), List.getElem?_eq_none (by simp; omega)]
theorem wrap64_step (c : Int) : wrap64 (wrap64 c + 1) = wrap64 (c + 1) := by unfold wrap64; omega
theorem wrap64_in (c : Int) (h0 : -9223372036854775808 ≤ c) (h1 : c ≤ 9223372036854775807) : wrap64 c = c := by unfold wrap64; omega
theorem cntW_snoc (n : Nat) (P : List Nat) (x : Nat) : (cntW n P).set x (wrap64 (wrap64 (occ P x) + 1)) = cntW n (P ++ [x]) := by
  apply List.ext_getElem?
  intro i
  by_cases hi : i < n
  · rw [List.getElem?_set, cntW_get _ _ _ hi, cntW_get _ _ _ hi, cntW_length, occ_snoc]
    by_cases h : x = i
    · subst h; rw [if_pos rfl, if_pos hi, if_pos rfl, wrap64_step]
    · rw [if_neg h, if_neg h, Int.add_zero]
  · rw [List.getElem?_eq_none (by rw [List.length_set, cntW_length]; omega), List.getElem?_eq_none (by rw [cntW_length]; omega)]
theorem NumAt.below {w w' : World} {g : Nat} {l : List Int} (h : NumAt w g l) (hb : Below w.heap.size w w') : NumAt w' g l := (hb.block _ (blk_lt h)).trans h
theorem NumAt.new (w : World) (n : Nat) : NumAt (w.alloc (.cells (intsV (List.replicate n 0)).toArray 3)) w.heap.size (cntW n []) := by rw [cntW_nil]; exact heap_alloc_new _ _
theorem NumAt.other {w : World} {g g' j : Nat} {v : Value} {l : List Int} (h : NumAt w g l) (hne : g ≠ g') : NumAt (w.setCell ⟨g', j, none⟩ v) g l := (Below.heap_setCell _ _ _ _ hne).trans h
theorem ofe_drew {w : World} {g : Nat} {l : List Int} (h : NumAt w g l) : NumAt w.drew g l := h
/-- the third nodes of the triangles of the first k edges -/
def tri29 (es : List E2) (n k : Nat) : List Nat := (es.take k).flatMap fun e => cmL es n e.1.toNat e.2.toNat
theorem tri29_succ (es : List E2) (n k : Nat) (u v : Nat) (h : es.take (k + 1) = es.take k ++ [((u : Int), (v : Int))]) : tri29 es n (k + 1) = tri29 es n k ++ cmL es n u v := by
  unfold tri29; rw [h]; simp
theorem cmL_lt (es : List E2) (n u v x : Nat) (h : x ∈ cmL es n u v) : x < n := List.mem_range.1 (List.mem_filter.1 h).1
theorem take_next {α : Type} (l : List α) (k : Nat) (x : α) (h : l[k]? = some x) : l.take (k + 1) = l.take k ++ [x] := by
  obtain ⟨hk, he⟩ := List.getElem?_eq_some_iff.1 h
  rw [List.take_succ_eq_append_getElem hk, he]
set_option maxRecDepth 100000 in
set_option maxHeartbeats 3200000 in
theorem nodes29_any (n : Nat) (a : Option Addr) (cap : Nat) (es : List E2) (w : World) (he : EdgesAt w (.slice a es.length cap) es) (hv : Valid n es) :
    Calls Try.prog 76 #[.agg #[.int .i64 n, .slice a es.length cap]] w fun e w' => ∃ g, e = .returned (.tuple #[.slice (some ⟨g, 0, none⟩) n n, .int .i64 0]) ∧ w.heap.size ≤ g ∧ NumAt w' g (cntW n (tri29 es n es.length)) ∧ Below w.heap.size w w' := by
  have hn64 : n ≤ 64 := by have := hv.2.1; omega
  have hlen := hv.length_le
  have hG0 : (w.alloc (.cells #[.int .i64 n, .slice a es.length cap] 27)).heap[w.heap.size]? = some (.cells #[.int .i64 n, .slice a es.length cap] 27 (0, 0)) := heap_alloc_new _ _
  have hb0 : Below w.heap.size w (w.alloc (.cells #[.int .i64 n, .slice a es.length cap] 27)) := (Below.refl _ _).alloc (Nat.le_refl _) _
  have hmk := make_ints n (by omega)
  go_enter Try.func76, Try.ntmps76
  go_wp2_with fail
  refine (check_any n a cap es _ (he.below hb0)).mono ?_
  rintro e w1 ⟨rfl, hb1⟩
  rw [(valid_iff n es).2 hv]
  have hG1 := (hb1.block _ (blk_lt hG0)).trans hG0
  have hbw := hb0.trans (hb1.mono hb0.size)
  obtain ⟨g0, g1⟩ := cells2 hG1
  clear hb1 hb0 hG0
  have hz1 := blk_lt hG1
  go_wp2_with fail
  clear hmk
  have hN0 := NumAt.new w1 n
  have hbx : Below w1.heap.size w1 (w1.alloc (.cells (intsV (List.replicate n 0)).toArray 3)) := (Below.refl _ _).alloc (Nat.le_refl _) _
  go_loopw [6] (fun i wr => ∃ k : Nat, k ≤ es.length ∧ i = .int .i64 k ∧ Below w1.heap.size w1 wr ∧ NumAt wr w1.heap.size (cntW n (tri29 es n k))) (fun i _ => es.length - (intOf i).toNat)
  case atStart => exact ⟨0, Nat.zero_le _, rfl, hbx, hN0⟩
  case round =>
    clear hbx hN0 g0 g1
    obtain ⟨k, hk, rfl, hb, hN⟩ := hrel
    have hbr := hbw.trans (hb.mono hbw.size)
    have hGr := (hb.block _ (blk_lt hG1)).trans hG1
    obtain ⟨q0, q1⟩ := cells2 hGr
    by_cases hlt : k < es.length
    · obtain ⟨b, off, x, y, rfl, hget, _, htk, c0, c1⟩ := (he.below hbr).at k hlt
      have hins := hv.2.2.1 (x, y) (List.mem_of_getElem? hget)
      unfold Ins at hins
      dsimp only at hins
      obtain ⟨u, rfl⟩ := Int.eq_ofNat_of_zero_le hins.1
      obtain ⟨v, rfl⟩ := Int.eq_ofNat_of_zero_le (show 0 ≤ y by omega)
      have huv : (u : Int) ≠ (v : Int) := by omega
      have hcm := common_eq hv u v
      have HT := Lib.hid (tri29_succ es n k u v htk)
      have hcl := fun x hx => cmL_lt es n u v x hx
      have hcall := fun w' h => common_new n (some ⟨b, off, none⟩) cap es u v w' h hv huv
      rw [hcm] at hcall
      have hee := he.below hbr
      clear hins huv hcm hget htk
      generalize cmL es n u v = cl at *
      go_wp2_with fail
      have hz0 := cell_lt q0
      have hzb := cell_lt c0
      go_region_held3 (fun w' => w'.cell? ⟨w.heap.size, 0, none⟩ = some (.int .i64 n) ∧ w'.cell? ⟨w.heap.size, 1, none⟩ = some (.slice (some ⟨b, off, none⟩) es.length cap) ∧ w'.cell? ⟨b, off + k * 2, none⟩ = some (.int .i64 u) ∧ w'.cell? ⟨b, off + k * 2 + 1, none⟩ = some (.int .i64 v))
        (first
          | go_keep
          | exact ⟨(hb5.cell (p := ⟨w.heap.size, 0, none⟩) hz0).trans q0, (hb5.cell (p := ⟨w.heap.size, 1, none⟩) hz0).trans q1, (hb5.cell (p := ⟨b, off + k * 2, none⟩) hzb).trans c0, (hb5.cell (p := ⟨b, off + k * 2 + 1, none⟩) hzb).trans c1⟩)
        (first
          | (go_at_call 82; refine (hcall _ (hee.below (Below.refl _ _).drew)).mono ?_; rintro e w5 ⟨a5, cap5, rfl, hi5, hb5, ho5⟩))
      have hbd : Below w1.heap.size w1 w5 := hb.drew.trans (hb5.mono hb.drew.size)
      have hN5 := (ofe_drew hN).below hb5
      have hzN : w1.heap.size < wr.heap.size := blk_lt hN
      have hi6 : IntsAt w5 (.slice a5 cl.length cap5) (natI cl) := by have h := hi5; rw [List.length_map] at h; exact h
      have ho6 : ∀ p, a5 = some p → p.block ≠ w1.heap.size := fun p hp => by have h := ho5 p hp; have hs : wr.drew.heap.size = wr.heap.size := rfl; omega
      have hclen : cl.length ≤ 70368744177664 := by obtain ⟨_, _, _, _, _, h, _⟩ := hi6; rw [natI_length] at h; exact h
      clear hi5 ho5 hb5 hb hN c0 c1 q0 q1 hcall hee hGr hbr
      go_wp2_with fail
      go_loopw [8] (fun i wr => ∃ j : Nat, j ≤ cl.length ∧ i = .int .i64 j ∧ Below w1.heap.size w1 wr ∧ NumAt wr w1.heap.size (cntW n (tri29 es n k ++ cl.take j)) ∧ IntsAt wr (.slice a5 cl.length cap5) (natI cl)) (fun i _ => cl.length - (intOf i).toNat)
      case atStart => exact ⟨0, Nat.zero_le _, rfl, hbd, by simpa using hN5, hi6⟩
      case round =>
        clear hbd hN5 hi6
        obtain ⟨j, hj, rfl, hb, hN, hI⟩ := hrel
        by_cases hltj : j < cl.length
        · obtain ⟨bl, ol, rfl, cx⟩ := natI_at hI j hltj
          have hx : cl.getD j 0 < n := by rw [List.getD_eq_getElem?_getD, List.getElem?_eq_getElem hltj]; exact hcl _ (List.getElem_mem _)
          have HTK : Hid (cl.take (j + 1) = cl.take j ++ [cl.getD j 0]) := by
            show _ = _
            rw [List.getD_eq_getElem?_getD, List.getElem?_eq_getElem hltj]
            exact List.take_succ_eq_append_getElem hltj
          generalize cl.getD j 0 = x at *
          have cn := hN.cell x _ (cntW_get _ _ x hx)
          have fn : wr.frozen? ⟨w1.heap.size, x, none⟩ = false := free_blk hN
          have HN2 := Lib.hid (hN.set x (wrap64 (wrap64 (occ (tri29 es n k ++ cl.take j) x) + 1)))
          rw [cntW_snoc, List.append_assoc] at HN2
          have HI2 : Hid (IntsAt (wr.setCell ⟨w1.heap.size, x, none⟩ (.int .i64 (wrap64 (wrap64 (occ (tri29 es n k ++ cl.take j) x) + 1)))) (.slice (some ⟨bl, ol, none⟩) cl.length cap5) (natI cl)) := hI.grown grown_store (fun g e n c p ep => by cases e; cases ep; exact ho6 _ rfl)
          clear hN hI
          generalize occ (tri29 es n k ++ cl.take j) x = c at *
          go_wp2_with fail
          go_roundw
          case rel => exact ⟨j + 1, by omega, by go_num, hb.setCell (p := ⟨w1.heap.size, x, none⟩) (Nat.le_refl _) _, by rw [HTK.out]; exact HN2.out, HI2.out⟩
          case measure => simp [intOf]; omega
        · obtain rfl : j = cl.length := by omega
          rw [List.take_length, ← HT.out] at hN
          go_wp2_with fail
          go_roundw
          case rel => exact ⟨k + 1, by omega, by go_num, hb, hN⟩
          case measure => simp [intOf]; omega
    · obtain rfl : k = es.length := by omega
      go_wp2_with fail
      go_ret2
      exact ⟨_, rfl, hbw.size, hN, hbr⟩
/-- the sum of the counts of a list is its length -/
theorem occ_sum (n : Nat) : ∀ P : List Nat, (∀ x ∈ P, x < n) → sumN (fun x => occ P x) n = P.length := by
  intro P
  induction P with
  | nil => intro _; simp only [occ, List.filter_nil]; exact sumN_zero n
  | cons y P ih =>
    intro h
    have e : ∀ x, x < n → occ (y :: P) x = (if x = y then 1 else 0) + occ P x := by
      intro x _
      unfold occ
      by_cases hxy : y = x
      · subst hxy; simp; omega
      · have : (y == x) = false := by simpa using hxy
        have h2 : ¬ x = y := fun e => hxy e.symm
        simp [this, h2]
    rw [sumN_congr _ _ n e, sumN_add, ih (fun x hx => h x (List.mem_cons_of_mem _ hx)), sumN_single y (fun _ => 1) n, if_pos (h y List.mem_cons_self)]
    simp; omega
theorem tri29_lt (es : List E2) (n k : Nat) : ∀ x ∈ tri29 es n k, x < n := by
  intro x hx
  obtain ⟨e, _, h⟩ := List.mem_flatMap.1 hx
  exact cmL_lt es n _ _ x h
theorem wrap64_add (a b : Int) : wrap64 (wrap64 a + wrap64 b) = wrap64 (a + b) := by unfold wrap64; omega
/-- the program's sum over an array of counts -/
def sumW (P : List Nat) (k : Nat) : Int := wrap64 (sumN (fun x => occ P x) k)
theorem sumW_succ (P : List Nat) (k : Nat) : wrap64 (sumW P k + wrap64 (occ P k)) = sumW P (k + 1) := by unfold sumW; rw [wrap64_add]; rfl
set_option maxRecDepth 100000 in
set_option maxHeartbeats 800000 in
theorem count29_any (n : Nat) (a : Option Addr) (cap : Nat) (es : List E2) (w : World) (he : EdgesAt w (.slice a es.length cap) es) (hv : Valid n es) :
    Calls Try.prog 35 #[.agg #[.int .i64 n, .slice a es.length cap]] w fun e w' => e = .returned (.tuple #[.int .i64 (wrap64 ((sumW (tri29 es n es.length) n).tdiv 3)), .int .i64 0]) ∧ Below w.heap.size w w' := by
  have hn64 : n ≤ 64 := by have := hv.2.1; omega
  have hb0 : Below w.heap.size w (w.alloc (.cells #[.int .i64 n, .slice a es.length cap] 27)) := (Below.refl _ _).alloc (Nat.le_refl _) _
  have hc := nodes29_any n a cap es _ (he.below hb0) hv
  obtain ⟨P, hP⟩ : ∃ P, tri29 es n es.length = P := ⟨_, rfl⟩
  rw [hP] at hc ⊢
  clear hP
  go_enter Try.func35, Try.ntmps35
  go_wp2_with fail
  refine hc.mono ?_
  rintro e w1 ⟨g, rfl, hg, hN, hb1⟩
  have hbw := hb0.trans (hb1.mono hb0.size)
  clear hb1 hb0 hc
  go_wp2_with fail
  go_loop [6, 7] (fun s i => ∃ k : Nat, k ≤ n ∧ i = .int .i64 k ∧ s = .int .i64 (sumW P k)) (fun _ i => n - (intOf i).toNat)
  case atStart => exact ⟨0, Nat.zero_le _, rfl, by simp [sumW, sumN, wrap64]⟩
  case round =>
    obtain ⟨k, hk, rfl, rfl⟩ := hrel
    by_cases hlt : k < n
    · have cn := hN.cell k _ (cntW_get n P k hlt)
      have HS := Lib.hid (sumW_succ P k)
      generalize sumW P k = s at *
      generalize wrap64 (occ P k) = y at *
      go_wp2_with fail
      go_round
      case rel => exact ⟨k + 1, by omega, by go_num, by rw [← HS.out]⟩
      case measure => simp [intOf]; omega
    · obtain rfl : k = n := by omega
      go_wp2_with fail
      go_ret2
      exact ⟨rfl, hbw⟩
end Go.Proofs.Ytdkmdcdoiaelfaa
