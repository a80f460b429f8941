/- The contracts of the reference's wedges, and of its walk over all squares. The walk of the reference over all squares. The walk of the reference's count of squares. -/
import Derived.Test.YtekbpoppajbljaaDoorRef29
import Derived.Test.YtekbpoppajbljaaDoorSqWedges
import Derived.Deep.DeepCutAuto
namespace Go.Proofs.YtekbpoppajbljaaDoor
open Go.RowKit Go.BigFrame

def deg30 (es : List E2) (v : Nat) : Int := ((neighS es v).length : Int)
/-- the wedges of the nodes before v -/
def wed30 (es : List E2) (v : Nat) : Int := sumN (fun u => pairI (deg30 es u)) v
theorem deg30_bd (es : List E2) (v : Nat) (h : es.length ≤ 4096) : 0 ≤ deg30 es v ∧ deg30 es v ≤ 8192 := by
  have := neighS_length es v
  unfold deg30; omega
theorem wed30_bd (es : List E2) (v : Nat) (h : es.length ≤ 4096) : 0 ≤ wed30 es v ∧ wed30 es v ≤ v * 34359738368 :=
  sumN_bd _ 34359738368 v (fun u _ => by have := deg30_bd es u h; exact pairI_bd _ this.1 (by omega))
set_option maxRecDepth 100000 in
set_option maxHeartbeats 800000 in
theorem wedges30_any (n : Nat) (a : Option Addr) (cap : Nat) (es : List E2) (w : World) (he : EdgesAt w (.slice a es.length cap) es) (hv : Valid n es) :
    Calls Tryd.prog 15 #[.agg #[.int .i64 n, .slice a es.length cap]] w fun e w' => e = .returned (.tuple #[.int .i64 (wed30 es n), .int .i64 0]) ∧ Below w.heap.size w w' := by
  have hn64 : n ≤ 64 := by have := hv.2.1; omega
  have hlen := hv.length_le
  have hb0 : Below w.heap.size w (w.alloc (.cells #[.int .i64 n, .slice a es.length cap] 27)) := (Below.refl _ _).alloc (Nat.le_refl _) _
  have hG0 : (w.alloc (.cells #[.int .i64 n, .slice a es.length cap] 27)).heap[w.heap.size]? = some (.cells #[.int .i64 n, .slice a es.length cap] 27 (0, 0)) := heap_alloc_new _ _
  go_enter Tryd.func15, Tryd.ntmps15
  go_wp2_with fail
  refine (check_any n a cap es _ (he.below hb0)).mono ?_
  rintro e w1 ⟨rfl, hb1⟩
  rw [(valid_iff n es).2 hv]
  have hG1 := (hb1.block _ (blk_lt hG0)).trans hG0
  have hbw := hb0.trans (hb1.mono hb0.size)
  clear hb1 hb0 hG0
  go_wp2_with fail
  go_loopw [5, 6] (fun s i wr => ∃ k : Nat, k ≤ n ∧ i = .int .i64 k ∧ s = .int .i64 (wed30 es k) ∧ Below w1.heap.size w1 wr) (fun _ i _ => n - (intOf i).toNat)
  case atStart => exact ⟨0, Nat.zero_le _, rfl, rfl, Below.refl _ _⟩
  case round =>
    obtain ⟨k, hk, rfl, rfl, hb⟩ := hrel
    have hbr := hbw.trans (hb.mono hbw.size)
    have hGr := (hb.block _ (blk_lt hG1)).trans hG1
    obtain ⟨q0, q1⟩ := cells2 hGr
    by_cases hlt : k < n
    · have hd := deg30_bd es k hlen
      have hcall := degree_any n a cap es k wr (he.below hbr) hv
      have hwb := wed30_bd es k hlen
      have HS : Hid (wed30 es (k + 1) = wed30 es k + pairI (deg30 es k)) := rfl
      have hpp := prod_bd _ hd.1 (by omega)
      have hpi := pairI_bd _ hd.1 (by omega)
      change Calls _ _ _ wr (fun e w' => e = .returned (.int .i64 (deg30 es k)) ∧ _) at hcall
      generalize deg30 es k = d at *
      have w2 : IntKind.i64.wrap (d * (d - 1)) = d * (d - 1) := IntWalk.i64_in _ (by omega)
      have w3 : (d * (d - 1)).tdiv 2 = pairI d := by unfold pairI; rw [Int.tdiv_eq_ediv_of_nonneg hpp.1]
      generalize wed30 es k = t at *
      obtain ⟨p, hp⟩ : ∃ p, pairI d = p := ⟨_, rfl⟩
      rw [hp] at hpi HS w3
      have hd2 : d * (d - 1) / 2 = p := hp
      clear hp
      go_wp2_with fail
      refine hcall.mono ?_
      rintro e w2 ⟨rfl, hb2⟩
      have hb12 := hb.trans (hb2.mono hb.size)
      have hG2 := (hb2.block _ (blk_lt hGr)).trans hGr
      clear hb2 hb hcall hGr q0 q1
      go_wp2_with fail
      go_roundw
      case rel => exact ⟨k + 1, by omega, by go_num, by rw [HS.out], hb12⟩
      case measure => simp [intOf]; omega
    · obtain rfl : k = n := by omega
      go_wp2_with fail
      go_ret2
      exact ⟨rfl, hbr⟩

abbrev Quad := Nat × Nat × Nat × Nat
def qJ (a b d : Nat) (C : List Nat) : List Quad := C.flatMap fun c => if a < b ∧ a < c then [(a, b, c, d)] else []
def qK (es : List E2) (n a b : Nat) (t : List Nat) : List Quad := t.flatMap fun d => qJ a b d (cmL es n b d)
def qI (es : List E2) (n a : Nat) : List Nat → List Quad
  | [] => []
  | b :: t => qK es n a b t ++ qI es n a t
def qA (es : List E2) (n : Nat) (l : List Nat) : List Quad := l.flatMap fun a => qI es n a (nbL es n a)
/-- all squares, in the order of the reference -/
def cyc30 (es : List E2) (n : Nat) : List Quad := qA es n (List.range n)
def qn (q : Quad) : List Nat := [q.1, q.2.1, q.2.2.1, q.2.2.2]
def fiN (es : List E2) (p q : Nat) : Nat := (findS es p q).toNat
def qe (es : List E2) (q : Quad) : List Nat := [fiN es q.1 q.2.1, fiN es q.2.1 q.2.2.1, fiN es q.2.2.1 q.2.2.2, fiN es q.2.2.2 q.1]
theorem find_lt (es : List E2) (p : E2) : ∀ k : Nat, p ∈ es → findFrom k es p < k + es.length := by
  induction es with
  | nil => intro k h; cases h
  | cons e es ih =>
    intro k h
    unfold findFrom
    by_cases he : e = p
    · rw [if_pos he]; simp; omega
    · rw [if_neg he]
      rcases List.mem_cons.1 h with h' | h'
      · exact absurd h'.symm he
      · have := ih (k + 1) h'; simp; omega
theorem find_yes {n : Int} {es : List E2} (hv : Valid n es) (p q : Nat) (h : adjB es p q = true) : findS es p q = (fiN es p q : Nat) ∧ fiN es p q < es.length := by
  have hm : (min (p : Int) (q : Int), max (p : Int) (q : Int)) ∈ es := by
    rcases (adjB_iff es p q).1 h with h | h
    · have := hv.mem h
      rw [show min (p : Int) (q : Int) = p by omega, show max (p : Int) (q : Int) = q by omega]; exact h
    · have := hv.mem h
      rw [show min (p : Int) (q : Int) = q by omega, show max (p : Int) (q : Int) = p by omega]; exact h
  have h1 := (find_from es _ 0).1 hm
  have h2 := find_lt es _ 0 hm
  unfold fiN findS
  omega
/-- the two arrays of counts -/
def SqS (es : List E2) (n gN gE : Nat) (P : List Nat) (R : List Nat) (w : World) : Prop := NumAt w gN (cntW n P) ∧ NumAt w gE (cntW es.length R) ∧ gN ≠ gE
theorem SqS.below {es : List E2} {n gN gE : Nat} {P R : List Nat} {w w' : World} (h : SqS es n gN gE P R w) (hb : Below w.heap.size w w') : SqS es n gN gE P R w' := ⟨h.1.below hb, h.2.1.below hb, h.2.2⟩
end Go.Proofs.YtekbpoppajbljaaDoor

namespace Go.Proofs.YtekbpoppajbljaaDoor
open Go.RowKit Go.BigFrame

theorem nums_two (w : World) (n m : Nat) : NumAt ((w.alloc (.cells (intsV (List.replicate n 0)).toArray 3)).alloc (.cells (intsV (List.replicate m 0)).toArray 3)) w.heap.size (cntW n []) ∧ NumAt ((w.alloc (.cells (intsV (List.replicate n 0)).toArray 3)).alloc (.cells (intsV (List.replicate m 0)).toArray 3)) (w.heap.size + 1) (cntW m []) := by
  constructor
  · exact (NumAt.new w n).below ((Below.refl _ _).alloc (Nat.le_refl _) _)
  · have := NumAt.new (w.alloc (.cells (intsV (List.replicate n 0)).toArray 3)) m
    simpa using this
theorem range_drop (n k : Nat) (h : k < n) : (List.range n).drop k = k :: (List.range n).drop (k + 1) := by
  rw [List.drop_eq_getElem_cons (by simpa using h)]; simp
theorem drop_getD (l : List Nat) (k : Nat) (h : k < l.length) : l.drop k = l.getD k 0 :: l.drop (k + 1) := by
  rw [List.drop_eq_getElem_cons h, List.getD_eq_getElem?_getD, List.getElem?_eq_getElem h]; rfl
theorem getD_mem (l : List Nat) (k : Nat) (h : k < l.length) : l.getD k 0 ∈ l := by
  rw [List.getD_eq_getElem?_getD, List.getElem?_eq_getElem h]; exact List.getElem_mem _
theorem filter_lt (p : Nat → Bool) (n i j : Nat) (hij : i < j) (hj : j < ((List.range n).filter p).length) : ((List.range n).filter p).getD i 0 < ((List.range n).filter p).getD j 0 := by
  have h : ((List.range n).filter p).Pairwise (· < ·) := (List.pairwise_lt_range).filter p
  rw [List.getD_eq_getElem?_getD, List.getD_eq_getElem?_getD, List.getElem?_eq_getElem (by omega), List.getElem?_eq_getElem hj]
  exact List.pairwise_iff_getElem.1 h i j (by omega) hj hij
theorem natI_of {w : World} {a : Option Addr} {cap : Nat} {l : List Nat} (h : IntsAt w (.slice a (l.map fun (i : Nat) => (i : Int)).length cap) (l.map fun (i : Nat) => (i : Int))) : IntsAt w (.slice a l.length cap) (natI l) := by
  rw [List.length_map] at h; exact h
theorem wrap_wrap64 (x : Int) : IntKind.i64.wrap x = wrap64 x := by rw [IntKind.wrap_i64]; unfold wrap64; omega
/-- node x of a square, and its edge x -/
def q4n (k b c d x : Nat) : Nat := [k, b, c, d].getD x 0
theorem q4n_cell {w : World} {A T k b c d : Nat} (h : w.heap[A]? = some (.cells #[.int .i64 k, .int .i64 b, .int .i64 c, .int .i64 d] T (0, 0))) (x : Nat) (hx : x < 4) : w.cell? ⟨A, x, none⟩ = some (.int .i64 (q4n k b c d x)) := by
  rcases (by omega : x = 0 ∨ x = 1 ∨ x = 2 ∨ x = 3) with rfl | rfl | rfl | rfl <;> exact cell_blk h
theorem q4n_lt {n k b c d x : Nat} (hx : x < 4) (hk : k < n) (hb : b < n) (hc : c < n) (hd : d < n) : q4n k b c d x < n := by
  rcases (by omega : x = 0 ∨ x = 1 ∨ x = 2 ∨ x = 3) with rfl | rfl | rfl | rfl
  · exact hk
  · exact hb
  · exact hc
  · exact hd
theorem q4n_adj {es : List E2} {k b c d x : Nat} (hx : x < 4) (h1 : adjB es k b = true) (h2 : adjB es b c = true) (h3 : adjB es d c = true) (h4 : adjB es k d = true) : adjB es (q4n k b c d x) (q4n k b c d ((x + 1) % 4)) = true := by
  rcases (by omega : x = 0 ∨ x = 1 ∨ x = 2 ∨ x = 3) with rfl | rfl | rfl | rfl
  · exact h1
  · exact h2
  · exact (adjB_comm es d c).trans h3
  · exact (adjB_comm es k d).trans h4
theorem qn_take (k b c d x : Nat) (hx : x < 4) : (qn (k, b, c, d)).take (x + 1) = (qn (k, b, c, d)).take x ++ [q4n k b c d x] := by
  rcases (by omega : x = 0 ∨ x = 1 ∨ x = 2 ∨ x = 3) with rfl | rfl | rfl | rfl <;> rfl
theorem qe_take (es : List E2) (k b c d x : Nat) (hx : x < 4) : (qe es (k, b, c, d)).take (x + 1) = (qe es (k, b, c, d)).take x ++ [fiN es (q4n k b c d x) (q4n k b c d ((x + 1) % 4))] := by
  rcases (by omega : x = 0 ∨ x = 1 ∨ x = 2 ∨ x = 3) with rfl | rfl | rfl | rfl <;> rfl
set_option maxRecDepth 100000 in
set_option maxHeartbeats 6400000 in
theorem squares30_any (n : Nat) (a : Option Addr) (cap : Nat) (es : List E2) (w : World) (he : EdgesAt w (.slice a es.length cap) es) (hv : Valid n es) :
    Calls Tryd.prog 50 #[.agg #[.int .i64 n, .slice a es.length cap]] w fun e w' => ∃ gN gE, e = .returned (.tuple #[.slice (some ⟨gN, 0, none⟩) n n, .slice (some ⟨gE, 0, none⟩) es.length es.length, .int .i64 (wrap64 ((cyc30 es n).length : Int))]) ∧ SqS es n gN gE ((cyc30 es n).flatMap qn) ((cyc30 es n).flatMap (qe es)) w' ∧ w.heap.size ≤ gN ∧ w.heap.size ≤ gE ∧ Below w.heap.size w w' := by
  have hn64 : n ≤ 64 := by have := hv.2.1; omega
  have hlen := hv.length_le
  have hb0 : Below w.heap.size w (w.alloc (.cells #[.int .i64 n, .slice a es.length cap] 27)) := (Below.refl _ _).alloc (Nat.le_refl _) _
  have hG0 : (w.alloc (.cells #[.int .i64 n, .slice a es.length cap] 27)).heap[w.heap.size]? = some (.cells #[.int .i64 n, .slice a es.length cap] 27 (0, 0)) := heap_alloc_new _ _
  have hmk := make_ints n (by omega)
  have hmk2 := make_ints es.length (by omega)
  have hz0 : (w.alloc (.cells #[.int .i64 n, .slice a es.length cap] 27)).heap.size = w.heap.size + 1 := by simp
  go_enter Tryd.func50, Tryd.ntmps50
  go_upto_region 1 with (fail)
  go_cut [5, 6, 7] from 16 to 22 (fun s t c wx => ∃ gN gE, s = .slice (some ⟨gN, 0, none⟩) n n ∧ t = .slice (some ⟨gE, 0, none⟩) es.length es.length ∧ c = .int .i64 0 ∧ SqS es n gN gE [] [] wx ∧ w.heap.size < gN ∧ w.heap.size < gE ∧ Below w.heap.size w wx ∧ wx.heap[w.heap.size]? = some (.cells #[.int .i64 n, .slice a es.length cap] 27 (0, 0)))
  case first =>
    have h1 := nums_two (w.alloc (.cells #[.int .i64 n, .slice a es.length cap] 27)) n es.length
    have h2 := nums_two (w.alloc (.cells #[.int .i64 n, .slice a es.length cap] 27)) es.length n
    rw [hz0] at h1 h2
    have H1 := Lib.hid h1
    have H2 := Lib.hid h2
    clear h1 h2
    have hGG := fun (o1 o2 : Obj) => ((Below.heap_alloc ((w.alloc (.cells #[.int .i64 n, .slice a es.length cap] 27)).alloc o1) o2 w.heap.size (by simp <;> omega)).trans (Below.heap_alloc _ o1 _ (by rw [hz0]; omega))).trans hG0
    have hBB := fun (o1 o2 : Obj) => (hb0.alloc hb0.size o1).alloc (hb0.alloc hb0.size o1).size o2
    have HGG := Lib.hid hGG
    have HBB := Lib.hid hBB
    clear hGG hBB hG0 hb0
    go_region
    all_goals
      go_wp2_with fail
      go_meet
      first
        | exact ⟨w.heap.size + 1, w.heap.size + 2, rfl, rfl, rfl, ⟨H1.out.1, H1.out.2, by omega⟩, by omega, by omega, (HBB.out _ _).drew, HGG.out _ _⟩
        | exact ⟨w.heap.size + 2, w.heap.size + 1, rfl, rfl, rfl, ⟨H2.out.2, H2.out.1, by omega⟩, by omega, by omega, (HBB.out _ _).drew, HGG.out _ _⟩
  case rest =>
    obtain ⟨gN, gE, rfl, rfl, rfl, hS, hgN, hgE, hb, hG⟩ := hcut
    clear hmk hmk2 hb0 hG0 hz0
    go_wp2_with fail
    go_loopw [7, 8] (fun c i wr => ∃ (k : Nat) (acc : List Quad), k ≤ n ∧ i = .int .i64 k ∧ c = .int .i64 (wrap64 (acc.length : Int)) ∧ SqS es n gN gE (acc.flatMap qn) (acc.flatMap (qe es)) wr ∧ Below w.heap.size w wr ∧ wr.heap[w.heap.size]? = some (.cells #[.int .i64 n, .slice a es.length cap] 27 (0, 0)) ∧ Hid (cyc30 es n = acc ++ qA es n ((List.range n).drop k))) (fun _ i _ => n - (intOf i).toNat)
    case atStart => exact ⟨0, [], Nat.zero_le _, rfl, by simp [wrap64], hS, hb, hG, rfl⟩
    case round =>
      clear hS hb hG
      obtain ⟨k, acc, hk, rfl, rfl, hS, hb, hG, HR⟩ := hrel
      obtain ⟨q0, q1⟩ := cells2 hG
      have hzN := blk_lt hS.1
      have hzE := blk_lt hS.2.1
      by_cases hlt : k < n
      · obtain ⟨L, hL⟩ : ∃ L, nbL es n k = L := ⟨_, rfl⟩
        have hcall := neigh_new n a cap es k wr (he.below hb) hv
        rw [neigh_eq hv k, hL] at hcall
        have HR1 : Hid (cyc30 es n = acc ++ (qI es n k L ++ qA es n ((List.range n).drop (k + 1)))) := by show _ = _; rw [HR.out, range_drop n k hlt, ← hL]; rfl
        have hLm : ∀ x ∈ L, x < n ∧ adjB es k x = true := fun x hx => by rw [← hL] at hx; obtain ⟨h1, h2⟩ := List.mem_filter.1 hx; exact ⟨List.mem_range.1 h1, h2⟩
        have hLlt : ∀ i j, i < j → j < L.length → L.getD i 0 < L.getD j 0 := fun i j hij hj => by rw [← hL] at hj ⊢; exact filter_lt _ n i j hij hj
        clear hL HR
        obtain ⟨R1, hR1⟩ : ∃ R1, qA es n ((List.range n).drop (k + 1)) = R1 := ⟨_, rfl⟩
        rw [hR1] at HR1
        have HQ1 := Lib.hid hR1
        clear hR1
        go_wp2_with fail
        refine hcall.mono ?_
        rintro e w5 ⟨a5, cap5, rfl, hi5, hb5, ho5⟩
        have hbL := hb.trans (hb5.mono hb.size)
        have hGL := (hb5.block _ (blk_lt hG)).trans hG
        have hSL := hS.below hb5
        have hiL := natI_of hi5
        have hoL : ∀ p, a5 = some p → p.block ≠ gN ∧ p.block ≠ gE := fun p hp => by have := ho5 p hp; omega
        have hLlen : L.length ≤ 70368744177664 := by obtain ⟨_, _, _, _, _, h, _⟩ := hiL; rw [natI_length] at h; exact h
        clear hi5 ho5 hb5 hb hG hS hcall q0 q1 hzN hzE
        rw [List.length_map]
        go_wp2_with fail
        go_loopw [7, 10] (fun c i wr => ∃ (i2 : Nat) (acc : List Quad), i2 ≤ L.length ∧ i = .int .i64 i2 ∧ c = .int .i64 (wrap64 (acc.length : Int)) ∧ SqS es n gN gE (acc.flatMap qn) (acc.flatMap (qe es)) wr ∧ Below w.heap.size w wr ∧ wr.heap[w.heap.size]? = some (.cells #[.int .i64 n, .slice a es.length cap] 27 (0, 0)) ∧ IntsAt wr (.slice a5 L.length cap5) (natI L) ∧ Hid (cyc30 es n = acc ++ (qI es n k (L.drop i2) ++ R1))) (fun _ i _ => L.length - (intOf i).toNat)
        case atStart => exact ⟨0, acc, Nat.zero_le _, rfl, rfl, hSL, hbL, hGL, hiL, HR1⟩
        case round =>
          clear hSL hbL hGL hiL HR1
          obtain ⟨i2, acc, hi2, rfl, rfl, hS, hb, hG, hI, HR⟩ := hrel
          by_cases hlt2 : i2 < L.length
          · have hbm := hLm _ (getD_mem L i2 hlt2)
            obtain ⟨bL, oL, rfl, cb⟩ := natI_at hI i2 hlt2
            obtain ⟨R2, hR2⟩ : ∃ R2, qI es n k (L.drop (i2 + 1)) ++ R1 = R2 := ⟨_, rfl⟩
            have HR2 : Hid (cyc30 es n = acc ++ (qK es n k (L.getD i2 0) (L.drop (i2 + 1)) ++ R2)) := by show _ = _; rw [HR.out, drop_getD L i2 hlt2, ← hR2]; simp only [qI, List.append_assoc]
            have HQ2 := Lib.hid hR2
            have hLb : ∀ j, i2 < j → j < L.length → L.getD i2 0 < L.getD j 0 := fun j h1 h2 => hLlt i2 j h1 h2
            clear hR2 HR cb
            go_wp2_with fail
            go_loopw [7, 11] (fun c i wr => ∃ (i3 : Nat) (acc : List Quad), i2 + 1 ≤ i3 ∧ i3 ≤ L.length ∧ i = .int .i64 i3 ∧ c = .int .i64 (wrap64 (acc.length : Int)) ∧ SqS es n gN gE (acc.flatMap qn) (acc.flatMap (qe es)) wr ∧ Below w.heap.size w wr ∧ wr.heap[w.heap.size]? = some (.cells #[.int .i64 n, .slice a es.length cap] 27 (0, 0)) ∧ IntsAt wr (.slice (some ⟨bL, oL, none⟩) L.length cap5) (natI L) ∧ Hid (cyc30 es n = acc ++ (qK es n k (L.getD i2 0) (L.drop i3) ++ R2))) (fun _ i _ => L.length - (intOf i).toNat)
            case atStart => exact ⟨i2 + 1, acc, Nat.le_refl _, hlt2, by go_num, rfl, hS, hb, hG, hI, HR2⟩
            case round =>
              clear hS hb hG hI HR2
              obtain ⟨i3, acc, hi23, hi3, rfl, rfl, hS, hb, hG, hI, HR⟩ := hrel
              by_cases hlt3 : i3 < L.length
              · have hdm := hLm _ (getD_mem L i3 hlt3)
                have hbd := hLb i3 (by omega) hlt3
                obtain ⟨_, _, e1, cb⟩ := natI_at hI i2 hlt2
                cases e1
                obtain ⟨_, _, e1, cd⟩ := natI_at hI i3 hlt3
                cases e1
                have hdr := drop_getD L i3 hlt3
                obtain ⟨R3, hR3⟩ : ∃ R3, qK es n k (L.getD i2 0) (L.drop (i3 + 1)) ++ R2 = R3 := ⟨_, rfl⟩
                have HQ3 := Lib.hid hR3
                obtain ⟨b, hbb⟩ : ∃ b, L.getD i2 0 = b := ⟨_, rfl⟩
                obtain ⟨d, hdd⟩ : ∃ d, L.getD i3 0 = d := ⟨_, rfl⟩
                rw [hbb] at hbm hbd cb
                rw [hdd] at hdm hbd cd
                obtain ⟨C, hC⟩ : ∃ C, cmL es n b d = C := ⟨_, rfl⟩
                have HR3 : Hid (cyc30 es n = acc ++ (qJ k b d C ++ R3)) := by show _ = _; rw [HR.out, hdr, ← hR3, hbb, hdd, ← hC]; simp only [qK, List.flatMap_cons, List.append_assoc]
                have hCm : ∀ x ∈ C, x < n ∧ adjB es b x = true ∧ adjB es d x = true := fun x hx => by
                  rw [← hC] at hx; obtain ⟨h1, h2⟩ := List.mem_filter.1 hx
                  simp only [Bool.and_eq_true] at h2
                  exact ⟨List.mem_range.1 h1, h2⟩
                have hcall := common_new n a cap es b d wr.drew (he.below hb.drew) hv (by omega)
                rw [common_eq hv b d, hC] at hcall
                have HBB := Lib.hid hbb
                have HDD := Lib.hid hdd
                clear hdr hR3 hbb hdd hC HR
                obtain ⟨q0, q1⟩ := cells2 hG
                have hzN := blk_lt hS.1
                have hzE := blk_lt hS.2.1
                have hzG := blk_lt hG
                have hzL := cell_lt cb
                have hd' : d < n := hdm.1
                go_wp2_with fail
                go_region_held3 (fun w' => w'.cell? ⟨w.heap.size, 0, none⟩ = some (.int .i64 n) ∧ w'.cell? ⟨w.heap.size, 1, none⟩ = some (.slice a es.length cap) ∧ w'.cell? ⟨bL, oL + i2, none⟩ = some (.int .i64 b) ∧ w'.cell? ⟨bL, oL + i3, none⟩ = some (.int .i64 d))
                  (first
                    | go_keep
                    | exact ⟨(hb7.cell (p := ⟨w.heap.size, 0, none⟩) hzG).trans q0, (hb7.cell (p := ⟨w.heap.size, 1, none⟩) hzG).trans q1, (hb7.cell (p := ⟨bL, oL + i2, none⟩) hzL).trans cb, (hb7.cell (p := ⟨bL, oL + i3, none⟩) hzL).trans cd⟩)
                  (first
                    | (go_at_call 29; refine hcall.mono ?_; rintro e w7 ⟨a7, cap7, rfl, hi7, hb7, ho7⟩))
                have hbC := hb.drew.trans (hb7.mono hb.drew.size)
                have hGC := (hb7.block _ (blk_lt hG)).trans hG
                have hSC := (show SqS es n gN gE (acc.flatMap qn) (acc.flatMap (qe es)) wr.drew from hS).below hb7
                have hIC := (hI.below (Below.refl _ _).drew).below hb7
                have hiC := natI_of hi7
                have hoC : ∀ p, a7 = some p → p.block ≠ gN ∧ p.block ≠ gE := fun p hp => by have := ho7 p hp; have hs : wr.drew.heap.size = wr.heap.size := rfl; omega
                have hClen : C.length ≤ 70368744177664 := by obtain ⟨_, _, _, _, _, h, _⟩ := hiC; rw [natI_length] at h; exact h
                clear hi7 ho7 hb7 hb hG hS hI hcall q0 q1 hzN hzE hzG hzL cb cd
                go_wp2_with fail
                go_loopw [7, 13] (fun c i wr => ∃ (j : Nat) (acc : List Quad), j ≤ C.length ∧ i = .int .i64 j ∧ c = .int .i64 (wrap64 (acc.length : Int)) ∧ SqS es n gN gE (acc.flatMap qn) (acc.flatMap (qe es)) wr ∧ Below w.heap.size w wr ∧ wr.heap[w.heap.size]? = some (.cells #[.int .i64 n, .slice a es.length cap] 27 (0, 0)) ∧ IntsAt wr (.slice (some ⟨bL, oL, none⟩) L.length cap5) (natI L) ∧ IntsAt wr (.slice a7 C.length cap7) (natI C) ∧ Hid (cyc30 es n = acc ++ (qJ k b d (C.drop j) ++ R3))) (fun _ i _ => C.length - (intOf i).toNat)
                case atStart => exact ⟨0, acc, Nat.zero_le _, rfl, rfl, hSC, hbC, hGC, hIC, hiC, HR3⟩
                case round =>
                  clear hSC hbC hGC hIC hiC HR3
                  obtain ⟨j, acc, hj, rfl, rfl, hS, hb, hG, hI, hJ, HR⟩ := hrel
                  by_cases hlt4 : j < C.length
                  · have hcm := hCm _ (getD_mem C j hlt4)
                    obtain ⟨_, _, e1, cb⟩ := natI_at hI i2 hlt2
                    cases e1
                    obtain ⟨_, _, e1, cd⟩ := natI_at hI i3 hlt3
                    cases e1
                    obtain ⟨bC, oC, rfl, cc⟩ := natI_at hJ j hlt4
                    rw [HBB.out] at cb
                    rw [HDD.out] at cd
                    have hdr := drop_getD C j hlt4
                    obtain ⟨c, hcc⟩ : ∃ c, C.getD j 0 = c := ⟨_, rfl⟩
                    rw [hcc] at hcm cc hdr
                    obtain ⟨R4, hR4⟩ : ∃ R4, qJ k b d (C.drop (j + 1)) ++ R3 = R4 := ⟨_, rfl⟩
                    have HR4 : Hid (cyc30 es n = acc ++ ((if k < b ∧ k < c then [(k, b, c, d)] else []) ++ R4)) := by show _ = _; rw [HR.out, hdr, ← hR4]; simp only [qJ, List.flatMap_cons, List.append_assoc]
                    have HQ4 := Lib.hid hR4
                    have hbn : b < n := hbm.1
                    have hdn : d < n := hdm.1
                    have hcn : c < n := hcm.1
                    clear hdr hcc hR4 HR
                    by_cases hkb : k < b
                    · by_cases hkc : k < c
                      · have HR5 : Hid (cyc30 es n = (acc ++ [(k, b, c, d)]) ++ R4) := by show _ = _; rw [HR4.out, if_pos ⟨hkb, hkc⟩, List.append_assoc]
                        clear HR4
                        have hzL := cell_lt cb
                        have hzC := cell_lt cc
                        have hzN := blk_lt hS.1
                        have hzE := blk_lt hS.2.1
                        have hzG := blk_lt hG
                        go_wp2_with fail
                        go_region_held3 (fun w' => w'.cell? ⟨bL, oL + i2, none⟩ = some (.int .i64 b) ∧ w'.cell? ⟨bL, oL + i3, none⟩ = some (.int .i64 d) ∧ w'.cell? ⟨bC, oC + j, none⟩ = some (.int .i64 c))
                          (first
                            | go_keep)
                          (first
                            | fail)
                        go_wp2_with fail
                        obtain ⟨wo, rfl⟩ : ∃ wo : World, wo = wr := ⟨_, rfl⟩
                        have hba : Below wo.heap.size wo (wo.alloc (.cells #[.int .i64 k, .int .i64 b, .int .i64 c, .int .i64 d] 74)).drew := ((Below.refl _ _).alloc (Nat.le_refl _) _).drew
                        have hA0 : (wo.alloc (.cells #[.int .i64 k, .int .i64 b, .int .i64 c, .int .i64 d] 74)).drew.heap[wo.heap.size]? = some (.cells #[.int .i64 k, .int .i64 b, .int .i64 c, .int .i64 d] 74 (0, 0)) := heap_alloc_new wo (.cells #[.int .i64 k, .int .i64 b, .int .i64 c, .int .i64 d] 74)
                        have hS0 : SqS es n gN gE (acc.flatMap qn ++ (qn (k, b, c, d)).take 0) (acc.flatMap (qe es) ++ (qe es (k, b, c, d)).take 0) (wo.alloc (.cells #[.int .i64 k, .int .i64 b, .int .i64 c, .int .i64 d] 74)).drew := by rw [List.take_zero, List.take_zero, List.append_nil, List.append_nil]; exact hS.below hba
                        have hb0 := hb.trans (hba.mono hb.size)
                        have hG0 := (hba.block _ hzG).trans hG
                        have hI0 := hI.below hba
                        have hJ0 := hJ.below hba
                        clear hS hb hG hI hJ cb cc cd hba
                        go_loopw [15] (fun i wr => ∃ x : Nat, x ≤ 4 ∧ i = .int .i64 x ∧ SqS es n gN gE (acc.flatMap qn ++ (qn (k, b, c, d)).take x) (acc.flatMap (qe es) ++ (qe es (k, b, c, d)).take x) wr ∧ Below w.heap.size w wr ∧ wr.heap[w.heap.size]? = some (.cells #[.int .i64 n, .slice a es.length cap] 27 (0, 0)) ∧ IntsAt wr (.slice (some ⟨bL, oL, none⟩) L.length cap5) (natI L) ∧ IntsAt wr (.slice (some ⟨bC, oC, none⟩) C.length cap7) (natI C) ∧ wr.heap[wo.heap.size]? = some (.cells #[.int .i64 k, .int .i64 b, .int .i64 c, .int .i64 d] 74 (0, 0))) (fun i _ => 4 - (intOf i).toNat)
                        case atStart => exact ⟨0, by omega, rfl, hS0, hb0, hG0, hI0, hJ0, hA0⟩
                        case round =>
                          clear hS0 hb0 hG0 hI0 hJ0 hA0
                          obtain ⟨x, hx, rfl, hS, hb, hG, hI, hJ, hA⟩ := hrel
                          by_cases hltx : x < 4
                          · have cy := q4n_cell hA x hltx
                            have cz := q4n_cell hA ((x + 1) % 4) (Nat.mod_lt _ (by omega))
                            have hyn := q4n_lt hltx hlt hbn hcn hdn
                            have hadj := q4n_adj hltx hbm.2 hcm.2.1 hcm.2.2 hdm.2
                            obtain ⟨hfe, hfl⟩ := find_yes hv _ _ hadj
                            have hqn := qn_take k b c d x hltx
                            have hqe := qe_take es k b c d x hltx
                            generalize q4n k b c d x = y at *
                            obtain ⟨m, hm⟩ : ∃ m, (x + 1) % 4 = m := ⟨_, rfl⟩
                            have hm4 : m < 4 := by omega
                            rw [hm] at cz hfe hfl hqe hadj
                            have htm : ((x : Int) + 1).tmod 4 = (m : Int) := by rw [Int.tmod_eq_emod_of_nonneg (by omega)]; omega
                            have hmm : ((x : Int) + 1) % 4 = (m : Int) := by omega
                            clear hm
                            generalize q4n k b c d m = z at *
                            obtain ⟨f, hf⟩ : ∃ f, fiN es y z = f := ⟨_, rfl⟩
                            rw [hf] at hfe hfl hqe
                            have hcall := fun (w' : World) (h : EdgesAt w' (.slice a es.length cap) es) => find_any n a cap es y z w' h hv
                            rw [hfe] at hcall
                            have HQN := Lib.hid hqn
                            have HQE := Lib.hid hqe
                            clear hf hfe hqn hqe hadj
                            have cn := hS.1.cell y _ (cntW_get _ _ y hyn)
                            have fn : wr.frozen? ⟨gN, y, none⟩ = false := free_blk hS.1
                            have hne := hS.2.2
                            have hzGr := blk_lt hG
                            have HW : Hid (SqS es n gN gE (acc.flatMap qn ++ (qn (k, b, c, d)).take (x + 1)) (acc.flatMap (qe es) ++ (qe es (k, b, c, d)).take x) (wr.setCell ⟨gN, y, none⟩ (.int .i64 (wrap64 (wrap64 (occ (acc.flatMap qn ++ (qn (k, b, c, d)).take x) y) + 1)))) ∧ Below w.heap.size w (wr.setCell ⟨gN, y, none⟩ (.int .i64 (wrap64 (wrap64 (occ (acc.flatMap qn ++ (qn (k, b, c, d)).take x) y) + 1)))) ∧ (wr.setCell ⟨gN, y, none⟩ (.int .i64 (wrap64 (wrap64 (occ (acc.flatMap qn ++ (qn (k, b, c, d)).take x) y) + 1)))).heap[w.heap.size]? = some (.cells #[.int .i64 n, .slice a es.length cap] 27 (0, 0)) ∧ IntsAt (wr.setCell ⟨gN, y, none⟩ (.int .i64 (wrap64 (wrap64 (occ (acc.flatMap qn ++ (qn (k, b, c, d)).take x) y) + 1)))) (.slice (some ⟨bL, oL, none⟩) L.length cap5) (natI L) ∧ IntsAt (wr.setCell ⟨gN, y, none⟩ (.int .i64 (wrap64 (wrap64 (occ (acc.flatMap qn ++ (qn (k, b, c, d)).take x) y) + 1)))) (.slice (some ⟨bC, oC, none⟩) C.length cap7) (natI C) ∧ (wr.setCell ⟨gN, y, none⟩ (.int .i64 (wrap64 (wrap64 (occ (acc.flatMap qn ++ (qn (k, b, c, d)).take x) y) + 1)))).heap[wo.heap.size]? = some (.cells #[.int .i64 k, .int .i64 b, .int .i64 c, .int .i64 d] 74 (0, 0))) := by
                              have s1 := hS.1.set y (wrap64 (wrap64 (occ (acc.flatMap qn ++ (qn (k, b, c, d)).take x) y) + 1))
                              rw [cntW_snoc, List.append_assoc, ← HQN.out] at s1
                              refine ⟨⟨s1, hS.2.1.other (Ne.symm hne), hne⟩, hb.setCell (p := ⟨gN, y, none⟩) (Nat.le_of_lt hgN) _, (Below.heap_setCell _ _ _ _ (by show w.heap.size ≠ gN; omega)).trans hG, hI.grown grown_store (fun g e n c p ep => by cases e; cases ep; exact (hoL _ rfl).1), hJ.grown grown_store (fun g e n c p ep => by cases e; cases ep; exact (hoC _ rfl).1), (Below.heap_setCell _ _ _ _ (by show wo.heap.size ≠ gN; omega)).trans hA⟩
                            generalize occ (acc.flatMap qn ++ (qn (k, b, c, d)).take x) y = c1 at *
                            have cz' : (wr.setCell ⟨gN, y, none⟩ (.int .i64 (wrap64 (wrap64 c1 + 1)))).cell? ⟨wo.heap.size, m, none⟩ = some (.int .i64 z) := by rw [World.cell?_of_block (a := ⟨wo.heap.size, m, none⟩) (Below.heap_setCell _ _ _ _ (by show wo.heap.size ≠ gN; omega))]; exact cz
                            have cy' : (wr.setCell ⟨gN, y, none⟩ (.int .i64 (wrap64 (wrap64 c1 + 1)))).cell? ⟨wo.heap.size, x, none⟩ = some (.int .i64 y) := by rw [World.cell?_of_block (a := ⟨wo.heap.size, x, none⟩) (Below.heap_setCell _ _ _ _ (by show wo.heap.size ≠ gN; omega))]; exact cy
                            have CZ := Lib.hid cz'
                            have CY := Lib.hid cy'
                            clear hS hb hG hI hJ hA cz cz' cy'
                            go_wp2_with fail
                            generalize wr.setCell ⟨gN, y, none⟩ (.int .i64 (wrap64 (wrap64 c1 + 1))) = w6 at *
                            obtain ⟨hS6, hb6, hG6, hI6, hJ6, hA6⟩ := HW.out
                            have cz6 := CZ.out
                            have cy6 := CY.out
                            obtain ⟨q0, q1⟩ := cells2 hG6
                            have ce := hS6.2.1.cell f _ (cntW_get _ _ f hfl)
                            have fe : w6.frozen? ⟨gE, f, none⟩ = false := free_blk hS6.2.1
                            have hzE6 := blk_lt hS6.2.1
                            have hzG6 := blk_lt hG6
                            have hzA6 := blk_lt hA6
                            have hgEA : gE < wo.heap.size := hzE
                            have HC := hcall w6.drew (he.below hb6.drew)
                            have hw1 : IntKind.i64.wrap ((x : Int) + 1) = (x : Int) + 1 := IntWalk.i64_in _ (by omega)
                            clear HW CZ CY cn fn cy hcall
                            have hm0 : (0 : Int) ≤ (m : Int) := by omega
                            have hm1 : (m : Int) < 4 := by omega
                            have hx0 : (0 : Int) ≤ (x : Int) := by omega
                            have hx1 : (x : Int) < 4 := by omega
                            have hs2 := fun (W : World) (h : NumAt W gE (cntW es.length (acc.flatMap (qe es) ++ (qe es (k, b, c, d)).take x))) => h.set f (wrap64 (wrap64 (occ (acc.flatMap (qe es) ++ (qe es (k, b, c, d)).take x) f) + 1))
                            rw [cntW_snoc, List.append_assoc, ← HQE.out] at hs2
                            generalize occ (acc.flatMap (qe es) ++ (qe es (k, b, c, d)).take x) f = c2 at *
                            have hw2 : IntKind.i64.wrap (wrap64 c2 + 1) = wrap64 (wrap64 c2 + 1) := wrap_wrap64 _
                            have HS2 := Lib.hid hs2
                            have hgEw : w.heap.size ≤ gE := Nat.le_of_lt hgE
                            clear hs2
                            go_region_law (go_simp; go_at_call 77; refine HC.mono ?_; rintro e w8 ⟨rfl, hb8⟩; have ce8 := (hb8.cell (p := ⟨gE, f, none⟩) hzE6).trans ce; have fe8 := (hb8.frozen (p := ⟨gE, f, none⟩) hzE6).trans fe)
                            all_goals
                              have hS8 := (show SqS es n gN gE (acc.flatMap qn ++ (qn (k, b, c, d)).take (x + 1)) (acc.flatMap (qe es) ++ (qe es (k, b, c, d)).take x) w6.drew from hS6).below hb8
                              have r1 : SqS es n gN gE (acc.flatMap qn ++ (qn (k, b, c, d)).take (x + 1)) (acc.flatMap (qe es) ++ (qe es (k, b, c, d)).take (x + 1)) (w8.setCell ⟨gE, f, none⟩ (.int .i64 (wrap64 (wrap64 c2 + 1)))) := ⟨hS8.1.other hne, HS2.out w8 hS8.2.1, hne⟩
                              have r2 := (hb6.drew.trans (hb8.mono hb6.drew.size)).setCell (p := ⟨gE, f, none⟩) hgEw (.int .i64 (wrap64 (wrap64 c2 + 1)))
                              have r3 := (Below.heap_setCell w8 ⟨gE, f, none⟩ (.int .i64 (wrap64 (wrap64 c2 + 1))) w.heap.size (by show w.heap.size ≠ gE; omega)).trans ((hb8.block _ hzG6).trans hG6)
                              have r4 := (((hI6.below (Below.refl _ _).drew).below hb8).grown (grown_store (b := gE) (j := f) (v := .int .i64 (wrap64 (wrap64 c2 + 1)))) (fun g e n c p ep => by cases e; cases ep; exact (hoL _ rfl).2))
                              have r5 := (((hJ6.below (Below.refl _ _).drew).below hb8).grown (grown_store (b := gE) (j := f) (v := .int .i64 (wrap64 (wrap64 c2 + 1)))) (fun g e n c p ep => by cases e; cases ep; exact (hoC _ rfl).2))
                              have r6 := (Below.heap_setCell w8 ⟨gE, f, none⟩ (.int .i64 (wrap64 (wrap64 c2 + 1))) wo.heap.size (by show wo.heap.size ≠ gE; omega)).trans ((hb8.block _ hzA6).trans hA6)
                              have HR16 := Lib.hid (And.intro r1 (And.intro r2 (And.intro r3 (And.intro r4 (And.intro r5 r6)))))
                              clear r1 r2 r3 r4 r5 r6 hS8
                              go_wp2_with fail
                              go_roundw
                              case rel => exact ⟨x + 1, by omega, by go_num, HR16.out⟩
                              case measure => simp [intOf]; omega
                          · obtain rfl : x = 4 := by omega
                            have e1 : (acc ++ [(k, b, c, d)]).flatMap qn = acc.flatMap qn ++ (qn (k, b, c, d)).take 4 := by simp [qn]
                            have e2 : (acc ++ [(k, b, c, d)]).flatMap (qe es) = acc.flatMap (qe es) ++ (qe es (k, b, c, d)).take 4 := by simp [qe]
                            rw [← e1, ← e2] at hS
                            have e3 : wrap64 (wrap64 (acc.length : Int) + 1) = wrap64 ((acc ++ [(k, b, c, d)]).length : Int) := by rw [wrap64_step, List.length_append]; rfl
                            have E3 := Lib.hid e3
                            clear e1 e2 e3
                            go_wp2_with fail
                            go_roundw
                            case rel => exact ⟨j + 1, acc ++ [(k, b, c, d)], by omega, by go_num, by rw [E3.out], hS, hb, hG, hI, hJ, by show _ = _; rw [HQ4.out]; exact HR5.out⟩
                            case measure => simp [intOf]; omega
                      · have HR5 : Hid (cyc30 es n = acc ++ R4) := by show _ = _; rw [HR4.out, if_neg (fun h => hkc h.2)]; rfl
                        clear HR4
                        go_wp2_with fail
                        go_roundw
                        case rel => exact ⟨j + 1, acc, by omega, by go_num, rfl, hS, hb, hG, hI, hJ, by show _ = _; rw [HQ4.out]; exact HR5.out⟩
                        case measure => simp [intOf]; omega
                    · have HR5 : Hid (cyc30 es n = acc ++ R4) := by show _ = _; rw [HR4.out, if_neg (fun h => hkb h.1)]; rfl
                      clear HR4
                      go_wp2_with fail
                      go_roundw
                      case rel => exact ⟨j + 1, acc, by omega, by go_num, rfl, hS, hb, hG, hI, hJ, by show _ = _; rw [HQ4.out]; exact HR5.out⟩
                      case measure => simp [intOf]; omega
                  · obtain rfl : j = C.length := by omega
                    go_wp2_with fail
                    go_roundw
                    case rel => exact ⟨i3 + 1, acc, by omega, by omega, by go_num, rfl, hS, hb, hG, hI, by show _ = _; rw [HQ3.out, HR.out, List.drop_of_length_le (Nat.le_refl _)]; rfl⟩
                    case measure => simp [intOf]; omega
              · obtain rfl : i3 = L.length := by omega
                go_wp2_with fail
                go_roundw
                case rel => exact ⟨i2 + 1, acc, by omega, by go_num, rfl, hS, hb, hG, hI, by show _ = _; rw [HQ2.out, HR.out, List.drop_of_length_le (Nat.le_refl _)]; rfl⟩
                case measure => simp [intOf]; omega
          · obtain rfl : i2 = L.length := by omega
            go_wp2_with fail
            go_roundw
            case rel => exact ⟨k + 1, acc, by omega, by go_num, rfl, hS, hb, hG, by show _ = _; rw [HQ1.out, HR.out, List.drop_of_length_le (Nat.le_refl _)]; rfl⟩
            case measure => simp [intOf]; omega
      · obtain rfl : k = n := by omega
        have HE : Hid (cyc30 es k = acc) := by show _ = _; rw [HR.out, List.drop_of_length_le (by simp)]; simp [qA]
        go_wp2_with fail
        go_ret3
        rw [HE.out]
        exact ⟨gN, gE, rfl, hS, by omega, by omega, hb⟩
end Go.Proofs.YtekbpoppajbljaaDoor

namespace Go.Proofs.YtekbpoppajbljaaDoor
open Go.RowKit Go.BigFrame
theorem count30_any (n : Nat) (a : Option Addr) (cap : Nat) (es : List E2) (w : World) (he : EdgesAt w (.slice a es.length cap) es) (hv : Valid n es) :
    Calls Tryd.prog 16 #[.agg #[.int .i64 n, .slice a es.length cap]] w fun e w' => e = .returned (.tuple #[.int .i64 (wrap64 ((cyc30 es n).length : Int)), .int .i64 0]) ∧ Below w.heap.size w w' := by
  have hb0 : Below w.heap.size w (w.alloc (.cells #[.int .i64 n, .slice a es.length cap] 27)) := (Below.refl _ _).alloc (Nat.le_refl _) _
  have hG0 : (w.alloc (.cells #[.int .i64 n, .slice a es.length cap] 27)).heap[w.heap.size]? = some (.cells #[.int .i64 n, .slice a es.length cap] 27 (0, 0)) := heap_alloc_new _ _
  have hs := fun w1 h => squares30_any n a cap es w1 h hv
  obtain ⟨C, hC⟩ : ∃ C, wrap64 ((cyc30 es n).length : Int) = C := ⟨_, rfl⟩
  rw [hC] at hs ⊢
  clear hC
  go_enter Tryd.func16, Tryd.ntmps16
  go_wp2_with fail
  refine (check_any n a cap es _ (he.below hb0)).mono ?_
  rintro e w1 ⟨rfl, hb1⟩
  rw [(valid_iff n es).2 hv]
  have hG1 := (hb1.block _ (blk_lt hG0)).trans hG0
  have hbw := hb0.trans (hb1.mono hb0.size)
  clear hb1 hb0 hG0
  have he1 := he.below hbw
  obtain ⟨q0, q1⟩ := cells2 hG1
  go_wp2_with fail
  refine (hs _ he1).mono ?_
  rintro e w2 ⟨gN, gE, rfl, hS, hgN, hgE, hb2⟩
  have hb := hbw.trans (hb2.mono hbw.size)
  clear hb2 hbw hS hs
  go_wp2_with fail
  go_ret2
  exact ⟨rfl, hb⟩
end Go.Proofs.YtekbpoppajbljaaDoor
