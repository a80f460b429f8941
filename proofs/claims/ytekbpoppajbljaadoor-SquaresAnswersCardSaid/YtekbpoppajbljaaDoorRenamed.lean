/- The contract of the graph with other names of its nodes. -/
import Derived.Test.YtekbpoppajbljaaDoorRef03Of
import Derived.Test.YtekbpoppajbljaaDoorMkOrder
import Derived.Test.YtekbpoppajbljaaDoorPatSolvesPlain
import Derived.Test.YtekbpoppajbljaaDoorPatTurnsPlain
import Derived.Deep.RegionHeld3
namespace Go.Proofs.YtekbpoppajbljaaDoor
open Go.RowKit Go.BigFrame

def renE (l : List Nat) (es : List E2) : List E2 := es.map fun e => (((l.getD e.1.toNat 0 : Nat) : Int), ((l.getD e.2.toNat 0 : Nat) : Int))
theorem renE_snoc (l : List Nat) (es : List E2) (u v : Nat) : renE l (es ++ [((u : Int), (v : Int))]) = renE l es ++ [(((l.getD u 0 : Nat) : Int), ((l.getD v 0 : Nat) : Int))] := by simp [renE]
theorem renE_length (l : List Nat) (es : List E2) : (renE l es).length = es.length := by simp [renE]
theorem perm_lt {n : Nat} {l : List Nat} (h : l.Perm (List.range n)) (a : Nat) (ha : a < n) : l.getD a 0 < n := by
  have hl : l.length = n := by rw [h.length_eq]; simp
  rw [List.getD_eq_getElem?_getD, List.getElem?_eq_getElem (by omega)]
  exact List.mem_range.1 (h.mem_iff.1 (List.getElem_mem _))
theorem renE_ends {n : Nat} {l : List Nat} {es : List E2} (hp : l.Perm (List.range n)) (hv : Valid n es) : ∀ e ∈ renE l es, Ends (n : Int) e := by
  intro e he
  obtain ⟨x, hx, rfl⟩ := List.mem_map.1 he
  have hi := hv.2.2.1 x hx
  unfold Ins at hi
  have h1 := perm_lt hp x.1.toNat (by omega)
  have h2 := perm_lt hp x.2.toNat (by omega)
  refine ⟨by dsimp; omega, by dsimp; omega, by dsimp; omega, by dsimp; omega, ?_⟩
  intro h
  have := (perm_inj hp x.1.toNat x.2.toNat (by omega) (by omega)).1 (by dsimp at h; omega)
  omega
theorem ren_names {n : Nat} {l : List Nat} {es : List E2} (hp : l.Perm (List.range n)) (hv : Valid n es) : Names n l es (ofE (renE l es)) := by
  refine ⟨hp, fun a b ha hb => ?_⟩
  refine bool_eq_of ?_
  rw [adjB_iff, adjB_iff, ofE_mem, ofE_mem]
  have key : ∀ p q : Nat, p < n → q < n → ((∃ e ∈ renE l es, (((l.getD p 0 : Nat) : Int), ((l.getD q 0 : Nat) : Int)) = edS e) → ((p : Int), (q : Int)) ∈ es ∨ ((q : Int), (p : Int)) ∈ es) := by
    rintro p q hp' hq' ⟨e, he, hx⟩
    obtain ⟨x, hxm, rfl⟩ := List.mem_map.1 he
    have hi := hv.2.2.1 x hxm
    unfold Ins at hi
    unfold edS at hx
    simp only [Prod.mk.injEq] at hx
    have i1 := perm_inj hp p x.1.toNat hp' (by omega)
    have i2 := perm_inj hp p x.2.toNat hp' (by omega)
    have i3 := perm_inj hp q x.1.toNat hq' (by omega)
    have i4 := perm_inj hp q x.2.toNat hq' (by omega)
    have hxe : x = (x.1, x.2) := rfl
    have e1 : ((x.1.toNat : Nat) : Int) = x.1 := by omega
    have e2 : ((x.2.toNat : Nat) : Int) = x.2 := by omega
    by_cases hle : (l.getD x.1.toNat 0 : Int) ≤ (l.getD x.2.toNat 0 : Int)
    · left
      have a1 : p = x.1.toNat := i1.1 (by omega)
      have a2 : q = x.2.toNat := i4.1 (by omega)
      rw [a1, a2, e1, e2]; exact hxm
    · right
      have a1 : p = x.2.toNat := i2.1 (by omega)
      have a2 : q = x.1.toNat := i3.1 (by omega)
      rw [a1, a2, e1, e2]; exact hxm
  have back : ∀ p q : Nat, ((p : Int), (q : Int)) ∈ es → (∃ e ∈ renE l es, (((l.getD p 0 : Nat) : Int), ((l.getD q 0 : Nat) : Int)) = edS e) ∨ (∃ e ∈ renE l es, (((l.getD q 0 : Nat) : Int), ((l.getD p 0 : Nat) : Int)) = edS e) := by
    intro p q hm
    have hmem : (((l.getD p 0 : Nat) : Int), ((l.getD q 0 : Nat) : Int)) ∈ renE l es := List.mem_map.2 ⟨_, hm, by simp⟩
    by_cases hle : (l.getD p 0 : Int) ≤ (l.getD q 0 : Int)
    · left; refine ⟨_, hmem, ?_⟩; unfold edS; simp only [Prod.mk.injEq]; omega
    · right; refine ⟨_, hmem, ?_⟩; unfold edS; simp only [Prod.mk.injEq]; omega
  constructor
  · rintro (h | h)
    · exact key a b ha hb h
    · exact (key b a hb ha h).symm
  · rintro (h | h)
    · exact back a b h
    · exact (back b a h).symm

def RenPost (n : Int) (ys : List E2) (w : World) (e : Ending) (w' : World) : Prop := ∃ a cap, e = .returned (.agg #[.int .i64 n, .slice a ys.length cap]) ∧ EdgesAt w' (.slice a ys.length cap) ys ∧ Below w.heap.size w w'
theorem natI_at {w : World} {a : Option Addr} {n cap : Nat} {l : List Nat} (h : IntsAt w (.slice a n cap) (natI l)) (k : Nat) (hk : k < n) : ∃ b off, a = some ⟨b, off, none⟩ ∧ w.cell? ⟨b, off + k, none⟩ = some (.int .i64 (l.getD k 0 : Nat)) := by
  have hl : n = (natI l).length := by obtain ⟨_, _, hv, _⟩ := h; simp at hv; exact hv.2.1
  subst hl
  obtain ⟨b, off, y, ha, hy, _, _, hc⟩ := h.at k hk
  refine ⟨b, off, ha, ?_⟩
  rw [hc]
  simp only [natI, List.getElem?_map, Option.map_eq_some_iff] at hy
  obtain ⟨z, hz, rfl⟩ := hy
  rw [List.getD_eq_getElem?_getD, hz]; rfl
set_option maxRecDepth 100000 in
set_option maxHeartbeats 1600000 in
theorem ren_any (n : Nat) (a al : Option Addr) (cap capl : Nat) (es : List E2) (l : List Nat) (w : World) (he : EdgesAt w (.slice a es.length cap) es) (hv : Valid n es) (hi : IntsAt w (.slice al n capl) (natI l)) (hp : l.Perm (List.range n)) :
    Calls Tryd.prog 21 #[.agg #[.int .i64 n, .slice a es.length cap], .slice al n capl] w (RenPost n (ofE (renE l es)) w) := by
  have hlen := hv.length_le
  have hb0 : Below w.heap.size w ((w.alloc (.cells #[.int .i64 n, .slice a es.length cap] 27)).alloc (.cells #[.int .i64 0, .slice none 0 0] 27)) := ((Below.refl _ _).alloc (Nat.le_refl _) _).alloc (by simp) _
  have hG0 : ((w.alloc (.cells #[.int .i64 n, .slice a es.length cap] 27)).alloc (.cells #[.int .i64 0, .slice none 0 0] 27)).heap[w.heap.size]? = some (.cells #[.int .i64 n, .slice a es.length cap] 27 (0, 0)) := (Below.heap_alloc _ _ _ (by simp)).trans (heap_alloc_new _ _)
  have hO0 : ((w.alloc (.cells #[.int .i64 n, .slice a es.length cap] 27)).alloc (.cells #[.int .i64 0, .slice none 0 0] 27)).heap[w.heap.size + 1]? = some (.cells #[.int .i64 0, .slice none 0 0] 27 (0, 0)) := by
    have := heap_alloc_new (w.alloc (.cells #[.int .i64 n, .slice a es.length cap] 27)) (.cells #[.int .i64 0, .slice none 0 0] 27)
    simpa using this
  go_enter Tryd.func21, Tryd.ntmps21
  go_wp2_with fail
  go_loopw [5, 6] (fun s i wr => ∃ (k : Nat) (rs : List E2), i = .int .i64 k ∧ k ≤ es.length ∧ rs.length = k ∧ Hid (rs = renE l (es.take k)) ∧ wr.ownsRow (w.heap.size + 2) 42 2 s rs.length (flatE rs) ∧ Below w.heap.size w wr ∧ wr.heap[w.heap.size]? = some (.cells #[.int .i64 n, .slice a es.length cap] 27 (0, 0)) ∧ wr.heap[w.heap.size + 1]? = some (.cells #[.int .i64 0, .slice none 0 0] 27 (0, 0))) (fun _ i _ => es.length - (intOf i).toNat)
  case atStart => exact ⟨0, [], rfl, Nat.zero_le _, rfl, rfl, World.ownsRow_nil _ _ _ _, hb0, hG0, hO0⟩
  case round =>
    clear hb0 hG0 hO0
    obtain ⟨k, rs, rfl, hk, hrl, HR, hown, hb, hG, hO⟩ := hrel
    have HRL := Lib.hid hrl
    have hrl2 : rs.length ≤ k := by omega
    clear hrl
    have q0 := cell_blk (j := 0) hG
    have q1 := cell_blk (j := 1) hG
    by_cases hlt : k < es.length
    · obtain ⟨b, off, x, y, rfl, hget, _, htk, c0, c1⟩ := (he.below hb).at k hlt
      have hins := hv.2.2.1 (x, y) (List.mem_of_getElem? hget)
      unfold Ins at hins
      dsimp only at hins
      obtain ⟨u, rfl⟩ := Int.eq_ofNat_of_zero_le hins.1
      obtain ⟨v, rfl⟩ := Int.eq_ofNat_of_zero_le (show 0 ≤ y by omega)
      have hu : u < n := by omega
      have hvn : v < n := by omega
      obtain ⟨b2, off2, rfl, n0⟩ := natI_at (hi.below hb) u hu
      obtain ⟨b3, off3, hbb, n1⟩ := natI_at (hi.below hb) v hvn
      obtain ⟨rfl, rfl⟩ : b2 = b3 ∧ off2 = off3 := by simpa using hbb
      have HT : Hid (renE l (es.take (k + 1)) = renE l (es.take k) ++ [(((l.getD u 0 : Nat) : Int), ((l.getD v 0 : Nat) : Int))]) := by show _ = _; rw [htk, renE_snoc]
      generalize l.getD u 0 = s1 at *
      generalize l.getD v 0 = s2 at *
      have hzG := blk_lt hG
      have hzO := blk_lt hO
      have HI := Lib.hid hi
      have HE := Lib.hid he
      clear hget htk hins hbb hi he
      go_wp2_with fail
      have hz1 := cell_lt c0
      have hz2 := cell_lt n0
      have hbw : b < w.heap.size := by
        obtain ⟨_, _, hq, _, _, _, hq2⟩ := HE.out
        obtain ⟨b', off', ha', c0', _⟩ := hq2 k _ (List.getElem?_eq_getElem hlt)
        obtain ⟨hq1, _⟩ : _ ∧ _ := by simpa using hq
        rw [← hq1] at ha'
        cases ha'
        exact cell_lt c0'
      have hbw2 : b2 < w.heap.size := by
        obtain ⟨b', off', ha', c0'⟩ := natI_at HI.out u hu
        cases ha'
        exact cell_lt c0'
      have hne : ∀ g, g < w.heap.size + 2 → some g ≠ u5.ownBlock := fun g hg e => by have := (hown.lt g e.symm).1; omega
      go_region_held3 (fun w' => w'.cell? ⟨w.heap.size, 1, none⟩ = some (.slice (some ⟨b, off, none⟩) es.length cap) ∧ w'.cell? ⟨b, off + k * 2, none⟩ = some (.int .i64 u) ∧ w'.cell? ⟨b, off + k * 2 + 1, none⟩ = some (.int .i64 v) ∧ w'.cell? ⟨b2, off2 + u, none⟩ = some (.int .i64 s1) ∧ w'.cell? ⟨b2, off2 + v, none⟩ = some (.int .i64 s2))
        (first
          | go_keep
          | (go_split_ands
             refine ⟨?_, ?_, ?_, ?_, ?_⟩
             · exact hg7.cell (by assumption) (hne _ (by show w.heap.size < _; omega))
             · exact hg7.cell (by assumption) (hne _ (by show b < _; omega))
             · exact hg7.cell (by assumption) (hne _ (by show b < _; omega))
             · exact hg7.cell (by assumption) (hne _ (by show b2 < _; omega))
             · exact hg7.cell (by assumption) (hne _ (by show b2 < _; omega))))
        ((refine step_app_edges edgesT rfl (.tmp 16) (.tmp 36) rfl (w.heap.size + 2) _ _ rs [((s1 : Int), (s2 : Int))] rfl ((hown.alloc _)) rfl (edges_lit1 _ _ _ _) (by simp; omega) (by simp; omega) ?_; intro v7 w7 hown7 hg7))
      have hg7' : (wr.alloc (.cells #[.int .i64 s1, .int .i64 s2] 42)).grownBy w7 u5.ownBlock := ⟨hg7.os, hg7.tape, hg7.output, hg7.size, hg7.block⟩
      have hb7 : Below w.heap.size w w7 := (hb.alloc hb.size _).grown hg7' (by have := hb.size; simp; omega) (fun k hk => by have := (hown.lt k hk).1; omega)
      have hG7 := grown_blk hg7' ((Below.heap_alloc wr (.cells #[.int .i64 s1, .int .i64 s2] 42) _ hzG).trans hG) (hne _ (by omega))
      have hO7 := grown_blk hg7' ((Below.heap_alloc wr (.cells #[.int .i64 s1, .int .i64 s2] 42) _ hzO).trans hO) (hne _ (by omega))
      go_wp2_with fail
      go_roundw
      case rel => exact ⟨k + 1, rs ++ [((s1 : Int), (s2 : Int))], by go_num, by omega, by rw [List.length_append, HRL.out]; rfl, by show _ = _; rw [HT.out, ← HR.out], hown7, hb7, hG7, hO7⟩
      case measure => simp [intOf]; omega
    · obtain rfl : k = es.length := by omega
      have hE : rs = renE l es := by rw [HR.out, List.take_length]
      have hends := renE_ends hp hv
      rw [← hE] at hends
      obtain ⟨ar, capr, hvr, her, har⟩ := EdgesAt.of_owns hown (by omega)
      subst hvr
      have hHE := Lib.hid hE
      clear hE
      go_wp2_with fail
      refine (ofg_any n ar capr rs _ her (by omega) hv.2.1 hends).mono ?_
      rintro e w5 ⟨a5, cap5, rfl, he5, hb5, ho5⟩
      have hb05 := hb.trans (hb5.mono hb.size)
      have hO5 := (hb5.block _ (blk_lt hO)).trans hO
      rw [hHE.out] at he5 ⊢
      clear q0 q1 hG hb5 hb
      have hz5 := blk_lt hO5
      have hzr := blk_lt hO
      have r0 := cell_blk (j := 0) hO5
      have r1 := cell_blk (j := 1) hO5
      have r2 := free_blk (j := 0) hO5
      have r3 := free_blk (j := 1) hO5
      generalize ofE (renE l es) = ys at *
      have hfin := set_two (u := .int .i64 n) (v := .slice a5 ys.length cap5) hO5
      have hg9 : w5.grownBy ((w5.setCell ⟨w.heap.size + 1, 0, none⟩ (.int .i64 n)).setCell ⟨w.heap.size + 1, 1, none⟩ (.slice a5 ys.length cap5)) (some (w.heap.size + 1)) := grown_trans grown_store grown_store
      have hfA := (Below.heap_alloc _ (.cells #[.int .i64 n, .slice a5 ys.length cap5] 27) _ (blk_lt hfin)).trans hfin
      have t0 := cell_blk (j := 0) hfA
      have t1 := cell_blk (j := 1) hfA
      have hef := (he5.grown hg9 (fun g e n c p ep => by cases e; cases ep; have := ho5 _ rfl; omega)).below ((Below.refl _ _).alloc (Nat.le_refl _) (.cells #[.int .i64 n, .slice a5 ys.length cap5] 27))
      have hbf := (hb05.grown hg9 hb05.size (fun k hk => by cases hk; exact Nat.le_succ _)).alloc (hb05.grown hg9 hb05.size (fun k hk => by cases hk; exact Nat.le_succ _)).size (.cells #[.int .i64 n, .slice a5 ys.length cap5] 27)
      have T0 := Lib.hid t0
      have T1 := Lib.hid t1
      clear hfin hfA t0 t1
      go_wp2_with fail
      have t0 := T0.out
      have t1 := T1.out
      refine bodyPost_ret (v := .agg #[.int .i64 n, .slice a5 ys.length cap5]) (by simp [results, Tryd.results21, go_sem, t0, t1]) rfl ⟨a5, cap5, rfl, hef, hbf⟩
end Go.Proofs.YtekbpoppajbljaaDoor
