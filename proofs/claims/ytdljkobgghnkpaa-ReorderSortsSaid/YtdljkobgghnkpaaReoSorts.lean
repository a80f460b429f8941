/- The walk of the law on what is released. -/
import Derived.Test.YtdljkobgghnkpaaReoAwake
import Derived.Test.YtdljkobgghnkpaaMkMixed
import Derived.Test.YtdljkobgghnkpaaReoStable
import Derived.Test.YtdljkobgghnkpaaEvSame
import Derived.Test.YtdljkobgghnkpaaAppAt
namespace Go.Proofs.Ytdljkobgghnkpaa
open Go.RowKit Go.BigFrame

/-- what is known at the head of each round: the buffer in block B, what is out and what was taken -/
structure SrtR (w : World) (B : Nat) (l : List Ev) (vl : Value) (j : Nat) (buf : Buf) (out taken : List Ev) (vo vt : Value) (ab : Option Addr) (cb : Nat) (wr : World) : Prop where
  bel : Below w.heap.size w wr
  hB : w.heap.size ≤ B
  offl : ∀ g, B ≤ g → 0 < l.length → Off g vl
  rowl : RowAt encEv wr vl l
  val : bufB buf = true
  box : wr.heap[B]? = some (.cells #[.int .i64 buf.bound, .int .i64 buf.latest, .int .i64 buf.mark, .slice ab buf.wait.length cb] 24 (0, 0))
  row : RowAt encEv wr (.slice ab buf.wait.length cb) buf.wait
  own1 : wr.ownsRow (B + 1) 26 encEv.k vo out.length (flatR encEv out)
  own2 : wr.ownsRow (B + 1) 26 encEv.k vt taken.length (flatR encEv taken)
  dis : ∀ g, vo.ownBlock = some g → vt.ownBlock ≠ some g
  len : taken.length ≤ j
  srt : SortI buf out taken
theorem sortI_len {b : Buf} {out taken : List Ev} (h : SortI b out taken) : out.length + b.wait.length = taken.length := by
  rw [← List.length_append, h.1, stabS_length]
/-- the state behind the push and the growth of what was taken -/
structure MidR (w : World) (B C : Nat) (l : List Ev) (vl : Value) (bc : Array Value) (q : Buf) (po out taken : List Ev) (vo vt : Value) (a1 : Option Addr) (c1 : Nat) (a2 : Option Addr) (c2 : Nat) (W : World) : Prop where
  bel : Below w.heap.size w W
  rowl : RowAt encEv W vl l
  box : W.heap[B]? = some (.cells bc 24 (0, 0))
  cb : W.heap[C]? = some (.cells #[.int .i64 q.bound, .int .i64 q.latest, .int .i64 q.mark, .slice a1 q.wait.length c1] 24 (0, 0))
  row : RowAt encEv W (.slice a1 q.wait.length c1) q.wait
  fr : RowAt encEv W (.slice a2 po.length c2) po
  own1 : W.ownsRow (B + 1) 26 encEv.k vo out.length (flatR encEv out)
  own2 : W.ownsRow (B + 1) 26 encEv.k vt taken.length (flatR encEv taken)
  dis : ∀ g, vo.ownBlock = some g → vt.ownBlock ≠ some g
  nC : ∀ g, vo.ownBlock = some g → g ≠ C
  nq : ∀ g, vo.ownBlock = some g ∨ g = B → ∀ p, a1 = some p → p.block ≠ g
theorem mid_start {w wr w3 : World} {B j : Nat} {l : List Ev} {vl : Value} {buf q : Buf} {po out taken : List Ev} {vo vt : Value} {ab a1 a2 : Option Addr} {cb c1 c2 : Nat} {yc : Array Value}
    (hS : SrtR w B l vl j buf out taken vo vt ab cb wr) (hb3 : Below (wr.alloc (.cells yc 26)).heap.size (wr.alloc (.cells yc 26)) w3)
    (hr1 : RowAt encEv w3 (.slice a1 q.wait.length c1) q.wait) (hr2 : RowAt encEv w3 (.slice a2 po.length c2) po) (hn1 : ∀ p, a1 = some p → (wr.alloc (.cells yc 26)).heap.size ≤ p.block) :
    MidR w B w3.heap.size l vl #[.int .i64 buf.bound, .int .i64 buf.latest, .int .i64 buf.mark, .slice ab buf.wait.length cb] q po out taken vo vt a1 c1 a2 c2 (w3.alloc (.cells #[.int .i64 q.bound, .int .i64 q.latest, .int .i64 q.mark, .slice a1 q.wait.length c1] 24)) := by
  have hb13 : Below wr.heap.size wr w3 := ((Below.refl _ _).alloc (Nat.le_refl _) _).trans (hb3.mono (by simp))
  have hb14 := hb13.alloc hb13.size (.cells #[.int .i64 q.bound, .int .i64 q.latest, .int .i64 q.mark, .slice a1 q.wait.length c1] 24)
  have hbn := (Below.refl w3.heap.size w3).alloc (Nat.le_refl _) (.cells #[.int .i64 q.bound, .int .i64 q.latest, .int .i64 q.mark, .slice a1 q.wait.length c1] 24)
  have hz := hb13.size
  have hzB := blk_lt hS.box
  refine ⟨hS.bel.trans (hb14.mono hS.bel.size), hS.rowl.below hb14, lit_next hb14 hS.box, heap_alloc_new _ _, hr1.below hbn, hr2.below hbn, hS.own1.kept (grown_of_below hb14) (Classical.em _), hS.own2.kept (grown_of_below hb14) (Classical.em _), hS.dis, fun g e => ?_, fun g e p hp => ?_⟩
  · have := (hS.own1.lt g e).2; omega
  · have h1 := hn1 p hp
    simp at h1
    rcases e with e | e
    · have := (hS.own1.lt g e).2; omega
    · omega
/-- what was taken grows by the event -/
theorem mid_take {w W w6 : World} {B C : Nat} {l : List Ev} {vl : Value} {bc : Array Value} {q : Buf} {po out taken tk : List Ev} {vo vt v6 : Value} {a1 a2 : Option Addr} {c1 c2 : Nat} {yc : Array Value}
    (hM : MidR w B C l vl bc q po out taken vo vt a1 c1 a2 c2 W) (hB : w.heap.size ≤ B) (hoffl : ∀ g, B ≤ g → 0 < l.length → Off g vl)
    (hq : ∀ g, vt.ownBlock = some g → (∀ p, a1 = some p → p.block ≠ g) ∧ (∀ p, a2 = some p → p.block ≠ g) ∧ g ≠ C)
    (hown6 : w6.ownsRow (B + 1) 26 encEv.k v6 tk.length (flatR encEv tk)) (hg6 : (W.alloc (.cells yc 26)).grownBy w6 vt.ownBlock) (hat6 : v6.ownBlock = vt.ownBlock ∨ v6.ownBlock = some (W.alloc (.cells yc 26)).heap.size) :
    MidR w B C l vl bc q po out tk vo v6 a1 c1 a2 c2 w6 := by
  have hbn := (Below.refl W.heap.size W).alloc (Nat.le_refl _) (.cells yc 26)
  have hlt : ∀ g, vt.ownBlock = some g → B < g ∧ g < W.heap.size := fun g e => by have := hM.own2.lt g e; omega
  have hbel := hM.bel.alloc hM.bel.size (.cells yc 26)
  refine ⟨hbel.grown hg6 hbel.size (fun g e => by have := hlt g e; omega), (hM.rowl.below hbn).grown' hg6 (fun g e h0 => hoffl g (by have := hlt g e; omega) h0), ?_, ?_, (hM.row.below hbn).grown' hg6 (fun g e _ n c p ep => ?_), (hM.fr.below hbn).grown' hg6 (fun g e _ n c p ep => ?_), (hM.own1.alloc _).kept hg6 ?_, hown6, fun g e => ?_, hM.nC, hM.nq⟩
  · exact grown_blk hg6 (lit_next hbn hM.box) (fun e => by have := hlt _ e.symm; omega)
  · exact grown_blk hg6 (lit_next hbn hM.cb) (fun e => (hq _ e.symm).2.2 rfl)
  · cases ep; exact (hq g e).1 p rfl
  · cases ep; exact (hq g e).2.1 p rfl
  · cases hv : vo.ownBlock with
    | none => exact .inl rfl
    | some g => exact .inr fun e => hM.dis g hv e.symm
  · rcases hat6 with h | h
    · rw [h]; exact hM.dis g e
    · rw [h]; intro e'; have h1 := Option.some.inj e'; have := (hM.own1.lt g e).2; simp at h1; omega
theorem MidR.drew {w W : World} {B C : Nat} {l : List Ev} {vl : Value} {bc : Array Value} {q : Buf} {po out taken : List Ev} {vo vt : Value} {a1 a2 : Option Addr} {c1 c2 : Nat}
    (h : MidR w B C l vl bc q po out taken vo vt a1 c1 a2 c2 W) : MidR w B C l vl bc q po out taken vo vt a1 c1 a2 c2 W.drew :=
  ⟨h.bel.drew, h.rowl.below (Below.refl _ _).drew, h.box, h.cb, h.row.below (Below.refl _ _).drew, h.fr.below (Below.refl _ _).drew, h.own1, h.own2, h.dis, h.nC, h.nq⟩
/-- the end of a round: what is out has grown, the buffer is put back -/
theorem mid_end {w W w6 : World} {B C j : Nat} {l : List Ev} {vl : Value} {bc : Array Value} {q : Buf} {po out taken : List Ev} {vo vt v6 x0 x1 x2 x3 : Value} {a1 a2 : Option Addr} {c1 c2 : Nat}
    (hM : MidR w B C l vl bc q po out taken vo vt a1 c1 a2 c2 W) (hbc : bc = #[x0, x1, x2, x3]) (hB : w.heap.size ≤ B) (hoffl : ∀ g, B ≤ g → 0 < l.length → Off g vl) (hval : bufB q = true) (hsrt : SortI q (out ++ po) taken) (hlen : taken.length ≤ j)
    (hown6 : w6.ownsRow (B + 1) 26 encEv.k v6 (out ++ po).length (flatR encEv (out ++ po))) (hg6 : W.grownBy w6 vo.ownBlock) (hat6 : v6.ownBlock = vo.ownBlock ∨ v6.ownBlock = some W.heap.size) :
    SrtR w B l vl j q (out ++ po) taken v6 vt a1 c1 ((((w6.setCell ⟨B, 0, none⟩ (.int .i64 q.bound)).setCell ⟨B, 1, none⟩ (.int .i64 q.latest)).setCell ⟨B, 2, none⟩ (.int .i64 q.mark)).setCell ⟨B, 3, none⟩ (.slice a1 q.wait.length c1)) := by
  subst hbc
  have hlt : ∀ g, vo.ownBlock = some g → B < g ∧ g < W.heap.size := fun g e => by have := hM.own1.lt g e; omega
  have hbox6 := grown_blk hg6 hM.box (fun e => by have := hlt _ e.symm; omega)
  have hbel6 := hM.bel.grown hg6 hM.bel.size (fun g e => by have := hlt g e; omega)
  have hrowl6 := hM.rowl.grown' hg6 (fun g e h0 => hoffl g (by have := hlt g e; omega) h0)
  have hrow6 := hM.row.grown' hg6 (fun g e _ n c p ep => by obtain ⟨h1, _, _⟩ := Value.slice.inj ep; exact hM.nq g (.inl e) p h1)
  have hown2 := hM.own2.kept hg6 (by
    cases hv : vt.ownBlock with
    | none => exact .inl rfl
    | some g => exact .inr fun e => hM.dis g e.symm hv)
  have hoA : 0 < q.wait.length → Off B (.slice a1 q.wait.length c1) := fun _ n c p ep => by obtain ⟨h1, _, _⟩ := Value.slice.inj ep; exact hM.nq B (.inr rfl) p h1
  have hoL : 0 < l.length → Off B vl := hoffl B (Nat.le_refl _)
  have hgs : w6.grownBy ((((w6.setCell ⟨B, 0, none⟩ (.int .i64 q.bound)).setCell ⟨B, 1, none⟩ (.int .i64 q.latest)).setCell ⟨B, 2, none⟩ (.int .i64 q.mark)).setCell ⟨B, 3, none⟩ (.slice a1 q.wait.length c1)) (some B) := grown_trans (grown_trans (grown_trans grown_store grown_store) grown_store) grown_store
  have hne : ∀ {v : Value} {n : Nat} {xs : List Value}, w6.ownsRow (B + 1) 26 encEv.k v n xs → v.ownBlock = none ∨ v.ownBlock ≠ some B := fun {v n xs} ho => by
    cases hv : v.ownBlock with
    | none => exact .inl rfl
    | some g => exact .inr fun e => by have := (ho.lt g hv).1; have := Option.some.inj e; omega
  refine ⟨?_, hB, hoffl, ?_, hval, set_four hbox6, ?_, hown6.kept hgs (hne hown6), hown2.kept hgs (hne hown2), fun g e => ?_, hlen, hsrt⟩
  · exact (((hbel6.setCell (p := ⟨_, 0, none⟩) hB _).setCell (p := ⟨_, 1, none⟩) hB _).setCell (p := ⟨_, 2, none⟩) hB _).setCell (p := ⟨_, 3, none⟩) hB _
  · exact (((hrowl6.set_off hoL).set_off hoL).set_off hoL).set_off hoL
  · exact (((hrow6.set_off hoA).set_off hoA).set_off hoA).set_off hoA
  · rcases hat6 with h | h
    · rw [h] at e; exact hM.dis g e
    · rw [h] at e; intro e'; have h1 := Option.some.inj e; have := (hM.own2.lt g e').2; omega
set_option maxRecDepth 100000 in
set_option maxHeartbeats 6400000 in
theorem sorts_law (a : Option Addr) (len cap : Nat) (x : Int) (w : World) (hl : ListAt w a len) :
    Calls Try.prog 4 #[.slice a len cap, .int .i64 x] w fun e w' => e = .returned (.bool true) ∧ Below w.heap.size w w' := by
  have hkb := modS_bd x 7 (by omega)
  have hmod := fun w => mod_any x 7 w (by omega) (by omega)
  obtain ⟨k, hk⟩ : ∃ k, modS x 7 = k := ⟨_, rfl⟩
  rw [hk] at hkb hmod
  have hop := open_any k
  have hov := open_valid k
  have hO : openS k = (⟨k, -1, -1, []⟩, 0) := by unfold openS; rw [if_neg (by omega)]
  rw [hO] at hop hov
  unfold BufV at hop
  dsimp only at hop hov
  have hov2 : bufB ⟨k, -1, -1, []⟩ = true := hov (by first | rfl | trivial)
  clear hov hO hk
  have hdk := deck_new (cap := cap) hl
  have hb1 : Below w.heap.size w (w.alloc (.cells #[.slice a len cap, .int .i64 0] 50)) := (Below.refl _ _).alloc (Nat.le_refl _) _
  go_enter Try.func4, Try.ntmps4
  go_wp2_with (go_at_call 8; refine (new_any _ _ _ _).mono ?_; rintro e w' ⟨rfl, rfl⟩)
  refine (mixed_any w.heap.size 6 20 _ hdk (by omega) (by omega) (by omega) (by omega)).mono ?_
  rintro e w2 ⟨al, capl, l, rfl, hr2, hl2, hlen, -, hg2, -⟩
  have hb2 := hb1.grown hg2 hb1.size (fun g e => by cases e; exact Nat.le_refl _)
  have HL := Lib.hid hl2
  clear hl2 hg2 hdk hl hb1
  go_wp2_with (go_at_call 23; refine (hmod _).mono ?_; rintro e w' ⟨rfl, rfl⟩)
  refine (hop _).mono ?_
  rintro e w3 ⟨rfl, hb3⟩
  have hb23 := hb2.trans (hb3.mono hb2.size)
  have hS0 : SrtR w w3.heap.size l (.slice al l.length capl) 0 ⟨k, -1, -1, []⟩ [] [] (.slice none 0 0) (.slice none 0 0) none 0 (w3.alloc (.cells #[.int .i64 k, .int .i64 (-1), .int .i64 (-1), .slice none 0 0] 24)) :=
    ⟨hb23.alloc hb23.size _, hb23.size, fun g hg h0 n c p e => by (obtain ⟨rfl, _, _⟩ := Value.slice.inj e; have := hr2.lt h0; have := hb3.size; omega), (hr2.below hb3).below ((Below.refl _ _).alloc (Nat.le_refl _) _), hov2, heap_alloc_new _ _, RowAt.nil _, World.ownsRow_nil _ _ _ _, World.ownsRow_nil _ _ _ _, (fun g e => by cases e), Nat.le_refl _, rfl, (fun x hx => by cases hx)⟩
  clear hop hov2 hb2 hb3 hr2 hb23 hmod
  go_wp2_with fail
  go_loopw [35, 9, 10] (fun i vo vt wr => ∃ j : Nat, j ≤ l.length ∧ i = .int .i64 j ∧ ∃ (buf : Buf) (out taken : List Ev) (ab : Option Addr) (cb : Nat), SrtR w w3.heap.size l (.slice al l.length capl) j buf out taken vo vt ab cb wr) (fun i _ _ _ => l.length - (intOf i).toNat)
  case atStart => exact ⟨0, Nat.zero_le _, rfl, _, _, _, none, 0, hS0⟩
  case round =>
    clear hS0
    obtain ⟨j, hj, rfl, buf, out, taken, ab, cb, hS⟩ := hrel
    obtain ⟨ao, co, hvo⟩ := owns_shape hS.own1
    subst hvo
    obtain ⟨at', ct, hvt⟩ := owns_shape hS.own2
    subst hvt
    have hsl := sortI_len hS.srt
    have htj := hS.len
    have hwl := bufB_wait hS.val
    have hzB := blk_lt hS.box
    obtain ⟨g0, g1, g2, g3⟩ := cells4 hS.box
    by_cases hlt : j < l.length
    · obtain ⟨bb, off, y, rfl, hy, hcap, e0, e1, e2, e3, e4, e5, e6⟩ := ev_at hS.rowl j hlt
      have hey := HL.out y (List.mem_of_getElem? hy)
      obtain ⟨P, hP⟩ : ∃ P, pushS buf y = P := ⟨_, rfl⟩
      have hpv := push_valid hS.val y
      have hpl := push_len buf y
      have hcall := fun W h => push_any buf y ab cb W h (by omega)
      have hcase : (y.time ≤ buf.mark ∧ P.2.2 = 10 ∧ SortI P.1 (out ++ P.2.1) taken) ∨ (buf.mark < y.time ∧ P.2.2 = 0 ∧ SortI P.1 (out ++ P.2.1) (taken ++ [y])) := by
        rw [← hP]
        by_cases ht : y.time ≤ buf.mark
        · left
          rw [push_late hS.val hey ht]
          exact ⟨ht, rfl, by show SortI buf (out ++ []) taken; rw [List.append_nil]; exact hS.srt⟩
        · right
          refine ⟨by omega, ?_, sortI_push hS.val hS.srt hey (by omega) (by omega)⟩
          rw [push_ok hS.val hey (by omega) (by omega)]
      rw [hP] at hpv hpl hcall
      unfold PushPost BufV Ev.cells at hcall
      obtain ⟨q, po, pe⟩ := P
      dsimp only at hpv hpl hcall hcase
      have hcx := hcall (wr.alloc (.cells #[.int .i64 y.kind, .int .i64 y.time, .int .i64 y.u, .int .i64 y.v, .int .i64 y.weight, .int .i64 y.label, .int .i64 y.sign] 26)) (hS.row.below ((Below.refl _ _).alloc (Nat.le_refl _) _))
      have HPV := Lib.hid hpv
      clear hP hcall hpv hy hey
      go_wp2_with fail
      refine hcx.mono ?_
      rintro e w4 ⟨a1, c1, a2, c2, rfl, hr1, hr2, hb3, hn1, hn2'⟩
      have hM := mid_start hS hb3 hr1 hr2 hn1
      have hE4 := lit_next hb3 (heap_alloc_new wr (.cells #[.int .i64 y.kind, .int .i64 y.time, .int .i64 y.u, .int .i64 y.v, .int .i64 y.weight, .int .i64 y.label, .int .i64 y.sign] 26))
      have hz4 := blk_lt hE4
      have hE5 := (Below.heap_alloc w4 (.cells #[.int .i64 q.bound, .int .i64 q.latest, .int .i64 q.mark, .slice a1 q.wait.length c1] 24) _ hz4).trans hE4
      have hB := hS.hB
      have hoffl := hS.offl
      have hqt : ∀ g, (Value.slice at' taken.length ct).ownBlock = some g → (∀ p, a1 = some p → p.block ≠ g) ∧ (∀ p, a2 = some p → p.block ≠ g) ∧ g ≠ w4.heap.size := fun g e => by
        have := (hS.own2.lt g e).2
        exact ⟨fun p hp => by (have := hn1 p hp; simp at this; omega), fun p hp => by (have := hn2' p hp; simp at this; omega), by omega⟩
      clear hcx e0 e1 e2 e3 e4 e5 e6 g0 g1 g2 g3 hr1 hr2 hb3 hn1 hn2' hE4
      obtain ⟨p0, p1, p2, p3, p4, p5, p6⟩ := cells7 hE5
      obtain ⟨b0, b1, b2, b3⟩ := cells4 hM.box
      rcases hcase with ⟨ht, rfl, hsi⟩ | ⟨ht, rfl, hsi⟩
      case' inl =>
        have HSI := Lib.hid hsi
        have d1 : decide (y.time ≤ buf.mark) = true := by simpa using ht
        have htk : taken.length ≤ j + 1 := by omega
        clear hsi ht
        go_wp2_with fail
        generalize w4.alloc (.cells #[.int .i64 q.bound, .int .i64 q.latest, .int .i64 q.mark, .slice a1 q.wait.length c1] 24) = W5 at hM ⊢
      case' inr =>
        have HSI := Lib.hid hsi
        have d1 : decide (y.time ≤ buf.mark) = false := by simp; omega
        have htk : (taken ++ [y]).length ≤ j + 1 := by simp; omega
        have hl1 : RowAt encEv ((w4.alloc (.cells #[.int .i64 q.bound, .int .i64 q.latest, .int .i64 q.mark, .slice a1 q.wait.length c1] 24)).alloc (.cells #[.int .i64 y.kind, .int .i64 y.time, .int .i64 y.u, .int .i64 y.v, .int .i64 y.weight, .int .i64 y.label, .int .i64 y.sign] 26)) (.slice (some ⟨w4.heap.size + 1, 0, none⟩) 1 1) [y] := by
          have h := rows_lit1 (E := encEv) (w4.alloc (.cells #[.int .i64 q.bound, .int .i64 q.latest, .int .i64 q.mark, .slice a1 q.wait.length c1] 24)) y 26 #[.int .i64 y.kind, .int .i64 y.time, .int .i64 y.u, .int .i64 y.v, .int .i64 y.weight, .int .i64 y.label, .int .i64 y.sign] rfl
          simpa using h
        have ho2 := hM.own2.alloc (.cells #[.int .i64 y.kind, .int .i64 y.time, .int .i64 y.u, .int .i64 y.v, .int .i64 y.weight, .int .i64 y.label, .int .i64 y.sign] 26)
        clear hsi ht
        go_wp2_with (at_builtin; refine wpList_app_rows_at' evRT rfl _ _ rfl (w3.heap.size + 1) (.slice at' taken.length ct) _ taken [y] rfl ho2 rfl hl1 (by simp; omega) (by simp; omega) (by simp; omega) ?_; intro v5 W5 hown5 hg5 hat5)
        have hM := mid_take hM hB hoffl hqt hown5 hg5 hat5
        clear hown5 hg5 hat5 hl1 ho2
      all_goals
        clear b0 b1 b2 b3 p0 p1 p2 p3 p4 p5 p6 hE5
        have hMd := hM.drew
        clear hM
        obtain ⟨z0, z1, z2, z3⟩ := cells4 hMd.cb
        have hzC := blk_lt hMd.cb
        have hlo := hMd.own1.lt
        go_region_law (refine step_app_rows_at evRT rfl (.tmp 69) (.tmp 70) rfl (w3.heap.size + 1) (.slice ao out.length co) (.slice a2 po.length c2) out po rfl (by with_reducible exact hMd.own1) rfl (by with_reducible exact hMd.fr) (by omega) (by omega) (by have := blk_lt hMd.box; simp at this ⊢; omega) ?_; intro v6 w6 hown6 hg6 hat6; have hB6 := grown_blk hg6 hMd.box (fun e => by have := hlo _ e.symm; omega); have hC6 := grown_blk hg6 hMd.cb (fun e => by exact hMd.nC _ e.symm rfl); have y0 := cell_blk (j := 0) hC6; have y1 := cell_blk (j := 1) hC6; have y2 := cell_blk (j := 2) hC6; have y3 := cell_blk (j := 3) hC6; have b0' := cell_blk (j := 0) hB6; have b1' := cell_blk (j := 1) hB6; have b2' := cell_blk (j := 2) hB6; have b3' := cell_blk (j := 3) hB6; have fB : ∀ j, w6.frozen? ⟨w3.heap.size, j, none⟩ = false := (fun j => free_blk hB6))
        all_goals
          go_wp2_with fail
          go_roundw
          case rel => exact ⟨j + 1, by omega, by go_num, q, out ++ po, _, a1, c1, mid_end hMd rfl hB hoffl HPV.out HSI.out htk hown6 hg6 hat6⟩
          case measure => simp [intOf]; omega
    · obtain rfl : j = l.length := by omega
      obtain ⟨P, hP⟩ : ∃ P, flushS buf = P := ⟨_, rfl⟩
      have hpl := flush_len buf
      have hcall := fun W h => flush_any buf ab cb W h (by omega)
      obtain ⟨hf0, hfT⟩ := sortI_flush hS.val hS.srt
      rw [hP] at hpl hcall hf0 hfT
      unfold PushPost BufV at hcall
      obtain ⟨q, po, pe⟩ := P
      dsimp only at hpl hcall hf0 hfT
      subst hf0
      have hcx := hcall wr hS.row
      have HFT := Lib.hid hfT
      have HTL := Lib.hid (show (stabS taken).length = taken.length from stabS_length taken)
      have HUP := Lib.hid (stabS_up taken)
      clear hP hcall hfT
      go_wp2_with fail
      refine hcx.mono ?_
      rintro e w4 ⟨a1, c1, a2, c2, rfl, -, hr2, hb3, -, -⟩
      have hb4 := hS.bel.trans (hb3.mono hS.bel.size)
      have hb5 := hb4.alloc hb4.size (.cells #[.int .i64 q.bound, .int .i64 q.latest, .int .i64 q.mark, .slice a1 q.wait.length c1] 24)
      have hbn := (Below.refl w4.heap.size w4).alloc (Nat.le_refl _) (.cells #[.int .i64 q.bound, .int .i64 q.latest, .int .i64 q.mark, .slice a1 q.wait.length c1] 24)
      have hr25 := hr2.below hbn
      have ho1 := (hS.own1.kept (grown_of_below hb3) (Classical.em _)).kept (grown_of_below hbn) (Classical.em _)
      have ho2 := (hS.own2.kept (grown_of_below hb3) (Classical.em _)).kept (grown_of_below hbn) (Classical.em _)
      have hB := hS.hB
      have hdis := hS.dis
      have hsz := hb3.size
      clear hcx g0 g1 g2 g3 hr2 hb3 hbn hS hb4
      have d5 : (((stabS taken).length : Int) != (taken.length : Int)) = false := by simp [HTL.out]
      have hTb : (stabS taken).length ≤ 100000 := by rw [HTL.out]; omega
      go_wp2_with (at_builtin; refine wpList_app_rows_at' evRT rfl _ _ rfl (w3.heap.size + 1) (.slice ao out.length co) (.slice a2 po.length c2) out po rfl ho1 rfl hr25 (by omega) (by omega) (by simp; omega) ?_; intro v6 w6 hown6 hg6 hat6; rw [HFT.out] at hown6; obtain ⟨a6, cap6, hv6, hr6, -⟩ := RowAt.of_owns hown6 (by omega); subst hv6)
      have hb6 := hb5.grown hg6 hb5.size (fun g e => by have := ho1.lt g e; omega)
      have ho26 := ho2.kept hg6 (by
        cases hv : (Value.slice at' taken.length ct).ownBlock with
        | none => exact .inl rfl
        | some g => exact .inr fun e => hdis g e.symm hv)
      obtain ⟨at2, ct2, hvt2, hrt, -⟩ := RowAt.of_owns ho26 (by omega)
      cases hvt2
      clear ho1 ho2 hr25 hb5 hg6 hat6 hown6 ho26 hdis HFT d5
      go_loopw [93] (fun i wi => ∃ m : Nat, m ≤ (stabS taken).length ∧ i = .int .i64 m ∧ Below w6.heap.size w6 wi) (fun i _ => (stabS taken).length - (intOf i).toNat)
      case atStart => exact ⟨0, Nat.zero_le _, rfl, Below.refl _ _⟩
      case round =>
        obtain ⟨m, hm, rfl, hb⟩ := hrel
        by_cases hlt2 : m < (stabS taken).length
        · obtain ⟨zb, zo, z, rfl, hz, hzc, f0, f1, f2, f3, f4, f5, f6⟩ := ev_at (hr6.below hb) m hlt2
          have hbA := hb.alloc hb.size (.cells z.cells 26)
          have hZ := heap_alloc_new wr (.cells z.cells 26)
          unfold Ev.cells at hZ hbA
          obtain ⟨x0, x1, x2, x3, x4, x5, x6⟩ := cells7 hZ
          by_cases hm0 : 0 < m
          · obtain ⟨zb2, zo2, z2, e9, hz2, hzc2, k0, k1, k2, k3, k4, k5, k6⟩ := ev_at (hr6.below hbA) (m - 1) (by omega)
            cases e9
            have hup : z2.time ≤ z.time := by
              obtain ⟨h1, rfl⟩ := List.getElem?_eq_some_iff.1 hz
              obtain ⟨h2, rfl⟩ := List.getElem?_eq_some_iff.1 hz2
              exact List.pairwise_iff_getElem.1 HUP.out (m - 1) m h2 h1 (by omega)
            have v1 : IntKind.i64.wrap ((m : Int) - 1) = (m : Int) - 1 := IntWalk.i64_in _ (by omega)
            have v2 : ((m : Int) - 1).toNat = m - 1 := by omega
            have v3 : (0 : Int) ≤ (m : Int) - 1 := by omega
            have v4 : (m : Int) - 1 < ((stabS taken).length : Int) := by omega
            have v5 : decide ((0 : Int) < (m : Int)) = true := by simp; omega
            have v6 : decide (0 < m) = true := by simpa using hm0
            have d9 : decide (z.time < z2.time) = false := by simp; omega
            clear hz hz2 hup
            go_wp2_with fail
            go_quiet (fail)
            go_wp2_with fail
            go_roundw
            case rel => exact ⟨m + 1, by omega, by go_num, hbA.drewN _⟩
            case measure => simp [intOf]; omega
          · obtain rfl : m = 0 := by omega
            clear hz
            simp only [Nat.zero_mul, Nat.add_zero] at f0 f1 f2 f3 f4 f5 f6
            go_wp2_with fail
            go_quiet (fail)
            go_wp2_with fail
            go_roundw
            case rel => exact ⟨1, by omega, by go_num, hbA.drewN _⟩
            case measure => simp [intOf]; omega
        · obtain rfl : m = (stabS taken).length := by omega
          have hb7 := hb6.trans (hb.mono hb6.size)
          have hrt7 := hrt.below hb
          have hr67 := hr6.below hb
          go_wp2_with fail
          refine (stable_any taken at' ct _ hrt7 (by omega)).mono ?_
          rintro e w8 ⟨a8, c8, rfl, hr8, hb8⟩
          have hr68 := hr67.below hb8
          have hb78 := hb7.trans (hb8.mono hb7.size)
          go_wp2_with fail
          refine (evsame_eq (stabS taken) a8 a6 c8 cap6 _ hr8 hr68).mono ?_
          rintro e w9 ⟨rfl, hb9⟩
          have hb79 := hb78.trans (hb9.mono hb78.size)
          go_wp2_with fail
          refine (awake_any _).mono ?_
          rintro e w10 ⟨rfl, hb10⟩
          go_wp2_with fail
          go_ret
          exact ⟨rfl, hb79.trans (hb10.mono hb79.size)⟩
end Go.Proofs.Ytdljkobgghnkpaa
