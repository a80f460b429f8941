/- The contract of the test for whole orders. -/
import Derived.Test.YtbkacbbhiecnkaaDoorTrPeel
namespace Go.Proofs.YtbkacbbhiecnkaaDoor
open Go.RowKit Go.BigFrame

/-- a whole order of the first m numbers -/
def okW (m : Nat) (l : List Int) : Prop := (∀ x ∈ l, 0 ≤ x ∧ x < m) ∧ l.Nodup ∧ l.length = m
instance (m : Nat) (l : List Int) : Decidable (okW m l) := by unfold okW; infer_instance
theorem take_sub (l : List Int) (t : Nat) : (l.take t).Sublist l := List.take_sublist t l
set_option maxRecDepth 100000 in
set_option maxHeartbeats 1600000 in
theorem whole_any (m : Nat) (a : Option Addr) (cap : Nat) (l : List Int) (w : World) (hi : IntsAt w (.slice a l.length cap) l) (hm : m ≤ 100000) :
    Calls Tryd.prog 109 #[.slice a l.length cap, .int .i64 m] w fun e w' => e = .returned (.bool (decide (okW m l))) ∧ Below w.heap.size w w' := by
  have hsm : l.length ≤ 70368744177664 := by obtain ⟨_, _, hv, _, _, hl, _⟩ := hi; exact hl
  have hmk := make_bools m (by omega)
  go_enter Tryd.func109, Tryd.ntmps109
  go_wp2_with fail
  have hB0 : BoolAt (w.alloc (.cells (fnB m (fun _ => false)).toArray 4)) w.heap.size m (fun x => decide ((x : Int) ∈ l.take 0)) := by
    have h : BoolAt (w.alloc (.cells (fnB m (fun _ => false)).toArray 4)) w.heap.size m (fun _ => false) := heap_alloc_new _ _
    exact h.congr fun x _ => by simp
  have hb0 := (Below.refl w.heap.size w).alloc (Nat.le_refl _) (.cells (fnB m (fun _ => false)).toArray 4)
  clear hmk
  go_loopw [12] (fun vi wr => ∃ t : Nat, t ≤ l.length ∧ vi = .int .i64 t ∧ BoolAt wr w.heap.size m (fun x => decide ((x : Int) ∈ l.take t)) ∧ Hid ((∀ x ∈ l.take t, 0 ≤ x ∧ x < m) ∧ (l.take t).Nodup) ∧ Below w.heap.size w wr) (fun vi _ => l.length - (intOf vi).toNat)
  case atStart => exact ⟨0, Nat.zero_le _, rfl, hB0, (show _ ∧ _ from ⟨fun x hx => by simp at hx, by simp⟩), hb0⟩
  case round =>
    clear hB0 hb0
    obtain ⟨t, ht, rfl, hB, HO, hb⟩ := hrel
    by_cases hlt : t < l.length
    · obtain ⟨b9, o9, z, rfl, hz, _, _, c0⟩ := (hi.below hb).at t hlt
      have hlt3 : (t : Int) < l.length := by omega
      have hzl : z ∈ l := List.mem_of_getElem? hz
      have htk := take_at l t z hz
      have hsub : (l.take t ++ [z]).Sublist l := by rw [← htk]; exact take_sub l _
      by_cases h0 : z < 0
      · have d0 : decide (z < 0) = true := by simpa using h0
        have hno : Hid (decide (okW m l) = false) := (show _ = _ from decide_eq_false fun h => by have := (h.1 z hzl).1; omega)
        clear hz hzl htk hsub hB HO
        go_wp2_with fail
        go_ret
        exact ⟨by rw [hno.out]; rfl, hb⟩
      · have d0 : decide (z < 0) = false := by simpa using h0
        by_cases h1 : (m : Int) ≤ z
        · have d1 : decide ((m : Int) ≤ z) = true := by simpa using h1
          have hno : Hid (decide (okW m l) = false) := (show _ = _ from decide_eq_false fun h => by have := (h.1 z hzl).2; omega)
          clear hz hzl htk hsub hB HO
          go_wp2_with fail
          go_ret
          exact ⟨by rw [hno.out]; rfl, hb⟩
        · have d1 : decide ((m : Int) ≤ z) = false := by simpa using h1
          obtain ⟨x, rfl⟩ := Int.eq_ofNat_of_zero_le (show 0 ≤ z by omega)
          have hxm : x < m := by omega
          have hxm3 : (x : Int) < m := by omega
          have q0 := hB.cell x hxm
          have qf : ∀ j, wr.frozen? ⟨w.heap.size, j, none⟩ = false := fun j => free_blk hB
          by_cases h2 : (x : Int) ∈ l.take t
          · rw [decide_eq_true h2] at q0
            have hno : Hid (decide (okW m l) = false) := (show _ = _ from decide_eq_false fun h => by
              have h3 := h.2.1.sublist hsub
              rw [List.nodup_append] at h3
              exact h3.2.2 _ h2 _ (by simp) rfl)
            clear hz hzl htk hsub hB HO h2 qf
            go_wp2_with fail
            go_ret
            exact ⟨by rw [hno.out]; rfl, hb⟩
          · rw [decide_eq_false h2] at q0
            have hst := (hB.set x true).congr (G := fun y => decide ((y : Int) ∈ l.take (t + 1))) fun y _ => by
              rw [htk]
              by_cases e : y = x
              · subst e; simp
              · have e2 : ¬ ((y : Int) = (x : Int)) := by omega
                simp [e, e2]
            have hO2 : Hid ((∀ x ∈ l.take (t + 1), 0 ≤ x ∧ x < m) ∧ (l.take (t + 1)).Nodup) := by
              show _ ∧ _
              rw [htk]
              refine ⟨fun y hy => ?_, ?_⟩
              · rcases List.mem_append.1 hy with hy | hy
                · exact HO.out.1 y hy
                · rw [List.mem_singleton.1 hy]; omega
              · rw [List.nodup_append]
                exact ⟨HO.out.2, by simp, fun y hy y' hy' e => by rw [List.mem_singleton.1 hy'] at e; exact h2 (e ▸ hy)⟩
            clear hz hzl htk hsub hB HO h2
            go_wp2_with fail
            go_roundw
            case rel => exact ⟨t + 1, by omega, by go_num, hst, hO2, hb.setCell (p := ⟨w.heap.size, x, none⟩) (Nat.le_refl _) _⟩
            case measure => simp [intOf]; omega
    · obtain rfl : t = l.length := by omega
      have hO := HO.out
      rw [List.take_length] at hO
      have hres : decide (okW m l) = decide (l.length = m) := by
        rw [Bool.eq_iff_iff, decide_eq_true_eq, decide_eq_true_eq]
        exact ⟨fun h => h.2.2, fun h => ⟨hO.1, hO.2, h⟩⟩
      have HRES := Lib.hid hres
      clear hO HO hres hB
      by_cases hlm : l.length = m
      · have d3 : ((l.length : Int) == (m : Int)) = true := by simp; omega
        rw [decide_eq_true hlm] at HRES
        clear hlm
        go_wp2_with fail
        go_ret
        exact ⟨by rw [HRES.out]; rfl, hb⟩
      · have d3 : ((l.length : Int) == (m : Int)) = false := by simp; omega
        rw [decide_eq_false hlm] at HRES
        go_wp2_with fail
        go_ret
        exact ⟨by rw [HRES.out]; rfl, hb⟩
end Go.Proofs.YtbkacbbhiecnkaaDoor
