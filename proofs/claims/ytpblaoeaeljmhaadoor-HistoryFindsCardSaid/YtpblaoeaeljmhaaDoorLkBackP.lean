/- The plain law of LinksBack: a link that was set and cut, and a node that leaves. -/
import Derived.Test.YtpblaoeaeljmhaaDoorLkAll
import Derived.Test.YtpblaoeaeljmhaaDoorLkFnd
namespace Go.Proofs.YtpblaoeaeljmhaaDoor
open Go.RowKit

theorem setL_self (x : Lk) : ∀ ls : List Lk, x ∈ setL x ls := by
  intro ls
  induction ls with
  | nil => exact List.mem_cons_self
  | cons l ls ih =>
    unfold setL
    split
    · exact List.mem_cons_self
    · split
      · exact List.mem_cons_self
      · exact List.mem_cons_of_mem _ ih
/-- what a cut takes away hangs on the edge alone -/
theorem gone_same {e : Ev} {l x : Lk} (h : sameE l x = true) : goneB e l = goneB e x := by
  obtain ⟨h1, h2⟩ := (sameE_iff l x).1 h
  unfold goneB
  rw [h1, h2]
theorem setL_cut {e : Ev} {x : Lk} (hx : goneB e x = true) : ∀ ls : List Lk, (setL x ls).filter (fun l => !goneB e l) = ls.filter (fun l => !goneB e l) := by
  intro ls
  induction ls with
  | nil => simp [setL, hx]
  | cons l ls ih =>
    unfold setL
    split
    · rw [List.filter_cons_of_neg (by simp [hx])]
    · split
      · rename_i h
        rw [List.filter_cons_of_neg (by simp [hx]), List.filter_cons_of_neg (by simp [gone_same h, hx])]
      · rw [List.filter_cons, List.filter_cons, ih]
/-- of links in order a cut takes one at most -/
theorem gone_one {e : Ev} (he : e.kind = 2) {ls : List Lk} (hs : ls.Pairwise fun a b => lkB a b = true) : (ls.filter (goneB e)).length ≤ 1 := by
  have hp := hs.sublist (List.filter_sublist (p := goneB e) (l := ls))
  have hm : ∀ x ∈ ls.filter (goneB e), x.u = min e.u e.v ∧ x.v = max e.u e.v := fun x hx => by
    have := (List.mem_filter.1 hx).2
    unfold goneB at this
    rw [if_pos he] at this
    simpa using this
  generalize ls.filter (goneB e) = L at hp hm
  match L, hp, hm with
  | [], _, _ => simp
  | [_], _, _ => simp
  | a :: b :: _, hp, hm =>
    have h1 := (List.pairwise_cons.1 hp).1 b List.mem_cons_self
    rw [lkB_iff] at h1
    have h2 := hm a List.mem_cons_self
    have h3 := hm b (List.mem_cons_of_mem _ List.mem_cons_self)
    omega
def setE (u v : Int) : Ev := ⟨1, 30, v, u, 3, 0, -1⟩
def cutE (u v : Int) : Ev := ⟨2, 30, u, v, 0, 0, 0⟩
def leaveE (u : Int) : Ev := ⟨3, 30, u, 0, 0, 0, 0⟩
theorem node_in {u n : Int} (h0 : 0 ≤ u) (h1 : u < n) (hn : n ≤ 64) : nodeB u = true := by
  unfold nodeB; simp; omega
theorem fit_set {n u v : Int} (hn : n ≤ 64) (hu : 0 ≤ u) (hu2 : u < n) (hv : 0 ≤ v) (hv2 : v < n) (huv : u ≠ v) : fitS n (setE u v) = 0 := by
  have e1 : evS (setE u v) = 0 := by
    have : v ≠ u := fun h => huv h.symm
    simp [evS, setE, evEnds, attS, node_in hu hu2 hn, node_in hv hv2 hn, this]
  unfold fitS
  rw [if_neg (by simp [e1]), if_neg (by unfold setE; dsimp only; omega)]
theorem fit_cut {n u v : Int} (hn : n ≤ 64) (hu : 0 ≤ u) (hu2 : u < n) (hv : 0 ≤ v) (hv2 : v < n) (huv : u ≠ v) : fitS n (cutE u v) = 0 := by
  have e1 : evS (cutE u v) = 0 := by
    simp [evS, cutE, evEnds, node_in hu hu2 hn, node_in hv hv2 hn, huv]
  unfold fitS
  rw [if_neg (by simp [e1]), if_neg (by unfold cutE; dsimp only; omega)]
theorem fit_leave {n u : Int} (hn : n ≤ 64) (hu : 0 ≤ u) (hu2 : u < n) : fitS n (leaveE u) = 0 := by
  have e1 : evS (leaveE u) = 0 := by
    simp [evS, leaveE, evEnds, node_in hu hu2 hn]
  unfold fitS
  rw [if_neg (by simp [e1]), if_neg (by unfold leaveE; dsimp only; omega)]
/-- set and cut -/
theorem back_two {n u v : Int} {ls : List Lk} (hS : VSt n ls) (ht : ∀ l ∈ ls, l.time ≤ 19) (hu : 0 ≤ u) (hu2 : u < n) (hv : 0 ≤ v) (hv2 : v < n) (huv : u ≠ v) :
    allX n ls [setE u v, cutE u v] = ((n, ls.filter fun l => !goneB (cutE u v) l), 2, 0) := by
  have hx : goneB (cutE u v) (ofEv (setE u v)) = true := by
    simp only [goneB, cutE, ofEv, setE, Int.min_comm v u, Int.max_comm v u]; simp
  have hnot : ofEv (setE u v) ∉ ls := fun h => by have := ht _ h; simp [ofEv, setE] at this
  have hk : (setE u v).kind = 1 := rfl
  have hk2 : ¬(cutE u v).kind = 1 := by simp [cutE]
  have hv1 := stepL_valid hS (fit_set hS.2.1 hu hu2 hv hv2 huv)
  unfold stepL at hv1
  rw [if_pos hk] at hv1
  have hone : ((setL (ofEv (setE u v)) ls).filter (goneB (cutE u v))).length = 1 := by
    have h1 := gone_one (e := cutE u v) rfl hv1.2.2.2
    have h2 : ofEv (setE u v) ∈ (setL (ofEv (setE u v)) ls).filter (goneB (cutE u v)) := List.mem_filter.2 ⟨setL_self _ _, hx⟩
    have h3 := List.length_pos_of_mem h2
    omega
  unfold allX
  rw [if_neg (by simp [(stS_iff n ls).2 hS])]
  unfold allF
  rw [if_neg (by simp [fit_set hS.2.1 hu hu2 hv hv2 huv])]
  unfold allF
  rw [if_neg (by simp [fit_cut hS.2.1 hu hu2 hv hv2 huv])]
  unfold allF stepL stepC
  rw [if_pos hk, if_neg hk2, if_pos hk, if_neg hk2, if_neg hnot, List.length_map, hone, setL_cut hx]
  rfl
theorem back_one {n u v : Int} {ls : List Lk} (hS : VSt n ls) (hu : 0 ≤ u) (hu2 : u < n) (hv : 0 ≤ v) (hv2 : v < n) (huv : u ≠ v) :
    ∃ m : Nat, m ≤ 1 ∧ allX n ls [cutE u v] = ((n, ls.filter fun l => !goneB (cutE u v) l), (m : Int), 0) := by
  have hk2 : ¬(cutE u v).kind = 1 := by simp [cutE]
  refine ⟨_, gone_one (e := cutE u v) rfl hS.2.2.2, ?_⟩
  unfold allX
  rw [if_neg (by simp [(stS_iff n ls).2 hS])]
  unfold allF
  rw [if_neg (by simp [fit_cut hS.2.1 hu hu2 hv hv2 huv])]
  unfold allF stepL stepC
  rw [if_neg hk2, if_neg hk2, List.length_map, Nat.zero_add]
theorem back_leave {n u : Int} {ls : List Lk} (hS : VSt n ls) (hu : 0 ≤ u) (hu2 : u < n) :
    ∃ C : List Ev, appX n ls (leaveE u) = ((n, ls.filter fun l => !goneB (leaveE u) l), C, 0) := by
  have hk2 : ¬(leaveE u).kind = 1 := by simp [leaveE]
  refine ⟨stepC (leaveE u) ls, ?_⟩
  unfold appX
  rw [if_neg (by simp [(stS_iff n ls).2 hS]), if_neg (by simp [fit_leave hS.2.1 hu hu2])]
  unfold stepL
  rw [if_neg hk2]
theorem lkIdx_there (t : Lk) : ∀ (ls : List Lk) (k : Nat) (x : Lk), x ∈ ls → sameE x t = true → 0 ≤ lkIdx t k ls := by
  intro ls
  induction ls with
  | nil => intro k x h; cases h
  | cons l ls ih =>
    intro k x h hx
    unfold lkIdx
    split
    · omega
    · rename_i hn
      rcases List.mem_cons.1 h with rfl | h
      · exact absurd hx hn
      · exact ih _ x h hx
/-- a link is found behind a leaving exactly if it is not at that node -/
theorem back_find {n u : Int} {ls : List Lk} (hS : VSt n ls) (hu : 0 ≤ u) (hu2 : u < n) {x : Lk} (hx : x ∈ ls) :
    decide (lfS n (ls.filter fun l => !goneB (leaveE u) l) x.u x.v < 0) = (decide (x.u = u) || decide (x.v = u)) := by
  have hv1 := stepL_valid hS (fit_leave hS.2.1 hu hu2)
  unfold stepL at hv1
  rw [if_neg (by simp [leaveE])] at hv1
  have hg : ∀ l, goneB (leaveE u) l = (decide (l.u = u) || decide (l.v = u)) := fun l => by
    unfold goneB
    rw [if_neg (by simp [leaveE])]
    rfl
  have hxo := hS.2.2.1 x hx
  have he : edgeL x.u x.v = ⟨x.u, x.v, 0, 0, 0, 0⟩ := by
    unfold edgeL
    rw [Int.min_eq_left (by have := hxo.2.1; omega), Int.max_eq_right (by have := hxo.2.1; omega)]
  unfold lfS
  rw [if_neg (by simp [(stS_iff n _).2 hv1]), he]
  cases hgx : goneB (leaveE u) x with
  | true =>
    rw [lkIdx_none]
    · rw [← hg, hgx]; rfl
    · intro l hl
      have h1 := (List.mem_filter.1 hl).2
      cases hs : sameE l ⟨x.u, x.v, 0, 0, 0, 0⟩ with
      | false => rfl
      | true =>
        have hs2 := (sameE_iff _ _).1 hs
        dsimp only at hs2
        rw [hg, hs2.1, hs2.2, ← hg, hgx] at h1
        cases h1
  | false =>
    have := lkIdx_there ⟨x.u, x.v, 0, 0, 0, 0⟩ (ls.filter fun l => !goneB (leaveE u) l) 0 x (List.mem_filter.2 ⟨hx, by rw [hgx]; rfl⟩) (by rw [sameE_iff]; exact ⟨rfl, rfl⟩)
    rw [← hg, hgx]
    exact decide_eq_false (by omega)
end Go.Proofs.YtpblaoeaeljmhaaDoor
