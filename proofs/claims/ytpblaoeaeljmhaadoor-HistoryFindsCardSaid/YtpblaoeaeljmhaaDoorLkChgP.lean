/- The plain law of LinksChanges: the changes lead to the same links, and there are none exactly if nothing changed. -/
import Derived.Test.YtpblaoeaeljmhaaDoorLkBackP
namespace Go.Proofs.YtpblaoeaeljmhaaDoor
open Go.RowKit

theorem setL_in (x : Lk) : ∀ ls : List Lk, ls.Pairwise (fun a b => lkB a b = true) → x ∈ ls → setL x ls = ls := by
  intro ls
  induction ls with
  | nil => intro _ h; cases h
  | cons l ls ih =>
    intro hs hx
    obtain ⟨h1, h2⟩ := List.pairwise_cons.1 hs
    unfold setL
    rcases List.mem_cons.1 hx with rfl | hx
    · rw [if_neg (by rw [lkB_iff]; omega), if_pos (by rw [sameE_iff]; exact ⟨rfl, rfl⟩)]
    · have := h1 x hx
      rw [lkB_iff] at this
      rw [if_neg (by rw [lkB_iff]; omega), if_neg (by rw [sameE_iff]; omega), ih h2 hx]
theorem ev_kind {e : Ev} (h : evS e = 0) : 1 ≤ e.kind ∧ e.kind ≤ 3 := by
  unfold evS at h
  split at h
  · omega
  · omega
/-- a link of a valid state may be cut -/
theorem fit_cutL {n t : Int} {l : Lk} (hn : n ≤ 64) (h : LkOk n l) (ht : 0 ≤ t) (ht2 : t ≤ 1048576) : fitS n (cutEv l t) = 0 := by
  obtain ⟨h1, h2, h3, -⟩ := h
  have e1 : evS (cutEv l t) = 0 := by
    have a1 := node_in (n := n) (by omega : 0 ≤ l.u) (by omega) hn
    have a2 := node_in (n := n) (by omega : 0 ≤ l.v) (by omega) hn
    have a3 : l.u ≠ l.v := by omega
    have a4 : ¬(t < 0 ∨ 1048576 < t) := by omega
    simp [evS, cutEv, evEnds, a1, a2, a3]
    omega
  unfold fitS
  rw [if_neg (by simp [e1]), if_neg (by unfold cutEv; dsimp only; omega)]
theorem gone_cut {n t : Int} {l x : Lk} (hl : LkOk n l) : goneB (cutEv l t) x = true ↔ x.u = l.u ∧ x.v = l.v := by
  have := hl.2.1
  unfold goneB cutEv
  dsimp only
  rw [if_pos rfl, Int.min_eq_left (by omega), Int.max_eq_right (by omega)]
  simp
theorem sorted_same {ls : List Lk} (hs : ls.Pairwise fun a b => lkB a b = true) {x y : Lk} (hx : x ∈ ls) (hy : y ∈ ls) (h : x.u = y.u ∧ x.v = y.v) : x = y := by
  induction ls with
  | nil => cases hx
  | cons l ls ih =>
    obtain ⟨h1, h2⟩ := List.pairwise_cons.1 hs
    rcases List.mem_cons.1 hx with e1 | k1 <;> rcases List.mem_cons.1 hy with e2 | k2
    · rw [e1, e2]
    · have := h1 y k2; rw [← e1, lkB_iff] at this; omega
    · have := h1 x k1; rw [← e2, lkB_iff] at this; omega
    · exact ih h2 k1 k2
theorem filter_self {n t : Int} {ls : List Lk} (hv : VSt n ls) {l : Lk} (hl : l ∈ ls) : ls.filter (goneB (cutEv l t)) = [l] := by
  have hm : l ∈ ls.filter (goneB (cutEv l t)) := List.mem_filter.2 ⟨hl, (gone_cut (hv.2.2.1 l hl)).2 ⟨rfl, rfl⟩⟩
  have h1 := gone_one (e := cutEv l t) rfl hv.2.2.2
  match h : ls.filter (goneB (cutEv l t)), hm, h1 with
  | [y], hm, _ => rw [List.mem_singleton] at hm; rw [hm]
  | _ :: _ :: _, _, h1 => simp at h1
/-- links are cut one after another -/
theorem cut_list {n t : Int} (ht : 0 ≤ t) (ht2 : t ≤ 1048576) : ∀ (G ls : List Lk) (i c : Nat), VSt n ls → (∀ g ∈ G, g ∈ ls) → G.Nodup →
    allF n ls (G.map fun l => cutEv l t) i c = ((n, ls.filter fun l => decide (l ∉ G)), ((c + G.length : Nat) : Int), 0) := by
  intro G
  induction G with
  | nil => intro ls i c hv _ _; simp only [List.map_nil, allF, List.length_nil, Nat.add_zero, List.not_mem_nil, not_false_eq_true, decide_true]; rw [List.filter_eq_self.2 fun _ _ => rfl]
  | cons g G ih =>
    intro ls i c hv hG hN
    obtain ⟨hN1, hN2⟩ := List.nodup_cons.1 hN
    have hg := hG g List.mem_cons_self
    have hf := fit_cutL (t := t) hv.2.1 (hv.2.2.1 g hg) ht ht2
    have hk : ¬ (cutEv g t).kind = 1 := by simp [cutEv]
    have hv2 := stepL_valid hv hf
    unfold stepL at hv2
    rw [if_neg hk] at hv2
    have hgo := fun x => gone_cut (x := x) (t := t) (hv.2.2.1 g hg)
    rw [List.map_cons]
    unfold allF stepL stepC
    rw [if_neg (by simp [hf]), if_neg hk, if_neg hk, filter_self hv hg]
    rw [ih (ls.filter fun l => !goneB (cutEv g t) l) (i + 1) _ hv2 (fun x hx => List.mem_filter.2 ⟨hG x (List.mem_cons_of_mem _ hx), ?_⟩) hN2]
    · have e1 : (ls.filter fun l => !goneB (cutEv g t) l).filter (fun l => decide (l ∉ G)) = ls.filter fun l => decide (l ∉ g :: G) := by
        rw [List.filter_filter]
        refine List.filter_congr fun x hx => ?_
        rw [Bool.eq_iff_iff, Bool.and_eq_true, decide_eq_true_eq, decide_eq_true_eq, Bool.not_eq_true', List.mem_cons, not_or]
        constructor
        · rintro ⟨h1, h2⟩
          refine ⟨fun e => ?_, h1⟩
          rw [e, (hgo _).2 ⟨rfl, rfl⟩] at h2
          cases h2
        · rintro ⟨h1, h2⟩
          refine ⟨h2, ?_⟩
          cases hb : goneB (cutEv g t) x with
          | false => rfl
          | true => exact absurd (sorted_same hv.2.2.2 hx hg ((hgo _).1 hb)) h1
      rw [e1]
      simp only [List.map_cons, List.map_nil, List.length_cons, List.length_nil]
      congr 2
      omega
    · cases hb : goneB (cutEv g t) x with
      | false => rfl
      | true =>
        have := sorted_same hv.2.2.2 (hG x (List.mem_cons_of_mem _ hx)) hg ((hgo _).1 hb)
        rw [this] at hx
        exact absurd hx hN1
theorem sorted_nodup {ls : List Lk} (hs : ls.Pairwise fun a b => lkB a b = true) : ls.Nodup :=
  hs.imp fun {a b} h e => by rw [e, lkB_iff] at h; omega
/-- the changes lead to the same links -/
theorem chg_same {n : Int} {e : Ev} {ls : List Lk} (hv : VSt n ls) (he : fitS n e = 0) :
    allX n ls (stepC e ls) = ((n, stepL e ls), ((stepC e ls).length : Int), 0) := by
  have hev := (fit_zero he).1
  have ht := evS_time hev
  have hk := ev_kind hev
  unfold allX
  rw [if_neg (by simp [(stS_iff n ls).2 hv])]
  by_cases h1 : e.kind = 1
  · unfold stepC stepL
    rw [if_pos h1, if_pos h1]
    by_cases hm : ofEv e ∈ ls
    · rw [if_pos hm, setL_in _ _ hv.2.2.2 hm]; rfl
    · rw [if_neg hm]
      have hne : e.u ≠ e.v ∧ attS e.weight e.label e.sign = true ∧ nodeB e.u = true ∧ nodeB e.v = true := by
        unfold evS at hev
        rw [if_neg (by omega), if_neg (by omega)] at hev
        split at hev
        · simp at hev
        · rename_i h3
          have h4 : evEnds e = true := by simpa using h3
          unfold evEnds at h4
          rw [if_neg (by omega)] at h4
          simp only [Bool.and_eq_true, decide_eq_true_eq] at h4
          split at hev
          · rename_i h5; exact ⟨h4.2.2, h5, h4.1, h4.2.1⟩
          · simp at hev
      obtain ⟨hne, hat, hnu, hnv⟩ := hne
      have ho : ofEv (setEv (ofEv e) e.time) = ofEv e := by
        have h1 : min e.u e.v ≤ max e.u e.v := by omega
        simp [ofEv, setEv, Int.min_eq_left h1, Int.max_eq_right h1]
      have hmm : (min e.u e.v = e.u ∧ max e.u e.v = e.v) ∨ (min e.u e.v = e.v ∧ max e.u e.v = e.u) := by omega
      have hfs : fitS n (setEv (ofEv e) e.time) = 0 := by
        have e1 : evS (setEv (ofEv e) e.time) = 0 := by
          have a4 : ¬(e.time < 0 ∨ 1048576 < e.time) := by omega
          have hne' : e.v ≠ e.u := fun h => hne h.symm
          rcases hmm with ⟨m1, m2⟩ | ⟨m1, m2⟩
          · unfold evS setEv ofEv
            dsimp only
            rw [if_neg (by omega), if_neg a4, if_neg (by simp [evEnds, m1, m2, hnu, hnv, hne]), if_pos rfl, if_pos hat]
          · unfold evS setEv ofEv
            dsimp only
            rw [if_neg (by omega), if_neg a4, if_neg (by simp [evEnds, m1, m2, hnu, hnv, hne']), if_pos rfl, if_pos hat]
        have hb := fit_zero he
        unfold fitS
        rw [if_neg (by simp [e1]), if_neg (by unfold setEv ofEv; dsimp only; omega)]
      unfold allF
      rw [if_neg (by simp [hfs])]
      unfold allF stepL stepC
      rw [if_pos (by rfl), if_pos (by rfl), ho, if_neg hm]
      rfl
  · unfold stepC stepL
    rw [if_neg h1, if_neg h1, cut_list ht.1 ht.2 _ ls 0 0 hv (fun g hg => (List.mem_filter.1 hg).1) ((sorted_nodup hv.2.2.2).sublist List.filter_sublist)]
    rw [List.length_map, Nat.zero_add]
    congr 2
    refine List.filter_congr fun x hx => ?_
    rw [Bool.eq_iff_iff, decide_eq_true_eq, Bool.not_eq_true', List.mem_filter, not_and]
    constructor
    · intro h
      simpa using h hx
    · intro h _
      simp [h]
/-- nothing changed exactly if there are no changes -/
theorem chg_none {n : Int} {e : Ev} {ls : List Lk} (hv : VSt n ls) : (stepC e ls).length = 0 ↔ ls = stepL e ls := by
  unfold stepC stepL
  by_cases h1 : e.kind = 1
  · rw [if_pos h1, if_pos h1]
    by_cases hm : ofEv e ∈ ls
    · rw [if_pos hm, setL_in _ _ hv.2.2.2 hm]; simp
    · rw [if_neg hm]
      refine ⟨fun h => by simp at h, fun h => absurd ?_ hm⟩
      rw [h]
      exact setL_self _ _
  · rw [if_neg h1, if_neg h1, List.length_map]
    constructor
    · intro h
      rw [List.length_eq_zero_iff, List.filter_eq_nil_iff] at h
      rw [List.filter_eq_self.2 fun x hx => by simpa using h x hx]
    · intro h
      rw [List.length_eq_zero_iff, List.filter_eq_nil_iff]
      intro x hx hg
      rw [h, List.mem_filter] at hx
      simp [hg] at hx
end Go.Proofs.YtpblaoeaeljmhaaDoor
