/- Contracts of the reference's sets: put, Of, Has, Meet. -/
import Derived.Test.YtdkmdcdoiaelfaaGreatApp
import Derived.Deep.RegionLaw
namespace Go.Proofs.YtdkmdcdoiaelfaaGreat
open Go.RowKit Go.BigFrame

set_option maxRecDepth 100000 in
set_option maxHeartbeats 1600000 in
theorem put_any (a : Option Addr) (cap : Nat) (xs : List Int) (x : Int) (w : World) (hi : IntsAt w (.slice a xs.length cap) xs) (hn : xs.length ≤ 1073741824) :
    Calls Tryz.prog 91 #[.slice a xs.length cap, .int .i64 x] w (IntsPost w (putS xs x)) := by
  have hi' := hi
  obtain ⟨a', cap', hv, hcap, hnone, hl, hcell⟩ := hi
  obtain ⟨rfl, _, rfl⟩ : a = a' ∧ True ∧ cap = cap' := by simpa using hv
  clear hv
  have H := Lib.hid hcell
  clear hcell
  go_enter Tryz.func91, Tryz.ntmps91
  go_wp2
  go_loop [5] (fun i => ∃ k : Nat, k ≤ xs.length ∧ i = .int .i64 k ∧ Hid (putS xs x = xs.take k ++ putS (xs.drop k) x)) (fun i => xs.length - (intOf i).toNat)
  case atStart => exact ⟨0, Nat.zero_le _, rfl, rfl⟩
  case round =>
    obtain ⟨k, hk, rfl, HP⟩ := hrel
    by_cases hlt : k < xs.length
    · obtain ⟨y, hy⟩ : ∃ y, xs[k]? = some y := ⟨_, List.getElem?_eq_getElem hlt⟩
      obtain ⟨b, off, rfl, c0⟩ := H.out k _ hy
      have HD : Hid (xs.drop k = y :: xs.drop (k + 1)) := by
        show _ = _
        obtain ⟨_, he⟩ := List.getElem?_eq_some_iff.1 hy
        rw [List.drop_eq_getElem_cons hlt, he]
      have HT : Hid (xs.take (k + 1) = xs.take k ++ [y]) := by
        show _ = _
        obtain ⟨_, he⟩ := List.getElem?_eq_some_iff.1 hy
        rw [List.take_succ_eq_append_getElem hlt, he]
      clear hy
      by_cases hyx : y < x
      · go_wp2
        go_round
        case rel => exact ⟨k + 1, by omega, by go_num, by show _ = _; rw [HP.out, HD.out, putS, if_pos hyx, HT.out]; simp⟩
        case measure => simp [intOf]; omega
      · by_cases he : y = x
        · have : putS xs x = xs := by rw [HP.out, HD.out, putS, if_neg hyx, if_pos he, ← HD.out, List.take_append_drop]
          rw [this]
          subst he
          go_wp2
          go_ret
          exact ⟨_, _, rfl, hi', Below.refl _ _⟩
        · have he2 : (y == x) = false := by simpa using he
          have hck : ¬ cap = k := by omega
          have HF : Hid (putS xs x = xs.take k ++ [x] ++ xs.drop k) := by show _ = _; rw [HP.out, HD.out, putS, if_neg hyx, if_neg he]; simp
          go_wp2_with (at_builtin; refine wpList_app_ints intsT rfl _ _ rfl w.heap.size _ _ [] (xs.take k) rfl (World.ownsRow_nil _ _ _ _) rfl (hi'.take k hk) (by simp; omega) (Nat.le_refl _) ?_; intro v6 w6 hown6 hg6)
          have hb6 : Below w.heap.size w w6 := below_of_grown hg6
          go_region_law (first
            | (refine step_app_ints intsT rfl (.tmp 38) (.tmp 40) rfl w.heap.size _ _ ([] ++ xs.take k) [x] rfl (by exact (hown6.alloc _)) rfl (by exact ints_lit1 _ _ _) (by simp; omega) (by have := hb6.size; simp; omega) ?_; intro v7 w7 hown7 hg7; have hb7 : Below w.heap.size w w7 := (by exact below_app' (hb6.alloc hb6.size _).drew (hown6.alloc _) hg7))
            | (refine step_app_ints intsT rfl (.tmp 41) (.tmp 44) rfl w.heap.size _ _ ([] ++ xs.take k ++ [x]) (xs.drop k) rfl (by assumption) rfl (by exact (hi'.drop k hlt).below (by assumption)) (by simp; omega) (by exact Below.size (by assumption)) ?_; intro v8 w8 hown8 hg8; have hb8 : Below w.heap.size w w8 := (by exact below_app' (by assumption) (by assumption) hg8)))
          go_wp2
          go_ret
          rw [HF.out]
          exact ints_post (v := v8) (by assumption) (by simpa only [List.nil_append, List.append_nil] using hown8) (by simp; omega)
    · obtain rfl : k = xs.length := by omega
      have HF : Hid (putS xs x = xs ++ [x]) := by show _ = _; rw [HP.out]; simp [putS]
      go_wp2_with (at_builtin; refine wpList_app_ints intsT rfl _ _ rfl w.heap.size _ _ [] xs rfl (World.ownsRow_nil _ _ _ _) rfl hi' (by simp; omega) (Nat.le_refl _) ?_; intro v6 w6 hown6 hg6)
      have hb6 : Below w.heap.size w w6 := below_of_grown hg6
      have hnil : (if cap = xs.length then a else Option.map (fun x => x.add xs.length) a) = none → cap - xs.length = 0 := by
        intro e
        split at e
        · omega
        · have := hnone (by simpa using e); omega
      go_region_law (first
        | (refine step_app_ints intsT rfl (.tmp 38) (.tmp 40) rfl w.heap.size _ _ ([] ++ xs) [x] rfl (by exact (hown6.alloc _)) rfl (by exact ints_lit1 _ _ _) (by simp; omega) (by have := hb6.size; simp; omega) ?_; intro v7 w7 hown7 hg7; have hb7 : Below w.heap.size w w7 := (by exact below_app' (hb6.alloc hb6.size _).drew (hown6.alloc _) hg7))
        | (refine step_app_ints intsT rfl (.tmp 41) (.tmp 44) rfl w.heap.size _ _ ([] ++ xs ++ [x]) [] rfl (by assumption) rfl (by exact IntsAt.empty _ _ hnil) (by simp; omega) (by exact Below.size (by assumption)) ?_; intro v8 w8 hown8 hg8; have hb8 : Below w.heap.size w w8 := (by exact below_app' (by assumption) (by assumption) hg8)))
      go_wp2
      all_goals
        go_ret
        rw [HF.out]
        exact ints_post (v := v8) (by assumption) (by simpa only [List.nil_append, List.append_nil] using hown8) (by simp; omega)
set_option maxRecDepth 100000 in
set_option maxHeartbeats 800000 in
theorem of_any (a : Option Addr) (cap : Nat) (xs : List Int) (w : World) (hi : IntsAt w (.slice a xs.length cap) xs) (hn : xs.length ≤ 1073741824) :
    Calls Tryz.prog 76 #[.slice a xs.length cap] w (IntsPost w (ofS xs)) := by
  go_enter Tryz.func76, Tryz.ntmps76
  go_wp2
  go_loopw [3, 8] (fun v i wr => ∃ (k : Nat) (acc : List Int), k ≤ xs.length ∧ i = .int .i64 k ∧ Below w.heap.size w wr ∧ IntsAt wr v acc ∧ acc.length ≤ k ∧ Hid (ofS xs = (xs.drop k).foldl putS acc)) (fun _ i _ => xs.length - (intOf i).toNat)
  case atStart => exact ⟨0, [], Nat.zero_le _, rfl, Below.refl _ _, IntsAt.empty none 0 (fun _ => rfl), by simp, rfl⟩
  case round =>
    obtain ⟨k, acc, hk, rfl, hb, hacc, hal, HR⟩ := hrel
    obtain ⟨a2, cap2, hv, _⟩ := id hacc
    subst hv
    by_cases hlt : k < xs.length
    · obtain ⟨b, off, y, rfl, _, hd, _, c0⟩ := (hi.below hb).at k hlt
      have HD := Lib.hid hd
      clear hd
      go_wp2_with (go_at_call 91; refine (put_any _ _ acc _ _ hacc (by omega)).mono ?_; rintro e w2 ⟨a3, cap3, rfl, hi3, hb3⟩)
      go_roundw
      case rel => exact ⟨k + 1, putS acc y, by omega, by go_num, hb.trans (hb3.mono hb.size), hi3, by have := putS_length acc y; omega, by show _ = _; rw [HR.out, HD.out]; rfl⟩
      case measure => simp [intOf]; omega
    · obtain rfl : k = xs.length := by omega
      have HE : Hid (ofS xs = acc) := by show _ = _; rw [HR.out]; simp
      go_wp2
      go_ret
      rw [HE.out]
      exact ⟨_, _, rfl, hacc, hb⟩
end Go.Proofs.YtdkmdcdoiaelfaaGreat
