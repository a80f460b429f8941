/- The contract of made events whose times go back now and then. The contract of made events once more, with the nodes' bounds. -/
import Derived.Test.YtkknknehchnccaaDoorScEv
namespace Go.Proofs.YtkknknehchnccaaDoor
open Go.RowKit Go.BigFrame

def MixPost (b : Nat) (most : Int) (w : World) (e : Ending) (w' : World) : Prop := ∃ a cap l, e = .returned (.slice a l.length cap) ∧ RowAt encEv w' (.slice a l.length cap) l ∧ (∀ x ∈ l, evS x = 0) ∧ (l.length : Int) ≤ most ∧ DeckAt w' b ∧ w.grownBy w' (some b) ∧ ∀ p, a = some p → w.heap.size ≤ p.block
theorem own_next {W W' : World} {base T k n m b cap : Nat} {a : Option Addr} {xs : List Value} (ho : W.ownsRow base T k (.slice a m cap) n xs) (hb : b < base) (hg : W.grownBy W' (some b)) : W'.ownsRow base T k (.slice a m cap) n xs :=
  ho.kept hg (by
    cases a with
    | none => exact .inl rfl
    | some p => right; intro e; have := ho.lt p.block rfl; have := Option.some.inj e; omega)
theorem lit_ev' (w : World) (e : Ev) (T : Nat) : RowAt encEv (w.alloc (.cells e.cells T)) (.slice (some ⟨w.heap.size, 0, none⟩) 1 1) [e] := rows_lit1 w e T _ rfl
set_option maxRecDepth 100000 in
set_option maxHeartbeats 3200000 in
theorem mixed_any (b : Nat) (n most : Int) (w : World) (hd : DeckAt w b) (hn : 2 ≤ n) (hn64 : n ≤ 64) (h0 : 0 ≤ most) (h1 : most ≤ 1000) :
    Calls Tryd.prog 53 #[.pointer (some ⟨b, 0, none⟩), .int .i64 n, .int .i64 most] w (MixPost b most w) := by
  have hbw := hd.lt
  have hn1 : 1 < n := by omega
  go_enter Tryd.func53, Tryd.ntmps53
  go_wp2_with fail
  refine (next_any b (most + 1) _ hd (by omega) (by omega)).mono ?_
  rintro e w1 ⟨K, hK0, hK1, rfl, hd1, hg1⟩
  go_wp2_with fail
  go_loopw [7, 8, 9] (fun vl vt vk wr => ∃ (l : List Ev) (t k : Int), vt = .int .i64 t ∧ vk = .int .i64 k ∧ 0 ≤ k ∧ (l.length : Int) + k = K ∧ 0 ≤ t ∧ t ≤ 5 + 2 * (l.length : Int) ∧ wr.ownsRow w.heap.size 78 encEv.k vl l.length (flatR encEv l) ∧ Hid (∀ x ∈ l, evS x = 0) ∧ DeckAt wr b ∧ w.grownBy wr (some b)) (fun _ _ k _ => (intOf k).toNat)
  case atStart => exact ⟨[], 5, K, rfl, rfl, hK0, by simp, by omega, by simp, World.ownsRow_nil _ _ _ _, (show _ from fun x hx => by cases hx), hd1, hg1⟩
  case round =>
    clear hd hd1 hg1
    obtain ⟨l, t, k, rfl, rfl, hk0, hlk, ht0, ht1, hown, HA, hdk, hgr⟩ := hrel
    obtain ⟨a7, cap7, hv7⟩ := owns_shape hown
    subst hv7
    by_cases hk : 0 < k
    · go_wp2_with fail
      refine (next_any b 7 _ hdk (by omega) (by omega)).mono ?_
      rintro e w2 ⟨y, hy0, hy1, rfl, hd2, hg2⟩
      have hown2 := own_next hown hbw hg2
      have hgr2 := grown_trans hgr hg2
      clear hown hgr hdk hg2
      have v1 : IntKind.i64.wrap (t - y) = t - y := IntWalk.i64_in _ (by omega)
      go_wp2_with fail
      all_goals
        refine (event_any b n _ _ hd2 hn hn64 (by omega) (by omega)).mono ?_
        rintro e w3 ⟨x, rfl, hx0, -, -, -, -, -, hd3, hg3⟩
        have hown3 := own_next hown2 hbw hg3
        have hgr3 := grown_trans hgr2 hg3
        have hlx := lit_ev' w3 x 78
        have hownA := hown3.alloc (.cells x.cells 78)
        clear hown2 hgr2 hd2 hg3
        unfold Ev.cells at hlx hownA ⊢
        have hd3A := hd3.alloc (.cells x.cells 78)
        have hgrA := grown_trans hgr3 (World.grownBy_alloc w3 (.cells x.cells 78) (some b))
        unfold Ev.cells at hd3A hgrA
        go_wp2_with (at_builtin; refine wpList_app_rows evRT rfl _ _ rfl w.heap.size (.slice a7 l.length cap7) _ l [x] rfl hownA rfl hlx (by simp; omega) (by simp; omega) hgrA.size ?_; intro v6 w6 hown6 hg6)
        have hblk : ∀ g, (Value.slice a7 l.length cap7).ownBlock = some g → b < g ∧ w.heap.size ≤ g := fun g e => by have := hownA.lt g e; omega
        have hd6 := hd3A.kept hg6 (fun g e => (hblk g e).1)
        have hgr6 := grown_new hgrA hg6 (fun g e => .inr (hblk g e).2)
        obtain ⟨a6, cap6, hv6⟩ := owns_shape hown6
        subst hv6
        refine (next_any b 3 _ hd6 (by omega) (by omega)).mono ?_
        rintro e w7 ⟨z, hz0, hz1, rfl, hd7, hg7⟩
        have hown7 := hown6.kept hg7 (by
          cases a6 with
          | none => exact .inl rfl
          | some p => right; intro e; have := hown6.lt p.block rfl; have := Option.some.inj e; omega)
        have hgr7 := grown_trans hgr6 hg7
        clear hown3 hownA hown6 hgrA hgr6 hd6 hg6 hg7 hd3 hgr3 hlx hd3A
        go_wp2_with fail
        go_roundw
        case rel => exact ⟨l ++ [x], t + z, k - 1, rfl, rfl, by omega, by simp; omega, by omega, by simp; omega, (by simpa using hown7), (show _ from fun x' hx' => by
          rcases List.mem_append.1 hx' with h | h
          · exact HA.out x' h
          · rw [List.mem_singleton.1 h]; exact hx0), hd7, hgr7⟩
        case measure => simp [intOf]; omega
    · obtain rfl : k = 0 := by omega
      obtain ⟨a1, c1, e1, hr1, p1⟩ := RowAt.of_owns hown (by omega)
      cases e1
      go_wp2_with fail
      go_ret
      exact ⟨a7, cap7, l, rfl, hr1, HA.out, by omega, hdk, hgr, p1⟩
end Go.Proofs.YtkknknehchnccaaDoor

namespace Go.Proofs.YtkknknehchnccaaDoor
open Go.RowKit Go.BigFrame

def MixIn (b : Nat) (n most : Int) (w : World) (e : Ending) (w' : World) : Prop := ∃ a cap l, e = .returned (.slice a l.length cap) ∧ RowAt encEv w' (.slice a l.length cap) l ∧ (∀ x ∈ l, evS x = 0 ∧ x.u < n ∧ x.v < n) ∧ (l.length : Int) ≤ most ∧ DeckAt w' b ∧ w.grownBy w' (some b) ∧ ∀ p, a = some p → w.heap.size ≤ p.block
set_option maxRecDepth 100000 in
set_option maxHeartbeats 3200000 in
theorem mixed_in (b : Nat) (n most : Int) (w : World) (hd : DeckAt w b) (hn : 2 ≤ n) (hn64 : n ≤ 64) (h0 : 0 ≤ most) (h1 : most ≤ 1000) :
    Calls Tryd.prog 53 #[.pointer (some ⟨b, 0, none⟩), .int .i64 n, .int .i64 most] w (MixIn b n most w) := by
  have hbw := hd.lt
  have hn1 : 1 < n := by omega
  go_enter Tryd.func53, Tryd.ntmps53
  go_wp2_with fail
  refine (next_any b (most + 1) _ hd (by omega) (by omega)).mono ?_
  rintro e w1 ⟨K, hK0, hK1, rfl, hd1, hg1⟩
  go_wp2_with fail
  go_loopw [7, 8, 9] (fun vl vt vk wr => ∃ (l : List Ev) (t k : Int), vt = .int .i64 t ∧ vk = .int .i64 k ∧ 0 ≤ k ∧ (l.length : Int) + k = K ∧ 0 ≤ t ∧ t ≤ 5 + 2 * (l.length : Int) ∧ wr.ownsRow w.heap.size 78 encEv.k vl l.length (flatR encEv l) ∧ Hid (∀ x ∈ l, evS x = 0 ∧ x.u < n ∧ x.v < n) ∧ DeckAt wr b ∧ w.grownBy wr (some b)) (fun _ _ k _ => (intOf k).toNat)
  case atStart => exact ⟨[], 5, K, rfl, rfl, hK0, by simp, by omega, by simp, World.ownsRow_nil _ _ _ _, (show _ from fun x hx => by cases hx), hd1, hg1⟩
  case round =>
    clear hd hd1 hg1
    obtain ⟨l, t, k, rfl, rfl, hk0, hlk, ht0, ht1, hown, HA, hdk, hgr⟩ := hrel
    obtain ⟨a7, cap7, hv7⟩ := owns_shape hown
    subst hv7
    by_cases hk : 0 < k
    · go_wp2_with fail
      refine (next_any b 7 _ hdk (by omega) (by omega)).mono ?_
      rintro e w2 ⟨y, hy0, hy1, rfl, hd2, hg2⟩
      have hown2 := own_next hown hbw hg2
      have hgr2 := grown_trans hgr hg2
      clear hown hgr hdk hg2
      have v1 : IntKind.i64.wrap (t - y) = t - y := IntWalk.i64_in _ (by omega)
      go_wp2_with fail
      all_goals
        refine (event_any b n _ _ hd2 hn hn64 (by omega) (by omega)).mono ?_
        rintro e w3 ⟨x, rfl, hx0', -, -, hxu, -, hxv, hd3, hg3⟩
        have hx0 := Lib.hid (And.intro hx0' (And.intro hxu hxv))
        clear hx0' hxu hxv
        have hown3 := own_next hown2 hbw hg3
        have hgr3 := grown_trans hgr2 hg3
        have hlx := lit_ev' w3 x 78
        have hownA := hown3.alloc (.cells x.cells 78)
        clear hown2 hgr2 hd2 hg3
        unfold Ev.cells at hlx hownA ⊢
        have hd3A := hd3.alloc (.cells x.cells 78)
        have hgrA := grown_trans hgr3 (World.grownBy_alloc w3 (.cells x.cells 78) (some b))
        unfold Ev.cells at hd3A hgrA
        go_wp2_with (at_builtin; refine wpList_app_rows evRT rfl _ _ rfl w.heap.size (.slice a7 l.length cap7) _ l [x] rfl hownA rfl hlx (by simp; omega) (by simp; omega) hgrA.size ?_; intro v6 w6 hown6 hg6)
        have hblk : ∀ g, (Value.slice a7 l.length cap7).ownBlock = some g → b < g ∧ w.heap.size ≤ g := fun g e => by have := hownA.lt g e; omega
        have hd6 := hd3A.kept hg6 (fun g e => (hblk g e).1)
        have hgr6 := grown_new hgrA hg6 (fun g e => .inr (hblk g e).2)
        obtain ⟨a6, cap6, hv6⟩ := owns_shape hown6
        subst hv6
        refine (next_any b 3 _ hd6 (by omega) (by omega)).mono ?_
        rintro e w7 ⟨z, hz0, hz1, rfl, hd7, hg7⟩
        have hown7 := hown6.kept hg7 (by
          cases a6 with
          | none => exact .inl rfl
          | some p => right; intro e; have := hown6.lt p.block rfl; have := Option.some.inj e; omega)
        have hgr7 := grown_trans hgr6 hg7
        clear hown3 hownA hown6 hgrA hgr6 hd6 hg6 hg7 hd3 hgr3 hlx hd3A
        go_wp2_with fail
        go_roundw
        case rel => exact ⟨l ++ [x], t + z, k - 1, rfl, rfl, by omega, by simp; omega, by omega, by simp; omega, (by simpa using hown7), (show _ from fun x' hx' => by
          rcases List.mem_append.1 hx' with h | h
          · exact HA.out x' h
          · rw [List.mem_singleton.1 h]; exact hx0.out), hd7, hgr7⟩
        case measure => simp [intOf]; omega
    · obtain rfl : k = 0 := by omega
      obtain ⟨a1, c1, e1, hr1, p1⟩ := RowAt.of_owns hown (by omega)
      cases e1
      go_wp2_with fail
      go_ret
      exact ⟨a7, cap7, l, rfl, hr1, HA.out, by omega, hdk, hgr, p1⟩
end Go.Proofs.YtkknknehchnccaaDoor
