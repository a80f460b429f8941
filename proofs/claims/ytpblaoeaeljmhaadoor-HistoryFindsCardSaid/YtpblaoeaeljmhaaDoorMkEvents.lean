/- The contract of made events whose times do not descend. -/
import Derived.Test.YtpblaoeaeljmhaaDoorMkEvent
import Derived.Test.YtpblaoeaeljmhaaDoorEvSlices
import Derived.Test.YtpblaoeaeljmhaaDoorAppAt
namespace Go.Proofs.YtpblaoeaeljmhaaDoor
open Go.RowKit Go.BigFrame

theorem own_next {W W' : World} {base T k n m b cap : Nat} {a : Option Addr} {xs : List Value} (ho : W.ownsRow base T k (.slice a m cap) n xs) (hb : b < base) (hg : W.grownBy W' (some b)) : W'.ownsRow base T k (.slice a m cap) n xs :=
  ho.kept hg (by
    cases a with
    | none => exact .inl rfl
    | some p => right; intro e; have := ho.lt p.block rfl; have := Option.some.inj e; omega)
theorem lit_ev' (w : World) (e : Ev) (T : Nat) : RowAt encEv (w.alloc (.cells e.cells T)) (.slice (some ⟨w.heap.size, 0, none⟩) 1 1) [e] := rows_lit1 w e T _ rfl
/-- events of n nodes whose times do not descend -/
structure EvsOk (n : Int) (l : List Ev) (t : Int) : Prop where
  ok : ∀ x ∈ l, evS x = 0 ∧ 0 ≤ x.u ∧ x.u < n ∧ 0 ≤ x.v ∧ x.v < n ∧ 0 ≤ x.time ∧ x.time ≤ t
  up : l.Pairwise (fun a b => a.time ≤ b.time)
theorem EvsOk.snoc {n : Int} {l : List Ev} {t z : Int} {x : Ev} (h : EvsOk n l t) (h1 : evS x = 0) (ht : x.time = t) (h2 : 0 ≤ x.u) (h3 : x.u < n) (h4 : 0 ≤ x.v) (h5 : x.v < n) (hz : 0 ≤ z) (h0 : 0 ≤ t) : EvsOk n (l ++ [x]) (t + z) := by
  refine ⟨fun y hy => ?_, ?_⟩
  · rcases List.mem_append.1 hy with hy | hy
    · obtain ⟨a, b, c, d, e, f, g⟩ := h.ok y hy
      exact ⟨a, b, c, d, e, f, by omega⟩
    · rw [List.mem_singleton.1 hy]
      exact ⟨h1, h2, h3, h4, h5, by omega, by omega⟩
  · rw [List.pairwise_append]
    refine ⟨h.up, List.pairwise_singleton _ _, fun a ha b hb => ?_⟩
    rw [List.mem_singleton.1 hb, ht]
    exact (h.ok a ha).2.2.2.2.2.2
def EvsPost (b : Nat) (n most : Int) (w : World) (e : Ending) (w' : World) : Prop := ∃ a cap l, e = .returned (.slice a l.length cap) ∧ RowAt encEv w' (.slice a l.length cap) l ∧ EvsOk n l (3 + 3 * most) ∧ (l.length : Int) ≤ most ∧ DeckAt w' b ∧ w.grownBy w' (some b) ∧ ∀ p, a = some p → w.heap.size ≤ p.block
set_option maxRecDepth 100000 in
set_option maxHeartbeats 3200000 in
theorem events_any (b : Nat) (n most : Int) (w : World) (hd : DeckAt w b) (hn : 2 ≤ n) (hn64 : n ≤ 64) (h0 : 0 ≤ most) (h1 : most ≤ 1000) :
    Calls Tryd.prog 7 #[.pointer (some ⟨b, 0, none⟩), .int .i64 n, .int .i64 most] w (EvsPost b n most w) := by
  have hbw := hd.lt
  have hn1 : 1 < n := by omega
  go_enter Tryd.func7, Tryd.ntmps7
  go_wp2_with fail
  refine (next_any b 4 _ hd (by omega) (by omega)).mono ?_
  rintro e w0 ⟨T, hT0, hT1, rfl, hd0, hg0⟩
  go_wp2_with fail
  refine (next_any b (most + 1) _ hd0 (by omega) (by omega)).mono ?_
  rintro e w1 ⟨K, hK0, hK1, rfl, hd1, hg1'⟩
  have hg1 := grown_trans hg0 hg1'
  go_wp2_with fail
  go_loopw [7, 8, 9] (fun vl vt vk wr => ∃ (l : List Ev) (t k : Int), vt = .int .i64 t ∧ vk = .int .i64 k ∧ 0 ≤ k ∧ (l.length : Int) + k = K ∧ 0 ≤ t ∧ t ≤ 3 + 3 * (l.length : Int) ∧ wr.ownsRow w.heap.size 41 encEv.k vl l.length (flatR encEv l) ∧ Hid (EvsOk n l t) ∧ DeckAt wr b ∧ w.grownBy wr (some b)) (fun _ _ k _ => (intOf k).toNat)
  case atStart => exact ⟨[], T, K, rfl, rfl, hK0, by simp, by omega, by simp; omega, World.ownsRow_nil _ _ _ _, (show EvsOk _ _ _ from ⟨by simp, List.Pairwise.nil⟩), hd1, hg1⟩
  case round =>
    clear hd hd1 hg1 hd0 hg0 hg1'
    obtain ⟨l, t, k, rfl, rfl, hk0, hlk, ht0, ht1, hown, HA, hdk, hgr⟩ := hrel
    obtain ⟨a7, cap7, hv7⟩ := owns_shape hown
    subst hv7
    by_cases hk : 0 < k
    · go_wp2_with fail
      refine (event_any b n _ _ hdk hn hn64 (by omega) (by omega)).mono ?_
      rintro e w3 ⟨x, rfl, hx0, hxt, hxu, hxu2, hxv, hxv2, hd3, hg3⟩
      have hown3 := own_next hown hbw hg3
      have hgr3 := grown_trans hgr hg3
      have hlx := lit_ev' w3 x 41
      have hownA := hown3.alloc (.cells x.cells 41)
      have HX := Lib.hid (⟨hx0, hxt, hxu, hxu2, hxv, hxv2⟩ : _ ∧ _ ∧ _ ∧ _ ∧ _ ∧ _)
      clear hown hgr hdk hg3 hx0 hxt hxu hxu2 hxv hxv2
      unfold Ev.cells at hlx hownA ⊢
      have hd3A := hd3.alloc (.cells x.cells 41)
      have hgrA := grown_trans hgr3 (World.grownBy_alloc w3 (.cells x.cells 41) (some b))
      unfold Ev.cells at hd3A hgrA
      go_wp2_with (at_builtin; refine wpList_app_rows evRT rfl _ _ rfl w.heap.size (.slice a7 l.length cap7) _ l [x] rfl hownA rfl hlx (by simp; omega) (by simp; omega) hgrA.size ?_; intro v6 w6 hown6 hg6)
      have hblk : ∀ g, (Value.slice a7 l.length cap7).ownBlock = some g → b < g ∧ w.heap.size ≤ g := fun g e => by have := hownA.lt g e; omega
      have hd6 := hd3A.kept hg6 (fun g e => (hblk g e).1)
      have hgr6 := grown_new hgrA hg6 (fun g e => .inr (hblk g e).2)
      obtain ⟨a6, cap6, hv6⟩ := owns_shape hown6
      subst hv6
      refine (next_any b 4 _ hd6 (by omega) (by omega)).mono ?_
      rintro e w7 ⟨z, hz0, hz1, rfl, hd7, hg7⟩
      have hown7 := hown6.kept hg7 (by
        cases a6 with
        | none => exact .inl rfl
        | some p => right; intro e; have := hown6.lt p.block rfl; have := Option.some.inj e; omega)
      have hgr7 := grown_trans hgr6 hg7
      clear hown3 hownA hown6 hgrA hgr6 hd6 hg6 hg7 hd3 hgr3 hlx hd3A
      go_wp2_with fail
      go_roundw
      case rel =>
        obtain ⟨hx0, hxt, hxu, hxu2, hxv, hxv2⟩ := HX.out
        exact ⟨l ++ [x], t + z, k - 1, rfl, rfl, by omega, by simp; omega, by omega, by simp; omega, (by simpa using hown7), (show EvsOk _ _ _ from HA.out.snoc hx0 hxt hxu hxu2 hxv hxv2 hz0 ht0), hd7, hgr7⟩
      case measure => simp [intOf]; omega
    · obtain rfl : k = 0 := by omega
      obtain ⟨a1, c1, e1, hr1, p1⟩ := RowAt.of_owns hown (by omega)
      cases e1
      go_wp2_with fail
      go_ret
      refine ⟨a7, cap7, l, rfl, hr1, ⟨fun x hx => ?_, HA.out.up⟩, by omega, hdk, hgr, p1⟩
      obtain ⟨h1, h2, h3, h4, h5, h6, h7⟩ := HA.out.ok x hx
      exact ⟨h1, h2, h3, h4, h5, h6, by omega⟩
end Go.Proofs.YtpblaoeaeljmhaaDoor
