/- Start and Settle of any graph and plan: rounds and ref38 answer alike. Play and Finish of a world that is valid or not: rounds and ref38 answer alike. Numbers, Ready and Deliver of a world that is valid or not: rounds and ref38 answer alike. -/
import Derived.Test.YtdkmdcdoiaelfaaGreatR8Bent
import Derived.Test.YtdkmdcdoiaelfaaGreatRdDel
namespace Go.Proofs.YtdkmdcdoiaelfaaGreat
open Go.RowKit Go.BigFrame

theorem stb_no {w : World} {p : World → Prop} (h : p w) (hb : ∀ U, Below w.heap.size w U → p w → p U) : Stb (fun _ => False) w p := fun U g => hb U (g.below (fun _ h => h.elim) (Nat.le_refl _)) h
theorem start_both (n P : Int) (es : List E2) (ow hv : List Int) (hhl : hv.length ≤ 1000000) : ∃ (X : WdL) (f : Int), FewW X ∧
    (∀ (ae ao ah : Option Addr) (ce co ch : Nat) (w : World), EdgesAt w (.slice ae es.length ce) es → IntsAt w (.slice ao ow.length co) ow → IntsAt w (.slice ah hv.length ch) hv → LowV w.heap.size (.slice ao ow.length co) → Calls Tryz.prog 9 #[.agg #[.int .i64 n, .slice ae es.length ce], .agg #[.int .i64 P, .slice ao ow.length co, .slice ah hv.length ch]] w fun e w' => ∃ v, e = .returned (.tuple #[v, .int .i64 f]) ∧ WldAt w' v X ∧ Below w.heap.size w w') ∧
    (∀ (ae ao ah : Option Addr) (ce co ch : Nat) (w : World), EdgesAt w (.slice ae es.length ce) es → IntsAt w (.slice ao ow.length co) ow → IntsAt w (.slice ah hv.length ch) hv → Calls Tryz.prog 10 #[.agg #[.int .i64 n, .slice ae es.length ce], .agg #[.int .i64 P, .slice ao ow.length co, .slice ah hv.length ch]] w fun e w' => ∃ v, e = .returned (.tuple #[v, .int .i64 f]) ∧ WldAt w' v X ∧ Below w.heap.size w w') := by
  by_cases hf : fltS n es P ow hv = 0
  · obtain ⟨N, Q, o, rfl, rfl, rfl, hg, hQ, ho, hz⟩ := flt_form hf
    have hgood : GoodW N Q es o hv (staP es N Q o) := GoodW.start hg hQ ho hz hhl
    refine ⟨wdL N Q es o hv (staP es N Q o), 0, hgood.few, fun ae ao ah ce co ch w he hO hH hl => ?_, fun ae ao ah ce co ch w he hO hH => ?_⟩
    · rw [owI_length] at hO hl ⊢
      exact rdstart_any N Q es o hv ae ao ah ce co ch w hg hQ ho hz hhl he hO hH hl
    · rw [owI_length] at hO ⊢
      refine (start38_any N Q es o hv ae ao ah ce co ch (fun _ => False) w hg hQ ho hz (stb_no he fun U h1 h2 => h2.below h1) (stb_no hO fun U h1 h2 => h2.below h1) (stb_no hH fun U h1 h2 => h2.below h1) (fun _ h => h.elim)).mono ?_
      rintro e w' ⟨v, rfl, hS, hb⟩
      exact ⟨v, rfl, hS.now, hb⟩
  · refine ⟨zeroW, fltS n es P ow hv, zero_few, fun ae ao ah ce co ch w he hO hH _ => ?_, fun ae ao ah ce co ch w he hO hH => ?_⟩
    · refine (rdsta_bad n P es ow hv ae ao ah ce co ch w he hO hH hf).mono ?_
      rintro e w' ⟨rfl, hb⟩
      exact ⟨_, rfl, zero_at w', hb⟩
    · refine (r8sta_bad n P es ow hv ae ao ah ce co ch w he hO hH hf).mono ?_
      rintro e w' ⟨rfl, hb⟩
      exact ⟨_, rfl, zero_at w', hb⟩
theorem settle_both (n P k : Int) (es : List E2) (ow hv x : List Int) (hxl : x.length ≤ 1000000) : ∃ y : List Int, y.length ≤ 1000000 ∧
    (∀ (ae ao ah ax : Option Addr) (ce co ch cx : Nat) (w : World), EdgesAt w (.slice ae es.length ce) es → IntsAt w (.slice ao ow.length co) ow → IntsAt w (.slice ah hv.length ch) hv → LowV w.heap.size (.slice ao ow.length co) → IntsAt w (.slice ax x.length cx) x → Calls Tryz.prog 14 #[.agg #[.int .i64 n, .slice ae es.length ce], .agg #[.int .i64 P, .slice ao ow.length co, .slice ah hv.length ch], .int .i64 k, .slice ax x.length cx] w fun e w' => ∃ a c, e = .returned (.slice a y.length c) ∧ IntsAt w' (.slice a y.length c) y ∧ Below w.heap.size w w') ∧
    (∀ (ae ao ah ax : Option Addr) (ce co ch cx : Nat) (w : World), EdgesAt w (.slice ae es.length ce) es → IntsAt w (.slice ao ow.length co) ow → IntsAt w (.slice ah hv.length ch) hv → IntsAt w (.slice ax x.length cx) x → Calls Tryz.prog 15 #[.agg #[.int .i64 n, .slice ae es.length ce], .agg #[.int .i64 P, .slice ao ow.length co, .slice ah hv.length ch], .int .i64 k, .slice ax x.length cx] w fun e w' => ∃ a c, e = .returned (.slice a y.length c) ∧ IntsAt w' (.slice a y.length c) y ∧ Below w.heap.size w w') := by
  by_cases hf : fltS n es P ow hv = 0 ∧ 0 ≤ k ∧ k < P ∧ (x.length : Int) = n
  · obtain ⟨hf0, hk0, hkP, hxn⟩ := hf
    obtain ⟨N, Q, o, rfl, rfl, rfl, hg, hQ, ho, hz⟩ := flt_form hf0
    obtain ⟨j, rfl⟩ := Int.eq_ofNat_of_zero_le hk0
    have hxN : x.length = N := by omega
    have hjQ : j < Q := by omega
    have hyl : (setX es N o j x).length = N := by rw [(setX_dn _).1]; exact hxN
    refine ⟨setX es N o j x, by omega, fun ae ao ah ax ce co ch cx w he hO hH hl hx => ?_, fun ae ao ah ax ce co ch cx w he hO hH hx => ?_⟩
    · rw [owI_length] at hO hl ⊢
      rw [hxN] at hx ⊢
      rw [hyl]
      exact rdstl_any N j Q es o hv x ae ao ah ax ce co ch cx w hg hjQ hf0 hxN he hO hl hH hx
    · rw [owI_length] at hO ⊢
      rw [hxN] at hx ⊢
      refine (settle38_any N j Q es o hv x ae ao ah ax ce co ch cx w hg hjQ hf0 hxN he hO hH hx).mono ?_
      rintro e w' ⟨ag, cg, rfl, hown, hb⟩
      obtain ⟨a', c', e', hi, -⟩ := IntsAt.of_owns (show w'.ownsRow w.heap.size 3 1 (.slice ag N cg) (setX es N o j x).length (intsV (setX es N o j x)) by rw [hyl]; exact hown) (by omega)
      rw [hyl] at e' hi ⊢
      exact ⟨ag, cg, rfl, by rw [e']; exact hi, hb⟩
  · exact ⟨x, hxl, fun ae ao ah ax ce co ch cx w he hO hH _ hx => rdstl_bad n P es ow hv ae ao ah ce co ch ax cx x k w he hO hH hx hxl hf, fun ae ao ah ax ce co ch cx w he hO hH hx => r8stl_bad n P es ow hv ae ao ah ce co ch ax cx x k w he hO hH hx hxl hf⟩
end Go.Proofs.YtdkmdcdoiaelfaaGreat

namespace Go.Proofs.YtdkmdcdoiaelfaaGreat
open Go.RowKit Go.BigFrame

theorem stop_eq {p : Nat → Prop} {len k j : Nat} (h1 : k ≤ len) (h2 : ∀ i, i < k → ¬ p i) (h3 : k < len → p k) (g1 : j ≤ len) (g2 : ∀ i, i < j → ¬ p i) (g3 : j < len → p j) : k = j := by
  rcases Nat.lt_trichotomy k j with h | h | h
  · exact absurd (h3 (by omega)) (g2 k h)
  · exact h
  · exact absurd (g3 (by omega)) (h2 j h)
theorem stop_ex (p : Nat → Prop) : ∀ len : Nat, ∃ k, k ≤ len ∧ (∀ i, i < k → ¬ p i) ∧ (k < len → p k)
  | 0 => ⟨0, Nat.le_refl _, fun i h => by omega, fun h => by omega⟩
  | len + 1 => by
    obtain ⟨k, h1, h2, h3⟩ := stop_ex p len
    by_cases hk : k < len
    · exact ⟨k, by omega, h2, fun _ => h3 hk⟩
    · by_cases hp : p k
      · exact ⟨k, by omega, h2, fun _ => hp⟩
      · refine ⟨k + 1, by omega, fun i hi => ?_, fun h => by omega⟩
        by_cases e : i = k
        · rw [e]; exact hp
        · exact h2 i (by omega)
/-- what is asked of a world: it is not valid, or it is one of worlds of workers with few messages -/
theorem BentOk.bm {X : WdL} (h : BentOk X) : ∀ r ∈ X.bx, ∀ m ∈ r, m.length ≤ 1000000 := h.1.bm
theorem play_both (X : WdL) (hX : BentOk X) (sc : List Int) : ∃ (Y : WdL) (k : Nat) (f : Int), FewW Y ∧
    (∀ (v : Value) (aS : Option Addr) (cS : Nat) (w : World), WldAt w v X → IntsAt w (.slice aS sc.length cS) sc → Calls Tryz.prog 26 #[v, .slice aS sc.length cS] w fun e w' => ∃ v', e = .returned (.tuple #[v', .int .i64 (k : Int), .int .i64 f]) ∧ WldAt w' v' Y ∧ Below w.heap.size w w') ∧
    (∀ (v : Value) (aS : Option Addr) (cS : Nat) (w : World), WldAt w v X → IntsAt w (.slice aS sc.length cS) sc → Calls Tryz.prog 27 #[v, .slice aS sc.length cS] w fun e w' => ∃ v', e = .returned (.tuple #[v', .int .i64 (k : Int), .int .i64 f]) ∧ WldAt w' v' Y ∧ Below w.heap.size w w') := by
  obtain ⟨hF, hhl, hv | ⟨N, Q, o, V, hXe, hG, hp⟩⟩ := hX
  · refine ⟨zeroW, 0, 31, zero_few, fun v aS cS w h hs => ?_, fun v aS cS w h hs => ?_⟩
    · refine (rdply_bad X v (.slice aS sc.length cS) w h hF.bm hv).mono ?_
      rintro e w' ⟨rfl, hb⟩
      exact ⟨_, rfl, zero_at w', hb⟩
    · refine (r8ply_bad X v (.slice aS sc.length cS) w h hF.bm hv).mono ?_
      rintro e w' ⟨rfl, hb⟩
      exact ⟨_, rfl, zero_at w', hb⟩
  · obtain ⟨k, h1, h2, h3⟩ := stop_ex (fun i => rdyW Q (plyK X.es N Q o V (fun i => sc.getD i 0) i) = []) sc.length
    have hGk := hG.ply hp (fun i => sc.getD i 0) k
    refine ⟨wdL N Q X.es o X.hv (plyK X.es N Q o V (fun i => sc.getD i 0) k), k, 0, hGk.few, fun v aS cS w h hs => ?_, fun v aS cS w h hs => ?_⟩
    · rw [hXe] at h
      refine (rdplayS_any N Q X.es o X.hv V v aS cS sc w hG h hs hp).mono ?_
      rintro e w' ⟨v', j, rfl, hS, g1, g2, g3, hb⟩
      obtain rfl := stop_eq h1 h2 h3 g1 g2 g3
      exact ⟨v', rfl, hS.now, hb⟩
    · rw [hXe] at h
      refine (play38_any N Q X.es o X.hv V v aS cS sc (fun _ => False) w hG (stb_no h fun U h1 h2 => h2.below h1) (fun _ h => h.elim) hs hp).mono ?_
      rintro e w' ⟨v', j, rfl, hS, g1, g2, g3, hb⟩
      obtain rfl := stop_eq h1 h2 h3 g1 g2 g3
      exact ⟨v', rfl, hS.now, hb⟩
end Go.Proofs.YtdkmdcdoiaelfaaGreat

namespace Go.Proofs.YtdkmdcdoiaelfaaGreat
open Go.RowKit Go.BigFrame

theorem rdy_void (w w' : World) (hb : Below w.heap.size w w') : RdyPost w [] (.returned (.slice none 0 0)) w' := ⟨none, 0, rfl, RowAt.void (fun _ => rfl), hb⟩
theorem ready_both (X : WdL) (hX : BentOk X) : ∃ L : List E2, L.length ≤ 4096 ∧
    (∀ (v : Value) (w : World), WldAt w v X → Calls Tryz.prog 21 #[v] w (RdyPost w L)) ∧ (∀ (v : Value) (w : World), WldAt w v X → Calls Tryz.prog 22 #[v] w (RdyPost w L)) := by
  obtain ⟨hF, hhl, hv | ⟨N, Q, o, V, hXe, hG, hp⟩⟩ := hX
  · refine ⟨[], by simp, fun v w h => ?_, fun v w h => ?_⟩
    · refine (rdrdy_bad X v w h hF.bm hv).mono ?_
      rintro e w' ⟨rfl, hb⟩
      exact rdy_void w w' hb
    · refine (r8rdy_bad X v w h hF.bm hv).mono ?_
      rintro e w' ⟨rfl, hb⟩
      exact rdy_void w w' hb
  · refine ⟨rdyW Q V, ?_, fun v w h => ?_, fun v w h => ?_⟩
    · unfold rdyW rdyL
      have hQ := hG.hP.2
      have h2 := rdyR_len (bxL Q V) (fun r hr => by
        obtain ⟨a, ha, rfl⟩ := List.mem_map.1 hr
        rw [List.length_map, List.length_range]; omega) Q (by rw [bxL_len]; exact Nat.le_refl _)
      rw [bxL_len]; omega
    · rw [hXe] at h
      exact rdReady_any N Q X.es o X.hv V v w hG h
    · rw [hXe] at h
      exact ready38_any N Q X.es o X.hv V v w hG h
theorem numbers_both (X : WdL) (hX : BentOk X) : ∃ l : List Int, l.length ≤ 1000 ∧
    (∀ (v : Value) (w : World), WldAt w v X → Calls Tryz.prog 19 #[v] w fun e w' => ∃ a c, e = .returned (.slice a l.length c) ∧ IntsAt w' (.slice a l.length c) l ∧ Below w.heap.size w w') ∧
    (∀ (v : Value) (w : World), WldAt w v X → Calls Tryz.prog 20 #[v] w fun e w' => ∃ a c, e = .returned (.slice a l.length c) ∧ IntsAt w' (.slice a l.length c) l ∧ Below w.heap.size w w') := by
  obtain ⟨hF, hhl, hv | ⟨N, Q, o, V, hXe, hG, hp⟩⟩ := hX
  · refine ⟨[], by simp, fun v w h => ?_, fun v w h => ?_⟩
    · refine (rdnum_bad X v w h hF.bm hv).mono ?_
      rintro e w' ⟨rfl, hb⟩
      exact ⟨none, 0, rfl, ints_void w', hb⟩
    · refine (r8num_bad X v w h hF.bm hv).mono ?_
      rintro e w' ⟨rfl, hb⟩
      exact ⟨none, 0, rfl, ints_void w', hb⟩
  · have hnl : (numW N o V).length = N := fnL_length _ _
    have hn64 : N ≤ 64 := by have := hG.hg.2.1; omega
    refine ⟨numW N o V, by omega, fun v w h => ?_, fun v w h => ?_⟩
    · rw [hXe] at h
      refine (rdNumbers_any N Q X.es o X.hv V v w hG h).mono ?_
      rintro e w' ⟨g, rfl, hg, hc, hb⟩
      have h1 := ownsI_blk (lo := w.heap.size) hc hg (by omega)
      obtain ⟨a', c', e', hi, -⟩ := IntsAt.of_owns h1 (by omega)
      refine ⟨some ⟨g, 0, none⟩, (numW N o V).length, by rw [hnl], ?_, hb⟩
      rw [e']; exact hi
    · rw [hXe] at h
      exact num38w_any N Q X.es o X.hv V v w hG h
theorem deliver_both (X : WdL) (hX : BentOk X) (i j : Int) : ∃ (Y : WdL) (f : Int), FewW Y ∧
    (∀ (v : Value) (w : World), WldAt w v X → Calls Tryz.prog 24 #[v, .int .i64 i, .int .i64 j] w fun e w' => ∃ v', e = .returned (.tuple #[v', .int .i64 f]) ∧ WldAt w' v' Y ∧ Below w.heap.size w w') ∧
    (∀ (v : Value) (w : World), WldAt w v X → Calls Tryz.prog 25 #[v, .int .i64 i, .int .i64 j] w fun e w' => ∃ v', e = .returned (.tuple #[v', .int .i64 f]) ∧ WldAt w' v' Y ∧ Below w.heap.size w w') := by
  obtain ⟨hF, hhl, hv | ⟨N, Q, o, V, hXe, hG, hp⟩⟩ := hX
  · refine ⟨zeroW, 31, zero_few, fun v w h => ?_, fun v w h => ?_⟩
    · refine (rddel_bad X v i j w h hF.bm hv).mono ?_
      rintro e w' ⟨rfl, hb⟩
      exact ⟨_, rfl, zero_at w', hb⟩
    · refine (r8del_bad X v i j w h hF.bm hv).mono ?_
      rintro e w' ⟨rfl, hb⟩
      exact ⟨_, rfl, zero_at w', hb⟩
  by_cases hr : 0 ≤ i ∧ i < Q ∧ 0 ≤ j ∧ j < Q
  · obtain ⟨a, rfl⟩ := Int.eq_ofNat_of_zero_le hr.1
    obtain ⟨b, rfl⟩ := Int.eq_ofNat_of_zero_le hr.2.2.1
    have ha : a < Q := by omega
    have hb : b < Q := by omega
    cases hbx : V.bx a b with
    | nil =>
      refine ⟨zeroW, 32, zero_few, fun v w h => ?_, fun v w h => ?_⟩
      · rw [hXe] at h
        refine (rddel_void N Q a b X.es o X.hv V v w hG h ha hb hbx).mono ?_
        rintro e w' ⟨rfl, hb⟩
        exact ⟨_, rfl, zero_at w', hb⟩
      · rw [hXe] at h
        refine (r8del_void N Q a b X.es o X.hv V v w hG h ha hb hbx).mono ?_
        rintro e w' ⟨rfl, hb⟩
        exact ⟨_, rfl, zero_at w', hb⟩
    | cons m r =>
      have hpd := dlv_potV (es := X.es) hG.how hG.vld ha hb hbx
      have hG2 : GoodW N Q X.es o X.hv (dlvP X.es N Q o V a b) := ⟨hG.hg, hG.hP, hG.how, hG.hh, hG.hhl, dlv_vld hG.how hG.vld ha hb hbx, fun x y hx hy => by
        have := bx_pot (n := N) (ow := o) (W := dlvP X.es N Q o V a b) hx hy
        omega⟩
      refine ⟨wdL N Q X.es o X.hv (dlvP X.es N Q o V a b), 0, hG2.few, fun v w h => ?_, fun v w h => ?_⟩
      · rw [hXe] at h
        refine (rddelS_any N Q X.es o X.hv V a b m r v w hG h ha hb hbx hp).mono ?_
        rintro e w' ⟨v', rfl, hS, hb⟩
        exact ⟨v', rfl, hS.now, hb⟩
      · rw [hXe] at h
        refine (del38_any N Q a b X.es o X.hv V m r v (fun _ => False) w hG (stb_no h fun U h1 h2 => h2.below h1) (fun _ h => h.elim) ha hb hbx (fun x y hx hy => by
          have := bx_pot (n := N) (ow := o) (W := V) hx hy
          omega)).mono ?_
        rintro e w' ⟨v', rfl, hS, hb⟩
        exact ⟨v', rfl, hS.now, hb⟩
  · refine ⟨zeroW, 1, zero_few, fun v w h => ?_, fun v w h => ?_⟩
    · rw [hXe] at h
      refine (rddel_rng N Q X.es o X.hv V v i j w hG h hr).mono ?_
      rintro e w' ⟨rfl, hb⟩
      exact ⟨_, rfl, zero_at w', hb⟩
    · rw [hXe] at h
      refine (r8del_rng N Q X.es o X.hv V v i j w hG h hr).mono ?_
      rintro e w' ⟨rfl, hb⟩
      exact ⟨_, rfl, zero_at w', hb⟩
end Go.Proofs.YtdkmdcdoiaelfaaGreat
