/- The contract of the maker of orders. -/
import Derived.Test.YtekbpoppajbljaaDoorMk
import Derived.Test.YtekbpoppajbljaaDoorRef02
namespace Go.Proofs.YtekbpoppajbljaaDoor
open Go.RowKit Go.BigFrame

def natI (l : List Nat) : List Int := l.map fun (n : Nat) => (n : Int)
theorem natI_length (l : List Nat) : (natI l).length = l.length := by simp [natI]
theorem natI_append (a b : List Nat) : natI (a ++ b) = natI a ++ natI b := by simp [natI]
theorem natI_take (l : List Nat) (k : Nat) : natI (l.take k) = (natI l).take k := by simp [natI]
theorem natI_drop (l : List Nat) (k : Nat) : natI (l.drop k) = (natI l).drop k := by simp [natI]
theorem owns_take {w : World} {base T : Nat} {a : Option Addr} {n cap : Nat} {xs : List Int} (h : w.ownsRow base T 1 (.slice a n cap) n (intsV xs)) (k : Nat) (hk : k ≤ n) : w.ownsRow base T 1 (.slice a k cap) k (intsV (xs.take k)) := by
  have hl : xs.length = n := by have := h.1; simpa [intsV] using this
  refine ⟨by simp [intsV]; omega, ?_⟩
  rcases h.2 with ⟨hv, h0⟩ | ⟨g, c, cur, hv, hb, hg, hn, hc, hs, ht⟩
  · obtain rfl : k = 0 := by omega
    exact .inl ⟨by simp at hv; simp [hv], rfl⟩
  · refine .inr ⟨g, c, cur, ?_, hb, hg, by omega, hc, hs, ?_⟩
    · simp at hv ⊢; exact hv
    · have : cur.toList.take (k * 1) = (cur.toList.take (n * 1)).take k := by rw [List.take_take]; congr 1; omega
      rw [this, ht]
      simp [intsV]
theorem owns_one (w : World) (base : Nat) (y : Int) (T : Nat) (hb : base ≤ w.heap.size) : (w.alloc (.cells #[.int .i64 y] T)).ownsRow base T 1 (.slice (some ⟨w.heap.size, 0, none⟩) 1 1) 1 (intsV [y]) :=
  ⟨rfl, .inr ⟨w.heap.size, 1, #[.int .i64 y], rfl, hb, heap_alloc_new _ _, Nat.le_refl _, by unfold maxLen; omega, rfl, rfl⟩⟩

theorem IntsAt.caps {w : World} {a : Option Addr} {n cap : Nat} {es : List Int} (h : IntsAt w (.slice a n cap) es) : n ≤ cap ∧ (a = none → cap = 0) := by
  obtain ⟨a', cap', hv, h1, h2, _⟩ := h
  obtain ⟨rfl, rfl, rfl⟩ : a = a' ∧ n = es.length ∧ cap = cap' := by simpa using hv
  exact ⟨h1, h2⟩
theorem grown_drew {w w' : World} {r : Option Nat} (h : w.drew.grownBy w' r) : w.grownBy w' r := ⟨h.os, h.tape, h.output, h.size, h.block⟩
def OrderPost (b n : Nat) (w : World) (e : Ending) (w' : World) : Prop :=
  ∃ (l : List Nat) (a : Option Addr) (cap : Nat), e = .returned (.slice a n cap) ∧ l.Perm (List.range n) ∧ IntsAt w' (.slice a n cap) (natI l) ∧ DeckAt w' b ∧ w.grownBy w' (some b) ∧ ∀ p, a = some p → w.heap.size ≤ p.block

set_option maxRecDepth 100000 in
set_option maxHeartbeats 1600000 in
theorem mkorder_any (b n : Nat) (w : World) (hd : DeckAt w b) (hn : n ≤ 5000) :
    Calls Tryd.prog 20 #[.pointer (some ⟨b, 0, none⟩), .int .i64 n] w (OrderPost b n w) := by
  have hbw := hd.lt
  go_enter Tryd.func20, Tryd.ntmps20
  go_wp2_with fail
  go_loopw [5, 6] (fun s i wr => ∃ (v : Nat) (l : List Nat), i = .int .i64 v ∧ v ≤ n ∧ l.Perm (List.range v) ∧ wr.ownsRow w.heap.size 3 1 s v (intsV (natI l)) ∧ DeckAt wr b ∧ w.grownBy wr (some b)) (fun _ i _ => n - (intOf i).toNat)
  case atStart => exact ⟨0, [], rfl, Nat.zero_le _, List.Perm.refl _, World.ownsRow_nil _ _ _ _, hd, grown_refl _ _⟩
  case round =>
    obtain ⟨v, l, rfl, hvn, hperm, hown, hdk, hgr⟩ := hrel
    have hll : l.length = v := by rw [hperm.length_eq]; simp
    by_cases hlt : v < n
    · go_wp2_with fail
      refine (next_any b _ _ hdk (by omega) (by omega)).mono ?_
      rintro e w2 ⟨x, hx0, hx1, rfl, hd2, hg2⟩
      obtain ⟨i, rfl⟩ := Int.eq_ofNat_of_zero_le hx0
      have hiv : i ≤ v := by omega
      have hown2 := hown.kept hg2 (by
        cases hs : u5.ownBlock with
        | none => exact .inl rfl
        | some k => have := hown.lt k hs; exact .inr (by simp; omega))
      have hgr2 := grown_trans hgr hg2
      obtain ⟨a, cap, rfl⟩ := owns_shape hown2
      have HP : Hid ((l.take i ++ v :: l.drop i).Perm (List.range (v + 1))) := by
        show List.Perm _ _
        rw [List.range_succ]
        refine List.perm_middle.trans ?_
        rw [List.take_append_drop]
        exact (List.Perm.cons v hperm).trans (List.perm_append_comm (l₁ := [v]))
      have HLL := Lib.hid hll
      clear hg2 hown hdk hgr hperm hll hd
      have hb2 : Below w.heap.size w2 w2.drew := (Below.refl _ _).drew
      have hz2 : w.heap.size ≤ w2.heap.size := hgr2.size
      obtain ⟨a', cap', hva, hia, hoa⟩ := IntsAt.of_owns (xs := natI l) (T := 3) (base := w.heap.size) (by rw [natI_length, HLL.out]; exact hown2) (by rw [natI_length, HLL.out]; omega)
      obtain ⟨rfl, hvl, rfl⟩ : a = a' ∧ v = (natI l).length ∧ cap = cap' := by simpa using hva
      clear hva hvl
      have hic : i ≤ cap := by have h := (IntsAt.caps hia).1; rw [natI_length, HLL.out] at h; omega
      have hcl : v ≤ cap := by have h := (IntsAt.caps hia).1; rw [natI_length, HLL.out] at h; exact h
      have hnone := (IntsAt.caps hia).2
      rw [natI_length, HLL.out] at hia
      have hown3 := owns_take hown2 i hiv
      by_cases hil : i < v
      · have hck : ¬ cap = i := by omega
        obtain ⟨g0, off0, hag⟩ : ∃ g0 off0, a = some ⟨g0, off0, none⟩ := by
          cases a with
          | none => have := hnone rfl; omega
          | some p =>
            rcases hown2.2 with ⟨hv, h0⟩ | ⟨g, c, cur, hv, _⟩
            · cases hv
            · cases hv; exact ⟨g, 0, rfl⟩
        subst hag
        have hdrop : IntsAt w2 (.slice (some ⟨g0, off0 + i, none⟩) (v - i) (cap - i)) ((natI l).drop i) := by
          have h := IntsAt.drop (xs := natI l) (k := i) (by rw [natI_length, HLL.out]; exact hia) (by rw [natI_length, HLL.out]; exact hil)
          rw [natI_length, HLL.out] at h; exact h
        go_wp2_with fail
        have hlt3 : ((natI l).take i).length = i := by simp [natI_length, HLL.out]; omega
        have hown4 : w2.ownsRow w.heap.size 3 1 (.slice (some ⟨g0, off0, none⟩) i cap) ((natI l).take i).length (intsV ((natI l).take i)) := by rw [hlt3]; exact hown3
        have hg0 := hown3.lt g0 rfl
        have HLT := Lib.hid hlt3
        have hdr : ((natI l).drop i).length = v - i := by simp [natI_length, HLL.out]
        have HDR := Lib.hid hdr
        clear hlt3 hown2 hown3 hdr hia hoa
        go_region_law (first
          | (refine step_app_ints intsT rfl (.tmp 21) (.tmp 24) rfl w2.heap.size _ _ [(v : Int)] ((natI l).drop i) rfl (by exact owns_one _ _ _ _ (Nat.le_refl _)) rfl (by exact hdrop.below ((Below.refl _ _).alloc (Nat.le_refl _) _).drew) (by rw [HDR.out]; simp; omega) (by simp) ?_; intro v7 w7 hown7 hg7; have hg7' := grown_drew hg7; have hown5 := (hown4.alloc _).kept hg7' (.inr (by intro e; have h : g0 = w2.heap.size := Option.some.inj e; omega)); have hd7 := (hd2.alloc _).kept hg7' (fun g e => by have h : w2.heap.size = g := Option.some.inj e; omega); have hgr7 := grown_new (grown_trans hgr2 (World.grownBy_alloc w2 _ (some b))) hg7' (fun g e => .inr (by have h : w2.heap.size = g := Option.some.inj e; omega)); obtain ⟨a7, cap7, hv7, he7, ha7⟩ := IntsAt.of_owns hown7 (by rw [List.length_append, HDR.out]; simp; omega); subst hv7; simp only [List.singleton_append, List.length_cons, List.length_drop] at he7)
          | (refine step_app_ints intsT rfl (.tmp 19) (.tmp 25) rfl w.heap.size _ _ ((natI l).take i) ((v : Int) :: (natI l).drop i) rfl (by exact hown5) rfl (by exact he7) (by rw [List.length_cons, HDR.out, HLT.out]; omega) (by exact hgr7.size) ?_; intro v8 w8 hown8 hg8; have hd8 := hd7.kept hg8 (fun g e => by have h : g0 = g := Option.some.inj e; omega); have hgr8 := grown_new hgr7 hg8 (fun g e => .inr (by have h : g0 = g := Option.some.inj e; omega))))
        have hlen8 : ((natI l).take i ++ ((v : Int) :: (natI l).drop i)).length = v + 1 := by rw [List.length_append, List.length_cons, HDR.out, HLT.out]; omega
        have e8 : natI (l.take i ++ v :: l.drop i) = (natI l).take i ++ ((v : Int) :: (natI l).drop i) := by simp [natI]
        rw [hlen8, ← e8] at hown8
        clear hlen8 e8
        go_wp2_with fail
        go_roundw
        case rel => exact ⟨v + 1, _, by go_num, by omega, HP.out, hown8, hd8, hgr8⟩
        case measure => simp [intOf]; omega
      · obtain rfl : i = v := by omega
        have hnil : (if cap = i then a else Option.map (fun x => x.add i) a) = none → cap - i = 0 := by
          intro e
          split at e
          · omega
          · have := hnone (by simpa using e); omega
        have hown4 : w2.ownsRow w.heap.size 3 1 (.slice a i cap) (natI l).length (intsV (natI l)) := by rw [natI_length, HLL.out]; exact hown2
        have hlt := hown4.lt
        have hlen : (natI l).length = i := by rw [natI_length, HLL.out]
        have HLE := Lib.hid hlen
        have e8 : natI (l.take i ++ i :: l.drop i) = natI l ++ [(i : Int)] := by rw [List.take_of_length_le (by rw [HLL.out]; omega), List.drop_of_length_le (by rw [HLL.out]; omega)]; simp [natI]
        have E8 := Lib.hid e8
        clear hown2 hown3 hia hoa hlen e8
        go_wp2_with fail
        go_region_law (first
          | (refine step_app_ints intsT rfl (.tmp 21) (.tmp 24) rfl w2.heap.size _ _ [(i : Int)] [] rfl (by exact owns_one _ _ _ _ (Nat.le_refl _)) rfl (by exact IntsAt.empty _ _ hnil) (by simp) (by simp) ?_; intro v7 w7 hown7 hg7; have hg7' := grown_drew hg7; have hown5 := (hown4.alloc _).kept hg7' (.inr (by intro e; have h := hlt _ e; have h2 : (Value.slice (some ⟨w2.heap.size, 0, none⟩) 1 1).ownBlock = some w2.heap.size := rfl; have h3 := hlt _ (e.trans h2); omega)); have hd7 := (hd2.alloc _).kept hg7' (fun g e => by have h : w2.heap.size = g := Option.some.inj e; omega); have hgr7 := grown_new (grown_trans hgr2 (World.grownBy_alloc w2 _ (some b))) hg7' (fun g e => .inr (by have h : w2.heap.size = g := Option.some.inj e; omega)); obtain ⟨a7, cap7, hv7, he7, ha7⟩ := IntsAt.of_owns hown7 (by simp); subst hv7; simp only [List.append_nil, List.length_cons, List.length_nil] at he7)
          | (refine step_app_ints intsT rfl (.tmp 19) (.tmp 25) rfl w.heap.size _ _ (natI l) [(i : Int)] rfl (by exact hown5) rfl (by exact he7) (by rw [HLE.out]; simp; omega) (by exact hgr7.size) ?_; intro v8 w8 hown8 hg8; have hd8 := hd7.kept hg8 (fun g e => by have h := hlt g e; omega); have hgr8 := grown_new hgr7 hg8 (fun g e => .inr (hlt g e).1)))
        all_goals
          have hlen8 : (natI l ++ [(i : Int)]).length = i + 1 := by rw [List.length_append, HLE.out]; rfl
          rw [hlen8, ← E8.out] at hown8
          clear hlen8
          go_wp2_with fail
          go_roundw
          case rel => exact ⟨i + 1, _, by go_num, by omega, HP.out, hown8, hd8, hgr8⟩
          case measure => simp [intOf]; omega
    · obtain rfl : v = n := by omega
      obtain ⟨a, cap, hv, hi, ho⟩ := IntsAt.of_owns (xs := natI l) (T := 3) (base := w.heap.size) (by rw [natI_length, hll]; exact hown) (by rw [natI_length]; omega)
      subst hv
      rw [natI_length, hll] at hi
      go_wp2_with fail
      go_ret
      rw [natI_length, hll]
      exact ⟨l, a, cap, rfl, hperm, hi, hdk, hgr, ho⟩
end Go.Proofs.YtekbpoppajbljaaDoor
