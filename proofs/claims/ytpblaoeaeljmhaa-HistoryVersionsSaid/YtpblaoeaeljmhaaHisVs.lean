/- The walk of the law HistoryVersions. -/
import Derived.Test.YtpblaoeaeljmhaaRefHis
import Derived.Test.YtpblaoeaeljmhaaHisAt
import Derived.Test.YtpblaoeaeljmhaaHisAwake
import Derived.Test.YtpblaoeaeljmhaaLkSame
import Derived.Test.YtpblaoeaeljmhaaLkChg
import Derived.Test.YtpblaoeaeljmhaaSameI
namespace Go.Proofs.Ytpblaoeaeljmhaa
open Go.RowKit Go.BigFrame

/-- what lies while the histories are looked at: the deck, the three rows, and their box -/
structure VsW (w0 : World) (b B : Nat) (ra ae aj : Option Addr) (rc ce cj : Nat) (rs es js : List Ev) (W : World) : Prop where
  d : DeckAt W b
  x : W.heap[B]? = some (.cells #[.slice ae es.length ce, .slice ra rs.length rc, .slice aj js.length cj] 26 (0, 0))
  r : RowAt encEv W (.slice ra rs.length rc) rs
  e : RowAt encEv W (.slice ae es.length ce) es
  j : RowAt encEv W (.slice aj js.length cj) js
  be : Below w0.heap.size w0 W
  b0 : w0.heap.size ≤ b
  lt : b < B
section
variable {w0 W W' : World} {b B : Nat} {ra ae aj : Option Addr} {rc ce cj : Nat} {rs es js : List Ev}
theorem VsW.below (h : VsW w0 b B ra ae aj rc ce cj rs es js W) (hb : Below W.heap.size W W') : VsW w0 b B ra ae aj rc ce cj rs es js W' :=
  ⟨h.d.below hb, lk_next hb h.x, h.r.below hb, h.e.below hb, h.j.below hb, h.be.trans (hb.mono h.be.size), h.b0, h.lt⟩
theorem VsW.next (h : VsW w0 b B ra ae aj rc ce cj rs es js W) (hd : DeckAt W' b) (hg : W.grownBy W' (some b)) : VsW w0 b B ra ae aj rc ce cj rs es js W' :=
  ⟨hd, grown_blk hg h.x (by intro e; have := Option.some.inj e; have := h.lt; omega), h.r.grown' hg (fun g e hn => by cases e; exact off_deck (by decide) h.r h.d hn), h.e.grown' hg (fun g e hn => by cases e; exact off_deck (by decide) h.e h.d hn), h.j.grown' hg (fun g e hn => by cases e; exact off_deck (by decide) h.j h.d hn), h.be.grown hg h.be.size (fun g e => by cases e; exact h.b0), h.b0, h.lt⟩
theorem VsW.blk (h : VsW w0 b B ra ae aj rc ce cj rs es js W) : b < W.heap.size := h.d.lt
end
theorem blk3 {w : World} {g T : Nat} {x y z : Value} (h : w.heap[g]? = some (.cells #[x, y, z] T (0, 0))) (q : Nat) (hq : q < 3) : ∃ u, w.cell? ⟨g, q, none⟩ = some u ∧ (u = x ∨ u = y ∨ u = z) := by
  rcases (by omega : q = 0 ∨ q = 1 ∨ q = 2) with rfl | rfl | rfl
  · exact ⟨x, cell_blk (j := 0) h, .inl rfl⟩
  · exact ⟨y, cell_blk (j := 1) h, .inr (.inl rfl)⟩
  · exact ⟨z, cell_blk (j := 2) h, .inr (.inr rfl)⟩
theorem VsW.pick {w0 W : World} {b B : Nat} {ra ae aj : Option Addr} {rc ce cj : Nat} {rs es js : List Ev} (h : VsW w0 b B ra ae aj rc ce cj rs es js W) (q : Nat) (hq : q < 3) : ∃ (xs : List Ev) (a : Option Addr) (c : Nat), W.cell? ⟨B, q, none⟩ = some (.slice a xs.length c) ∧ RowAt encEv W (.slice a xs.length c) xs := by
  rcases (by omega : q = 0 ∨ q = 1 ∨ q = 2) with rfl | rfl | rfl
  · exact ⟨_, _, _, cell_blk (j := 0) h.x, h.e⟩
  · exact ⟨_, _, _, cell_blk (j := 1) h.x, h.r⟩
  · exact ⟨_, _, _, cell_blk (j := 2) h.x, h.j⟩
set_option maxRecDepth 100000 in
set_option maxHeartbeats 6400000 in
theorem versions_law (ra : Option Addr) (rlen rcap : Nat) (rs : List Ev) (a : Option Addr) (len cap : Nat) (nodes time : Int) (w : World) (hl : ListAt w a len) (hr : rlen ≤ 60 → rs.length = rlen ∧ RowAt encEv w (.slice ra rs.length rcap) rs) :
    Calls Try.prog 4 #[.slice ra rlen rcap, .slice a len cap, .int .i64 nodes, .int .i64 time] w fun e w' => e = .returned (.bool true) ∧ Below w.heap.size w w' := by
  by_cases hlen : rlen ≤ 60
  case neg =>
    have d1 : decide ((rlen : Int) > 60) = true := decide_eq_true (by omega)
    have d2 : decide (rlen > 60) = true := decide_eq_true (by omega)
    have d3 : (60 : Int) < rlen := by omega
    go_enter Try.func4, Try.ntmps4
    go_wp2_with fail
    refine (hawake_any _).mono ?_
    rintro e w4 ⟨rfl, hb4⟩
    go_wp2_with fail
    go_ret
    exact ⟨rfl, hb4⟩
  obtain ⟨rfl, hr0⟩ := hr hlen
  have d1 : decide ((rs.length : Int) > 60) = false := decide_eq_false (by omega)
  have d3 : ¬ (60 : Int) < rs.length := by omega
  have hdk := deck_new (cap := cap) hl
  have bD := (Below.refl _ w).alloc (Nat.le_refl _) (.cells #[.slice a len cap, .int .i64 0] 65)
  have hr1 := hr0.below bD
  clear hr hr0 hl
  go_enter Try.func4, Try.ntmps4
  go_wp2_with (go_at_call 7; refine (new_any _ _ _ _).mono ?_; rintro e w' ⟨rfl, rfl⟩)
  refine (next_any w.heap.size 5 _ hdk (by omega) (by omega)).mono ?_
  rintro _ w2 ⟨y, hy0, hy1, rfl, hd2, hg2⟩
  have hb2 := bD.grown hg2 bD.size (fun g e => by cases e; exact Nat.le_refl _)
  have hr2 := hr1.grown' hg2 (fun g e hn => by cases e; exact off_deck (by decide) hr1 hdk hn)
  have v1 : IntKind.i64.wrap (2 + y) = 2 + y := IntWalk.i64_in _ (by omega)
  clear hdk bD hg2 hr1
  go_wp2_with fail
  obtain ⟨n, hn⟩ : ∃ n, 2 + y = n := ⟨_, rfl⟩
  have hn2 : 2 ≤ n := by omega
  have hn5 : n ≤ 6 := by omega
  rw [hn]
  clear hn v1 hy0 hy1
  refine (events_any w.heap.size n 12 _ hd2 hn2 (by omega) (by omega) (by omega)).mono ?_
  rintro _ w3 ⟨ae, ce, es, rfl, hes3, -, hlen3, hd3, hg3, -⟩
  have hb3 := hb2.grown hg3 hb2.size (fun g e => by cases e; exact Nat.le_refl _)
  have hr3 := hr2.grown' hg3 (fun g e hn => by cases e; exact off_deck (by decide) hr2 hd2 hn)
  clear hd2 hg3 hb2 hr2
  go_wp2_with (first
    | (at_builtin; refine wpList_app_rows evRT rfl _ _ rfl w3.heap.size _ _ [] es rfl (World.ownsRow_nil _ _ _ _) rfl hes3 (by simp; omega) (by simp; omega) (Nat.le_refl _) ?_; intro v6 w6 hown6 hg6; have hb6 : Below w3.heap.size w3 w6 := below_of_grown hg6; have hr6 := hr3.below hb6; clear hg6; obtain ⟨a6, c6, rfl⟩ := owns_shape hown6)
    | (at_builtin; refine wpList_app_rows evRT rfl _ _ rfl w3.heap.size _ _ ([] ++ es) rs rfl (by assumption) rfl (by assumption) (by simp; omega) (by simp; omega) (Below.size (by assumption)) ?_; intro v7 w7 hown7 hg7; have hb7 := (by assumption : Below w3.heap.size w3 w6).grown hg7 (Below.size (by assumption)) (fun g e => (hown6.lt g e).1); clear hr6 hg7 hown6; obtain ⟨js, hjs⟩ : ∃ l, [] ++ es ++ rs = l := ⟨_, rfl⟩; rw [hjs] at hown7; obtain ⟨a7, c7, rfl⟩ := owns_shape hown7; have hjl : js.length ≤ 72 := (by rw [← hjs]; simp; omega); clear hjs))
  obtain ⟨_, _, hvv, hj7, -⟩ := RowAt.of_owns hown7 (by omega)
  obtain ⟨rfl, -, rfl⟩ := Value.slice.inj hvv
  obtain ⟨b, hbb⟩ : ∃ b, w.heap.size = b := ⟨_, rfl⟩
  rw [hbb] at hd3
  have hdl := hd3.lt
  have bX := (Below.refl _ w7).alloc (Nat.le_refl _) (.cells #[.slice ae es.length ce, .slice ra rs.length rcap, .slice a7 js.length c7] 26)
  have b7X := hb7.trans (bX.mono hb7.size)
  have hV0 : VsW w b w7.heap.size ra ae a7 rcap ce c7 rs es js (w7.alloc (.cells #[.slice ae es.length ce, .slice ra rs.length rcap, .slice a7 js.length c7] 26)) :=
    ⟨hd3.below b7X, heap_alloc_new _ _, hr3.below b7X, hes3.below b7X, hj7.below bX, hb3.trans (b7X.mono hb3.size), by omega, by have := hb7.size; omega⟩
  clear hvv hb6 hb7 hj7 hown7 bX b7X hes3 hr3 hd3 hb3 hlen3 hdl hlen d1 d3 hjl
  try rw [hbb]
  obtain ⟨wV, hwV⟩ : ∃ W : World, W = w7.alloc (.cells #[.slice ae es.length ce, .slice ra rs.length rcap, .slice a7 js.length c7] 26) := ⟨_, rfl⟩
  obtain ⟨B, hBB⟩ : ∃ B, w7.heap.size = B := ⟨_, rfl⟩
  rw [hBB] at hV0
  rw [← hwV] at hV0 ⊢
  try rw [hBB]
  have HBB := Lib.hid hbb
  clear hwV hBB hbb
  go_loopw [46] (fun vi wr => ∃ q : Nat, q ≤ 3 ∧ vi = .int .i64 q ∧ VsW w b B ra ae a7 rcap ce c7 rs es js wr) (fun vi _ => 3 - (intOf vi).toNat)
  case atStart => exact ⟨0, Nat.zero_le _, rfl, hV0⟩
  case round =>
    clear hV0
    obtain ⟨q, hq, rfl, hV⟩ := hrel
    by_cases hq3 : q < 3
    · have hql3 : (q : Int) < 3 := by omega
      have hql4 : decide ((q : Int) < 3) = true := decide_eq_true hql3
      obtain ⟨xs, ax, cx, c0, hx⟩ := hV.pick q hq3
      have hm := modS_bd nodes 67 (by omega)
      obtain ⟨m, hmm⟩ : ∃ m, modS nodes 67 = m := ⟨_, rfl⟩
      rw [hmm] at hm
      have v1 : IntKind.i64.wrap (m - 1) = m - 1 := IntWalk.i64_in _ (by omega)
      go_wp2_with fail
      refine (mod_any nodes 67 _ (by omega) (by omega)).mono ?_
      rintro _ wz ⟨rfl, rfl⟩
      rw [hmm]
      clear hmm c0
      have bK := (Below.refl _ wr).alloc (Nat.le_refl _) (.cells #[.int .i64 n, .int .i64 nodes, .int .i64 (m - 1)] 3)
      have hKb := heap_alloc_new wr (.cells #[.int .i64 n, .int .i64 nodes, .int .i64 (m - 1)] 3)
      have hVk := hV.below bK
      have hxk := hx.below bK
      have hbk := hV.blk
      clear hV hx bK
      go_wp2_with fail
      obtain ⟨wK, hwK⟩ : ∃ W : World, W = wr.alloc (.cells #[.int .i64 n, .int .i64 nodes, .int .i64 (m - 1)] 3) := ⟨_, rfl⟩
      obtain ⟨KB, hKB⟩ : ∃ B, wr.heap.size = B := ⟨_, rfl⟩
      rw [hKB] at hKb hbk
      rw [← hwK] at hKb hVk hxk ⊢
      try rw [hKB]
      clear hwK hKB v1 hm hql3 hql4
      go_loopw [57] (fun vi wr => ∃ p : Nat, p ≤ 3 ∧ vi = .int .i64 p ∧ VsW w b B ra ae a7 rcap ce c7 rs es js wr ∧ RowAt encEv wr (.slice ax xs.length cx) xs ∧ wr.heap[KB]? = some (.cells #[.int .i64 n, .int .i64 nodes, .int .i64 (m - 1)] 3 (0, 0))) (fun vi _ => 3 - (intOf vi).toNat)
      case atStart => exact ⟨0, Nat.zero_le _, rfl, hVk, hxk, hKb⟩
      case round =>
        clear hVk hxk hKb
        obtain ⟨p, hp, rfl, hV, hx, hK⟩ := hrel
        by_cases hp3 : p < 3
        · have hpl3 : (p : Int) < 3 := by omega
          have hpl4 : decide ((p : Int) < 3) = true := decide_eq_true hpl3
          obtain ⟨u, c0, hu⟩ := blk3 hK p hp3
          obtain ⟨k, rfl⟩ : ∃ k, u = .int .i64 k := by rcases hu with e | e | e <;> exact ⟨_, e⟩
          have hck1 := hcheck_any k xs ax cx _ hx
          have hck2 := fun W h => rhcheck_any k xs ax cx W h
          have hat1 := fun t W h => at_any k xs t ax cx W h
          have hat2 := fun t W h => rhat_any k xs t ax cx W h
          have htm1 := fun W h => times_any k xs ax cx W h
          have htm2 := fun W h => rhtimes_any k xs ax cx W h
          obtain ⟨Z, hZ⟩ : ∃ Z, hisS k xs = Z := ⟨_, rfl⟩
          rw [hZ] at hck1 hck2
          obtain ⟨⟨tl, tz⟩, hT⟩ : ∃ T, timesX k xs = T := ⟨_, rfl⟩
          rw [hT] at htm1 htm2
          clear hu hZ hT
          go_wp2_with fail
          refine hck1.mono ?_
          rintro _ wa ⟨rfl, hba⟩
          have hVa := hV.below hba
          have hxa := hx.below hba
          have hKa := lk_next hba hK
          have hck3 := hck2 _ hxa
          clear hck1 hck2 c0 hV hx hK hba
          go_wp2_with fail
          refine hck3.mono ?_
          rintro _ wc ⟨rfl, hbc⟩
          have hVc := hVa.below hbc
          have hxc := hxa.below hbc
          have hKc := lk_next hbc hKa
          clear hck3 hVa hxa hKa hbc
          go_wp2_with fail
          refine (next_any b 40 _ hVc.d (by omega) (by omega)).mono ?_
          rintro _ wd ⟨z, hz0, hz1, rfl, hdd, hgd⟩
          have hVd := hVc.next hdd hgd
          have hxd := hxc.grown' hgd (fun g e hn => by cases e; exact off_deck (by decide) hxc hVc.d hn)
          have hKd := grown_blk hgd hKc (by intro e; have := Option.some.inj e; omega)
          have v1 : IntKind.i64.wrap (z - 1) = z - 1 := IntWalk.i64_in _ (by omega)
          have bT := (Below.refl _ wd).alloc (Nat.le_refl _) (.cells #[.int .i64 time, .int .i64 (z - 1)] 3)
          have hTb := heap_alloc_new wd (.cells #[.int .i64 time, .int .i64 (z - 1)] 3)
          have hVt := hVd.below bT
          have hxt := hxd.below bT
          have hKt := lk_next bT hKd
          have hKl := blk_lt hKd
          clear hVc hxc hKc hdd hgd hVd hxd hKd bT
          go_wp2_with fail
          obtain ⟨wT, hwT⟩ : ∃ W : World, W = wd.alloc (.cells #[.int .i64 time, .int .i64 (z - 1)] 3) := ⟨_, rfl⟩
          obtain ⟨TB, hTB⟩ : ∃ B, wd.heap.size = B := ⟨_, rfl⟩
          rw [hTB] at hTb hKl
          rw [← hwT] at hTb hVt hxt hKt ⊢
          try rw [hTB]
          clear hwT hTB v1 hz0 hz1 hpl3 hpl4
          go_loopw [74] (fun vi wr => ∃ s : Nat, s ≤ 2 ∧ vi = .int .i64 s ∧ VsW w b B ra ae a7 rcap ce c7 rs es js wr ∧ RowAt encEv wr (.slice ax xs.length cx) xs ∧ wr.heap[KB]? = some (.cells #[.int .i64 n, .int .i64 nodes, .int .i64 (m - 1)] 3 (0, 0)) ∧ wr.heap[TB]? = some (.cells #[.int .i64 time, .int .i64 (z - 1)] 3 (0, 0))) (fun vi _ => 2 - (intOf vi).toNat)
          case atStart => exact ⟨0, Nat.zero_le _, rfl, hVt, hxt, hKt, hTb⟩
          case round =>
            clear hVt hxt hKt hTb
            obtain ⟨s, hs, rfl, hV, hx, hK, hT⟩ := hrel
            by_cases hs2 : s < 2
            · have hsl3 : (s : Int) < 2 := by omega
              have hsl4 : decide ((s : Int) < 2) = true := decide_eq_true hsl3
              obtain ⟨tt, c0⟩ : ∃ tt, wr.cell? ⟨TB, s, none⟩ = some (.int .i64 tt) := by
                rcases (by omega : s = 0 ∨ s = 1) with rfl | rfl
                · exact ⟨_, cell_blk (j := 0) hT⟩
                · exact ⟨_, cell_blk (j := 1) hT⟩
              have h1 := hat1 tt _ hx
              have h2 := hat2 tt
              obtain ⟨⟨⟨an, al⟩, az⟩, hA⟩ : ∃ A, atX k xs tt = A := ⟨_, rfl⟩
              rw [hA] at h1 h2
              unfold AtPost at h1 h2
              dsimp only at h1 h2
              clear hA
              go_wp2_with fail
              refine h1.mono ?_
              rintro _ w5 ⟨a1, c1, rfl, hr1, hb5⟩
              have bn := (Below.refl _ w5).alloc (Nat.le_refl _) (.cells #[.int .i64 an, .slice a1 al.length c1] 35)
              have b5 := hb5.trans (bn.mono hb5.size)
              have hV5 := hV.below b5
              have hx5 := hx.below b5
              have hK5 := lk_next b5 hK
              have hT5 := lk_next b5 hT
              have hr15 := hr1.below bn
              have hS5 := heap_alloc_new w5 (.cells #[.int .i64 an, .slice a1 al.length c1] 35)
              have h3 := h2 _ hx5
              clear h1 h2 c0 hV hx hK hT hr1 hb5 bn b5
              go_wp2_with fail
              refine h3.mono ?_
              rintro _ w8 ⟨a2, c2, rfl, hr2, hb8⟩
              have bn := (Below.refl _ w8).alloc (Nat.le_refl _) (.cells #[.int .i64 an, .slice a2 al.length c2] 35)
              have b8 := hb8.trans (bn.mono hb8.size)
              have hV8 := hV5.below b8
              have hx8 := hx5.below b8
              have hK8 := lk_next b8 hK5
              have hT8 := lk_next b8 hT5
              have hr18 := hr15.below b8
              have hr28 := hr2.below bn
              have hS8 := lk_next b8 hS5
              have hU8 := heap_alloc_new w8 (.cells #[.int .i64 an, .slice a2 al.length c2] 35)
              have hsm := rsame05_any an an a1 a2 c1 c2 al al _ hr18 hr28
              rw [show decide (an = an ∧ al = al) = true by simp] at hsm
              clear h3 hV5 hx5 hK5 hT5 hr15 hS5 hr2 hb8 bn b8
              have y0 := cell_blk (j := 0) hS8
              have y1 := cell_blk (j := 1) hS8
              have z0 := cell_blk (j := 0) hU8
              have z1 := cell_blk (j := 1) hU8
              go_wp2_with fail
              refine hsm.mono ?_
              rintro _ w9 ⟨rfl, hb9⟩
              have hV9 := hV8.below hb9
              have hx9 := hx8.below hb9
              have hK9 := lk_next hb9 hK8
              have hT9 := lk_next hb9 hT8
              clear hsm y0 y1 z0 z1 hV8 hx8 hK8 hT8 hr18 hr28 hS8 hU8 hb9
              go_wp2_with fail
              go_roundw
              case rel =>
                first | exact ⟨s + 1, by omega, by go_num, hV9, hx9, hK9, hT9⟩ | ((repeat apply Exists.intro); exact ⟨⟨s + 1, by omega, by go_num, hV9, hx9, hK9, hT9⟩, rfl⟩)
              case measure => simp [intOf]; omega
            · obtain rfl : s = 2 := by omega
              have h1 := htm1 _ hx
              unfold TimesPost at h1 htm2
              dsimp only at h1 htm2
              clear hT
              go_wp2_with fail
              refine h1.mono ?_
              rintro _ w5 ⟨a1, c1, rfl, hi1, hb5⟩
              have hV5 := hV.below hb5
              have hx5 := hx.below hb5
              have hK5 := lk_next hb5 hK
              have h2 := htm2 _ hx5
              clear h1 hV hx hK hb5
              go_wp2_with fail
              refine h2.mono ?_
              rintro _ w8 ⟨a2, c2, rfl, hi2, hb8⟩
              have hV8 := hV5.below hb8
              have hx8 := hx5.below hb8
              have hK8 := lk_next hb8 hK5
              have h3 := isame_same a1 a2 c1 c2 tl _ (hi1.below hb8) hi2
              clear h2 hV5 hx5 hK5 hi1 hi2 hb8
              go_wp2_with fail
              refine h3.mono ?_
              rintro _ w9 ⟨rfl, hb9⟩
              have hV9 := hV8.below hb9
              have hx9 := hx8.below hb9
              have hK9 := lk_next hb9 hK8
              clear h3 hV8 hx8 hK8 hb9
              go_wp2_with fail
              go_roundw
              case rel =>
                first | exact ⟨p + 1, by omega, by go_num, hV9, hx9, hK9⟩ | ((repeat apply Exists.intro); exact ⟨⟨p + 1, by omega, by go_num, hV9, hx9, hK9⟩, rfl⟩)
              case measure => simp [intOf]; omega
        · obtain rfl : p = 3 := by omega
          clear hK hx
          go_wp2_with fail
          go_roundw
          case rel =>
            first | exact ⟨q + 1, by omega, by go_num, hV⟩ | ((repeat apply Exists.intro); exact ⟨⟨q + 1, by omega, by go_num, hV⟩, rfl⟩)
          case measure => simp [intOf]; omega
    · obtain rfl : q = 3 := by omega
      have hbe := hV.be
      clear hV
      go_wp2_with fail
      refine (hawake_any _).mono ?_
      rintro _ w13 ⟨rfl, hb13⟩
      go_wp2_with fail
      go_ret
      exact ⟨rfl, hbe.trans (hb13.mono hbe.size)⟩
end Go.Proofs.Ytpblaoeaeljmhaa
