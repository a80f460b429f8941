/- window.Stream, history.Check, graph.Ends, history.edge. -/
import Derived.Test.YtpblaoeaeljmhaaDoorLkFind
import Derived.Test.YtpblaoeaeljmhaaDoorMkEvent
namespace Go.Proofs.YtpblaoeaeljmhaaDoor
open Go.RowKit Go.BigFrame

/-- the first error of a history's events, the last time being known -/
def hisL (n last : Int) : List Ev → Int
  | [] => 0
  | e :: es => if fitS n e ≠ 0 then fitS n e else if e.time < last then 9 else hisL n e.time es
def hisS (n : Int) (es : List Ev) : Int := if n < 0 ∨ 64 < n then 1 else if 65536 < es.length then 3 else hisL n 0 es
theorem fit_ev {n : Int} {e : Ev} (h : evS e ≠ 0) : fitS n e = evS e := by unfold fitS; rw [if_pos h]
set_option maxRecDepth 100000 in
set_option maxHeartbeats 1600000 in
theorem stream_any (n : Int) (es : List Ev) (a : Option Addr) (cap : Nat) (w : World) (hl : RowAt encEv w (.slice a es.length cap) es) :
    Calls Tryd.prog 31 #[.int .i64 n, .slice a es.length cap] w fun e w' => e = .returned (.int .i64 (hisS n es)) ∧ Below w.heap.size w w' := by
  have hsm := hl.small
  unfold hisS
  by_cases h1 : n < 0
  · rw [if_pos (.inl h1)]
    go_enter Tryd.func31, Tryd.ntmps31
    go_wp2_with fail
    go_ret
    exact ⟨rfl, Below.refl _ _⟩
  by_cases h2 : 64 < n
  · rw [if_pos (.inr h2)]
    have h3 : ¬ n < 0 := h1
    go_enter Tryd.func31, Tryd.ntmps31
    go_wp2_with fail
    go_ret
    exact ⟨rfl, Below.refl _ _⟩
  rw [if_neg (by omega)]
  by_cases h3 : 65536 < es.length
  · rw [if_pos h3]
    have d3 : (65536 : Int) < es.length := by omega
    go_enter Tryd.func31, Tryd.ntmps31
    go_wp2_with fail
    go_ret
    exact ⟨rfl, Below.refl _ _⟩
  rw [if_neg h3]
  have d3 : ¬ (65536 : Int) < es.length := by omega
  obtain ⟨RES, hRES⟩ : ∃ r, hisL n 0 es = r := ⟨_, rfl⟩
  rw [hRES]
  have HR0 : Hid (hisL n 0 (es.drop 0) = RES) := hRES
  clear hRES
  go_enter Tryd.func31, Tryd.ntmps31
  go_wp2_with fail
  go_loopw [5, 23] (fun vl vi wr => ∃ (i : Nat) (last : Int), i ≤ es.length ∧ vi = .int .i64 i ∧ vl = .int .i64 last ∧ Below w.heap.size w wr ∧ Hid (hisL n last (es.drop i) = RES)) (fun _ vi _ => es.length - (intOf vi).toNat)
  case atStart => exact ⟨0, 0, Nat.zero_le _, rfl, rfl, Below.refl _ _, HR0⟩
  case round =>
    clear HR0
    obtain ⟨i, last, hi, rfl, rfl, hb, HR⟩ := hrel
    by_cases hlt : i < es.length
    · have hlt3 : (i : Int) < es.length := by omega
      obtain ⟨bb, off, e, rfl, he, hcap, c0, c1, c2, c3, c4, c5, c6⟩ := ev_at (hl.below hb) i hlt
      have hdr := drop_at es i e he
      have hR := HR.out
      rw [hdr] at hR
      unfold hisL at hR
      have hck := fun W => evcheck_any e W
      have hft := fun W => lfits_any n e W
      have hfe := fun h => fit_ev (n := n) (e := e) h
      have hbx := (Below.refl wr.heap.size wr).alloc (Nat.le_refl _) (.cells e.cells 41)
      have hX := heap_alloc_new wr (.cells e.cells 41)
      have hbX := hb.trans (hbx.mono hb.size)
      obtain ⟨F, hF⟩ : ∃ F, fitS n e = F := ⟨_, rfl⟩
      obtain ⟨G, hG⟩ : ∃ F, evS e = F := ⟨_, rfl⟩
      rw [hF] at hR hft hfe
      rw [hG] at hck hfe
      clear hF hG hdr he
      obtain ⟨k, t, u, v, wt, lb, sg⟩ := e
      have HR2 := Lib.hid hR
      have HFE := Lib.hid hfe
      unfold Ev.cells at hck hft hbx hX hbX
      dsimp only at c0 c1 c2 c3 c4 c5 c6 hck hft hbx hX hbX
      clear hR hfe HR hb
      obtain ⟨e0, e1, e2, e3, e4, e5, e6⟩ := cells7' hX
      go_wp2_with fail
      refine (hck _).mono ?_
      rintro _ w2 ⟨rfl, hb2⟩
      have hX2 := lk_next hb2 hX
      have hbX2 := hbX.trans (hb2.mono hbX.size)
      clear hck e0 e1 e2 e3 e4 e5 e6 c0 c1 c2 c3 c4 c5 c6 hX hbX hbx hb2
      by_cases hG0 : G = 0
      case neg =>
        have d1 : (G == 0) = false := by simpa using hG0
        have d2 : (G != 0) = true := by simpa using hG0
        have hres : RES = G := by
          have h := HR2.out
          rw [HFE.out hG0, if_pos hG0] at h
          exact h.symm
        have HRS := Lib.hid hres
        clear hG0 hres HR2 HFE
        go_wp2_with fail
        go_ret
        exact ⟨by rw [HRS.out]; rfl, hbX2⟩
      subst hG0
      obtain ⟨e0, e1, e2, e3, e4, e5, e6⟩ := cells7' hX2
      go_wp2_with fail
      refine (hft _).mono ?_
      rintro _ w3 ⟨rfl, hb3⟩
      have hX3 := lk_next hb3 hX2
      have hbX3 := hbX2.trans (hb3.mono hbX2.size)
      clear hft e0 e1 e2 e3 e4 e5 e6 hX2 hbX2 hb3 HFE
      by_cases hF0 : F = 0
      case neg =>
        have d1 : (F == 0) = false := by simpa using hF0
        have d2 : (F != 0) = true := by simpa using hF0
        have hres : RES = F := by
          have h := HR2.out
          rw [if_pos hF0] at h
          exact h.symm
        have HRS := Lib.hid hres
        clear hF0 hres HR2
        go_wp2_with fail
        go_ret
        exact ⟨by rw [HRS.out]; rfl, hbX3⟩
      subst hF0
      obtain ⟨-, e1, -, -, -, -, -⟩ := cells7' hX3
      have hres := HR2.out
      rw [if_neg (by simp)] at hres
      try dsimp only at hres
      clear HR2
      by_cases ht : t < last
      · rw [if_pos ht] at hres
        have HRS := Lib.hid hres
        clear hres
        go_wp2_with fail
        go_ret
        exact ⟨by rw [← HRS.out]; rfl, hbX3⟩
      · rw [if_neg ht] at hres
        have HRS := Lib.hid hres
        clear hres
        go_wp2_with fail
        go_roundw
        case rel => exact ⟨i + 1, t, by omega, by go_num, rfl, hbX3, HRS⟩
        case measure => simp [intOf]; omega
    · obtain rfl : i = es.length := by omega
      have hlt3 : ¬ (es.length : Int) < es.length := by omega
      have hres := HR.out
      rw [List.drop_length] at hres
      have HRS : Hid (0 = RES) := hres
      clear hres HR
      go_wp2_with fail
      go_ret
      exact ⟨by rw [← HRS.out]; rfl, hb⟩
set_option maxRecDepth 100000 in
theorem hcheck_any (n : Int) (es : List Ev) (a : Option Addr) (cap : Nat) (w : World) (hl : RowAt encEv w (.slice a es.length cap) es) :
    Calls Tryd.prog 17 #[.int .i64 n, .slice a es.length cap] w fun e w' => e = .returned (.int .i64 (hisS n es)) ∧ Below w.heap.size w w' := by
  go_enter Tryd.func17, Tryd.ntmps17
  go_wp2_with fail
  refine (stream_any n es a cap w hl).mono ?_
  rintro _ w1 ⟨rfl, hb⟩
  go_wp2_with fail
  go_ret
  exact ⟨rfl, hb⟩
def endsB (n u v : Int) : Bool := decide (u ≠ v ∧ 0 ≤ u ∧ 0 ≤ v ∧ u < n ∧ v < n)
set_option maxRecDepth 100000 in
set_option maxHeartbeats 1600000 in
theorem gends_any (n u v : Int) (w : World) : Calls Tryd.prog 32 #[.int .i64 n, .int .i64 u, .int .i64 v] w fun e w' => e = .returned (.bool (endsB n u v)) ∧ w' = w := by
  unfold endsB
  by_cases h0 : u = v
  · subst h0
    have d1 : (u != u) = false := by simp
    rw [decide_eq_false (by simp)]
    go_enter Tryd.func32, Tryd.ntmps32
    go_wp2_with fail
    go_ret
    exact ⟨rfl, rfl⟩
  have d1 : (u != v) = true := by simpa using h0
  obtain ⟨mn, hmn⟩ : ∃ x, min u v = x := ⟨_, rfl⟩
  obtain ⟨mx, hmx⟩ : ∃ x, max u v = x := ⟨_, rfl⟩
  by_cases h1 : 0 ≤ u ∧ 0 ≤ v
  · by_cases h2 : u < n ∧ v < n
    · rw [decide_eq_true ⟨h0, h1.1, h1.2, h2.1, h2.2⟩]
      have g1 : 0 ≤ min u v := by omega
      have g2 : max u v < n := by omega
      clear h0 h1 h2 hmn hmx
      go_enter Tryd.func32, Tryd.ntmps32
      go_wp2_with fail
      all_goals
        first | (go_ret; exact ⟨rfl, rfl⟩) | omega
    · rw [decide_eq_false (fun h => h2 ⟨h.2.2.2.1, h.2.2.2.2⟩)]
      have g1 : 0 ≤ min u v := by omega
      have g2 : ¬ max u v < n := by omega
      clear h0 h1 h2 hmn hmx
      go_enter Tryd.func32, Tryd.ntmps32
      go_wp2_with fail
      all_goals
        first | (go_ret; exact ⟨rfl, rfl⟩) | omega
  · rw [decide_eq_false (fun h => h1 ⟨h.2.1, h.2.2.1⟩)]
    have g1 : ¬ 0 ≤ min u v := by omega
    clear h0 h1 hmn hmx
    go_enter Tryd.func32, Tryd.ntmps32
    go_wp2_with fail
    all_goals
      first | (go_ret; exact ⟨rfl, rfl⟩) | omega
def edgeS (n : Int) (es : List Ev) (u v : Int) : Int := if hisS n es ≠ 0 then hisS n es else if endsB n u v = true then 0 else 6
set_option maxRecDepth 100000 in
theorem hedge_any (n : Int) (es : List Ev) (u v : Int) (a : Option Addr) (cap : Nat) (w : World) (hl : RowAt encEv w (.slice a es.length cap) es) :
    Calls Tryd.prog 20 #[.int .i64 n, .slice a es.length cap, .int .i64 u, .int .i64 v] w fun e w' => e = .returned (.int .i64 (edgeS n es u v)) ∧ Below w.heap.size w w' := by
  have hck := hcheck_any n es a cap w hl
  have hen := fun W => gends_any n u v W
  unfold edgeS
  obtain ⟨Z, hZ⟩ : ∃ Z, hisS n es = Z := ⟨_, rfl⟩
  obtain ⟨B, hB⟩ : ∃ B, endsB n u v = B := ⟨_, rfl⟩
  rw [hZ] at hck ⊢
  rw [hB] at hen ⊢
  clear hZ hB
  by_cases h0 : Z = 0
  · subst h0
    rw [if_neg (by simp)]
    cases B <;>
      ((first | rw [if_pos rfl] | rw [if_neg (by decide)])
       go_enter Tryd.func20, Tryd.ntmps20
       go_wp2_with fail
       refine hck.mono ?_
       rintro _ w1 ⟨rfl, hb⟩
       go_wp2_with fail
       refine (hen _).mono ?_
       rintro _ w2 ⟨rfl, rfl⟩
       go_wp2_with fail
       go_ret
       exact ⟨rfl, hb⟩)
  · rw [if_pos h0]
    have d1 : (Z != 0) = true := by simpa using h0
    clear h0
    go_enter Tryd.func20, Tryd.ntmps20
    go_wp2_with fail
    refine hck.mono ?_
    rintro _ w1 ⟨rfl, hb⟩
    go_wp2_with fail
    go_ret
    exact ⟨rfl, hb⟩
end Go.Proofs.YtpblaoeaeljmhaaDoor
