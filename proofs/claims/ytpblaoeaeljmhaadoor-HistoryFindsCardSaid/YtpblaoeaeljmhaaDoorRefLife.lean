/- The times of versions as the reference reckons them, and the state at each. The reference's layer 8: versions, Life, First. -/
import Derived.Test.YtpblaoeaeljmhaaDoorHisPlain
import Derived.Test.YtpblaoeaeljmhaaDoorRefHis
import Derived.Test.YtpblaoeaeljmhaaDoorHisLife
import Derived.Test.YtpblaoeaeljmhaaDoorHisTimes
import Derived.Test.YtpblaoeaeljmhaaDoorLkRef
namespace Go.Proofs.YtpblaoeaeljmhaaDoor
open Go.RowKit

def rvF (out : List Int) (es : List Ev) : List Int := es.foldl (fun o e => ofS (o ++ [e.time])) out
theorem rvF_eq : ∀ (es : List Ev) (ls : List Lk) (ch : Bool) (pre : List Int) (e : Ev), (e :: es).Pairwise (fun a b => a.time ≤ b.time) → pre.Pairwise (· < ·) → (∀ x ∈ pre, x < e.time) → ∀ b : Bool,
    rvF (if b = true then pre ++ [e.time] else pre) (e :: es) = pre ++ (verF ls ch (e :: es)).map fun x => x.1 := by
  intro es
  induction es with
  | nil =>
    intro ls ch pre e hp hs hl b
    have hs2 : (pre ++ [e.time]).Pairwise (· < ·) := List.pairwise_append.2 ⟨hs, List.pairwise_singleton _ _, fun a ha b hb => by rw [List.mem_singleton.1 hb]; exact hl a ha⟩
    rw [show ∀ o, rvF o [e] = ofS (o ++ [e.time]) from fun _ => rfl, show verF ls ch [e] = [(e.time, stepL e ls, ch || decide (0 < (stepC e ls).length))] from rfl]
    cases b with
    | true => rw [if_pos rfl, ofS_snoc hs2, putS_last hl]; rfl
    | false => rw [if_neg (by simp), ofS_snoc hs, putS_above hl]; rfl
  | cons e2 es ih =>
    intro ls ch pre e hp hs hl b
    obtain ⟨p1, p2⟩ := List.pairwise_cons.1 hp
    have h12 := p1 e2 List.mem_cons_self
    have hs2 : (pre ++ [e.time]).Pairwise (· < ·) := List.pairwise_append.2 ⟨hs, List.pairwise_singleton _ _, fun a ha b hb => by rw [List.mem_singleton.1 hb]; exact hl a ha⟩
    have hone : rvF (if b = true then pre ++ [e.time] else pre) (e :: e2 :: es) = rvF (pre ++ [e.time]) (e2 :: es) := by
      rw [show ∀ o, rvF o (e :: e2 :: es) = rvF (ofS (o ++ [e.time])) (e2 :: es) from fun _ => rfl]
      cases b with
      | true => rw [if_pos rfl, ofS_snoc hs2, putS_last hl]
      | false => rw [if_neg (by simp), ofS_snoc hs, putS_above hl]
    rw [hone]
    by_cases ht : e2.time = e.time
    · have hv : verF ls ch (e :: e2 :: es) = verF (stepL e ls) (ch || decide (0 < (stepC e ls).length)) (e2 :: es) := by rw [verF, if_pos (by simpa using ht)]
      rw [hv, ← ht]
      have := ih (stepL e ls) (ch || decide (0 < (stepC e ls).length)) pre e2 p2 hs (fun x hx => by rw [ht]; exact hl x hx) true
      rw [if_pos rfl] at this
      exact this
    · have hv : verF ls ch (e :: e2 :: es) = (e.time, stepL e ls, ch || decide (0 < (stepC e ls).length)) :: verF (stepL e ls) false (e2 :: es) := by rw [verF, if_neg (by simpa using ht)]
      rw [hv, List.map_cons]
      have := ih (stepL e ls) false (pre ++ [e.time]) e2 p2 hs2 (fun x hx => by
        rcases List.mem_append.1 hx with hx | hx
        · have := hl x hx; omega
        · rw [List.mem_singleton.1 hx]; omega) false
      rw [if_neg (by simp), List.append_assoc] at this
      exact this
theorem rvF_all (es : List Ev) (h : es.Pairwise fun a b => a.time ≤ b.time) : rvF [] es = (verF [] false es).map fun x => x.1 := by
  cases es with
  | nil => rfl
  | cons e es => have := rvF_eq es [] false [] e h List.Pairwise.nil (by simp) false; rw [if_neg (by simp)] at this; exact this
theorem ofS_len1 (out : List Int) (t : Int) : (ofS (out ++ [t])).length ≤ out.length + 1 := by
  have := ofS_length (out ++ [t])
  rw [List.length_append] at this
  exact this
theorem rvF_len : ∀ (es : List Ev) (out : List Int), (rvF out es).length ≤ out.length + es.length := by
  intro es
  induction es with
  | nil => intro out; exact Nat.le_refl _
  | cons e es ih =>
    intro out
    have h := ih (ofS (out ++ [e.time]))
    have h2 := ofS_len1 out e.time
    rw [show rvF out (e :: es) = rvF (ofS (out ++ [e.time])) es from rfl, List.length_cons]
    omega
/-- at a version's time the state is the version's -/
theorem atV_ver {V : List (Int × List Lk × Bool)} (h : V.Pairwise fun a b => a.1 < b.1) {i : Nat} {x : Int × List Lk × Bool} (hx : V[i]? = some x) : atV x.1 V = x.2.1 := by
  obtain ⟨hi, he⟩ := List.getElem?_eq_some_iff.1 hx
  have hle : ∀ y ∈ V.take (i + 1), y.1 ≤ x.1 := fun y hy => by
    obtain ⟨j, hj, rfl⟩ := List.mem_iff_getElem.1 hy
    rw [List.getElem_take]
    rw [List.length_take] at hj
    by_cases hji : j = i
    · subst hji; rw [he]; exact Int.le_refl _
    · have := List.pairwise_iff_getElem.1 h j i (by omega) hi (by omega)
      rw [he] at this
      omega
  have hlast : lastL (V.take (i + 1)) = x.2.1 := by rw [take_at _ _ _ hx, lastL_snoc]
  by_cases hn : i + 1 < V.length
  · have hgt := List.pairwise_iff_getElem.1 h i (i + 1) hi hn (by omega)
    rw [he] at hgt
    rw [atV_stop (xs := V.take (i + 1)) (x := V[i + 1]) hle hgt ?_, hlast]
    rw [← List.take_succ_eq_append_getElem hn]
    exact List.take_prefix _ _
  · have hall : V.take (i + 1) = V := List.take_of_length_le (by omega)
    rw [hall] at hle hlast
    rw [atV_all hle, hlast]
end Go.Proofs.YtpblaoeaeljmhaaDoor

namespace Go.Proofs.YtpblaoeaeljmhaaDoor
open Go.RowKit Go.BigFrame

set_option maxRecDepth 100000 in
set_option maxHeartbeats 1600000 in
theorem rversions_any (es : List Ev) (a : Option Addr) (cap : Nat) (w : World) (hes : RowAt encEv w (.slice a es.length cap) es) (hel : es.length ≤ 65536) :
    Calls Tryd.prog 24 #[.slice a es.length cap] w (IntsNew w (rvF [] es)) := by
  obtain ⟨RES, hRES⟩ : ∃ r, rvF [] es = r := ⟨_, rfl⟩
  rw [hRES]
  have HR0 : Hid (rvF [] (es.drop 0) = RES) := hRES
  clear hRES
  go_enter Tryd.func24, Tryd.ntmps24
  go_wp2_with fail
  go_loopw [3, 8] (fun vo vi wr => ∃ (i : Nat) (out : List Int) (ao : Option Addr) (co : Nat), i ≤ es.length ∧ vi = .int .i64 i ∧ vo = .slice ao out.length co ∧ out.length ≤ i ∧ IntsAt wr (.slice ao out.length co) out ∧ (∀ p, ao = some p → w.heap.size ≤ p.block) ∧ Below w.heap.size w wr ∧ Hid (rvF out (es.drop i) = RES)) (fun _ vi _ => es.length - (intOf vi).toNat)
  case atStart => exact ⟨0, [], none, 0, Nat.zero_le _, rfl, rfl, Nat.zero_le _, IntsAt.empty none 0 (fun _ => rfl), (fun p h => by cases h), Below.refl _ _, HR0⟩
  case round =>
    clear HR0
    obtain ⟨i, out, ao, co, hi, rfl, rfl, hol, hO, hnO, hbe, HR⟩ := hrel
    by_cases hlt : i < es.length
    · have hlt3 : (i : Int) < es.length := by omega
      obtain ⟨b, off, e, rfl, he, hcap, c0, c1, c2, c3, c4, c5, c6⟩ := ev_at (hes.below hbe) i hlt
      have hdr := drop_at es i e he
      have hR' := HR.out
      rw [hdr] at hR'
      have hlen := ofS_len1 out e.time
      have hR2 : rvF (ofS (out ++ [e.time])) (es.drop (i + 1)) = RES := hR'
      have bx := (Below.refl wr.heap.size wr).alloc (Nat.le_refl _) (.cells e.cells 41)
      have hX := heap_alloc_new wr (.cells e.cells 41)
      have bl := (Below.refl _ (wr.alloc (.cells e.cells 41))).alloc (Nat.le_refl _) (.cells #[.int .i64 e.time] 3)
      have bxl := bx.trans (bl.mono bx.size)
      have hU := union_new ao _ co 1 out [e.time] _ (hO.below bxl) (ints_lit1 (wr.alloc (.cells e.cells 41)) e.time 3) (by simp; omega)
      obtain ⟨O2, hO2⟩ : ∃ O, ofS (out ++ [e.time]) = O := ⟨_, rfl⟩
      rw [hO2] at hU hlen hR2
      rw [World.size_alloc] at hU
      have HR2 := Lib.hid hR2
      have hbx := hbe.trans (bxl.mono hbe.size)
      have hbs := hbe.size
      obtain ⟨k, t, u, v, wt, lb, sg⟩ := e
      unfold Ev.cells at hX hU hbx bxl
      dsimp only at c0 c1 c2 c3 c4 c5 c6 hU
      obtain ⟨e0, e1, e2, e3, e4, e5, e6⟩ := cells7' hX
      clear hR2 hR' hdr he HR hO2 bx bl hX hO
      go_wp2_with fail
      refine hU.mono ?_
      rintro _ w6 ⟨a6, c6', rfl, hO6, hb6, hn6⟩
      have hb06 := hbx.trans (hb6.mono hbx.size)
      have hn7 : ∀ p, a6 = some p → w.heap.size ≤ p.block := fun p hp => by have := hn6 p hp; have := hbx.size; omega
      clear hU hb6 hn6 bxl
      go_wp2_with fail
      go_roundw
      case rel =>
        first
          | exact ⟨i + 1, O2, a6, c6', by omega, by go_num, rfl, by omega, hO6, hn7, hb06, HR2⟩
          | ((repeat apply Exists.intro); exact ⟨⟨i + 1, O2, a6, c6', by omega, by go_num, rfl, by omega, hO6, hn7, hb06, HR2⟩, rfl⟩)
      case measure => simp [intOf]; omega
    · obtain rfl : i = es.length := by omega
      have hres : out = RES := by have := HR.out; rw [List.drop_length] at this; exact this
      subst hres
      clear HR
      go_wp2_with fail
      go_ret
      exact ⟨_, _, rfl, hO, hbe, hnO⟩

/-- two numbers in a row -/
theorem i2_app {w : World} {a b : Int} {T : Nat} : RowAt encI2 (w.alloc (.cells #[.int .i64 a, .int .i64 b] T)) (.slice (some ⟨w.heap.size, 0, none⟩) 1 1) [(a, b)] := rows_lit1 w (a, b) T _ rfl
set_option maxRecDepth 100000 in
set_option maxHeartbeats 6400000 in
theorem rlife_any (n : Int) (es : List Ev) (u v : Int) (a : Option Addr) (cap : Nat) (w : World) (hes : RowAt encEv w (.slice a es.length cap) es) :
    Calls Tryd.prog 10 #[.int .i64 n, .slice a es.length cap, .int .i64 u, .int .i64 v] w (LifePost w (lifeX n es u v)) := by
  have hck := rhcheck_any n es a cap w hes
  have hval := fun h => his_valid (n := n) (es := es) h
  have hat := fun t W h => rhat_any n es t a cap W h
  obtain ⟨R, hR⟩ : ∃ R, lifeX n es u v = R := ⟨_, rfl⟩
  rw [hR]
  unfold lifeX edgeS at hR
  have haX : hisS n es = 0 → ∀ t, atX n es t = ((n, atV t (verF [] false es)), 0) := fun h t => by unfold atX; rw [if_neg (by simp [h])]
  obtain ⟨Z, hZ⟩ : ∃ Z, hisS n es = Z := ⟨_, rfl⟩
  rw [hZ] at hck hval hR haX
  clear hZ
  by_cases h0 : Z = 0
  case neg =>
    have d1 : (Z == 0) = false := by simpa using h0
    have d2 : (Z != 0) = true := by simpa using h0
    rw [if_pos h0, if_pos h0] at hR
    subst hR
    clear hval hat haX h0
    go_enter Tryd.func10, Tryd.ntmps10
    go_wp2_with fail
    refine hck.mono ?_
    rintro _ w1 ⟨rfl, hb1⟩
    go_wp2_with fail
    go_ret2
    exact ⟨none, 0, rfl, RowAt.nil _, hb1⟩
  obtain ⟨hn0, hn1, hel, hfit, hup⟩ := hval h0
  have haX2 := haX h0
  subst h0
  rw [if_neg (show ¬ ((0 : Int) ≠ 0) by simp)] at hR
  have bad : endsB n u v = false → (([] : List (Int × Int)), (6 : Int)) = R := fun h => by rw [h] at hR; simpa using hR
  have good : endsB n u v = true → ((lifeF n u v (verF [] false es)).1, (0 : Int)) = R := fun h => by rw [h] at hR; simpa using hR
  have BAD := Lib.hid bad
  have GOOD := Lib.hid good
  have HAX := Lib.hid haX2
  have HFIT := Lib.hid hfit
  have HUP := Lib.hid hup
  clear hval haX haX2 bad good hR hfit hup
  go_enter Tryd.func10, Tryd.ntmps10
  go_wp2_with fail
  refine hck.mono ?_
  rintro _ w1 ⟨rfl, hb1⟩
  clear hck
  by_cases hu0 : u < 0
  · have hR := BAD.out (by unfold endsB; simp; omega)
    subst hR
    go_wp2_with fail
    go_ret2
    exact ⟨none, 0, rfl, RowAt.nil _, hb1⟩
  by_cases hv0 : v < 0
  · have hR := BAD.out (by unfold endsB; simp; omega)
    subst hR
    go_wp2_with fail
    go_ret2
    exact ⟨none, 0, rfl, RowAt.nil _, hb1⟩
  by_cases hun : n ≤ u
  · have hR := BAD.out (by unfold endsB; simp; omega)
    subst hR
    go_wp2_with fail
    go_ret2
    exact ⟨none, 0, rfl, RowAt.nil _, hb1⟩
  by_cases hvn : n ≤ v
  · have hR := BAD.out (by unfold endsB; simp; omega)
    subst hR
    go_wp2_with fail
    go_ret2
    exact ⟨none, 0, rfl, RowAt.nil _, hb1⟩
  by_cases huv : u = v
  · have hR := BAD.out (by unfold endsB; simp; omega)
    subst hR huv
    go_wp2_with fail
    go_ret2
    exact ⟨none, 0, rfl, RowAt.nil _, hb1⟩
  have huv2 : (u == v) = false := by simpa using huv
  have hR := GOOD.out (by unfold endsB; simp; omega)
  have HR := Lib.hid hR
  have hes1 := hes.below hb1
  have hvs := rversions_any es a cap _ hes1 hel
  rw [rvF_all es HUP.out] at hvs
  have hVup := (verF_up es [] false HUP.out).1
  have hVst := verF_len es [] false
  obtain ⟨V, hV⟩ : ∃ V, verF [] false es = V := ⟨_, rfl⟩
  have HAX2 : Hid (∀ t, atX n es t = ((n, atV t V), 0)) := (show ∀ t, _ by rw [← hV]; exact HAX.out)
  rw [hV] at hvs hVup hVst
  have HVUP := Lib.hid hVup
  have HRV : Hid (((lifeF n u v V).1, (0 : Int)) = R) := (show _ = _ by rw [← hV]; exact HR.out)
  obtain ⟨ts, hts⟩ : ∃ l, V.map (fun x => x.1) = l := ⟨_, rfl⟩
  rw [hts] at hvs
  have htl : ts.length = V.length := by rw [← hts, List.length_map]
  have HTS := Lib.hid hts
  have HTL := Lib.hid htl
  have htl2 : ts.length ≤ 65536 := by omega
  clear hts htl hV hVup hR HR HAX BAD GOOD huv hVst
  unfold IntsNew at hvs
  go_wp2_with fail
  refine hvs.mono ?_
  rintro _ w2 ⟨aT, cT, rfl, hT2, hb2, -⟩
  have hes2 := hes1.below hb2
  have hb02 := hb1.trans (hb2.mono hb1.size)
  clear hvs hes1 hb1 hb2
  go_wp2_with fail
  go_loopw [11, 12, 48] (fun vo vt vi wr => ∃ (i : Nat) (os : List (Int × Int)) (th : Bool) (ao : Option Addr) (no co : Nat), i ≤ ts.length ∧ vi = .int .i64 i ∧ vt = .bool th ∧ vo = .slice ao no co ∧ Hid (no = os.length) ∧ wr.ownsRow w2.heap.size 29 encI2.k (.slice ao no co) no (flatR encI2 os) ∧ Below w2.heap.size w2 wr ∧ Hid ((V.take i).foldl (lifeStep n u v) ([], false) = (os, th))) (fun _ _ vi _ => ts.length - (intOf vi).toNat)
  case atStart => exact ⟨0, [], false, none, 0, 0, Nat.zero_le _, rfl, rfl, rfl, rfl, World.ownsRow_nil _ _ _ _, Below.refl _ _, rfl⟩
  case round =>
    obtain ⟨i, os, th, ao, no, co, hi, rfl, rfl, rfl, HNO, hown, hbr, HST⟩ := hrel
    by_cases hlt : i < ts.length
    · have hlt3 : (i : Int) < ts.length := by omega
      obtain ⟨bT, oT, y, rfl, hy, -, hcT, c0⟩ := (hT2.below hbr).at i hlt
      have hiV : i < V.length := by rw [← HTL.out]; exact hlt
      obtain ⟨x, hx⟩ : ∃ x, V[i]? = some x := ⟨_, List.getElem?_eq_getElem hiV⟩
      have hyx : y = x.1 := by
        have h : (V.map fun x => x.1)[i]? = some x.1 := by rw [List.getElem?_map, hx]; rfl
        rw [HTS.out, hy] at h
        exact Option.some.inj h
      subst hyx
      have hinv := lifeF_inv n u v (V.take i)
      unfold lifeF at hinv
      rw [HST.out] at hinv
      have hnl : no ≤ i := by rw [HNO.out]; have := hinv.1; rw [List.length_take] at this; dsimp only at this; omega
      have HINV : Hid (th = true → 0 < no) := (show _ → _ from fun h => by rw [HNO.out]; exact hinv.2 h)
      have hst : (V.take (i + 1)).foldl (lifeStep n u v) ([], false) = lifeStep n u v (os, th) x := by rw [take_at _ _ _ hx, List.foldl_append, HST.out]; rfl
      have hav := atV_ver HVUP.out hx
      have hat2 := hat x.1 _ (hes2.below hbr)
      rw [HAX2.out x.1, hav] at hat2
      unfold AtPost at hat2
      dsimp only at hat2
      obtain ⟨xt, L, xch⟩ := x
      unfold lifeStep at hst
      dsimp only at hst hat2 c0
      have HX := Lib.hid hst
      have hfd := fun a c W h => rfind05_any n u v L a c W h
      obtain ⟨K, hK⟩ : ∃ K, lfS n L u v = K := ⟨_, rfl⟩
      rw [hK] at hfd
      have HK := Lib.hid hK
      clear hst hav hx hy hinv HST hK
      go_wp2_with fail
      refine hat2.mono ?_
      rintro _ w5 ⟨aL, cL, rfl, hr5, hb5⟩
      have bn := (Below.refl _ w5).alloc (Nat.le_refl _) (.cells #[.int .i64 n, .slice aL L.length cL] 53)
      have b5 := hb5.trans (bn.mono hb5.size)
      have hS5 := heap_alloc_new w5 (.cells #[.int .i64 n, .slice aL L.length cL] 53)
      have hf5 := hfd _ _ _ (hr5.below bn)
      have hown5 := hown.kept (grown_of_below b5) (Classical.em _)
      have hb05 := hbr.trans (b5.mono hbr.size)
      have s0 := cell_blk (j := 0) hS5
      have s1 := cell_blk (j := 1) hS5
      clear hat2 hr5 hb5 bn b5 hS5 hfd hown c0
      go_wp2_with fail
      refine hf5.mono ?_
      rintro _ w6 ⟨rfl, hb6⟩
      have hown6 := hown5.kept (grown_of_below hb6) (Classical.em _)
      have hb06 := hb05.trans (hb6.mono hb05.size)
      clear hf5 s0 s1 hown5 hb6
      by_cases hK0 : 0 ≤ K
      · have e1 : decide (0 ≤ K) = true := decide_eq_true hK0
        have hst := HX.out
        rw [if_pos (by rw [HK.out]; exact hK0)] at hst
        cases th with
        | true =>
          rw [if_pos rfl] at hst
          have HST := Lib.hid hst
          clear hst HX HINV
          go_wp2_with fail
          go_roundw
          case rel =>
            first
              | exact ⟨i + 1, os, true, ao, no, co, by omega, by go_num, rfl, rfl, HNO, hown6, hb06, HST⟩
              | ((repeat apply Exists.intro); exact ⟨⟨i + 1, os, true, ao, no, co, by omega, by go_num, rfl, rfl, HNO, hown6, hb06, HST⟩, rfl⟩)
          case measure => simp [intOf]; omega
        | false =>
          rw [if_neg (by simp)] at hst
          have HST := Lib.hid hst
          have hownA := hown6.alloc (.cells #[.int .i64 xt, .int .i64 (-1)] 29)
          have hlx := i2_app (w := w6) (a := xt) (b := -1) (T := 29)
          have hbA := hb06.alloc hb06.size (.cells #[.int .i64 xt, .int .i64 (-1)] 29)
          clear hst HX HINV hown6 hb06
          go_wp2_with (at_builtin; refine wpList_app_rows i2RT rfl _ _ rfl w2.heap.size (.slice ao no co) _ os [(xt, -1)] rfl (by rw [← HNO.out]; exact hownA) rfl (by exact hlx) (by rw [← HNO.out]; simp; omega) (by rw [← HNO.out]; simp; omega) hbA.size ?_; intro v7 w7 hown7 hg7)
          have hb7 := hbA.grown hg7 hbA.size (fun g e => (hownA.lt g e).1)
          have hl7 : (os ++ [(xt, (-1 : Int))]).length = no + 1 := by rw [List.length_append, ← HNO.out]; rfl
          rw [hl7] at hown7
          obtain ⟨a7, c7, rfl⟩ := owns_shape hown7
          have HNO7 : Hid (no + 1 = (os ++ [(xt, (-1 : Int))]).length) := hl7.symm
          clear hl7 hg7
          go_wp2_with fail
          go_roundw
          case rel =>
            first
              | exact ⟨i + 1, _, true, a7, no + 1, c7, by omega, by go_num, rfl, rfl, HNO7, hown7, hb7, HST⟩
              | ((repeat apply Exists.intro); exact ⟨⟨i + 1, _, true, a7, no + 1, c7, by omega, by go_num, rfl, rfl, HNO7, hown7, hb7, HST⟩, rfl⟩)
          case measure => simp [intOf]; omega
      · have e1 : decide (0 ≤ K) = false := decide_eq_false hK0
        have hst := HX.out
        rw [if_neg (by rw [HK.out]; exact hK0)] at hst
        cases th with
        | false =>
          rw [if_neg (by simp)] at hst
          have HST := Lib.hid hst
          clear hst HX HINV
          go_wp2_with fail
          go_roundw
          case rel =>
            first
              | exact ⟨i + 1, os, false, ao, no, co, by omega, by go_num, rfl, rfl, HNO, hown6, hb06, HST⟩
              | ((repeat apply Exists.intro); exact ⟨⟨i + 1, os, false, ao, no, co, by omega, by go_num, rfl, rfl, HNO, hown6, hb06, HST⟩, rfl⟩)
          case measure => simp [intOf]; omega
        | true =>
          rw [if_pos rfl] at hst
          have hpos := HINV.out rfl
          have hno := HNO.out
          subst hno
          obtain ⟨g, cg, hvg, hbg, hgl⟩ : ∃ g cg, Value.slice ao os.length co = .slice (some ⟨g, 0, none⟩) os.length cg ∧ w2.heap.size ≤ g ∧ g < w6.heap.size := by
            rcases hown6.2 with ⟨_, h0⟩ | ⟨g, cg, cur, hvg, hbg, hgh, -⟩
            · omega
            · exact ⟨g, cg, hvg, hbg, blk_lt hgh⟩
          obtain ⟨rfl, -, rfl⟩ := Value.slice.inj hvg
          have hj2 : (os.length - 1) * 2 + 1 < os.length * 2 := by omega
          have hcell := hown6.cellAt ((os.length - 1) * 2 + 1) hj2
          have hcl : (flatR encI2 os)[(os.length - 1) * 2 + 1]? = some ((flatR encI2 os)[(os.length - 1) * 2 + 1]'(by rw [flatR_length]; exact hj2)) := List.getElem?_eq_getElem _
          obtain ⟨cv, hcv⟩ : ∃ cv, w6.cell? ⟨g, (os.length - 1) * 2 + 1, none⟩ = some cv := ⟨_, hcell.trans hcl⟩
          have hfro := hown6.frozenAt ((os.length - 1) * 2 + 1)
          have hst5 := hown6.stored ((os.length - 1) * 2 + 1) (.int .i64 xt)
          rw [← setLast_flat os xt hpos] at hst5
          have v1 : IntKind.i64.wrap ((os.length : Int) - 1) = ((os.length - 1 : Nat) : Int) := by rw [IntWalk.i64_in _ (by omega)]; omega
          have hlt6 : os.length - 1 < os.length := by omega
          have hsl : (setLast os xt).length = os.length := by unfold setLast; rw [List.length_set]
          have HST := Lib.hid hst
          have HSL : Hid (os.length = (setLast os xt).length) := hsl.symm
          clear hvg hcl hcell hst HX HINV hsl HNO
          go_wp2_with fail
          obtain ⟨hs5, hg5⟩ := hst5
          have hb7 := hb06.grown hg5 hb06.size (fun k e => by cases e; exact hbg)
          go_roundw
          case rel =>
            first
              | exact ⟨i + 1, setLast os xt, false, _, os.length, _, by omega, by go_num, rfl, rfl, HSL, hs5, hb7, HST⟩
              | ((repeat apply Exists.intro); exact ⟨⟨i + 1, setLast os xt, false, _, os.length, _, by omega, by go_num, rfl, rfl, HSL, hs5, hb7, HST⟩, rfl⟩)
          case measure => simp [intOf]; omega
    · obtain rfl : i = ts.length := by omega
      have hfin := HST.out
      rw [HTL.out, List.take_of_length_le (Nat.le_refl _)] at hfin
      have hR := HRV.out
      unfold lifeF at hR
      rw [hfin] at hR
      have hinv := (lifeF_inv n u v V).1
      unfold lifeF at hinv
      rw [hfin] at hinv
      have hno := HNO.out
      subst hno
      have htl := HTL.out
      dsimp only at hinv
      subst hR
      obtain ⟨a8, c8, hv8, hr8, -⟩ := RowAt.of_owns hown (by omega)
      cases hv8
      clear HST HRV htl hfin hinv HNO
      go_wp2_with fail
      go_ret2
      exact ⟨_, _, rfl, hr8, hb02.trans (hbr.mono hb02.size)⟩
set_option maxRecDepth 100000 in
set_option maxHeartbeats 1600000 in
theorem rfirst_any (n : Int) (es : List Ev) (u v : Int) (a : Option Addr) (cap : Nat) (w : World) (hes : RowAt encEv w (.slice a es.length cap) es) :
    Calls Tryd.prog 12 #[.int .i64 n, .slice a es.length cap, .int .i64 u, .int .i64 v] w fun e w' => e = .returned (.tuple #[.int .i64 (firstX n es u v).1, .bool (firstX n es u v).2.1, .int .i64 (firstX n es u v).2.2]) ∧ Below w.heap.size w w' := by
  have h1 := rlife_any n es u v a cap w hes
  unfold firstX
  obtain ⟨⟨os, z⟩, hs⟩ : ∃ s, lifeX n es u v = s := ⟨_, rfl⟩
  rw [hs] at h1 ⊢
  unfold LifePost at h1
  dsimp only at h1 ⊢
  by_cases hz : z = 0
  · subst hz
    cases os with
    | nil =>
      rw [if_pos (.inr rfl)]
      dsimp only
      go_enter Tryd.func12, Tryd.ntmps12
      go_wp2_with fail
      refine h1.mono ?_
      rintro _ w1 ⟨a1, c1, rfl, hr, hb⟩
      go_wp2_with fail
      exact bodyPost_ret (v := .tuple #[.int .i64 0, .bool false, .int .i64 0]) (by simp [results, Tryd.results12, go_sem]) rfl ⟨rfl, hb⟩
    | cons x os =>
      rw [if_neg (by simp)]
      dsimp only
      go_enter Tryd.func12, Tryd.ntmps12
      go_wp2_with fail
      refine h1.mono ?_
      rintro _ w1 ⟨a1, c1, rfl, hr, hb⟩
      obtain ⟨b, off, y, rfl, hy, hc, hat⟩ := hr.elem 0 (by simp)
      simp only [List.getElem?_cons_zero, Option.some.injEq] at hy
      subst hy
      have q0 := hat 0 _ rfl
      simp only [Nat.zero_mul, Nat.add_zero] at q0
      have hn0 : ((x :: os).length : Int) ≠ 0 := by simp; omega
      have hn1 : 0 < (x :: os).length := by simp
      obtain ⟨m, hm⟩ : ∃ m, (x :: os).length = m := ⟨_, rfl⟩
      rw [hm] at hn0 hn1 hc ⊢
      have d1 : ((m : Int) == 0) = false := by simpa using hn0
      clear hr hat
      go_wp2_with fail
      exact bodyPost_ret (v := .tuple #[.int .i64 x.1, .bool true, .int .i64 0]) (by simp [results, Tryd.results12, go_sem]) rfl ⟨rfl, hb⟩
  · rw [if_pos (.inl hz)]
    have d1 : (z != 0) = true := by simpa using hz
    dsimp only
    go_enter Tryd.func12, Tryd.ntmps12
    go_wp2_with fail
    refine h1.mono ?_
    rintro _ w1 ⟨a1, c1, rfl, hr, hb⟩
    go_wp2_with fail
    exact bodyPost_ret (v := .tuple #[.int .i64 0, .bool false, .int .i64 z]) (by simp [results, Tryd.results12, go_sem]) rfl ⟨rfl, hb⟩
end Go.Proofs.YtpblaoeaeljmhaaDoor
