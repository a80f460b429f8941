/- The contract of a state that is made by events. -/
import Derived.Test.YtpblaoeaeljmhaaMkEvents
import Derived.Test.YtpblaoeaeljmhaaHisStandsP
import Derived.Test.YtpblaoeaeljmhaaLkRAll
import Derived.Test.YtpblaoeaeljmhaaLkChg
namespace Go.Proofs.Ytpblaoeaeljmhaa
open Go.RowKit Go.BigFrame

theorem foldS_valid {n : Int} : ∀ (es : List Ev) (ls : List Lk), VSt n ls → (∀ e ∈ es, fitS n e = 0) → VSt n (foldS ls es) := by
  intro es
  induction es with
  | nil => intro ls h _; exact h
  | cons e es ih => intro ls h hf; exact ih _ (stepL_valid h (hf e List.mem_cons_self)) fun x hx => hf x (List.mem_cons_of_mem _ hx)
def RanPost (b : Nat) (n : Int) (w : World) (e : Ending) (w' : World) : Prop := ∃ a c L, e = .returned (.agg #[.int .i64 n, .slice a L.length c]) ∧ RowAt encLk w' (.slice a L.length c) L ∧ VSt n L ∧ DeckAt w' b ∧ w.grownBy w' (some b)
set_option maxRecDepth 100000 in
set_option maxHeartbeats 3200000 in
theorem ran_any (b : Nat) (n most : Int) (w : World) (hd : DeckAt w b) (hn : 2 ≤ n) (hn64 : n ≤ 64) (h0 : 0 ≤ most) (h1 : most ≤ 1000) :
    Calls Try.prog 24 #[.pointer (some ⟨b, 0, none⟩), .int .i64 n, .int .i64 most] w (RanPost b n w) := by
  have hR := heap_alloc_new w (.cells #[.int .i64 0, .slice none 0 0] 35)
  have hg1 := World.grownBy_alloc w (.cells #[.int .i64 0, .slice none 0 0] 35) (some b)
  have hd1 := hd.alloc (.cells #[.int .i64 0, .slice none 0 0] 35)
  have hbl := hd.lt
  have hev := events_any b n most _ hd1 hn hn64 h0 h1
  clear hd hd1
  go_enter Try.func24, Try.ntmps24
  go_wp2_with fail
  refine hev.mono ?_
  rintro _ w3 ⟨ae, ce, es, rfl, hes, hok, hlen, hd3, hg3, -⟩
  have hv0 : VSt n ([] : List Lk) := ⟨by omega, hn64, by simp, List.Pairwise.nil⟩
  have hf : ∀ e ∈ es, fitS n e = 0 := fun e he => by
    obtain ⟨h1, h2, h3, h4, h5, h6, h7⟩ := hok.ok e he
    exact fit_of h1 h3 h5
  have hV := foldS_valid es [] hv0 hf
  obtain ⟨k, hk⟩ := all_fold es [] 0 0 hv0 hf
  have hall : allX n [] es = ((n, foldS [] es), k, 0) := by
    unfold allX
    rw [if_neg (by rw [(stS_iff n []).2 hv0]; simp), hk]
  have h4 := rall05_any n es [] none ae 0 ce w3 (RowAt.nil _) hes
  rw [hall] at h4
  unfold RAllPost at h4
  dsimp only at h4
  obtain ⟨L, hL⟩ : ∃ L, foldS [] es = L := ⟨_, rfl⟩
  rw [hL] at h4 hV
  have hg13 := grown_trans hg1 hg3
  have hR3 := grown_blk hg3 hR (by intro e; have := Option.some.inj e; omega)
  have HV := Lib.hid hV
  clear hev hL hV hk hall hf hes hok hg1 hg3 hR
  go_wp2_with fail
  refine h4.mono ?_
  rintro _ w4 ⟨a, c, rfl, hr, hb4⟩
  have bn := (Below.refl _ w4).alloc (Nat.le_refl _) (.cells #[.int .i64 n, .slice a L.length c] 35)
  have b4 := hb4.trans (bn.mono hb4.size)
  have hd5 := hd3.below b4
  have hR5 := lk_next b4 hR3
  have hr5 := hr.below bn
  have hS5 := heap_alloc_new w4 (.cells #[.int .i64 n, .slice a L.length c] 35)
  have hg15 := grown_trans hg13 (grown_none (grown_of_below b4))
  have s0 := cell_blk (j := 0) hS5
  have s1 := cell_blk (j := 1) hS5
  have r0 := cell_blk (j := 0) hR5
  have r1 := cell_blk (j := 1) hR5
  have f0 := free_blk (j := 0) hR5
  have f1 := free_blk (j := 1) hR5
  clear h4 hb4 bn b4 hR3 hr hd3 hg13
  go_wp2_with fail
  have hfin := set_two (u := .int .i64 n) (v := .slice a L.length c) hR5
  have t0 := cell_blk (j := 0) hfin
  have t1 := cell_blk (j := 1) hfin
  have hg2 : (w4.alloc (.cells #[.int .i64 n, .slice a L.length c] 35)).grownBy (((w4.alloc (.cells #[.int .i64 n, .slice a L.length c] 35)).setCell ⟨w.heap.size, 0, none⟩ (.int .i64 n)).setCell ⟨w.heap.size, 1, none⟩ (.slice a L.length c)) (some w.heap.size) := grown_trans grown_lk grown_lk
  exact bodyPost_ret (v := .agg #[.int .i64 n, .slice a L.length c]) (by simp [results, Try.results24, go_sem, t0, t1]) rfl ⟨a, c, L, rfl, hr5.grown' hg2 (fun g e h0 n c p hp => by cases e; exact row_off (by decide) hr5 h0 hR5 p (Value.slice.inj hp).1), HV.out, hd5.kept hg2 (fun g e => by cases e; exact hbl), grown_new hg15 hg2 (fun g e => by cases e; exact .inr (Nat.le_refl _))⟩
end Go.Proofs.Ytpblaoeaeljmhaa
