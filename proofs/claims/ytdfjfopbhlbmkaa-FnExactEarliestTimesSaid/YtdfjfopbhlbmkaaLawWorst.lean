/-
  The law on the worst scenario, walked.
-/
import Derived.Test.YtdfjfopbhlbmkaaWorst
import Derived.Test.YtdfjfopbhlbmkaaBlzData
namespace Go.Proofs.Ytdfjfopbhlbmkaa
open Go.RowKit

theorem cntS_rep (t : Terr) (A : Option Addr) (c : Nat) (so : List Int) (st tick : Int) {x y : Scen} (h : y.ps = x.ps) : cntS ⟨t.W, t.H, A, t.n, c, t.burn⟩ so st tick y = cntS t so st tick x := by
  unfold cntS
  rw [burnL_rep, h]
theorem worstI_rep {f g : Scen → Nat} {xs ys : List Scen} (h : ys.map Scen.data = xs.map Scen.data) (hf : ∀ x y : Scen, y.ps = x.ps → y.weight = x.weight → f y = g x) (i : Nat) : worstI f ys i = worstI g xs i := by
  induction i with
  | zero => rfl
  | succ i ih =>
    rcases data_get h i with ⟨h1, h2⟩ | ⟨x, y, h1, h2, h3, h4⟩
    · rw [worstI, worstI, h1, h2, ih]
    · rw [worst_next h1, worst_next h2, ih, hf x y h3 h4]
theorem worstA_rep (t : Terr) (A : Option Addr) (c : Nat) {xs ys : List Scen} (h : ys.map Scen.data = xs.map Scen.data) (so : List Int) (st tick : Int) : worstA ⟨t.W, t.H, A, t.n, c, t.burn⟩ ys so st tick = worstA t xs so st tick := by
  have hl : ys.length = xs.length := by simpa using congrArg List.length h
  unfold worstA
  rw [askB_rep t A c h, hl, worstI_rep h (fun x y h1 _ => cntS_rep t A c so st tick h1)]
set_option maxHeartbeats 4000000 in
set_option maxRecDepth 100000 in
theorem lawWorstScenario (t : Terr) (A : Option Addr) (n c : Nat) (xs : List Scen) (B : Option Addr) (m d : Nat) (so : List Int) (st tick : Int) (w : World) (hT : TOk w t) (hS : Sl w 2 A n c (xs.flatMap Scen.row)) (hO : ScOk w xs) (hM : Sl w 1 B m d (ints so)) :
    Calls Try.prog 3 #[.agg #[.int .i64 t.W, .int .i64 t.H, .slice t.A t.n t.c], .slice A n c, .slice B m d, .int .i64 st, .int .i64 tick] w fun e w' => e = .returned (.bool true) ∧ Below w.heap.size w w' := by
  have hTz := (hT.bel (bel_alloc (o := .cells #[.int .i64 t.W, .int .i64 t.H, .slice t.A t.n t.c] 24) (bel_refl w)))
  have hMz := (hM.bel (bel_alloc (o := .cells #[.int .i64 t.W, .int .i64 t.H, .slice t.A t.n t.c] 24) (bel_refl w)))
  have hSz := (hS.bel (bel_alloc (o := .cells #[.int .i64 t.W, .int .i64 t.H, .slice t.A t.n t.c] 24) (bel_refl w)))
  have hOz := (hO.bel (bel_alloc (o := .cells #[.int .i64 t.W, .int .i64 t.H, .slice t.A t.n t.c] 24) (bel_refl w)))
  have hB2 := bel_refl (w.alloc (.cells #[.int .i64 t.W, .int .i64 t.H, .slice t.A t.n t.c] 24))
  have hmx := Nat.le_trans hM.cap hM.max
  have htx := Nat.le_trans (show t.n ≤ t.c from hT.cap) hT.max
  have hmx2 := hmx
  unfold maxLen at hmx2
  rcases Nat.lt_or_ge 1048576 m with hm | hm
  · go_enter Try.func3, Try.ntmps3
    go_wp2_with fail
    go_ret
    exact ⟨rfl, by (repeat' (first | (with_reducible exact bel_refl _) | (with_reducible assumption) | (with_reducible refine bel_drew ?_) | (with_reducible refine bel_drewN ?_) | (with_reducible refine bel_alloc ?_) | (with_reducible refine bel_set ?_ ?_) | (with_reducible refine bel_trans ?_ (by with_reducible assumption)) | omega | (simp; done) | (simp; omega)))⟩
  go_enter Try.func3, Try.ntmps3
  go_wp2_with (go_at_call 11; refine (szTerrain t _ _ (by omega) (by omega) htx).mono ?_; rintro _ w1 ⟨r, rfl, hr, hb1⟩; replace hB2 := bel_trans hB2 hb1)
  · go_ret
    exact ⟨rfl, by (repeat' (first | (with_reducible exact bel_refl _) | (with_reducible assumption) | (with_reducible refine bel_drew ?_) | (with_reducible refine bel_drewN ?_) | (with_reducible refine bel_alloc ?_) | (with_reducible refine bel_set ?_ ?_) | (with_reducible refine bel_trans ?_ (by with_reducible assumption)) | omega | (simp; done) | (simp; omega)))⟩
  obtain ⟨ht, hr0, hr1⟩ : t.n ≤ 1048576 ∧ 0 ≤ r ∧ r ≤ 1048576 := by omega
  clear hr
  go_wp2_with (go_at_call 12; refine (szScenarioSL _ _ _ xs _ _ hr0 hr1 (hSz.bel hB2) (hOz.bel hB2)).mono ?_; rintro _ w2 ⟨r2, rfl, hr2, hb2⟩; replace hB2 := bel_trans hB2 hb2; obtain ⟨hC1, hF1⟩ := bcell hB2)
  · go_ret
    exact ⟨rfl, by (repeat' (first | (with_reducible exact bel_refl _) | (with_reducible assumption) | (with_reducible refine bel_drew ?_) | (with_reducible refine bel_drewN ?_) | (with_reducible refine bel_alloc ?_) | (with_reducible refine bel_set ?_ ?_) | (with_reducible refine bel_trans ?_ (by with_reducible assumption)) | omega | (simp; done) | (simp; omega)))⟩
  obtain ⟨hn, hN⟩ : n ≤ 1048576 ∧ ∀ (i : Nat) (x : Scen), xs[i]? = some x → x.n ≤ 1048576 := by
    rcases hr2 with h | h
    · omega
    · exact h
  clear hr2
  refine (toTerrain t _ (hTz.bel hB2) ht).mono ?_
  rintro _ w3 ⟨g1, rfl, hO1, hb3⟩
  replace hB2 := bel_trans hB2 hb3
  go_wp2_with fail
  refine (toScenarioS _ _ _ xs _ (hSz.bel hB2) (hOz.bel hB2) hN hn).mono ?_
  rintro _ w4 ⟨g2, ys1, rfl, hd1, hN1, hOs1, hb4⟩
  replace hB2 := bel_trans hB2 hb4
  replace hO1 := hO1.bel hb4
  go_wp2_with fail
  refine (toIntS _ _ _ so _ (hMz.bel hB2) hm).mono ?_
  rintro _ w5 ⟨g3, rfl, hOi1, hb5⟩
  replace hB2 := bel_trans hB2 hb5
  replace hO1 := hO1.bel hb5
  replace hOs1 := hOs1.bel hb5
  go_wp2_with fail
  refine (worstScS ⟨t.W, t.H, some ⟨g1, 0, none⟩, t.n, t.n, t.burn⟩ _ _ _ ys1 _ _ _ so st tick _ hO1.sl ht hOs1.out.sl hOs1.ok hN1 hn hOi1.sl hm).mono ?_
  rw [worstA_rep t _ _ hd1]
  rintro _ w6 ⟨rfl, hb6⟩
  replace hB2 := bel_trans hB2 hb6
  obtain ⟨hC1, hF1⟩ := bcell hB2
  clear hO1 hOs1 hOi1 hd1 hN1 hb3 hb4 hb5 hb6 hb1 hb2
  go_wp2_with fail
  refine (toTerrain t _ (hTz.bel hB2) ht).mono ?_
  rintro _ w7 ⟨g4, rfl, hO4, hb7⟩
  replace hB2 := bel_trans hB2 hb7
  go_wp2_with fail
  refine (toScenarioS _ _ _ xs _ (hSz.bel (bel_alloc hB2)) (hOz.bel (bel_alloc hB2)) hN hn).mono ?_
  rintro _ w8 ⟨g5, ys2, rfl, hd2, hN2, hOs2, hb8⟩
  replace hB2 := bel_trans (bel_alloc hB2) hb8
  replace hO4 := (hO4.bel (bel_alloc (bel_refl _))).bel hb8
  have z0 : w8.cell? ⟨w7.heap.size, 0, none⟩ = some (.int .i64 t.W) := ((bcell hb8).1 _ 0 (by simp)).trans (by simp [go_sem])
  have z1 : w8.cell? ⟨w7.heap.size, 1, none⟩ = some (.int .i64 t.H) := ((bcell hb8).1 _ 1 (by simp)).trans (by simp [go_sem])
  have z2 : w8.cell? ⟨w7.heap.size, 2, none⟩ = some (.slice (some ⟨g4, 0, none⟩) t.n t.n) := ((bcell hb8).1 _ 2 (by simp)).trans (by simp [go_sem])
  have z3 : w7.heap.size < w8.heap.size := by have := hb8.size; simp at this; omega
  go_wp2_with fail
  refine (toIntS _ _ _ so _ (hMz.bel hB2) hm).mono ?_
  rintro _ w9 ⟨g6, rfl, hOi2, hb9⟩
  replace hB2 := bel_trans hB2 hb9
  replace hO4 := hO4.bel hb9
  replace hOs2 := hOs2.bel hb9
  replace z0 := ((bcell hb9).1 _ 0 z3).trans z0
  replace z1 := ((bcell hb9).1 _ 1 z3).trans z1
  replace z2 := ((bcell hb9).1 _ 2 z3).trans z2
  replace z3 := Nat.lt_of_lt_of_le z3 hb9.size
  have y0 : w9.cell? ⟨w.heap.size, 0, none⟩ = some (.int .i64 t.W) := ((bcell hB2).1 _ 0 (by simp)).trans (by simp [go_sem])
  have y1 : w9.cell? ⟨w.heap.size, 1, none⟩ = some (.int .i64 t.H) := ((bcell hB2).1 _ 1 (by simp)).trans (by simp [go_sem])
  have y2 : w9.cell? ⟨w.heap.size, 2, none⟩ = some (.slice t.A t.n t.c) := ((bcell hB2).1 _ 2 (by simp)).trans (by simp [go_sem])
  have y3 : w.heap.size < w9.heap.size := by have := hB2.size; simp at this; omega
  have hBw := hB2
  clear hB2 hC1 hF1
  go_wp2_with fail
  refine (worstScI ⟨t.W, t.H, some ⟨g4, 0, none⟩, t.n, t.n, t.burn⟩ _ _ _ ys2 _ _ _ so st tick _ hO4.sl ht hOs2.out.sl hOs2.ok hN2 hn hOi2.sl hm).mono ?_
  rw [worstA_rep t _ _ hd2]
  rintro _ w10 ⟨rfl, hB2⟩
  obtain ⟨hC1, hF1⟩ := bcell hB2
  go_wp2_with fail
  (refine wp_region_planB (.free 0 (.free 1 (.one 2 (.one 3 (.free 4 (.stop)))))) (by kernel_rfl) (by kernel_rfl) ?_; have hD := bel_cells hB2; simp only [Plan.ops, List.getElem?_cons_zero, List.getElem?_cons_succ, Option.getD_some])
  (iterate 2 (refine p_free rfl (by rintro w' ⟨d, rfl⟩; obtain ⟨hDc, hDf⟩ := hD d; (go_simp; first | done | rfl)) ?_; (try simp only [Act.put, List.setIfInBounds_toArray, List.set_cons_zero, List.set_cons_succ])))
  refine p_call rfl (by (go_simp; first | done | exact ⟨rfl, rfl⟩ | rfl)) ?_
  refine (toTerrain t _ (((hTz.bel hBw).bel hB2).bel (bel_drew (bel_refl _))) ht).mono ?_
  rintro _ w11 ⟨g7, rfl, hO7, hb11⟩
  refine ⟨_, rfl, ⟨⟨_, bel_trans (bel_drew (bel_refl _)) hb11⟩, rfl⟩, ?_⟩
  (try simp only [Act.put, List.setIfInBounds_toArray, List.set_cons_zero, List.set_cons_succ])
  refine p_call rfl (by (go_simp; first | done | exact ⟨rfl, rfl⟩ | rfl)) ?_
  refine (eqTerrain t _ _ _ _ _ (((hO4.bel hB2).bel (bel_drew (bel_refl _))).bel hb11).sl hO7.sl ht).mono ?_
  rintro _ w12 ⟨rfl, hb12⟩
  refine ⟨_, rfl, ⟨⟨_, bel_trans (bel_trans (bel_drew (bel_refl _)) hb11) hb12⟩, rfl⟩, ?_⟩
  (try simp only [Act.put, List.setIfInBounds_toArray, List.set_cons_zero, List.set_cons_succ])
  (iterate 1 (refine p_free rfl (by rintro w' ⟨d, rfl⟩; obtain ⟨hDc, hDf⟩ := hD d; (go_simp; first | done | rfl)) ?_; (try simp only [Act.put, List.setIfInBounds_toArray, List.set_cons_zero, List.set_cons_succ])))
  refine p_stop ?_
  (try simp only [Act.put, List.setIfInBounds_toArray, List.set_cons_zero, List.set_cons_succ])
  replace hB2 := bel_trans hB2 (bel_trans (bel_trans (bel_drew (bel_refl _)) hb11) hb12)
  clear hC1 hF1 hD
  go_wp2_with fail
  refine (toScenarioS _ _ _ xs _ ((hSz.bel hBw).bel hB2) ((hOz.bel hBw).bel hB2) hN hn).mono ?_
  rintro _ w13 ⟨g8, ys3, rfl, hd3, hN3, hOs3, hb13⟩
  replace hB2 := bel_trans hB2 hb13
  go_wp2_with fail
  refine (eqScenarioS _ _ _ _ _ ys2 ys3 _ (hOs2.bel hB2).out.sl (hOs2.bel hB2).ok hOs3.out.sl hOs3.ok (hd3.trans hd2.symm) hN2 hn).mono ?_
  rintro _ w14 ⟨rfl, hb14⟩
  replace hB2 := bel_trans hB2 hb14
  go_wp2_with fail
  refine (toIntS _ _ _ so _ ((hMz.bel hBw).bel hB2) hm).mono ?_
  rintro _ w15 ⟨g9, rfl, hOi3, hb15⟩
  replace hB2 := bel_trans hB2 hb15
  go_wp2_with fail
  refine (eqIntS _ _ _ _ _ so _ (hOi2.bel hB2).sl hOi3.sl hm).mono ?_
  rintro _ w16 ⟨rfl, hb16⟩
  replace hB2 := bel_trans hB2 hb16
  go_wp2
  go_ret
  exact ⟨rfl, bel_trans (bel_alloc (bel_refl w)) (bel_trans hBw hB2)⟩
end Go.Proofs.Ytdfjfopbhlbmkaa
