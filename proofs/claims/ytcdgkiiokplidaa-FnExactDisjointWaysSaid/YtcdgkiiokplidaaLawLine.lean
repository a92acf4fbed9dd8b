/-
  The laws on the smallest number of cells of a line and on the greatest number of disjoint ways, walked.
-/
import Derived.Test.YtcdgkiiokplidaaLineTop
import Derived.Test.YtcdgkiiokplidaaLineData
namespace Go.Proofs.Ytcdgkiiokplidaa
open Go.RowKit

theorem fewA_rep (t : Terr) (A : Option Addr) (c : Nat) (so ass : List Int) : fewA ⟨t.W, t.H, A, t.n, c, t.burn⟩ so ass = fewA t so ass := rfl
set_option maxHeartbeats 4000000 in
set_option maxRecDepth 100000 in
theorem lawFewestCells (t : Terr) (A : Option Addr) (n c : Nat) (so : List Int) (B : Option Addr) (m d : Nat) (ass : List Int) (w : World) (hT : TOk w t) (hS : Sl w 1 A n c (ints so)) (hM : Sl w 1 B m d (ints ass)) :
    Calls Try.prog 3 #[.agg #[.int .i64 t.W, .int .i64 t.H, .slice t.A t.n t.c], .slice A n c, .slice B m d] w fun e w' => e = .returned (.bool true) ∧ Below w.heap.size w w' := by
  have hTz := (hT.bel (bel_alloc (o := .cells #[.int .i64 t.W, .int .i64 t.H, .slice t.A t.n t.c] 24) (bel_refl w)))
  have hMz := (hM.bel (bel_alloc (o := .cells #[.int .i64 t.W, .int .i64 t.H, .slice t.A t.n t.c] 24) (bel_refl w)))
  have hSz := (hS.bel (bel_alloc (o := .cells #[.int .i64 t.W, .int .i64 t.H, .slice t.A t.n t.c] 24) (bel_refl w)))
  have hB2 := bel_refl (w.alloc (.cells #[.int .i64 t.W, .int .i64 t.H, .slice t.A t.n t.c] 24))
  have hmx := Nat.le_trans hM.cap hM.max
  have hnx := Nat.le_trans hS.cap hS.max
  have htx := Nat.le_trans (show t.n ≤ t.c from hT.cap) hT.max
  have hmx2 := hmx
  have hnx2 := hnx
  unfold maxLen at hmx2 hnx2
  rcases Nat.lt_or_ge 1048576 n with hn | hn
  · go_enter Try.func3, Try.ntmps3
    go_wp2_with fail
    go_ret
    exact ⟨rfl, by (repeat' (first | (with_reducible exact bel_refl _) | (with_reducible assumption) | (with_reducible refine bel_drew ?_) | (with_reducible refine bel_drewN ?_) | (with_reducible refine bel_alloc ?_) | (with_reducible refine bel_set ?_ ?_) | (with_reducible refine bel_trans ?_ (by with_reducible assumption)) | omega | (simp; done) | (simp; omega)))⟩
  rcases Nat.lt_or_ge 1048576 m with hm | hm
  · go_enter Try.func3, Try.ntmps3
    go_wp2_with fail
    go_ret
    exact ⟨rfl, by (repeat' (first | (with_reducible exact bel_refl _) | (with_reducible assumption) | (with_reducible refine bel_drew ?_) | (with_reducible refine bel_drewN ?_) | (with_reducible refine bel_alloc ?_) | (with_reducible refine bel_set ?_ ?_) | (with_reducible refine bel_trans ?_ (by with_reducible assumption)) | omega | (simp; done) | (simp; omega)))⟩
  go_enter Try.func3, Try.ntmps3
  go_wp2_with (go_at_call 5; refine (szTerrain t _ _ (by omega) (by omega) htx).mono ?_; rintro _ w1 ⟨r, rfl, hr, hb1⟩; replace hB2 := bel_trans hB2 hb1; obtain ⟨hC1, hF1⟩ := bcell hB2)
  · go_ret
    exact ⟨rfl, by (repeat' (first | (with_reducible exact bel_refl _) | (with_reducible assumption) | (with_reducible refine bel_drew ?_) | (with_reducible refine bel_drewN ?_) | (with_reducible refine bel_alloc ?_) | (with_reducible refine bel_set ?_ ?_) | (with_reducible refine bel_trans ?_ (by with_reducible assumption)) | omega | (simp; done) | (simp; omega)))⟩
  obtain ⟨ht, hr0, hr1⟩ : t.n ≤ 1048576 ∧ 0 ≤ r ∧ r ≤ 1048576 := by omega
  clear hr
  refine (toTerrain t _ (hTz.bel hB2) ht).mono ?_
  rintro _ w3 ⟨g1, rfl, hO1, hb3⟩
  replace hB2 := bel_trans hB2 hb3
  go_wp2_with fail
  refine (toIntS _ _ _ so _ (hSz.bel hB2) hn).mono ?_
  rintro _ w4 ⟨g2, rfl, hOs1, hb4⟩
  replace hB2 := bel_trans hB2 hb4
  replace hO1 := hO1.bel hb4
  go_wp2_with fail
  refine (toIntS _ _ _ ass _ (hMz.bel hB2) hm).mono ?_
  rintro _ w5 ⟨g3, rfl, hOi1, hb5⟩
  replace hB2 := bel_trans hB2 hb5
  replace hO1 := hO1.bel hb5
  replace hOs1 := hOs1.bel hb5
  go_wp2_with fail
  refine (fewestS ⟨t.W, t.H, some ⟨g1, 0, none⟩, t.n, t.n, t.burn⟩ _ _ _ _ _ _ so ass _ hO1.sl ht hOs1.sl hn hOi1.sl hm).mono ?_
  rw [fewA_rep t]
  rintro _ w6 ⟨rfl, hb6⟩
  replace hB2 := bel_trans hB2 hb6
  obtain ⟨hC1, hF1⟩ := bcell hB2
  obtain ⟨R, hR⟩ : ∃ R, fewA t so ass = R := ⟨_, rfl⟩
  rw [hR]
  replace hR := hid hR
  clear hO1 hOs1 hOi1 hb3 hb4 hb5 hb6 hb1
  go_wp2_with fail
  refine (toTerrain t _ (hTz.bel hB2) ht).mono ?_
  rintro _ w7 ⟨g4, rfl, hO4, hb7⟩
  replace hB2 := bel_trans hB2 hb7
  go_wp2_with fail
  refine (toIntS _ _ _ so _ (hSz.bel (bel_alloc hB2)) hn).mono ?_
  rintro _ w8 ⟨g5, rfl, hOs2, hb8⟩
  replace hB2 := bel_trans (bel_alloc hB2) hb8
  replace hO4 := (hO4.bel (bel_alloc (bel_refl _))).bel hb8
  have z0 : w8.cell? ⟨w7.heap.size, 0, none⟩ = some (.int .i64 t.W) := ((bcell hb8).1 _ 0 (by simp)).trans (by simp [go_sem])
  have z1 : w8.cell? ⟨w7.heap.size, 1, none⟩ = some (.int .i64 t.H) := ((bcell hb8).1 _ 1 (by simp)).trans (by simp [go_sem])
  have z2 : w8.cell? ⟨w7.heap.size, 2, none⟩ = some (.slice (some ⟨g4, 0, none⟩) t.n t.n) := ((bcell hb8).1 _ 2 (by simp)).trans (by simp [go_sem])
  have z3 : w7.heap.size < w8.heap.size := by have := hb8.size; simp at this; omega
  go_wp2_with fail
  refine (toIntS _ _ _ ass _ (hMz.bel hB2) hm).mono ?_
  rintro _ w9 ⟨g6, rfl, hOi2, hb9⟩
  replace hB2 := bel_trans hB2 hb9
  replace hO4 := hO4.bel hb9
  replace hOs2 := hOs2.bel hb9
  replace z0 := ((bcell hb9).1 _ 0 z3).trans z0
  replace z1 := ((bcell hb9).1 _ 1 z3).trans z1
  replace z2 := ((bcell hb9).1 _ 2 z3).trans z2
  replace z3 := Nat.lt_of_lt_of_le z3 hb9.size
  have y0 : w9.cell? ⟨w.heap.size, 0, none⟩ = some (.int .i64 t.W) := ((bcell hB2).1 _ 0 (by simp)).trans (by simp [go_sem])
  have y1 : w9.cell? ⟨w.heap.size, 1, none⟩ = some (.int .i64 t.H) := ((bcell hB2).1 _ 1 (by simp)).trans (by simp [go_sem])
  have y2 : w9.cell? ⟨w.heap.size, 2, none⟩ = some (.slice t.A t.n t.c) := ((bcell hB2).1 _ 2 (by simp)).trans (by simp [go_sem])
  have y3 : w.heap.size < w9.heap.size := by have := hB2.size; simp at this; omega
  have hBw := hB2
  clear hB2 hC1 hF1
  go_wp2_with fail
  refine (fewestI ⟨t.W, t.H, some ⟨g4, 0, none⟩, t.n, t.n, t.burn⟩ _ _ _ _ _ _ so ass _ hO4.sl ht hOs2.sl hn hOi2.sl hm).mono ?_
  rw [fewA_rep t, hR.out]
  rintro _ w10 ⟨rfl, hB2⟩
  obtain ⟨hC1, hF1⟩ := bcell hB2
  go_wp2_with fail
  (refine wp_region_planB (.free 0 (.free 1 (.one 2 (.one 3 (.free 4 (.stop)))))) (by kernel_rfl) (by kernel_rfl) ?_; have hD := bel_cells hB2; simp only [Plan.ops, List.getElem?_cons_zero, List.getElem?_cons_succ, Option.getD_some])
  (iterate 2 (refine p_free rfl (by rintro w' ⟨d, rfl⟩; obtain ⟨hDc, hDf⟩ := hD d; (go_simp; first | done | rfl)) ?_; (try simp only [Act.put, List.setIfInBounds_toArray, List.set_cons_zero, List.set_cons_succ])))
  refine p_call rfl (by (go_simp; first | done | exact ⟨rfl, rfl⟩ | rfl)) ?_
  refine (toTerrain t _ (((hTz.bel hBw).bel hB2).bel (bel_drew (bel_refl _))) ht).mono ?_
  rintro _ w11 ⟨g7, rfl, hO7, hb11⟩
  refine ⟨_, rfl, ⟨⟨_, bel_trans (bel_drew (bel_refl _)) hb11⟩, rfl⟩, ?_⟩
  (try simp only [Act.put, List.setIfInBounds_toArray, List.set_cons_zero, List.set_cons_succ])
  refine p_call rfl (by (go_simp; first | done | exact ⟨rfl, rfl⟩ | rfl)) ?_
  refine (eqTerrain t _ _ _ _ _ (((hO4.bel hB2).bel (bel_drew (bel_refl _))).bel hb11).sl hO7.sl ht).mono ?_
  rintro _ w12 ⟨rfl, hb12⟩
  refine ⟨_, rfl, ⟨⟨_, bel_trans (bel_trans (bel_drew (bel_refl _)) hb11) hb12⟩, rfl⟩, ?_⟩
  (try simp only [Act.put, List.setIfInBounds_toArray, List.set_cons_zero, List.set_cons_succ])
  (iterate 1 (refine p_free rfl (by rintro w' ⟨d, rfl⟩; obtain ⟨hDc, hDf⟩ := hD d; (go_simp; first | done | rfl)) ?_; (try simp only [Act.put, List.setIfInBounds_toArray, List.set_cons_zero, List.set_cons_succ])))
  refine p_stop ?_
  (try simp only [Act.put, List.setIfInBounds_toArray, List.set_cons_zero, List.set_cons_succ])
  replace hB2 := bel_trans hB2 (bel_trans (bel_trans (bel_drew (bel_refl _)) hb11) hb12)
  clear hC1 hF1 hD
  go_wp2_with fail
  refine (toIntS _ _ _ so _ ((hSz.bel hBw).bel hB2) hn).mono ?_
  rintro _ w13 ⟨g8, rfl, hOs3, hb13⟩
  replace hB2 := bel_trans hB2 hb13
  go_wp2_with fail
  refine (eqIntS _ _ _ _ _ so _ (hOs2.bel hB2).sl hOs3.sl hn).mono ?_
  rintro _ w14 ⟨rfl, hb14⟩
  replace hB2 := bel_trans hB2 hb14
  go_wp2_with fail
  refine (toIntS _ _ _ ass _ ((hMz.bel hBw).bel hB2) hm).mono ?_
  rintro _ w15 ⟨g9, rfl, hOi3, hb15⟩
  replace hB2 := bel_trans hB2 hb15
  go_wp2_with fail
  refine (eqIntS _ _ _ _ _ ass _ (hOi2.bel hB2).sl hOi3.sl hm).mono ?_
  rintro _ w16 ⟨rfl, hb16⟩
  replace hB2 := bel_trans hB2 hb16
  go_wp2
  go_ret
  exact ⟨rfl, bel_trans (bel_alloc (bel_refl w)) (bel_trans hBw hB2)⟩
set_option maxHeartbeats 4000000 in
set_option maxRecDepth 100000 in
theorem lawDisjointWays (t : Terr) (A : Option Addr) (n c : Nat) (so : List Int) (B : Option Addr) (m d : Nat) (ass : List Int) (w : World) (hT : TOk w t) (hS : Sl w 1 A n c (ints so)) (hM : Sl w 1 B m d (ints ass)) :
    Calls Try.prog 4 #[.agg #[.int .i64 t.W, .int .i64 t.H, .slice t.A t.n t.c], .slice A n c, .slice B m d] w fun e w' => e = .returned (.bool true) ∧ Below w.heap.size w w' := by
  have hTz := (hT.bel (bel_alloc (o := .cells #[.int .i64 t.W, .int .i64 t.H, .slice t.A t.n t.c] 24) (bel_refl w)))
  have hMz := (hM.bel (bel_alloc (o := .cells #[.int .i64 t.W, .int .i64 t.H, .slice t.A t.n t.c] 24) (bel_refl w)))
  have hSz := (hS.bel (bel_alloc (o := .cells #[.int .i64 t.W, .int .i64 t.H, .slice t.A t.n t.c] 24) (bel_refl w)))
  have hB2 := bel_refl (w.alloc (.cells #[.int .i64 t.W, .int .i64 t.H, .slice t.A t.n t.c] 24))
  have hmx := Nat.le_trans hM.cap hM.max
  have hnx := Nat.le_trans hS.cap hS.max
  have htx := Nat.le_trans (show t.n ≤ t.c from hT.cap) hT.max
  have hmx2 := hmx
  have hnx2 := hnx
  unfold maxLen at hmx2 hnx2
  rcases Nat.lt_or_ge 1048576 n with hn | hn
  · go_enter Try.func4, Try.ntmps4
    go_wp2_with fail
    go_ret
    exact ⟨rfl, by (repeat' (first | (with_reducible exact bel_refl _) | (with_reducible assumption) | (with_reducible refine bel_drew ?_) | (with_reducible refine bel_drewN ?_) | (with_reducible refine bel_alloc ?_) | (with_reducible refine bel_set ?_ ?_) | (with_reducible refine bel_trans ?_ (by with_reducible assumption)) | omega | (simp; done) | (simp; omega)))⟩
  rcases Nat.lt_or_ge 1048576 m with hm | hm
  · go_enter Try.func4, Try.ntmps4
    go_wp2_with fail
    go_ret
    exact ⟨rfl, by (repeat' (first | (with_reducible exact bel_refl _) | (with_reducible assumption) | (with_reducible refine bel_drew ?_) | (with_reducible refine bel_drewN ?_) | (with_reducible refine bel_alloc ?_) | (with_reducible refine bel_set ?_ ?_) | (with_reducible refine bel_trans ?_ (by with_reducible assumption)) | omega | (simp; done) | (simp; omega)))⟩
  go_enter Try.func4, Try.ntmps4
  go_wp2_with (go_at_call 5; refine (szTerrain t _ _ (by omega) (by omega) htx).mono ?_; rintro _ w1 ⟨r, rfl, hr, hb1⟩; replace hB2 := bel_trans hB2 hb1; obtain ⟨hC1, hF1⟩ := bcell hB2)
  · go_ret
    exact ⟨rfl, by (repeat' (first | (with_reducible exact bel_refl _) | (with_reducible assumption) | (with_reducible refine bel_drew ?_) | (with_reducible refine bel_drewN ?_) | (with_reducible refine bel_alloc ?_) | (with_reducible refine bel_set ?_ ?_) | (with_reducible refine bel_trans ?_ (by with_reducible assumption)) | omega | (simp; done) | (simp; omega)))⟩
  obtain ⟨ht, hr0, hr1⟩ : t.n ≤ 1048576 ∧ 0 ≤ r ∧ r ≤ 1048576 := by omega
  clear hr
  refine (toTerrain t _ (hTz.bel hB2) ht).mono ?_
  rintro _ w3 ⟨g1, rfl, hO1, hb3⟩
  replace hB2 := bel_trans hB2 hb3
  go_wp2_with fail
  refine (toIntS _ _ _ so _ (hSz.bel hB2) hn).mono ?_
  rintro _ w4 ⟨g2, rfl, hOs1, hb4⟩
  replace hB2 := bel_trans hB2 hb4
  replace hO1 := hO1.bel hb4
  go_wp2_with fail
  refine (toIntS _ _ _ ass _ (hMz.bel hB2) hm).mono ?_
  rintro _ w5 ⟨g3, rfl, hOi1, hb5⟩
  replace hB2 := bel_trans hB2 hb5
  replace hO1 := hO1.bel hb5
  replace hOs1 := hOs1.bel hb5
  go_wp2_with fail
  refine (disjointS ⟨t.W, t.H, some ⟨g1, 0, none⟩, t.n, t.n, t.burn⟩ _ _ _ _ _ _ so ass _ hO1.sl ht hOs1.sl hn hOi1.sl hm).mono ?_
  rw [fewA_rep t]
  rintro _ w6 ⟨rfl, hb6⟩
  replace hB2 := bel_trans hB2 hb6
  obtain ⟨hC1, hF1⟩ := bcell hB2
  obtain ⟨R, hR⟩ : ∃ R, fewA t so ass = R := ⟨_, rfl⟩
  rw [hR]
  replace hR := hid hR
  clear hO1 hOs1 hOi1 hb3 hb4 hb5 hb6 hb1
  go_wp2_with fail
  refine (toTerrain t _ (hTz.bel hB2) ht).mono ?_
  rintro _ w7 ⟨g4, rfl, hO4, hb7⟩
  replace hB2 := bel_trans hB2 hb7
  go_wp2_with fail
  refine (toIntS _ _ _ so _ (hSz.bel (bel_alloc hB2)) hn).mono ?_
  rintro _ w8 ⟨g5, rfl, hOs2, hb8⟩
  replace hB2 := bel_trans (bel_alloc hB2) hb8
  replace hO4 := (hO4.bel (bel_alloc (bel_refl _))).bel hb8
  have z0 : w8.cell? ⟨w7.heap.size, 0, none⟩ = some (.int .i64 t.W) := ((bcell hb8).1 _ 0 (by simp)).trans (by simp [go_sem])
  have z1 : w8.cell? ⟨w7.heap.size, 1, none⟩ = some (.int .i64 t.H) := ((bcell hb8).1 _ 1 (by simp)).trans (by simp [go_sem])
  have z2 : w8.cell? ⟨w7.heap.size, 2, none⟩ = some (.slice (some ⟨g4, 0, none⟩) t.n t.n) := ((bcell hb8).1 _ 2 (by simp)).trans (by simp [go_sem])
  have z3 : w7.heap.size < w8.heap.size := by have := hb8.size; simp at this; omega
  go_wp2_with fail
  refine (toIntS _ _ _ ass _ (hMz.bel hB2) hm).mono ?_
  rintro _ w9 ⟨g6, rfl, hOi2, hb9⟩
  replace hB2 := bel_trans hB2 hb9
  replace hO4 := hO4.bel hb9
  replace hOs2 := hOs2.bel hb9
  replace z0 := ((bcell hb9).1 _ 0 z3).trans z0
  replace z1 := ((bcell hb9).1 _ 1 z3).trans z1
  replace z2 := ((bcell hb9).1 _ 2 z3).trans z2
  replace z3 := Nat.lt_of_lt_of_le z3 hb9.size
  have y0 : w9.cell? ⟨w.heap.size, 0, none⟩ = some (.int .i64 t.W) := ((bcell hB2).1 _ 0 (by simp)).trans (by simp [go_sem])
  have y1 : w9.cell? ⟨w.heap.size, 1, none⟩ = some (.int .i64 t.H) := ((bcell hB2).1 _ 1 (by simp)).trans (by simp [go_sem])
  have y2 : w9.cell? ⟨w.heap.size, 2, none⟩ = some (.slice t.A t.n t.c) := ((bcell hB2).1 _ 2 (by simp)).trans (by simp [go_sem])
  have y3 : w.heap.size < w9.heap.size := by have := hB2.size; simp at this; omega
  have hBw := hB2
  clear hB2 hC1 hF1
  go_wp2_with fail
  refine (disjointI ⟨t.W, t.H, some ⟨g4, 0, none⟩, t.n, t.n, t.burn⟩ _ _ _ _ _ _ so ass _ hO4.sl ht hOs2.sl hn hOi2.sl hm).mono ?_
  rw [fewA_rep t, hR.out]
  rintro _ w10 ⟨rfl, hB2⟩
  obtain ⟨hC1, hF1⟩ := bcell hB2
  go_wp2_with fail
  (refine wp_region_planB (.free 0 (.free 1 (.one 2 (.one 3 (.free 4 (.stop)))))) (by kernel_rfl) (by kernel_rfl) ?_; have hD := bel_cells hB2; simp only [Plan.ops, List.getElem?_cons_zero, List.getElem?_cons_succ, Option.getD_some])
  (iterate 2 (refine p_free rfl (by rintro w' ⟨d, rfl⟩; obtain ⟨hDc, hDf⟩ := hD d; (go_simp; first | done | rfl)) ?_; (try simp only [Act.put, List.setIfInBounds_toArray, List.set_cons_zero, List.set_cons_succ])))
  refine p_call rfl (by (go_simp; first | done | exact ⟨rfl, rfl⟩ | rfl)) ?_
  refine (toTerrain t _ (((hTz.bel hBw).bel hB2).bel (bel_drew (bel_refl _))) ht).mono ?_
  rintro _ w11 ⟨g7, rfl, hO7, hb11⟩
  refine ⟨_, rfl, ⟨⟨_, bel_trans (bel_drew (bel_refl _)) hb11⟩, rfl⟩, ?_⟩
  (try simp only [Act.put, List.setIfInBounds_toArray, List.set_cons_zero, List.set_cons_succ])
  refine p_call rfl (by (go_simp; first | done | exact ⟨rfl, rfl⟩ | rfl)) ?_
  refine (eqTerrain t _ _ _ _ _ (((hO4.bel hB2).bel (bel_drew (bel_refl _))).bel hb11).sl hO7.sl ht).mono ?_
  rintro _ w12 ⟨rfl, hb12⟩
  refine ⟨_, rfl, ⟨⟨_, bel_trans (bel_trans (bel_drew (bel_refl _)) hb11) hb12⟩, rfl⟩, ?_⟩
  (try simp only [Act.put, List.setIfInBounds_toArray, List.set_cons_zero, List.set_cons_succ])
  (iterate 1 (refine p_free rfl (by rintro w' ⟨d, rfl⟩; obtain ⟨hDc, hDf⟩ := hD d; (go_simp; first | done | rfl)) ?_; (try simp only [Act.put, List.setIfInBounds_toArray, List.set_cons_zero, List.set_cons_succ])))
  refine p_stop ?_
  (try simp only [Act.put, List.setIfInBounds_toArray, List.set_cons_zero, List.set_cons_succ])
  replace hB2 := bel_trans hB2 (bel_trans (bel_trans (bel_drew (bel_refl _)) hb11) hb12)
  clear hC1 hF1 hD
  go_wp2_with fail
  refine (toIntS _ _ _ so _ ((hSz.bel hBw).bel hB2) hn).mono ?_
  rintro _ w13 ⟨g8, rfl, hOs3, hb13⟩
  replace hB2 := bel_trans hB2 hb13
  go_wp2_with fail
  refine (eqIntS _ _ _ _ _ so _ (hOs2.bel hB2).sl hOs3.sl hn).mono ?_
  rintro _ w14 ⟨rfl, hb14⟩
  replace hB2 := bel_trans hB2 hb14
  go_wp2_with fail
  refine (toIntS _ _ _ ass _ ((hMz.bel hBw).bel hB2) hm).mono ?_
  rintro _ w15 ⟨g9, rfl, hOi3, hb15⟩
  replace hB2 := bel_trans hB2 hb15
  go_wp2_with fail
  refine (eqIntS _ _ _ _ _ ass _ (hOi2.bel hB2).sl hOi3.sl hm).mono ?_
  rintro _ w16 ⟨rfl, hb16⟩
  replace hB2 := bel_trans hB2 hb16
  go_wp2
  go_ret
  exact ⟨rfl, bel_trans (bel_alloc (bel_refl w)) (bel_trans hBw hB2)⟩
end Go.Proofs.Ytcdgkiiokplidaa
