/-
  The law on the cells that burn in some scenario, walked.
-/
import Derived.Test.YtdfjfopbhlbmkaaPossibleS
import Derived.Test.YtdfjfopbhlbmkaaLawWorst
import Derived.Test.YtdfjfopbhlbmkaaFireMark
namespace Go.Proofs.Ytdfjfopbhlbmkaa
open Go.RowKit

theorem okT_rep (t : Terr) (A : Option Addr) (c : Nat) {xs ys : List Scen} (h : ys.map Scen.data = xs.map Scen.data) (so : List Int) (st tick : Int) : okT ⟨t.W, t.H, A, t.n, c, t.burn⟩ ys so st tick = okT t xs so st tick := by
  unfold okT
  rw [askB_rep t A c h]
theorem cntI_rep (t : Terr) (A : Option Addr) (c : Nat) {xs ys : List Scen} (h : ys.map Scen.data = xs.map Scen.data) (so : List Int) (st tick : Int) (i : Nat) : cntI ⟨t.W, t.H, A, t.n, c, t.burn⟩ so st tick ys i = cntI t so st tick xs i := by
  induction i with
  | zero => rfl
  | succ i ih =>
    rcases data_get h i with ⟨h1, h2⟩ | ⟨x, y, h1, h2, h3, h4⟩
    · rw [cntI, cntI, h1, h2, ih]
    · rw [cntI_next h1, cntI_next h2, ih, burnL_rep, h3]
theorem mayR_rep (t : Terr) (A : Option Addr) (c : Nat) {xs ys : List Scen} (h : ys.map Scen.data = xs.map Scen.data) (so : List Int) (st tick : Int) : mayR ⟨t.W, t.H, A, t.n, c, t.burn⟩ ys so st tick = mayR t xs so st tick := by
  have hl : ys.length = xs.length := by simpa using congrArg List.length h
  unfold mayR mayL
  rw [okT_rep t A c h, hl, cntI_rep t A c h]
theorem mayR_len (t : Terr) (xs : List Scen) (so : List Int) (st tick : Int) : (mayR t xs so st tick).length ≤ t.n := by
  unfold mayR
  split
  · exact cellsL_len _ _
  · simp
theorem Rows1.grownIn {lo hi lo' hi' : Nat} {w w' : World} {A : Option Addr} {n c : Nat} {xs : List Scen} (h : Rows1 lo hi w A n c xs) (hg : GrownIn lo' hi' w w') (hd : hi' ≤ lo ∨ hi ≤ lo') : Rows1 lo hi w' A n c xs := by
  obtain ⟨zs, hz, hh⟩ := h.out
  refine ⟨⟨zs, hz.grownIn hg (by omega), hh⟩, fun i x hx => ?_, h.apart⟩
  obtain ⟨L, hL⟩ := h.row i x hx
  exact ⟨L, hL.grownIn hg (by omega)⟩
theorem szN_data {xs ys : List Scen} {w w' : World} (h : ys.map Scen.data = xs.map Scen.data) (hx : ScOk w xs) (hy : ScOk w' ys) (i : Nat) : szN ys i = szN xs i := by
  induction i with
  | zero => simp [szN]
  | succ i ih =>
    rcases data_get h i with ⟨h1, h2⟩ | ⟨x, y, h1, h2, h3, _⟩
    · unfold szN at ih ⊢
      rw [List.take_add_one, List.take_add_one, h1, h2]
      simpa using ih
    · have e1 := (hx i x h1).xs_len Phase.row_len (by omega)
      have e2 := (hy i y h2).xs_len Phase.row_len (by omega)
      rw [szN_next h1, szN_next h2, ih]
      rw [h3] at e2
      omega
theorem GrownIn.wide {lo hi lo' hi' : Nat} {w w' : World} (h : GrownIn lo hi w w') (h1 : lo' ≤ lo) (h2 : hi ≤ hi') : GrownIn lo' hi' w w' :=
  ⟨h.os, h.tape, h.output, h.size, fun k hk hr => h.block k hk (by omega)⟩
set_option maxHeartbeats 4000000 in
set_option maxRecDepth 100000 in
theorem lawPossibleCells (t : Terr) (A : Option Addr) (n c : Nat) (xs : List Scen) (B : Option Addr) (m d : Nat) (so : List Int) (st tick : Int) (w : World) (hT : TOk w t) (hS : Sl w 2 A n c (xs.flatMap Scen.row)) (hO : ScOk w xs) (hM : Sl w 1 B m d (ints so)) :
    Calls Try.prog 9 #[.agg #[.int .i64 t.W, .int .i64 t.H, .slice t.A t.n t.c], .slice A n c, .slice B m d, .int .i64 st, .int .i64 tick] w fun e w' => e = .returned (.bool true) ∧ Below w.heap.size w w' := by
  have hTz := (hT.bel (bel_alloc (o := .cells #[.int .i64 t.W, .int .i64 t.H, .slice t.A t.n t.c] 24) (bel_refl w)))
  have hMz := (hM.bel (bel_alloc (o := .cells #[.int .i64 t.W, .int .i64 t.H, .slice t.A t.n t.c] 24) (bel_refl w)))
  have hSz := (hS.bel (bel_alloc (o := .cells #[.int .i64 t.W, .int .i64 t.H, .slice t.A t.n t.c] 24) (bel_refl w)))
  have hOz := (hO.bel (bel_alloc (o := .cells #[.int .i64 t.W, .int .i64 t.H, .slice t.A t.n t.c] 24) (bel_refl w)))
  have hB2 := bel_refl (w.alloc (.cells #[.int .i64 t.W, .int .i64 t.H, .slice t.A t.n t.c] 24))
  have hmx := Nat.le_trans hM.cap hM.max
  have htx := Nat.le_trans (show t.n ≤ t.c from hT.cap) hT.max
  have hmx2 := hmx
  unfold maxLen at hmx2
  rcases Nat.lt_or_ge 1048576 m with hm | hm
  · go_enter Try.func9, Try.ntmps9
    go_wp2_with fail
    go_ret
    exact ⟨rfl, by (repeat' (first | (with_reducible exact bel_refl _) | (with_reducible assumption) | (with_reducible refine bel_drew ?_) | (with_reducible refine bel_drewN ?_) | (with_reducible refine bel_alloc ?_) | (with_reducible refine bel_set ?_ ?_) | (with_reducible refine bel_trans ?_ (by with_reducible assumption)) | omega | (simp; done) | (simp; omega)))⟩
  go_enter Try.func9, Try.ntmps9
  go_wp2_with (go_at_call 11; refine (szTerrain t _ _ (by omega) (by omega) htx).mono ?_; rintro _ w1 ⟨r, rfl, hr, hb1⟩; replace hB2 := bel_trans hB2 hb1)
  · go_ret
    exact ⟨rfl, by (repeat' (first | (with_reducible exact bel_refl _) | (with_reducible assumption) | (with_reducible refine bel_drew ?_) | (with_reducible refine bel_drewN ?_) | (with_reducible refine bel_alloc ?_) | (with_reducible refine bel_set ?_ ?_) | (with_reducible refine bel_trans ?_ (by with_reducible assumption)) | omega | (simp; done) | (simp; omega)))⟩
  obtain ⟨ht, hr0, hr1⟩ : t.n ≤ 1048576 ∧ 0 ≤ r ∧ r ≤ 1048576 := by omega
  clear hr
  go_wp2_with (go_at_call 12; refine (szScenarioSS _ _ _ xs _ _ hr0 hr1 (hSz.bel hB2) (hOz.bel hB2)).mono ?_; rintro _ w2 ⟨r2, rfl, hr2, hb2⟩; replace hB2 := bel_trans hB2 hb2; obtain ⟨hC1, hF1⟩ := bcell hB2)
  · go_ret
    exact ⟨rfl, by (repeat' (first | (with_reducible exact bel_refl _) | (with_reducible assumption) | (with_reducible refine bel_drew ?_) | (with_reducible refine bel_drewN ?_) | (with_reducible refine bel_alloc ?_) | (with_reducible refine bel_set ?_ ?_) | (with_reducible refine bel_trans ?_ (by with_reducible assumption)) | omega | (simp; done) | (simp; omega)))⟩
  have hsum : n + szN xs n ≤ 1048576 := by omega
  have hn : n ≤ 1048576 := by omega
  have hxl := hS.xs_len Scen.row_len (by omega)
  have hN : ∀ (i : Nat) (x : Scen), xs[i]? = some x → x.n ≤ 1048576 := fun i x hx => by
    have := szN_at hx (n := n) (by have := (List.getElem?_eq_some_iff.1 hx).1; omega)
    omega
  clear hr2
  refine (toTerrain t _ (hTz.bel hB2) ht).mono ?_
  rintro _ w3 ⟨g1, rfl, hO1, hb3⟩
  replace hB2 := bel_trans hB2 hb3
  go_wp2_with fail
  refine (toScenarioS _ _ _ xs _ (hSz.bel hB2) (hOz.bel hB2) hN hn).mono ?_
  rintro _ w4 ⟨g2, ys1, rfl, hd1, hN1, hOs1, hb4⟩
  replace hB2 := bel_trans hB2 hb4
  replace hO1 := hO1.bel hb4
  go_wp2_with fail
  refine (toIntS _ _ _ so _ (hMz.bel hB2) hm).mono ?_
  rintro _ w5 ⟨g3, rfl, hOi1, hb5⟩
  replace hB2 := bel_trans hB2 hb5
  replace hO1 := hO1.bel hb5
  replace hOs1 := hOs1.bel hb5
  go_wp2_with fail
  refine (mayS ⟨t.W, t.H, some ⟨g1, 0, none⟩, t.n, t.n, t.burn⟩ _ _ _ ys1 _ _ _ so st tick _ hO1.sl ht hOs1.out.sl hOs1.ok hN1 hn hOi1.sl hm).mono ?_
  rw [mayR_rep t _ _ hd1, okT_rep t _ _ hd1]
  rintro _ w6 ⟨Aw, kw, cw, rfl, hOw, hb6⟩
  replace hB2 := bel_trans hB2 hb6
  have hP06 := hB2.size
  obtain ⟨hC1, hF1⟩ := bcell hB2
  clear hO1 hOs1 hOi1 hd1 hN1 hb3 hb4 hb5 hb6 hb1 hb2
  go_wp2_with fail
  refine (toTerrain t _ (hTz.bel hB2) ht).mono ?_
  rintro _ w7 ⟨g4, rfl, hO4, hb7⟩
  have hP67 := hb7.size
  have hP69a := hb7
  replace hB2 := bel_trans hB2 hb7
  go_wp2_with fail
  refine (toScenarioS _ _ _ xs _ (hSz.bel (bel_alloc hB2)) (hOz.bel (bel_alloc hB2)) hN hn).mono ?_
  rintro _ w8 ⟨g5, ys2, rfl, hd2, hN2, hOs2, hb8⟩
  replace hB2 := bel_trans (bel_alloc hB2) hb8
  replace hO4 := (hO4.bel (bel_alloc (bel_refl _))).bel hb8
  have z0 : w8.cell? ⟨w7.heap.size, 0, none⟩ = some (.int .i64 t.W) := ((bcell hb8).1 _ 0 (by simp)).trans (by simp [go_sem])
  have z1 : w8.cell? ⟨w7.heap.size, 1, none⟩ = some (.int .i64 t.H) := ((bcell hb8).1 _ 1 (by simp)).trans (by simp [go_sem])
  have z2 : w8.cell? ⟨w7.heap.size, 2, none⟩ = some (.slice (some ⟨g4, 0, none⟩) t.n t.n) := ((bcell hb8).1 _ 2 (by simp)).trans (by simp [go_sem])
  have z3 : w7.heap.size < w8.heap.size := by have := hb8.size; simp at this; omega
  go_wp2_with fail
  refine (toIntS _ _ _ so _ (hMz.bel hB2) hm).mono ?_
  rintro _ w9 ⟨g6, rfl, hOi2, hb9⟩
  replace hB2 := bel_trans hB2 hb9
  replace hO4 := hO4.bel hb9
  replace hOs2 := hOs2.bel hb9
  replace z0 := ((bcell hb9).1 _ 0 z3).trans z0
  replace z1 := ((bcell hb9).1 _ 1 z3).trans z1
  replace z2 := ((bcell hb9).1 _ 2 z3).trans z2
  replace z3 := Nat.lt_of_lt_of_le z3 hb9.size
  have y0 : w9.cell? ⟨w.heap.size, 0, none⟩ = some (.int .i64 t.W) := ((bcell hB2).1 _ 0 (by simp)).trans (by simp [go_sem])
  have y1 : w9.cell? ⟨w.heap.size, 1, none⟩ = some (.int .i64 t.H) := ((bcell hB2).1 _ 1 (by simp)).trans (by simp [go_sem])
  have y2 : w9.cell? ⟨w.heap.size, 2, none⟩ = some (.slice t.A t.n t.c) := ((bcell hB2).1 _ 2 (by simp)).trans (by simp [go_sem])
  have y3 : w.heap.size < w9.heap.size := by have := hB2.size; simp at this; omega
  have hP69 : Below w6.heap.size w6 w9 := bel_trans (bel_trans (bel_trans hP69a (bel_alloc (bel_refl _))) hb8) hb9
  have hBw := hB2
  clear hB2 hC1 hF1
  go_wp2_with fail
  refine (mayI ⟨t.W, t.H, some ⟨g4, 0, none⟩, t.n, t.n, t.burn⟩ _ _ _ ys2 _ _ _ so st tick _ hO4.sl ht hOs2.out.sl hOs2.ok hN2 hn hOi2.sl hm).mono ?_
  rw [mayR_rep t _ _ hd2, okT_rep t _ _ hd2]
  rintro _ w10 ⟨Ag, kg, cg, rfl, hOg, hB2⟩
  have hq7 : w6.heap.size ≤ w7.heap.size := hP67
  obtain ⟨ok, hok⟩ : ∃ ok, okT t xs so st tick = ok := ⟨_, rfl⟩
  rw [hok]
  have hokd := hid hok
  clear hok
  obtain ⟨R, hRd⟩ : ∃ R, mayR t xs so st tick = R := ⟨_, rfl⟩
  rw [hRd] at hOw hOg
  obtain rfl : kg = kw := by
    have h1 := hOw.own.1
    have h2 := hOg.own.1
    rw [ints_len] at h1 h2
    omega
  have hkg : kg ≤ 1048576 := by
    have h1 := hOg.own.1
    rw [ints_len, ← hRd] at h1
    have h2 := mayR_len t xs so st tick
    omega
  have hOw9 := ((hOw.bel hP69))
  obtain ⟨hC1, hF1⟩ := bcell hB2
  go_wp2_with fail
  refine (eqIntS _ _ _ _ _ R _ hOg.sl (hOw9.bel hB2).sl hkg).mono ?_
  rintro _ w11 ⟨rfl, hb11⟩
  replace hB2 := bel_trans hB2 hb11
  replace hOg := hOg.bel hb11
  obtain ⟨hC1, hF1⟩ := bcell hB2
  go_wp2_with fail
  (refine wp_region_planB (.free 0 (.free 1 (.one 2 (.one 3 (.free 4 (.stop)))))) (by kernel_rfl) (by kernel_rfl) ?_; have hD := bel_cells hB2; simp only [Plan.ops, List.getElem?_cons_zero, List.getElem?_cons_succ, Option.getD_some])
  (iterate 2 (refine p_free rfl (by rintro w' ⟨d, rfl⟩; obtain ⟨hDc, hDf⟩ := hD d; (go_simp; first | done | rfl)) ?_; (try simp only [Act.put, List.setIfInBounds_toArray, List.set_cons_zero, List.set_cons_succ])))
  refine p_call rfl (by (go_simp; first | done | exact ⟨rfl, rfl⟩ | rfl)) ?_
  refine (toTerrain t _ (((hTz.bel hBw).bel hB2).bel (bel_drew (bel_refl _))) ht).mono ?_
  rintro _ w11 ⟨g7, rfl, hO7, hb11⟩
  refine ⟨_, rfl, ⟨⟨_, bel_trans (bel_drew (bel_refl _)) hb11⟩, rfl⟩, ?_⟩
  (try simp only [Act.put, List.setIfInBounds_toArray, List.set_cons_zero, List.set_cons_succ])
  refine p_call rfl (by (go_simp; first | done | exact ⟨rfl, rfl⟩ | rfl)) ?_
  refine (eqTerrain t _ _ _ _ _ (((hO4.bel hB2).bel (bel_drew (bel_refl _))).bel hb11).sl hO7.sl ht).mono ?_
  rintro _ w12 ⟨rfl, hb12⟩
  refine ⟨_, rfl, ⟨⟨_, bel_trans (bel_trans (bel_drew (bel_refl _)) hb11) hb12⟩, rfl⟩, ?_⟩
  (try simp only [Act.put, List.setIfInBounds_toArray, List.set_cons_zero, List.set_cons_succ])
  (iterate 1 (refine p_free rfl (by rintro w' ⟨d, rfl⟩; obtain ⟨hDc, hDf⟩ := hD d; (go_simp; first | done | rfl)) ?_; (try simp only [Act.put, List.setIfInBounds_toArray, List.set_cons_zero, List.set_cons_succ])))
  refine p_stop ?_
  (try simp only [Act.put, List.setIfInBounds_toArray, List.set_cons_zero, List.set_cons_succ])
  replace hOg := ((hOg.bel (bel_drew (bel_refl _))).bel hb11).bel hb12
  replace hB2 := bel_trans hB2 (bel_trans (bel_trans (bel_drew (bel_refl _)) hb11) hb12)
  clear hC1 hF1 hD
  go_wp2_with fail
  refine (toScenarioS _ _ _ xs _ ((hSz.bel hBw).bel hB2) ((hOz.bel hBw).bel hB2) hN hn).mono ?_
  rintro _ w13 ⟨g8, ys3, rfl, hd3, hN3, hOs3, hb13⟩
  replace hB2 := bel_trans hB2 hb13
  replace hOg := hOg.bel hb13
  go_wp2_with fail
  refine (eqScenarioS _ _ _ _ _ ys2 ys3 _ (hOs2.bel hB2).out.sl (hOs2.bel hB2).ok hOs3.out.sl hOs3.ok (hd3.trans hd2.symm) hN2 hn).mono ?_
  rintro _ w14 ⟨rfl, hb14⟩
  replace hB2 := bel_trans hB2 hb14
  replace hOg := hOg.bel hb14
  go_wp2_with fail
  refine (toIntS _ _ _ so _ ((hMz.bel hBw).bel hB2) hm).mono ?_
  rintro _ w15 ⟨g9, rfl, hOi3, hb15⟩
  replace hB2 := bel_trans hB2 hb15
  replace hOg := hOg.bel hb15
  go_wp2_with fail
  refine (eqIntS _ _ _ _ _ so _ (hOi2.bel hB2).sl hOi3.sl hm).mono ?_
  rintro _ w16 ⟨rfl, hb16⟩
  replace hB2 := bel_trans hB2 hb16
  replace hOg := hOg.bel hb16
  obtain ⟨hC1, hF1⟩ := bcell hB2
  go_wp2_with fail
  have hsum2 : n + szN ys2 n ≤ 1048576 := by
    rw [szN_data hd2 hO hOs2.ok n]
    exact hsum
  have hw78 := hb8.size
  have hw89 := hb9.size
  refine (markTerrain t.W t.H _ t.n t.n _ _ 1 _ _ (hO4.bel hB2) ht (by omega) (by omega)).mono ?_
  rintro _ w17 ⟨rfl, hG1⟩
  have hG := hG1.wide (lo' := w6.heap.size) (hi' := w9.heap.size) (Nat.le_refl _) (by simp at hw78; omega)
  go_wp2_with fail
  have hyl := hOs2.out.sl.xs_len Scen.row_len (by omega)
  refine (markScenarioS _ n _ _ _ _ ys2 _ ((hOs2.bel hB2).rows.grownIn hG1 (by first | omega | (simp; done) | (simp; omega))) hsum2 hyl (by omega) (by omega)).mono ?_
  rintro _ w18 ⟨rfl, hG2⟩
  replace hG := hG.trans (hG2.wide (lo' := w6.heap.size) (hi' := w9.heap.size) (by first | omega | (simp; done) | (simp; omega)) hw89)
  go_wp2_with fail
  have hOi3' := ((hOi2.bel hB2).grownIn hG1 (by simp at hw78; omega)).grownIn hG2 (by first | omega | simp)
  refine (markIntS _ m _ _ _ _ _ _ hOi3' hm (by omega) (by omega)).mono ?_
  rintro _ w19 ⟨rfl, hOi4, hg19⟩
  replace hG := hG.trans ((GrownIn.of hg19 hOi3'.ob).wide (lo' := w6.heap.size) (hi' := w9.heap.size) (by first | omega | (simp at hw78; omega)) (Nat.le_refl _))
  replace hOg := hOg.grownIn hG (by omega)
  have hOw19 := (hOw9.bel hB2).grownIn hG (by omega)
  go_wp2_with fail
  have hA := hG.bel (bel_trans hBw hB2) hP06
  refine (eqIntS _ _ _ _ _ R _ hOg.sl hOw19.sl hkg).mono ?_
  rintro _ w20 ⟨rfl, hb20⟩
  replace hA := bel_trans hA hb20
  replace hOg := hOg.bel hb20
  have hOw20 := hOw19.bel hb20
  go_wp2_with fail
  refine (markIntS _ kg _ _ _ _ _ _ hOg hkg (by omega) (by omega)).mono ?_
  rintro _ w21 ⟨rfl, hOm, hg21⟩
  have hG3 := GrownIn.of hg21 hOg.ob
  replace hA := hG3.bel hA hBw.size
  have hOw21 := hOw20.grownIn hG3 (by have := hP69.size; omega)
  go_wp2_with fail
  refine (heldIntS _ _ _ _ _ hOm.sl hkg (by omega) (by omega)).mono ?_
  rintro _ w22 ⟨rfl, hb22⟩
  replace hA := bel_trans hA hb22
  replace hOm := hOm.bel hb22
  obtain ⟨hC1, hF1⟩ := bcell hA
  go_wp2_with fail
  refine (toTerrain t _ (hTz.bel hA) ht).mono ?_
  rintro _ w23 ⟨g10, rfl, hO10, hb23⟩
  replace hA := bel_trans hA hb23
  go_wp2_with fail
  refine (toScenarioS _ _ _ xs _ (hSz.bel hA) (hOz.bel hA) hN hn).mono ?_
  rintro _ w24 ⟨g11, ys4, rfl, hd4, hN4, hOs4, hb24⟩
  replace hA := bel_trans hA hb24
  go_wp2_with fail
  refine (toIntS _ _ _ so _ (hMz.bel hA) hm).mono ?_
  rintro _ w25 ⟨g12, rfl, hOi5, hb25⟩
  go_wp2_with fail
  refine (mayI ⟨t.W, t.H, some ⟨g10, 0, none⟩, t.n, t.n, t.burn⟩ _ _ _ ys4 _ _ _ so st tick _ ((hO10.bel hb24).bel hb25).sl ht (hOs4.bel hb25).out.sl (hOs4.bel hb25).ok hN4 hn hOi5.sl hm).mono ?_
  rw [mayR_rep t _ _ hd4, okT_rep t _ _ hd4, hokd.out, hRd]
  rintro _ w26 ⟨Ah, kh, ch, rfl, hOh, hb26⟩
  have hbz := bel_trans (bel_trans (bel_trans hb23 hb24) hb25) hb26
  obtain rfl : kh = kg := by
    have h1 := hOm.own.1
    have h2 := hOh.own.1
    have h3 := hOw21.own.1
    rw [ints_len] at h2 h3
    omega
  go_wp2_with fail
  refine (eqIntS _ _ _ _ _ R _ hOh.sl ((hOw21.bel hb22).bel hbz).sl hkg).mono ?_
  rintro _ w27 ⟨rfl, hb27⟩
  go_wp2_with fail
  refine (heldIntS _ _ _ _ _ ((hOm.bel hbz).bel hb27).sl hkg (by omega) (by omega)).mono ?_
  rintro _ w28 ⟨rfl, hb28⟩
  replace hA := bel_trans (bel_trans (bel_trans (bel_trans hA hb25) hb26) hb27) hb28
  go_wp2
  go_ret
  exact ⟨rfl, bel_trans (bel_alloc (bel_refl w)) hA⟩
end Go.Proofs.Ytdfjfopbhlbmkaa
