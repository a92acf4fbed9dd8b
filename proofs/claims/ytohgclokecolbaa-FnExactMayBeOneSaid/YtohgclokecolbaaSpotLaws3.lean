/-
  The laws on two hot spots that may be one, walked.
-/
import Derived.Test.YtohgclokecolbaaSpotMay
import Derived.Test.YtohgclokecolbaaQuietTail
namespace Go.Proofs.Ytohgclokecolbaa
open Go.RowKit

theorem lawMayBeOne (x0_0 x0_1 x0_2 x0_3 x0_4 x0_5 : Int) (x1_0 x1_1 x1_2 x1_3 x1_4 x1_5 : Int) (w : World) :
    Calls Try.prog 3 #[.agg #[.int .i64 x0_0, .int .i64 x0_1, .int .i64 x0_2, .int .i64 x0_3, .int .i64 x0_4, .int .i64 x0_5], .agg #[.int .i64 x1_0, .int .i64 x1_1, .int .i64 x1_2, .int .i64 x1_3, .int .i64 x1_4, .int .i64 x1_5]] w fun e w' => e = .returned (.bool true) ∧ Below w.heap.size w w' := by
  have hB2 := bel_refl ((w.alloc (.cells #[.int .i64 x0_0, .int .i64 x0_1, .int .i64 x0_2, .int .i64 x0_3, .int .i64 x0_4, .int .i64 x0_5] 23)).alloc (.cells #[.int .i64 x1_0, .int .i64 x1_1, .int .i64 x1_2, .int .i64 x1_3, .int .i64 x1_4, .int .i64 x1_5] 23))
  go_enter Try.func3, Try.ntmps3
  go_wp2_with fail
  (refine wp_region_bel (by kernel_rfl) (by kernel_rfl) ?_; have hD := bel_cells hB2; (repeat (go_big_quiet_step ((first | (go_at_call 7; exact calls_bel (toHotspot _ _ _ _ _ _ _)) | (go_at_call 6; exact calls_bel (mayS ⟨x0_0, x0_1, x0_2, x0_3, x0_4, x0_5⟩ ⟨x1_0, x1_1, x1_2, x1_3, x1_4, x1_5⟩ _)))))); refine wpQuiet_nil ?_; intro w1 hB1; replace hB2 := bel_trans hB2 hB1; obtain ⟨hC1, hF1⟩ := bcell hB2; clear hD; replace hB1 := hB1)
  go_wp2_with fail
  (refine wp_region_bel (by kernel_rfl) (by kernel_rfl) ?_; have hD := bel_cells hB2; (repeat (go_big_quiet_step ((first | (go_at_call 7; exact calls_bel (toHotspot _ _ _ _ _ _ _)) | (go_at_call 8; exact calls_bel (mayI ⟨x0_0, x0_1, x0_2, x0_3, x0_4, x0_5⟩ ⟨x1_0, x1_1, x1_2, x1_3, x1_4, x1_5⟩ _)))))); refine wpQuiet_nil ?_; intro w1 hB1; replace hB2 := bel_trans hB2 hB1; obtain ⟨hC1, hF1⟩ := bcell hB2; clear hD; replace hB1 := hB1)
  go_wp2
  all_goals go_ret
  all_goals exact ⟨rfl, by (repeat' (first | (with_reducible exact bel_refl _) | (with_reducible assumption) | (with_reducible refine bel_drew ?_) | (with_reducible refine bel_drewN ?_) | (with_reducible refine bel_alloc ?_) | (with_reducible refine bel_set ?_ ?_) | (with_reducible refine bel_trans ?_ (by with_reducible assumption)) | omega | (simp; done) | (simp; omega)))⟩

set_option maxHeartbeats 1000000 in
theorem lawPlaceOfBoth (x0_0 x0_1 x0_2 x0_3 x0_4 x0_5 : Int) (x1_0 x1_1 x1_2 x1_3 x1_4 x1_5 : Int) (w : World) :
    Calls Try.prog 4 #[.agg #[.int .i64 x0_0, .int .i64 x0_1, .int .i64 x0_2, .int .i64 x0_3, .int .i64 x0_4, .int .i64 x0_5], .agg #[.int .i64 x1_0, .int .i64 x1_1, .int .i64 x1_2, .int .i64 x1_3, .int .i64 x1_4, .int .i64 x1_5]] w fun e w' => e = .returned (.bool true) ∧ Below w.heap.size w w' := by
  have hB2 := bel_refl ((w.alloc (.cells #[.int .i64 x0_0, .int .i64 x0_1, .int .i64 x0_2, .int .i64 x0_3, .int .i64 x0_4, .int .i64 x0_5] 23)).alloc (.cells #[.int .i64 x1_0, .int .i64 x1_1, .int .i64 x1_2, .int .i64 x1_3, .int .i64 x1_4, .int .i64 x1_5] 23))
  have hW : w.heap.size ≤ (((w.alloc (.cells #[.int .i64 x0_0, .int .i64 x0_1, .int .i64 x0_2, .int .i64 x0_3, .int .i64 x0_4, .int .i64 x0_5] 23)).alloc (.cells #[.int .i64 x1_0, .int .i64 x1_1, .int .i64 x1_2, .int .i64 x1_3, .int .i64 x1_4, .int .i64 x1_5] 23))).heap.size := by simp; try omega
  go_enter Try.func4, Try.ntmps4
  go_wp2_with fail
  (refine wp_region_bel_call 4 _ rfl (by kernel_rfl) (by kernel_rfl) ?_; have hD := bel_cells hB2; (simp only [List.take_succ_cons, List.take_zero, List.drop_succ_cons, List.drop_zero]); (repeat (go_big_quiet_step (((go_at_call 7; exact calls_bel (toHotspot _ _ _ _ _ _ _)))))); refine wpQuiet_nil ?_; intro w1 hB1; replace hB2 := bel_trans hB2 hB1; clear hD)
  refine ⟨rfl, _, _, by go_simp; first | done | rfl, (placeS ⟨x0_0, x0_1, x0_2, x0_3, x0_4, x0_5⟩ ⟨x1_0, x1_1, x1_2, x1_3, x1_4, x1_5⟩ _).mono ?_⟩
  rintro _ w2 ⟨Aw, nw, cw, rfl, hOw, hb2⟩
  refine ⟨_, rfl, ?_⟩
  ((repeat still_step); refine wpStill_nil ?_)
  replace hB2 := bel_trans hB2 hb2
  have hz0 := hB2.size
  obtain ⟨hC1, hF1⟩ := bcell hB2
  clear hB1
  go_wp2_with fail
  (refine wp_region_bel_call 4 _ rfl (by kernel_rfl) (by kernel_rfl) ?_; have hD := bel_cells hB2; (simp only [List.take_succ_cons, List.take_zero, List.drop_succ_cons, List.drop_zero]); (repeat (go_big_quiet_step (((go_at_call 7; exact calls_bel (toHotspot _ _ _ _ _ _ _)))))); refine wpQuiet_nil ?_; intro w1 hB1; replace hB2 := bel_trans hB2 hB1; clear hD)
  refine ⟨rfl, _, _, by go_simp; first | done | rfl, (placeI ⟨x0_0, x0_1, x0_2, x0_3, x0_4, x0_5⟩ ⟨x1_0, x1_1, x1_2, x1_3, x1_4, x1_5⟩ _).mono ?_⟩
  rintro _ w3 ⟨Ag, ng, cg, rfl, hOg, hb3⟩
  refine ⟨_, rfl, ?_⟩
  ((repeat still_step); refine wpStill_nil ?_)
  have hz1 := hB1.size
  have hz3 := hb3.size
  replace hOw := (hOw.bel hB1).bel hb3
  replace hB2 := bel_trans hB2 hb3
  obtain ⟨hC1, hF1⟩ := bcell hB2
  clear hB1
  have hbd := placeR_len ⟨x0_0, x0_1, x0_2, x0_3, x0_4, x0_5⟩ ⟨x1_0, x1_1, x1_2, x1_3, x1_4, x1_5⟩
  have hlw := hOw.sl.int_len
  have hlg := hOg.sl.int_len
  obtain rfl : ng = nw := hlg.symm.trans hlw
  have hng : ng ≤ 1048576 := by omega
  clear hlw hlg hbd
  go_wp2_with fail
  refine (eqIntS _ _ _ _ _ _ _ hOg.sl hOw.sl hng).mono ?_
  rintro _ w4 ⟨rfl, hb4⟩
  have hz4 := hb4.size
  replace hOw := hOw.bel hb4
  replace hOg := hOg.bel hb4
  replace hB2 := bel_trans hB2 hb4
  obtain ⟨hC1, hF1⟩ := bcell hB2
  go_wp2_with fail
  have hOm := hOg
  refine (markIntS _ _ _ _ _ 1 _ _ hOg hng (by omega) (by omega)).mono ?_
  rintro _ w5 ⟨rfl, hOg, hg5⟩
  have hz5 := hg5.size
  replace hOw := hOw.grown hg5 (fun g h => by have := hOm.ob g h; omega)
  replace hB2 := hOm.bel_grown hB2 hg5 (by omega)
  obtain ⟨hC1, hF1⟩ := bcell hB2
  clear hOm
  go_wp2_with fail
  refine (heldIntS _ _ _ 1 _ hOg.sl hng (by omega) (by omega)).mono ?_
  rintro _ w6 ⟨rfl, hb6⟩
  have hz6 := hb6.size
  replace hOw := hOw.bel hb6
  replace hOg := hOg.bel hb6
  replace hB2 := bel_trans hB2 hb6
  obtain ⟨hC1, hF1⟩ := bcell hB2
  go_wp2_with fail
  (refine wp_region_bel_call 4 _ rfl (by kernel_rfl) (by kernel_rfl) ?_; have hD := bel_cells hB2; (simp only [List.take_succ_cons, List.take_zero, List.drop_succ_cons, List.drop_zero]); (repeat (go_big_quiet_step (((go_at_call 7; exact calls_bel (toHotspot _ _ _ _ _ _ _)))))); refine wpQuiet_nil ?_; intro w1 hB1; replace hB2 := bel_trans hB2 hB1; clear hD)
  refine ⟨rfl, _, _, by go_simp; first | done | rfl, (placeI ⟨x0_0, x0_1, x0_2, x0_3, x0_4, x0_5⟩ ⟨x1_0, x1_1, x1_2, x1_3, x1_4, x1_5⟩ _).mono ?_⟩
  rintro _ w7 ⟨Ah, nh, ch, rfl, hOh, hb7⟩
  refine ⟨_, rfl, ?_⟩
  ((repeat still_step); refine wpStill_nil ?_)
  replace hOw := (hOw.bel hB1).bel hb7
  replace hOg := (hOg.bel hB1).bel hb7
  replace hB2 := bel_trans hB2 hb7
  obtain ⟨hC1, hF1⟩ := bcell hB2
  clear hB1
  have hlw := hOw.sl.int_len
  have hlh := hOh.sl.int_len
  obtain rfl : nh = ng := hlh.symm.trans hlw
  clear hlw hlh
  go_wp2_with fail
  refine (eqIntS _ _ _ _ _ _ _ hOh.sl hOw.sl hng).mono ?_
  rintro _ w8 ⟨rfl, hb8⟩
  replace hOg := hOg.bel hb8
  replace hB2 := bel_trans hB2 hb8
  go_wp2_with fail
  refine (heldIntS _ _ _ 1 _ hOg.sl hng (by omega) (by omega)).mono ?_
  rintro _ w9 ⟨rfl, hb9⟩
  replace hB2 := bel_trans hB2 hb9
  go_wp2
  go_ret
  exact ⟨rfl, by (repeat' (first | (with_reducible exact bel_refl _) | (with_reducible assumption) | (with_reducible refine bel_drew ?_) | (with_reducible refine bel_drewN ?_) | (with_reducible refine bel_alloc ?_) | (with_reducible refine bel_set ?_ ?_) | (with_reducible refine bel_trans ?_ (by with_reducible assumption)) | omega | (simp; done) | (simp; omega)))⟩
end Go.Proofs.Ytohgclokecolbaa
