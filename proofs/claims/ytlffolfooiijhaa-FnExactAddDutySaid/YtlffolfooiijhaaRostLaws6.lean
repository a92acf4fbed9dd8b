/-
  The law on a duty more, walked.
-/
import Derived.Test.YtlffolfooiijhaaRostStable
import Derived.Test.YtlffolfooiijhaaFree
namespace Go.Proofs.Ytlffolfooiijhaa
open Go.RowKit

set_option maxHeartbeats 1000000 in
theorem lawAddDuty (A0 : Option Addr) (n0 c0 : Nat) (xs0 : List Duty) (x1_0 x1_1 x1_2 : Int) (w : World) (hS0 : Sl w 3 A0 n0 c0 (xs0.flatMap Duty.row)) :
    Calls Try.prog 3 #[.slice A0 n0 c0, .agg #[.int .i64 x1_0, .int .i64 x1_1, .int .i64 x1_2]] w fun e w' => e = .returned (.bool true) ∧ Below w.heap.size w w' := by
  have hmx0 := Nat.le_trans hS0.cap hS0.max
  have hB := bel_refl (w.alloc (.cells #[.int .i64 x1_0, .int .i64 x1_1, .int .i64 x1_2] 24))
  have hW : w.heap.size ≤ (w.alloc (.cells #[.int .i64 x1_0, .int .i64 x1_1, .int .i64 x1_2] 24)).heap.size := by simp; try omega
  by_cases hn0 : (n0 : Int) ≤ 1048576
  rotate_left
  · go_enter Try.func3, Try.ntmps3
    go_wp2_with fail
    refine (szDutyS_no _ _ _ (1048576) _ (by omega) (by omega) hmx0 (by omega)).mono ?_
    rintro _ _ ⟨rfl, rfl⟩
    go_wp2
    go_ret
    exact ⟨rfl, by (repeat' (first | (with_reducible exact bel_refl _) | (with_reducible assumption) | (with_reducible refine bel_drew ?_) | (with_reducible refine bel_drewN ?_) | (with_reducible refine bel_alloc ?_) | (with_reducible refine bel_set ?_ ?_) | (with_reducible refine bel_trans ?_ (by with_reducible assumption)) | omega | (simp; done) | (simp; omega)))⟩
  go_enter Try.func3, Try.ntmps3
  go_wp2_with fail
  refine (szDutyS_yes _ _ _ (1048576) _ (by omega) (by omega) (by omega)).mono ?_
  rintro _ _ ⟨rfl, rfl⟩
  go_wp2_with fail
  have hB2 := hB
  replace hB := bel_drew hB
  have hBR := bel_drew (bel_refl (w.alloc (.cells #[.int .i64 x1_0, .int .i64 x1_1, .int .i64 x1_2] 24)))
  have hzd0 : (w.alloc (.cells #[.int .i64 x1_0, .int .i64 x1_1, .int .i64 x1_2] 24)).drew.heap.size = (w.alloc (.cells #[.int .i64 x1_0, .int .i64 x1_1, .int .i64 x1_2] 24)).heap.size := rfl
  (refine wp_region_freeB [(false, 0), (false, 2), (true, 1), (true, 3), (true, 4), (false, 5), (false, 6), (false, 7), (false, 8), (false, 9)] (by kernel_rfl) (by kernel_rfl) ?_; have hD := bel_cells hB2; simp only [opsAtF, List.map_cons, List.map_nil, List.getElem?_cons_zero, List.getElem?_cons_succ, Option.getD_some])
  (iterate 2 (refine head_step rfl (by rintro w' ⟨d, rfl⟩; obtain ⟨hDc, hDf⟩ := hD d; (go_simp; first | done | rfl)) ?_; (try simp only [Act.put, List.setIfInBounds_toArray, List.set_cons_zero, List.set_cons_succ])))
  refine tail_call rfl (by (go_simp; first | done | exact ⟨rfl, rfl⟩ | rfl)) ?_
  refine (toDutyS _ _ _ xs0 _ (hS0.bel (hB.mono hW |> fun h => (Below.trans (by (repeat' (first | (with_reducible exact bel_refl _) | (with_reducible assumption) | (with_reducible refine bel_drew ?_) | (with_reducible refine bel_drewN ?_) | (with_reducible refine bel_alloc ?_) | (with_reducible refine bel_set ?_ ?_) | (with_reducible refine bel_trans ?_ (by with_reducible assumption)) | omega | (simp; done) | (simp; omega)))) h))) (by omega)).mono ?_
  rintro _ w1 ⟨ga0, rfl, hOa0, hb1⟩
  have hz1 := hb1.size
  replace hBR := bel_trans hBR hb1
  refine ⟨_, rfl, ⟨⟨_, hBR⟩, rfl⟩, ?_⟩
  (try simp only [Act.put, List.setIfInBounds_toArray, List.set_cons_zero, List.set_cons_succ])
  replace hB := bel_trans hB hb1
  obtain ⟨hC1, hF1⟩ := bcell hB
  refine tail_call rfl (by (go_simp; first | done | exact ⟨rfl, rfl⟩ | rfl)) ?_
  refine (toDuty _ _ _ _).mono ?_
  rintro _ w2 ⟨rfl, hb2⟩
  have hz2 := hb2.size
  replace hBR := bel_trans hBR hb2
  refine ⟨_, rfl, ⟨⟨_, hBR⟩, rfl⟩, ?_⟩
  (try simp only [Act.put, List.setIfInBounds_toArray, List.set_cons_zero, List.set_cons_succ])
  replace hOa0 := hOa0.bel hb2
  replace hB := bel_trans hB hb2
  obtain ⟨hC1, hF1⟩ := bcell hB
  refine tail_call rfl (by (go_simp; first | done | exact ⟨rfl, rfl⟩ | rfl)) ?_
  refine (addDutyS _ _ _ xs0 ⟨x1_0, x1_1, x1_2⟩ _ hOa0.sl (by omega)).mono ?_
  rintro _ w3 ⟨Aw, nw, cw, rfl, hOw, hb3⟩
  have hz3 := hb3.size
  replace hBR := bel_trans hBR hb3
  refine ⟨_, rfl, ⟨⟨_, hBR⟩, rfl⟩, ?_⟩
  (try simp only [Act.put, List.setIfInBounds_toArray, List.set_cons_zero, List.set_cons_succ])
  replace hOa0 := hOa0.bel hb3
  replace hB := bel_trans hB hb3
  obtain ⟨hC1, hF1⟩ := bcell hB
  (iterate 5 (refine head_step rfl (by rintro w' ⟨d, rfl⟩; obtain ⟨hDc, hDf⟩ := hD d; (go_simp; first | done | rfl)) ?_; (try simp only [Act.put, List.setIfInBounds_toArray, List.set_cons_zero, List.set_cons_succ])))
  refine go_end ?_
  (try simp only [Act.put, List.setIfInBounds_toArray, List.set_cons_zero, List.set_cons_succ])
  clear hD hB2 hBR
  go_wp2_with fail
  refine (toDutyS _ _ _ xs0 _ (hS0.bel (hB.mono hW |> fun h => (Below.trans (by (repeat' (first | (with_reducible exact bel_refl _) | (with_reducible assumption) | (with_reducible refine bel_drew ?_) | (with_reducible refine bel_drewN ?_) | (with_reducible refine bel_alloc ?_) | (with_reducible refine bel_set ?_ ?_) | (with_reducible refine bel_trans ?_ (by with_reducible assumption)) | omega | (simp; done) | (simp; omega)))) h))) (by omega)).mono ?_
  rintro _ w4 ⟨gb0, rfl, hOb0, hb4⟩
  have hz4 := hb4.size
  replace hOa0 := hOa0.bel hb4
  replace hOw := hOw.bel hb4
  replace hB := bel_trans hB hb4
  obtain ⟨hC1, hF1⟩ := bcell hB
  go_wp2_with fail
  refine (toDuty _ _ _ _).mono ?_
  rintro _ w5 ⟨rfl, hb5⟩
  have hz5 := hb5.size
  replace hOa0 := hOa0.bel hb5
  replace hOw := hOw.bel hb5
  replace hOb0 := hOb0.bel hb5
  replace hB := bel_trans hB hb5
  obtain ⟨hC1, hF1⟩ := bcell hB
  go_wp2_with fail
  refine (addDutyI _ _ _ xs0 ⟨x1_0, x1_1, x1_2⟩ _ hOb0.sl (by omega)).mono ?_
  rintro _ w6 ⟨Ag, ng, cg, rfl, hOg, hb6⟩
  have hz6 := hb6.size
  replace hOa0 := hOa0.bel hb6
  replace hOw := hOw.bel hb6
  replace hOb0 := hOb0.bel hb6
  replace hB := bel_trans hB hb6
  obtain ⟨hC1, hF1⟩ := bcell hB
  have hbd := addR_len xs0 ⟨x1_0, x1_1, x1_2⟩
  have hlw := hOw.sl.xs_len Duty.row_len (by omega)
  have hlg := hOg.sl.xs_len Duty.row_len (by omega)
  obtain rfl : ng = nw := hlg.symm.trans hlw
  have hng : ng ≤ 1048576 := by omega
  clear hlw hlg hbd
  go_wp2_with fail
  refine (eqDutyS _ _ _ _ _ _ _ hOg.sl hOw.sl hng ).mono ?_
  rintro _ w7 ⟨rfl, hb7⟩
  have hz7 := hb7.size
  replace hOa0 := hOa0.bel hb7
  replace hOw := hOw.bel hb7
  replace hOb0 := hOb0.bel hb7
  replace hOg := hOg.bel hb7
  replace hB := bel_trans hB hb7
  obtain ⟨hC1, hF1⟩ := bcell hB
  go_wp2_with fail
  refine (toDutyS _ _ _ xs0 _ (hS0.bel (hB.mono hW |> fun h => (Below.trans (by (repeat' (first | (with_reducible exact bel_refl _) | (with_reducible assumption) | (with_reducible refine bel_drew ?_) | (with_reducible refine bel_drewN ?_) | (with_reducible refine bel_alloc ?_) | (with_reducible refine bel_set ?_ ?_) | (with_reducible refine bel_trans ?_ (by with_reducible assumption)) | omega | (simp; done) | (simp; omega)))) h))) (by omega)).mono ?_
  rintro _ w8 ⟨gc0, rfl, hOc0, hb8⟩
  have hz8 := hb8.size
  replace hOa0 := hOa0.bel hb8
  replace hOw := hOw.bel hb8
  replace hOb0 := hOb0.bel hb8
  replace hOg := hOg.bel hb8
  replace hB := bel_trans hB hb8
  obtain ⟨hC1, hF1⟩ := bcell hB
  go_wp2_with fail
  refine (eqDutyS _ _ _ _ _ _ _ hOb0.sl hOc0.sl (by omega)).mono ?_
  rintro _ w9 ⟨rfl, hb9⟩
  have hz9 := hb9.size
  replace hOa0 := hOa0.bel hb9
  replace hOw := hOw.bel hb9
  replace hOb0 := hOb0.bel hb9
  replace hOg := hOg.bel hb9
  replace hOc0 := hOc0.bel hb9
  replace hB := bel_trans hB hb9
  obtain ⟨hC1, hF1⟩ := bcell hB
  have hOm := hOb0
  go_wp2_with fail
  refine (markDutyS _ _ _ _ _ (1) _ _ hOb0 (by omega) (by omega) (by omega)).mono ?_
  rintro _ w10 ⟨rfl, hOb0, hg10⟩
  have hz10 := hg10.size
  replace hOw := hOw.grown hg10 (fun g h => by have := hOm.ob g h; omega)
  replace hOg := hOg.grown hg10 (fun g h => by have := hOm.ob g h; omega)
  replace hB := hOm.bel_grown hB hg10 (by omega)
  obtain ⟨hC1, hF1⟩ := bcell hB
  clear hOm
  go_wp2_with fail
  refine (eqDutyS _ _ _ _ _ _ _ hOg.sl hOw.sl hng ).mono ?_
  rintro _ w11 ⟨rfl, hb11⟩
  have hz11 := hb11.size
  replace hOw := hOw.bel hb11
  replace hOb0 := hOb0.bel hb11
  replace hOg := hOg.bel hb11
  replace hB := bel_trans hB hb11
  obtain ⟨hC1, hF1⟩ := bcell hB
  have hOm := hOg
  go_wp2_with fail
  refine (markDutyS _ _ _ _ _ 1 _ _ hOg hng (by omega) (by omega)).mono ?_
  rintro _ w12 ⟨rfl, hOg, hg12⟩
  have hz12 := hg12.size
  replace hOw := hOw.grown hg12 (fun g h => by have := hOm.ob g h; omega)
  replace hB := hOm.bel_grown hB hg12 (by omega)
  obtain ⟨hC1, hF1⟩ := bcell hB
  clear hOm
  go_wp2_with fail
  refine (heldDutyS _ _ _ 1 _ hOg.sl hng (by omega) (by omega)).mono ?_
  rintro _ w13 ⟨rfl, hb13⟩
  have hz13 := hb13.size
  replace hOw := hOw.bel hb13
  replace hOg := hOg.bel hb13
  replace hB := bel_trans hB hb13
  obtain ⟨hC1, hF1⟩ := bcell hB
  go_wp2_with fail
  have hB2 := hB
  replace hB := bel_drew hB
  have hBR := bel_drew (bel_refl w13)
  have hzd13 : w13.drew.heap.size = w13.heap.size := rfl
  replace hOw := hOw.bel (bel_drew (bel_refl _))
  replace hOg := hOg.bel (bel_drew (bel_refl _))
  (refine wp_region_freeB [(false, 0), (false, 2), (true, 1), (true, 3), (true, 4), (false, 5), (false, 6), (false, 7), (false, 8), (false, 9)] (by kernel_rfl) (by kernel_rfl) ?_; have hD := bel_cells hB2; simp only [opsAtF, List.map_cons, List.map_nil, List.getElem?_cons_zero, List.getElem?_cons_succ, Option.getD_some])
  (iterate 2 (refine head_step rfl (by rintro w' ⟨d, rfl⟩; obtain ⟨hDc, hDf⟩ := hD d; (go_simp; first | done | rfl)) ?_; (try simp only [Act.put, List.setIfInBounds_toArray, List.set_cons_zero, List.set_cons_succ])))
  refine tail_call rfl (by (go_simp; first | done | exact ⟨rfl, rfl⟩ | rfl)) ?_
  refine (toDutyS _ _ _ xs0 _ (hS0.bel (hB.mono hW |> fun h => (Below.trans (by (repeat' (first | (with_reducible exact bel_refl _) | (with_reducible assumption) | (with_reducible refine bel_drew ?_) | (with_reducible refine bel_drewN ?_) | (with_reducible refine bel_alloc ?_) | (with_reducible refine bel_set ?_ ?_) | (with_reducible refine bel_trans ?_ (by with_reducible assumption)) | omega | (simp; done) | (simp; omega)))) h))) (by omega)).mono ?_
  rintro _ w14 ⟨gd0, rfl, hOd0, hb14⟩
  have hz14 := hb14.size
  replace hBR := bel_trans hBR hb14
  refine ⟨_, rfl, ⟨⟨_, hBR⟩, rfl⟩, ?_⟩
  (try simp only [Act.put, List.setIfInBounds_toArray, List.set_cons_zero, List.set_cons_succ])
  replace hOw := hOw.bel hb14
  replace hOg := hOg.bel hb14
  replace hB := bel_trans hB hb14
  obtain ⟨hC1, hF1⟩ := bcell hB
  refine tail_call rfl (by (go_simp; first | done | exact ⟨rfl, rfl⟩ | rfl)) ?_
  refine (toDuty _ _ _ _).mono ?_
  rintro _ w15 ⟨rfl, hb15⟩
  have hz15 := hb15.size
  replace hBR := bel_trans hBR hb15
  refine ⟨_, rfl, ⟨⟨_, hBR⟩, rfl⟩, ?_⟩
  (try simp only [Act.put, List.setIfInBounds_toArray, List.set_cons_zero, List.set_cons_succ])
  replace hOw := hOw.bel hb15
  replace hOg := hOg.bel hb15
  replace hOd0 := hOd0.bel hb15
  replace hB := bel_trans hB hb15
  obtain ⟨hC1, hF1⟩ := bcell hB
  refine tail_call rfl (by (go_simp; first | done | exact ⟨rfl, rfl⟩ | rfl)) ?_
  refine (addDutyI _ _ _ xs0 ⟨x1_0, x1_1, x1_2⟩ _ hOd0.sl (by omega)).mono ?_
  rintro _ w16 ⟨Ah, nh, ch, rfl, hOh, hb16⟩
  have hz16 := hb16.size
  replace hBR := bel_trans hBR hb16
  refine ⟨_, rfl, ⟨⟨_, hBR⟩, rfl⟩, ?_⟩
  (try simp only [Act.put, List.setIfInBounds_toArray, List.set_cons_zero, List.set_cons_succ])
  replace hOw := hOw.bel hb16
  replace hOg := hOg.bel hb16
  replace hOd0 := hOd0.bel hb16
  replace hB := bel_trans hB hb16
  obtain ⟨hC1, hF1⟩ := bcell hB
  (iterate 5 (refine head_step rfl (by rintro w' ⟨d, rfl⟩; obtain ⟨hDc, hDf⟩ := hD d; (go_simp; first | done | rfl)) ?_; (try simp only [Act.put, List.setIfInBounds_toArray, List.set_cons_zero, List.set_cons_succ])))
  refine go_end ?_
  (try simp only [Act.put, List.setIfInBounds_toArray, List.set_cons_zero, List.set_cons_succ])
  clear hD hB2 hBR
  have hlw := hOw.sl.xs_len Duty.row_len (by omega)
  have hlh := hOh.sl.xs_len Duty.row_len (by omega)
  obtain rfl : nh = ng := hlh.symm.trans hlw
  clear hlw hlh
  go_wp2_with fail
  refine (eqDutyS _ _ _ _ _ _ _ hOh.sl hOw.sl hng ).mono ?_
  rintro _ w17 ⟨rfl, hb17⟩
  have hz17 := hb17.size
  replace hOw := hOw.bel hb17
  replace hOg := hOg.bel hb17
  replace hOd0 := hOd0.bel hb17
  replace hOh := hOh.bel hb17
  replace hB := bel_trans hB hb17
  obtain ⟨hC1, hF1⟩ := bcell hB
  go_wp2_with fail
  refine (heldDutyS _ _ _ 1 _ hOg.sl hng (by omega) (by omega)).mono ?_
  rintro _ w18 ⟨rfl, hb18⟩
  have hz18 := hb18.size
  replace hOw := hOw.bel hb18
  replace hOg := hOg.bel hb18
  replace hOd0 := hOd0.bel hb18
  replace hOh := hOh.bel hb18
  replace hB := bel_trans hB hb18
  obtain ⟨hC1, hF1⟩ := bcell hB
  go_wp2
  go_ret
  exact ⟨rfl, by (repeat' (first | (with_reducible exact bel_refl _) | (with_reducible assumption) | (with_reducible refine bel_drew ?_) | (with_reducible refine bel_drewN ?_) | (with_reducible refine bel_alloc ?_) | (with_reducible refine bel_set ?_ ?_) | (with_reducible refine bel_trans ?_ (by with_reducible assumption)) | omega | (simp; done) | (simp; omega)))⟩



end Go.Proofs.Ytlffolfooiijhaa
