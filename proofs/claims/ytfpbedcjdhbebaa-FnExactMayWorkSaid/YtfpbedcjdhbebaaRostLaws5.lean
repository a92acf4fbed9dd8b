/-
  The laws on what a crew may work, walked.
-/
import Derived.Test.YtfpbedcjdhbebaaRostMay
import Derived.Test.YtfpbedcjdhbebaaFree
namespace Go.Proofs.Ytfpbedcjdhbebaa
open Go.RowKit

theorem lawMayWork (A0 : Option Addr) (n0 c0 : Nat) (xs0 : List Duty) (x1_0 x1_1 x1_2 x1_3 : Int) (x2_0 x2_1 x2_2 : Int) (w : World) (hS0 : Sl w 3 A0 n0 c0 (xs0.flatMap Duty.row)) :
    Calls Try.prog 6 #[.slice A0 n0 c0, .agg #[.int .i64 x1_0, .int .i64 x1_1, .int .i64 x1_2, .int .i64 x1_3], .agg #[.int .i64 x2_0, .int .i64 x2_1, .int .i64 x2_2]] w fun e w' => e = .returned (.bool true) ∧ Below w.heap.size w w' := by
  have hmx0 := Nat.le_trans hS0.cap hS0.max
  have hB := bel_refl ((w.alloc (.cells #[.int .i64 x1_0, .int .i64 x1_1, .int .i64 x1_2, .int .i64 x1_3] 35)).alloc (.cells #[.int .i64 x2_0, .int .i64 x2_1, .int .i64 x2_2] 45))
  have hW : w.heap.size ≤ ((w.alloc (.cells #[.int .i64 x1_0, .int .i64 x1_1, .int .i64 x1_2, .int .i64 x1_3] 35)).alloc (.cells #[.int .i64 x2_0, .int .i64 x2_1, .int .i64 x2_2] 45)).heap.size := by simp; try omega
  by_cases hn0 : (n0 : Int) ≤ 1048576
  rotate_left
  · go_enter Try.func6, Try.ntmps6
    go_wp2_with fail
    refine (szDutyS_no _ _ _ (1048576) _ (by omega) (by omega) hmx0 (by omega)).mono ?_
    rintro _ _ ⟨rfl, rfl⟩
    go_wp2
    go_ret
    exact ⟨rfl, by (repeat' (first | (with_reducible exact bel_refl _) | (with_reducible assumption) | (with_reducible refine bel_drew ?_) | (with_reducible refine bel_drewN ?_) | (with_reducible refine bel_alloc ?_) | (with_reducible refine bel_set ?_ ?_) | (with_reducible refine bel_trans ?_ (by with_reducible assumption)) | omega | (simp; done) | (simp; omega)))⟩
  go_enter Try.func6, Try.ntmps6
  go_wp2_with fail
  refine (szDutyS_yes _ _ _ (1048576) _ (by omega) (by omega) (by omega)).mono ?_
  rintro _ _ ⟨rfl, rfl⟩
  go_wp2_with fail
  have hB2 := hB
  replace hB := bel_drew hB
  have hBR := bel_drew (bel_refl ((w.alloc (.cells #[.int .i64 x1_0, .int .i64 x1_1, .int .i64 x1_2, .int .i64 x1_3] 35)).alloc (.cells #[.int .i64 x2_0, .int .i64 x2_1, .int .i64 x2_2] 45)))
  have hzd0 : ((w.alloc (.cells #[.int .i64 x1_0, .int .i64 x1_1, .int .i64 x1_2, .int .i64 x1_3] 35)).alloc (.cells #[.int .i64 x2_0, .int .i64 x2_1, .int .i64 x2_2] 45)).drew.heap.size = ((w.alloc (.cells #[.int .i64 x1_0, .int .i64 x1_1, .int .i64 x1_2, .int .i64 x1_3] 35)).alloc (.cells #[.int .i64 x2_0, .int .i64 x2_1, .int .i64 x2_2] 45)).heap.size := rfl
  (refine wp_region_freeB [(false, 0), (false, 2), (false, 4), (true, 1), (true, 3), (true, 5), (true, 6), (false, 7), (false, 8), (false, 9), (false, 10), (false, 11)] (by kernel_rfl) (by kernel_rfl) ?_; have hD := bel_cells hB2; simp only [opsAtF, List.map_cons, List.map_nil, List.getElem?_cons_zero, List.getElem?_cons_succ, Option.getD_some])
  (iterate 3 (refine head_step rfl (by rintro w' ⟨d, rfl⟩; obtain ⟨hDc, hDf⟩ := hD d; (go_simp; first | done | rfl)) ?_; (try simp only [Act.put, List.setIfInBounds_toArray, List.set_cons_zero, List.set_cons_succ])))
  refine tail_call rfl (by (go_simp; first | done | exact ⟨rfl, rfl⟩ | rfl)) ?_
  refine (toDutyS _ _ _ xs0 _ (hS0.bel (hB.mono hW |> fun h => (Below.trans (by (repeat' (first | (with_reducible exact bel_refl _) | (with_reducible assumption) | (with_reducible refine bel_drew ?_) | (with_reducible refine bel_drewN ?_) | (with_reducible refine bel_alloc ?_) | (with_reducible refine bel_set ?_ ?_) | (with_reducible refine bel_trans ?_ (by with_reducible assumption)) | omega | (simp; done) | (simp; omega)))) h))) (by omega)).mono ?_
  rintro _ w1 ⟨ga0, rfl, hOa0, hb1⟩
  have hz1 := hb1.size
  replace hBR := bel_trans hBR hb1
  refine ⟨_, rfl, ⟨⟨_, hBR⟩, rfl⟩, ?_⟩
  (try simp only [Act.put, List.setIfInBounds_toArray, List.set_cons_zero, List.set_cons_succ])
  replace hB := bel_trans hB hb1
  obtain ⟨hC1, hF1⟩ := bcell hB
  refine tail_call rfl (by (go_simp; first | done | exact ⟨rfl, rfl⟩ | rfl)) ?_
  refine (toWorkRule _ _ _ _ _).mono ?_
  rintro _ w2 ⟨rfl, hb2⟩
  have hz2 := hb2.size
  replace hBR := bel_trans hBR hb2
  refine ⟨_, rfl, ⟨⟨_, hBR⟩, rfl⟩, ?_⟩
  (try simp only [Act.put, List.setIfInBounds_toArray, List.set_cons_zero, List.set_cons_succ])
  replace hOa0 := hOa0.bel hb2
  replace hB := bel_trans hB hb2
  obtain ⟨hC1, hF1⟩ := bcell hB
  refine tail_call rfl (by (go_simp; first | done | exact ⟨rfl, rfl⟩ | rfl)) ?_
  refine (toDuty _ _ _ _).mono ?_
  rintro _ w3 ⟨rfl, hb3⟩
  have hz3 := hb3.size
  replace hBR := bel_trans hBR hb3
  refine ⟨_, rfl, ⟨⟨_, hBR⟩, rfl⟩, ?_⟩
  (try simp only [Act.put, List.setIfInBounds_toArray, List.set_cons_zero, List.set_cons_succ])
  replace hOa0 := hOa0.bel hb3
  replace hB := bel_trans hB hb3
  obtain ⟨hC1, hF1⟩ := bcell hB
  refine tail_call rfl (by (go_simp; first | done | exact ⟨rfl, rfl⟩ | rfl)) ?_
  refine (mayRS _ _ _ xs0 ⟨x1_0, x1_1, x1_2, x1_3⟩ ⟨x2_0, x2_1, x2_2⟩ _ hOa0.sl (by omega)).mono ?_
  rintro _ w4 ⟨rfl, hb4⟩
  have hz4 := hb4.size
  replace hBR := bel_trans hBR hb4
  refine ⟨_, rfl, ⟨⟨_, hBR⟩, rfl⟩, ?_⟩
  (try simp only [Act.put, List.setIfInBounds_toArray, List.set_cons_zero, List.set_cons_succ])
  replace hOa0 := hOa0.bel hb4
  replace hB := bel_trans hB hb4
  obtain ⟨hC1, hF1⟩ := bcell hB
  (iterate 5 (refine head_step rfl (by rintro w' ⟨d, rfl⟩; obtain ⟨hDc, hDf⟩ := hD d; (go_simp; first | done | rfl)) ?_; (try simp only [Act.put, List.setIfInBounds_toArray, List.set_cons_zero, List.set_cons_succ])))
  refine go_end ?_
  (try simp only [Act.put, List.setIfInBounds_toArray, List.set_cons_zero, List.set_cons_succ])
  clear hD hB2 hBR
  go_wp2_with fail
  refine (toDutyS _ _ _ xs0 _ (hS0.bel (hB.mono hW |> fun h => (Below.trans (by (repeat' (first | (with_reducible exact bel_refl _) | (with_reducible assumption) | (with_reducible refine bel_drew ?_) | (with_reducible refine bel_drewN ?_) | (with_reducible refine bel_alloc ?_) | (with_reducible refine bel_set ?_ ?_) | (with_reducible refine bel_trans ?_ (by with_reducible assumption)) | omega | (simp; done) | (simp; omega)))) h))) (by omega)).mono ?_
  rintro _ w5 ⟨gb0, rfl, hOb0, hb5⟩
  have hz5 := hb5.size
  replace hOa0 := hOa0.bel hb5
  replace hB := bel_trans hB hb5
  obtain ⟨hC1, hF1⟩ := bcell hB
  go_wp2_with fail
  have hB2 := hB
  replace hB := bel_drew hB
  have hBR := bel_drew (bel_refl w5)
  have hzd5 : w5.drew.heap.size = w5.heap.size := rfl
  replace hOa0 := hOa0.bel (bel_drew (bel_refl _))
  replace hOb0 := hOb0.bel (bel_drew (bel_refl _))
  (refine wp_region_freeB [(false, 0), (false, 1), (false, 3), (true, 2), (true, 4), (true, 5), (false, 6), (false, 7), (false, 8), (false, 9), (false, 10)] (by kernel_rfl) (by kernel_rfl) ?_; have hD := bel_cells hB2; simp only [opsAtF, List.map_cons, List.map_nil, List.getElem?_cons_zero, List.getElem?_cons_succ, Option.getD_some])
  (iterate 3 (refine head_step rfl (by rintro w' ⟨d, rfl⟩; obtain ⟨hDc, hDf⟩ := hD d; (go_simp; first | done | rfl)) ?_; (try simp only [Act.put, List.setIfInBounds_toArray, List.set_cons_zero, List.set_cons_succ])))
  refine tail_call rfl (by (go_simp; first | done | exact ⟨rfl, rfl⟩ | rfl)) ?_
  refine (toWorkRule _ _ _ _ _).mono ?_
  rintro _ w6 ⟨rfl, hb6⟩
  have hz6 := hb6.size
  replace hBR := bel_trans hBR hb6
  refine ⟨_, rfl, ⟨⟨_, hBR⟩, rfl⟩, ?_⟩
  (try simp only [Act.put, List.setIfInBounds_toArray, List.set_cons_zero, List.set_cons_succ])
  replace hOa0 := hOa0.bel hb6
  replace hOb0 := hOb0.bel hb6
  replace hB := bel_trans hB hb6
  obtain ⟨hC1, hF1⟩ := bcell hB
  refine tail_call rfl (by (go_simp; first | done | exact ⟨rfl, rfl⟩ | rfl)) ?_
  refine (toDuty _ _ _ _).mono ?_
  rintro _ w7 ⟨rfl, hb7⟩
  have hz7 := hb7.size
  replace hBR := bel_trans hBR hb7
  refine ⟨_, rfl, ⟨⟨_, hBR⟩, rfl⟩, ?_⟩
  (try simp only [Act.put, List.setIfInBounds_toArray, List.set_cons_zero, List.set_cons_succ])
  replace hOa0 := hOa0.bel hb7
  replace hOb0 := hOb0.bel hb7
  replace hB := bel_trans hB hb7
  obtain ⟨hC1, hF1⟩ := bcell hB
  refine tail_call rfl (by (go_simp; first | done | exact ⟨rfl, rfl⟩ | rfl)) ?_
  refine (mayRI _ _ _ xs0 ⟨x1_0, x1_1, x1_2, x1_3⟩ ⟨x2_0, x2_1, x2_2⟩ _ hOb0.sl (by omega)).mono ?_
  rintro _ w8 ⟨rfl, hb8⟩
  have hz8 := hb8.size
  replace hBR := bel_trans hBR hb8
  refine ⟨_, rfl, ⟨⟨_, hBR⟩, rfl⟩, ?_⟩
  (try simp only [Act.put, List.setIfInBounds_toArray, List.set_cons_zero, List.set_cons_succ])
  replace hOa0 := hOa0.bel hb8
  replace hOb0 := hOb0.bel hb8
  replace hB := bel_trans hB hb8
  obtain ⟨hC1, hF1⟩ := bcell hB
  (iterate 5 (refine head_step rfl (by rintro w' ⟨d, rfl⟩; obtain ⟨hDc, hDf⟩ := hD d; (go_simp; first | done | rfl)) ?_; (try simp only [Act.put, List.setIfInBounds_toArray, List.set_cons_zero, List.set_cons_succ])))
  refine go_end ?_
  (try simp only [Act.put, List.setIfInBounds_toArray, List.set_cons_zero, List.set_cons_succ])
  clear hD hB2 hBR
  go_wp2_with fail
  refine (toDutyS _ _ _ xs0 _ (hS0.bel (hB.mono hW |> fun h => (Below.trans (by (repeat' (first | (with_reducible exact bel_refl _) | (with_reducible assumption) | (with_reducible refine bel_drew ?_) | (with_reducible refine bel_drewN ?_) | (with_reducible refine bel_alloc ?_) | (with_reducible refine bel_set ?_ ?_) | (with_reducible refine bel_trans ?_ (by with_reducible assumption)) | omega | (simp; done) | (simp; omega)))) h))) (by omega)).mono ?_
  rintro _ w9 ⟨gc0, rfl, hOc0, hb9⟩
  have hz9 := hb9.size
  replace hOa0 := hOa0.bel hb9
  replace hOb0 := hOb0.bel hb9
  replace hB := bel_trans hB hb9
  obtain ⟨hC1, hF1⟩ := bcell hB
  go_wp2_with fail
  refine (eqDutyS _ _ _ _ _ _ _ hOb0.sl hOc0.sl (by omega)).mono ?_
  rintro _ w10 ⟨rfl, hb10⟩
  have hz10 := hb10.size
  replace hOa0 := hOa0.bel hb10
  replace hOb0 := hOb0.bel hb10
  replace hOc0 := hOc0.bel hb10
  replace hB := bel_trans hB hb10
  obtain ⟨hC1, hF1⟩ := bcell hB
  go_wp2
  go_ret
  exact ⟨rfl, by (repeat' (first | (with_reducible exact bel_refl _) | (with_reducible assumption) | (with_reducible refine bel_drew ?_) | (with_reducible refine bel_drewN ?_) | (with_reducible refine bel_alloc ?_) | (with_reducible refine bel_set ?_ ?_) | (with_reducible refine bel_trans ?_ (by with_reducible assumption)) | omega | (simp; done) | (simp; omega)))⟩

theorem lawNextFree (A0 : Option Addr) (n0 c0 : Nat) (xs0 : List Duty) (x1_0 x1_1 x1_2 x1_3 : Int) (x2 : Int) (x3 : Int) (x4 : Int) (w : World) (hS0 : Sl w 3 A0 n0 c0 (xs0.flatMap Duty.row)) :
    Calls Try.prog 7 #[.slice A0 n0 c0, .agg #[.int .i64 x1_0, .int .i64 x1_1, .int .i64 x1_2, .int .i64 x1_3], .int .i64 x2, .int .i64 x3, .int .i64 x4] w fun e w' => e = .returned (.bool true) ∧ Below w.heap.size w w' := by
  have hmx0 := Nat.le_trans hS0.cap hS0.max
  have hB := bel_refl (w.alloc (.cells #[.int .i64 x1_0, .int .i64 x1_1, .int .i64 x1_2, .int .i64 x1_3] 35))
  have hW : w.heap.size ≤ (w.alloc (.cells #[.int .i64 x1_0, .int .i64 x1_1, .int .i64 x1_2, .int .i64 x1_3] 35)).heap.size := by simp; try omega
  by_cases hn0 : (n0 : Int) ≤ 1048576
  rotate_left
  · go_enter Try.func7, Try.ntmps7
    go_wp2_with fail
    refine (szDutyS_no _ _ _ (1048576) _ (by omega) (by omega) hmx0 (by omega)).mono ?_
    rintro _ _ ⟨rfl, rfl⟩
    go_wp2
    go_ret
    exact ⟨rfl, by (repeat' (first | (with_reducible exact bel_refl _) | (with_reducible assumption) | (with_reducible refine bel_drew ?_) | (with_reducible refine bel_drewN ?_) | (with_reducible refine bel_alloc ?_) | (with_reducible refine bel_set ?_ ?_) | (with_reducible refine bel_trans ?_ (by with_reducible assumption)) | omega | (simp; done) | (simp; omega)))⟩
  go_enter Try.func7, Try.ntmps7
  go_wp2_with fail
  refine (szDutyS_yes _ _ _ (1048576) _ (by omega) (by omega) (by omega)).mono ?_
  rintro _ _ ⟨rfl, rfl⟩
  go_wp2_with fail
  have hB2 := hB
  replace hB := bel_drew hB
  have hBR := bel_drew (bel_refl (w.alloc (.cells #[.int .i64 x1_0, .int .i64 x1_1, .int .i64 x1_2, .int .i64 x1_3] 35)))
  have hzd0 : (w.alloc (.cells #[.int .i64 x1_0, .int .i64 x1_1, .int .i64 x1_2, .int .i64 x1_3] 35)).drew.heap.size = (w.alloc (.cells #[.int .i64 x1_0, .int .i64 x1_1, .int .i64 x1_2, .int .i64 x1_3] 35)).heap.size := rfl
  (refine wp_region_freeB [(false, 0), (false, 2), (false, 4), (false, 5), (false, 6), (true, 1), (true, 3), (true, 7), (false, 8), (false, 9), (false, 10), (false, 11), (false, 12)] (by kernel_rfl) (by kernel_rfl) ?_; have hD := bel_cells hB2; simp only [opsAtF, List.map_cons, List.map_nil, List.getElem?_cons_zero, List.getElem?_cons_succ, Option.getD_some])
  (iterate 5 (refine head_step rfl (by rintro w' ⟨d, rfl⟩; obtain ⟨hDc, hDf⟩ := hD d; (go_simp; first | done | rfl)) ?_; (try simp only [Act.put, List.setIfInBounds_toArray, List.set_cons_zero, List.set_cons_succ])))
  refine tail_call rfl (by (go_simp; first | done | exact ⟨rfl, rfl⟩ | rfl)) ?_
  refine (toDutyS _ _ _ xs0 _ (hS0.bel (hB.mono hW |> fun h => (Below.trans (by (repeat' (first | (with_reducible exact bel_refl _) | (with_reducible assumption) | (with_reducible refine bel_drew ?_) | (with_reducible refine bel_drewN ?_) | (with_reducible refine bel_alloc ?_) | (with_reducible refine bel_set ?_ ?_) | (with_reducible refine bel_trans ?_ (by with_reducible assumption)) | omega | (simp; done) | (simp; omega)))) h))) (by omega)).mono ?_
  rintro _ w1 ⟨ga0, rfl, hOa0, hb1⟩
  have hz1 := hb1.size
  replace hBR := bel_trans hBR hb1
  refine ⟨_, rfl, ⟨⟨_, hBR⟩, rfl⟩, ?_⟩
  (try simp only [Act.put, List.setIfInBounds_toArray, List.set_cons_zero, List.set_cons_succ])
  replace hB := bel_trans hB hb1
  obtain ⟨hC1, hF1⟩ := bcell hB
  refine tail_call rfl (by (go_simp; first | done | exact ⟨rfl, rfl⟩ | rfl)) ?_
  refine (toWorkRule _ _ _ _ _).mono ?_
  rintro _ w2 ⟨rfl, hb2⟩
  have hz2 := hb2.size
  replace hBR := bel_trans hBR hb2
  refine ⟨_, rfl, ⟨⟨_, hBR⟩, rfl⟩, ?_⟩
  (try simp only [Act.put, List.setIfInBounds_toArray, List.set_cons_zero, List.set_cons_succ])
  replace hOa0 := hOa0.bel hb2
  replace hB := bel_trans hB hb2
  obtain ⟨hC1, hF1⟩ := bcell hB
  refine tail_call rfl (by (go_simp; first | done | exact ⟨rfl, rfl⟩ | rfl)) ?_
  refine (nextRS _ _ _ xs0 ⟨x1_0, x1_1, x1_2, x1_3⟩ x2 x3 x4 _ hOa0.sl (by omega)).mono ?_
  rintro _ w3 ⟨rfl, hb3⟩
  have hz3 := hb3.size
  replace hBR := bel_trans hBR hb3
  refine ⟨_, rfl, ⟨⟨_, hBR⟩, rfl⟩, ?_⟩
  (try simp only [Act.put, List.setIfInBounds_toArray, List.set_cons_zero, List.set_cons_succ])
  replace hOa0 := hOa0.bel hb3
  replace hB := bel_trans hB hb3
  obtain ⟨hC1, hF1⟩ := bcell hB
  (iterate 5 (refine head_step rfl (by rintro w' ⟨d, rfl⟩; obtain ⟨hDc, hDf⟩ := hD d; (go_simp; first | done | rfl)) ?_; (try simp only [Act.put, List.setIfInBounds_toArray, List.set_cons_zero, List.set_cons_succ])))
  refine go_end ?_
  (try simp only [Act.put, List.setIfInBounds_toArray, List.set_cons_zero, List.set_cons_succ])
  clear hD hB2 hBR
  go_wp2_with fail
  refine (toDutyS _ _ _ xs0 _ (hS0.bel (hB.mono hW |> fun h => (Below.trans (by (repeat' (first | (with_reducible exact bel_refl _) | (with_reducible assumption) | (with_reducible refine bel_drew ?_) | (with_reducible refine bel_drewN ?_) | (with_reducible refine bel_alloc ?_) | (with_reducible refine bel_set ?_ ?_) | (with_reducible refine bel_trans ?_ (by with_reducible assumption)) | omega | (simp; done) | (simp; omega)))) h))) (by omega)).mono ?_
  rintro _ w4 ⟨gb0, rfl, hOb0, hb4⟩
  have hz4 := hb4.size
  replace hOa0 := hOa0.bel hb4
  replace hB := bel_trans hB hb4
  obtain ⟨hC1, hF1⟩ := bcell hB
  go_wp2_with fail
  refine (toWorkRule _ _ _ _ _).mono ?_
  rintro _ w5 ⟨rfl, hb5⟩
  have hz5 := hb5.size
  replace hOa0 := hOa0.bel hb5
  replace hOb0 := hOb0.bel hb5
  replace hB := bel_trans hB hb5
  obtain ⟨hC1, hF1⟩ := bcell hB
  go_wp2_with fail
  refine (nextRI _ _ _ xs0 ⟨x1_0, x1_1, x1_2, x1_3⟩ x2 x3 x4 _ hOb0.sl (by omega)).mono ?_
  rintro _ w6 ⟨rfl, hb6⟩
  have hz6 := hb6.size
  replace hOa0 := hOa0.bel hb6
  replace hOb0 := hOb0.bel hb6
  replace hB := bel_trans hB hb6
  obtain ⟨hC1, hF1⟩ := bcell hB
  go_wp2_with fail
  refine (toDutyS _ _ _ xs0 _ (hS0.bel (hB.mono hW |> fun h => (Below.trans (by (repeat' (first | (with_reducible exact bel_refl _) | (with_reducible assumption) | (with_reducible refine bel_drew ?_) | (with_reducible refine bel_drewN ?_) | (with_reducible refine bel_alloc ?_) | (with_reducible refine bel_set ?_ ?_) | (with_reducible refine bel_trans ?_ (by with_reducible assumption)) | omega | (simp; done) | (simp; omega)))) h))) (by omega)).mono ?_
  rintro _ w7 ⟨gc0, rfl, hOc0, hb7⟩
  have hz7 := hb7.size
  replace hOa0 := hOa0.bel hb7
  replace hOb0 := hOb0.bel hb7
  replace hB := bel_trans hB hb7
  obtain ⟨hC1, hF1⟩ := bcell hB
  go_wp2_with fail
  refine (eqDutyS _ _ _ _ _ _ _ hOb0.sl hOc0.sl (by omega)).mono ?_
  rintro _ w8 ⟨rfl, hb8⟩
  have hz8 := hb8.size
  replace hOa0 := hOa0.bel hb8
  replace hOb0 := hOb0.bel hb8
  replace hOc0 := hOc0.bel hb8
  replace hB := bel_trans hB hb8
  obtain ⟨hC1, hF1⟩ := bcell hB
  go_wp2
  go_ret
  exact ⟨rfl, by (repeat' (first | (with_reducible exact bel_refl _) | (with_reducible assumption) | (with_reducible refine bel_drew ?_) | (with_reducible refine bel_drewN ?_) | (with_reducible refine bel_alloc ?_) | (with_reducible refine bel_set ?_ ?_) | (with_reducible refine bel_trans ?_ (by with_reducible assumption)) | omega | (simp; done) | (simp; omega)))⟩



end Go.Proofs.Ytfpbedcjdhbebaa
