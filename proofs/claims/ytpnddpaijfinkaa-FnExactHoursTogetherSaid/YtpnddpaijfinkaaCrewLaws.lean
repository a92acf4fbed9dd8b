/-
  The laws on crews whose results are numbers, walked.
-/
import Derived.Test.YtpnddpaijfinkaaCrewTop
namespace Go.Proofs.Ytpnddpaijfinkaa
open Go.RowKit

theorem lawIsCrew (i r t s b : Int) (w : World) :
    Calls Try.prog 3 #[.agg #[.int .i64 i, .int .i64 r, .int .i64 t, .int .i64 s, .int .i64 b]] w fun e w' => e = .returned (.bool true) ∧ Below w.heap.size w w' := by
  have hB2 := bel_refl (w.alloc (.cells #[.int .i64 i, .int .i64 r, .int .i64 t, .int .i64 s, .int .i64 b] 23))
  go_enter Try.func3, Try.ntmps3
  go_wp2_with (first
    | (go_at_call 15; refine (toCrew _ _ _ _ _ _).mono ?_; rintro _ w1 ⟨rfl, hB1⟩; (first | (with_reducible replace hB2 := bel_trans hB2 hB1) | (with_reducible replace hB2 := bel_trans (bel_alloc hB2) hB1)); obtain ⟨hC1, hF1⟩ := bcell hB2; replace hB1 := hB1)
    | (go_at_call 14; refine (isCrewS ⟨i, r, t, s, b⟩ _).mono ?_; rintro _ w1 ⟨rfl, hB1⟩; (first | (with_reducible replace hB2 := bel_trans hB2 hB1) | (with_reducible replace hB2 := bel_trans (bel_alloc hB2) hB1)); obtain ⟨hC1, hF1⟩ := bcell hB2; replace hB1 := hB1)
    | (go_at_call 16; refine (isCrewI ⟨i, r, t, s, b⟩ _).mono ?_; rintro _ w1 ⟨rfl, hB1⟩; (first | (with_reducible replace hB2 := bel_trans hB2 hB1) | (with_reducible replace hB2 := bel_trans (bel_alloc hB2) hB1)); obtain ⟨hC1, hF1⟩ := bcell hB2; replace hB1 := hB1))
  all_goals go_ret
  all_goals exact ⟨rfl, by (repeat' (first | (with_reducible exact bel_refl _) | (with_reducible assumption) | (with_reducible refine bel_drew ?_) | (with_reducible refine bel_drewN ?_) | (with_reducible refine bel_alloc ?_) | (with_reducible refine bel_set ?_ ?_) | (with_reducible refine bel_trans ?_ (by with_reducible assumption)) | omega | (simp; done) | (simp; omega)))⟩

theorem lawBuiltBy (i r t s b h : Int) (w : World) :
    Calls Try.prog 4 #[.agg #[.int .i64 i, .int .i64 r, .int .i64 t, .int .i64 s, .int .i64 b], .int .i64 h] w fun e w' => e = .returned (.bool true) ∧ Below w.heap.size w w' := by
  have hB2 := bel_refl (w.alloc (.cells #[.int .i64 i, .int .i64 r, .int .i64 t, .int .i64 s, .int .i64 b] 23))
  go_enter Try.func4, Try.ntmps4
  go_wp2_with (first
    | (go_at_call 15; refine (toCrew _ _ _ _ _ _).mono ?_; rintro _ w1 ⟨rfl, hB1⟩; (first | (with_reducible replace hB2 := bel_trans hB2 hB1) | (with_reducible replace hB2 := bel_trans (bel_alloc hB2) hB1)); obtain ⟨hC1, hF1⟩ := bcell hB2; replace hB1 := hB1)
    | (go_at_call 17; refine (builtByS ⟨i, r, t, s, b⟩ _ _).mono ?_; rintro _ w1 ⟨rfl, hB1⟩; (first | (with_reducible replace hB2 := bel_trans hB2 hB1) | (with_reducible replace hB2 := bel_trans (bel_alloc hB2) hB1)); obtain ⟨hC1, hF1⟩ := bcell hB2; replace hB1 := hB1)
    | (go_at_call 18; refine (builtByI ⟨i, r, t, s, b⟩ _ _).mono ?_; rintro _ w1 ⟨rfl, hB1⟩; (first | (with_reducible replace hB2 := bel_trans hB2 hB1) | (with_reducible replace hB2 := bel_trans (bel_alloc hB2) hB1)); obtain ⟨hC1, hF1⟩ := bcell hB2; replace hB1 := hB1))
  all_goals go_ret
  all_goals exact ⟨rfl, by (repeat' (first | (with_reducible exact bel_refl _) | (with_reducible assumption) | (with_reducible refine bel_drew ?_) | (with_reducible refine bel_drewN ?_) | (with_reducible refine bel_alloc ?_) | (with_reducible refine bel_set ?_ ?_) | (with_reducible refine bel_trans ?_ (by with_reducible assumption)) | omega | (simp; done) | (simp; omega)))⟩

theorem lawHoursFor (i r t s b h : Int) (w : World) :
    Calls Try.prog 6 #[.agg #[.int .i64 i, .int .i64 r, .int .i64 t, .int .i64 s, .int .i64 b], .int .i64 h] w fun e w' => e = .returned (.bool true) ∧ Below w.heap.size w w' := by
  have hB2 := bel_refl (w.alloc (.cells #[.int .i64 i, .int .i64 r, .int .i64 t, .int .i64 s, .int .i64 b] 23))
  go_enter Try.func6, Try.ntmps6
  go_wp2_with (first
    | (go_at_call 15; refine (toCrew _ _ _ _ _ _).mono ?_; rintro _ w1 ⟨rfl, hB1⟩; (first | (with_reducible replace hB2 := bel_trans hB2 hB1) | (with_reducible replace hB2 := bel_trans (bel_alloc hB2) hB1)); obtain ⟨hC1, hF1⟩ := bcell hB2; replace hB1 := hB1)
    | (go_at_call 24; refine (hoursForS ⟨i, r, t, s, b⟩ _ _).mono ?_; rintro _ w1 ⟨rfl, hB1⟩; (first | (with_reducible replace hB2 := bel_trans hB2 hB1) | (with_reducible replace hB2 := bel_trans (bel_alloc hB2) hB1)); obtain ⟨hC1, hF1⟩ := bcell hB2; replace hB1 := hB1)
    | (go_at_call 25; refine (hoursForTI ⟨i, r, t, s, b⟩ _ _).mono ?_; rintro _ w1 ⟨rfl, hB1⟩; (first | (with_reducible replace hB2 := bel_trans hB2 hB1) | (with_reducible replace hB2 := bel_trans (bel_alloc hB2) hB1)); obtain ⟨hC1, hF1⟩ := bcell hB2; replace hB1 := hB1))
  all_goals go_ret
  all_goals exact ⟨rfl, by (repeat' (first | (with_reducible exact bel_refl _) | (with_reducible assumption) | (with_reducible refine bel_drew ?_) | (with_reducible refine bel_drewN ?_) | (with_reducible refine bel_alloc ?_) | (with_reducible refine bel_set ?_ ?_) | (with_reducible refine bel_trans ?_ (by with_reducible assumption)) | omega | (simp; done) | (simp; omega)))⟩

theorem lawTogetherBy (A0 : Option Addr) (n0 c0 : Nat) (xs0 : List Crew) (x1 : Int) (w : World) (hS0 : Sl w 5 A0 n0 c0 (xs0.flatMap Crew.row)) :
    Calls Try.prog 7 #[.slice A0 n0 c0, .int .i64 x1] w fun e w' => e = .returned (.bool true) ∧ Below w.heap.size w w' := by
  have hmx0 := Nat.le_trans hS0.cap hS0.max
  have hB := bel_refl w
  by_cases hn0 : (n0 : Int) ≤ 1048576
  rotate_left
  · go_enter Try.func7, Try.ntmps7
    go_wp2_with fail
    refine (szCrewS_no _ _ _ (1048576) _ (by omega) (by omega) hmx0 (by omega)).mono ?_
    rintro _ _ ⟨rfl, rfl⟩
    go_wp2
    go_ret
    exact ⟨rfl, by (repeat' (first | (with_reducible exact bel_refl _) | (with_reducible assumption) | (with_reducible refine bel_drew ?_) | (with_reducible refine bel_drewN ?_) | (with_reducible refine bel_alloc ?_) | (with_reducible refine bel_set ?_ ?_) | (with_reducible refine bel_trans ?_ (by with_reducible assumption)) | omega | (simp; done) | (simp; omega)))⟩
  go_enter Try.func7, Try.ntmps7
  go_wp2_with fail
  refine (szCrewS_yes _ _ _ (1048576) _ (by omega) (by omega) (by omega)).mono ?_
  rintro _ _ ⟨rfl, rfl⟩
  go_wp2_with fail
  refine (toCrewS _ _ _ xs0 _ (hS0.bel hB) (by omega)).mono ?_
  rintro _ w1 ⟨ga0, rfl, hOa0, hb1⟩
  have hz1 := hb1.size
  replace hB := bel_trans hB hb1
  go_wp2_with fail
  refine (togetherByS _ _ _ xs0 x1 _ hOa0.sl (by omega)).mono ?_
  rintro _ w2 ⟨rfl, hb2⟩
  have hz2 := hb2.size
  replace hOa0 := hOa0.bel hb2
  replace hB := bel_trans hB hb2
  go_wp2_with fail
  refine (toCrewS _ _ _ xs0 _ (hS0.bel hB) (by omega)).mono ?_
  rintro _ w3 ⟨gb0, rfl, hOb0, hb3⟩
  have hz3 := hb3.size
  replace hOa0 := hOa0.bel hb3
  replace hB := bel_trans hB hb3
  go_wp2_with fail
  refine (togetherByI _ _ _ xs0 x1 _ hOb0.sl (by omega)).mono ?_
  rintro _ w4 ⟨rfl, hb4⟩
  have hz4 := hb4.size
  replace hOa0 := hOa0.bel hb4
  replace hOb0 := hOb0.bel hb4
  replace hB := bel_trans hB hb4
  go_wp2_with fail
  refine (toCrewS _ _ _ xs0 _ (hS0.bel hB) (by omega)).mono ?_
  rintro _ w5 ⟨gc0, rfl, hOc0, hb5⟩
  have hz5 := hb5.size
  replace hOa0 := hOa0.bel hb5
  replace hOb0 := hOb0.bel hb5
  replace hB := bel_trans hB hb5
  go_wp2_with fail
  refine (eqCrewS _ _ _ _ _ _ _ hOb0.sl hOc0.sl (by omega)).mono ?_
  rintro _ w6 ⟨rfl, hb6⟩
  have hz6 := hb6.size
  replace hOa0 := hOa0.bel hb6
  replace hOb0 := hOb0.bel hb6
  replace hOc0 := hOc0.bel hb6
  replace hB := bel_trans hB hb6
  go_wp2
  go_ret
  exact ⟨rfl, by (repeat' (first | (with_reducible exact bel_refl _) | (with_reducible assumption) | (with_reducible refine bel_drew ?_) | (with_reducible refine bel_drewN ?_) | (with_reducible refine bel_alloc ?_) | (with_reducible refine bel_set ?_ ?_) | (with_reducible refine bel_trans ?_ (by with_reducible assumption)) | omega | (simp; done) | (simp; omega)))⟩

theorem lawHoursTogether (A0 : Option Addr) (n0 c0 : Nat) (xs0 : List Crew) (x1 : Int) (w : World) (hS0 : Sl w 5 A0 n0 c0 (xs0.flatMap Crew.row)) :
    Calls Try.prog 9 #[.slice A0 n0 c0, .int .i64 x1] w fun e w' => e = .returned (.bool true) ∧ Below w.heap.size w w' := by
  have hmx0 := Nat.le_trans hS0.cap hS0.max
  have hB := bel_refl w
  by_cases hn0 : (n0 : Int) ≤ 1048576
  rotate_left
  · go_enter Try.func9, Try.ntmps9
    go_wp2_with fail
    refine (szCrewS_no _ _ _ (1048576) _ (by omega) (by omega) hmx0 (by omega)).mono ?_
    rintro _ _ ⟨rfl, rfl⟩
    go_wp2
    go_ret
    exact ⟨rfl, by (repeat' (first | (with_reducible exact bel_refl _) | (with_reducible assumption) | (with_reducible refine bel_drew ?_) | (with_reducible refine bel_drewN ?_) | (with_reducible refine bel_alloc ?_) | (with_reducible refine bel_set ?_ ?_) | (with_reducible refine bel_trans ?_ (by with_reducible assumption)) | omega | (simp; done) | (simp; omega)))⟩
  go_enter Try.func9, Try.ntmps9
  go_wp2_with fail
  refine (szCrewS_yes _ _ _ (1048576) _ (by omega) (by omega) (by omega)).mono ?_
  rintro _ _ ⟨rfl, rfl⟩
  go_wp2_with fail
  refine (toCrewS _ _ _ xs0 _ (hS0.bel hB) (by omega)).mono ?_
  rintro _ w1 ⟨ga0, rfl, hOa0, hb1⟩
  have hz1 := hb1.size
  replace hB := bel_trans hB hb1
  go_wp2_with fail
  refine (hoursTogetherS _ _ _ xs0 x1 _ hOa0.sl (by omega)).mono ?_
  rintro _ w2 ⟨rfl, hb2⟩
  have hz2 := hb2.size
  replace hOa0 := hOa0.bel hb2
  replace hB := bel_trans hB hb2
  go_wp2_with fail
  refine (toCrewS _ _ _ xs0 _ (hS0.bel hB) (by omega)).mono ?_
  rintro _ w3 ⟨gb0, rfl, hOb0, hb3⟩
  have hz3 := hb3.size
  replace hOa0 := hOa0.bel hb3
  replace hB := bel_trans hB hb3
  go_wp2_with fail
  refine (hoursTogetherI _ _ _ xs0 x1 _ hOb0.sl (by omega)).mono ?_
  rintro _ w4 ⟨rfl, hb4⟩
  have hz4 := hb4.size
  replace hOa0 := hOa0.bel hb4
  replace hOb0 := hOb0.bel hb4
  replace hB := bel_trans hB hb4
  go_wp2_with fail
  refine (toCrewS _ _ _ xs0 _ (hS0.bel hB) (by omega)).mono ?_
  rintro _ w5 ⟨gc0, rfl, hOc0, hb5⟩
  have hz5 := hb5.size
  replace hOa0 := hOa0.bel hb5
  replace hOb0 := hOb0.bel hb5
  replace hB := bel_trans hB hb5
  go_wp2_with fail
  refine (eqCrewS _ _ _ _ _ _ _ hOb0.sl hOc0.sl (by omega)).mono ?_
  rintro _ w6 ⟨rfl, hb6⟩
  have hz6 := hb6.size
  replace hOa0 := hOa0.bel hb6
  replace hOb0 := hOb0.bel hb6
  replace hOc0 := hOc0.bel hb6
  replace hB := bel_trans hB hb6
  go_wp2
  go_ret
  exact ⟨rfl, by (repeat' (first | (with_reducible exact bel_refl _) | (with_reducible assumption) | (with_reducible refine bel_drew ?_) | (with_reducible refine bel_drewN ?_) | (with_reducible refine bel_alloc ?_) | (with_reducible refine bel_set ?_ ?_) | (with_reducible refine bel_trans ?_ (by with_reducible assumption)) | omega | (simp; done) | (simp; omega)))⟩

set_option maxHeartbeats 1000000 in
theorem lawShiftMetres (x0_0 x0_1 x0_2 x0_3 x0_4 : Int) (w : World) :
    Calls Try.prog 5 #[.agg #[.int .i64 x0_0, .int .i64 x0_1, .int .i64 x0_2, .int .i64 x0_3, .int .i64 x0_4]] w fun e w' => e = .returned (.bool true) ∧ Below w.heap.size w w' := by
  have hB := bel_refl (w.alloc (.cells #[.int .i64 x0_0, .int .i64 x0_1, .int .i64 x0_2, .int .i64 x0_3, .int .i64 x0_4] 23))
  have hW : w.heap.size ≤ (w.alloc (.cells #[.int .i64 x0_0, .int .i64 x0_1, .int .i64 x0_2, .int .i64 x0_3, .int .i64 x0_4] 23)).heap.size := by simp; try omega
  go_enter Try.func5, Try.ntmps5
  go_wp2_with fail
  refine (toCrew _ _ _ _ _ _).mono ?_
  rintro _ w1 ⟨rfl, hb1⟩
  have hz1 := hb1.size
  replace hB := bel_trans hB hb1
  obtain ⟨hC1, hF1⟩ := bcell hB
  go_wp2_with fail
  refine (metresS ⟨x0_0, x0_1, x0_2, x0_3, x0_4⟩ _).mono ?_
  rintro _ w2 ⟨Aw, nw, cw, rfl, hOw, hb2⟩
  have hz2 := hb2.size
  replace hB := bel_trans hB hb2
  obtain ⟨hC1, hF1⟩ := bcell hB
  go_wp2_with fail
  refine (toCrew _ _ _ _ _ _).mono ?_
  rintro _ w3 ⟨rfl, hb3⟩
  have hz3 := hb3.size
  replace hOw := hOw.bel hb3
  replace hB := bel_trans hB hb3
  obtain ⟨hC1, hF1⟩ := bcell hB
  go_wp2_with fail
  refine (metresI ⟨x0_0, x0_1, x0_2, x0_3, x0_4⟩ _).mono ?_
  rintro _ w4 ⟨Ag, ng, cg, rfl, hOg, hb4⟩
  have hz4 := hb4.size
  replace hOw := hOw.bel hb4
  replace hB := bel_trans hB hb4
  obtain ⟨hC1, hF1⟩ := bcell hB
  have hbd := metres_len ⟨x0_0, x0_1, x0_2, x0_3, x0_4⟩
  have hlw := hOw.sl.int_len
  have hlg := hOg.sl.int_len
  obtain rfl : ng = nw := hlg.symm.trans hlw
  have hng : ng ≤ 1048576 := by omega
  clear hlw hlg hbd
  go_wp2_with fail
  refine (eqIntS _ _ _ _ _ _ _ hOg.sl hOw.sl hng).mono ?_
  rintro _ w5 ⟨rfl, hb5⟩
  have hz5 := hb5.size
  replace hOw := hOw.bel hb5
  replace hOg := hOg.bel hb5
  replace hB := bel_trans hB hb5
  obtain ⟨hC1, hF1⟩ := bcell hB
  have hOm := hOg
  go_wp2_with fail
  refine (markIntS _ _ _ _ _ 1 _ _ hOg hng (by omega) (by omega)).mono ?_
  rintro _ w6 ⟨rfl, hOg, hg6⟩
  have hz6 := hg6.size
  replace hOw := hOw.grown hg6 (fun g h => by have := hOm.ob g h; omega)
  replace hB := hOm.bel_grown hB hg6 (by omega)
  obtain ⟨hC1, hF1⟩ := bcell hB
  clear hOm
  go_wp2_with fail
  refine (heldIntS _ _ _ 1 _ hOg.sl hng (by omega) (by omega)).mono ?_
  rintro _ w7 ⟨rfl, hb7⟩
  have hz7 := hb7.size
  replace hOw := hOw.bel hb7
  replace hOg := hOg.bel hb7
  replace hB := bel_trans hB hb7
  obtain ⟨hC1, hF1⟩ := bcell hB
  go_wp2_with fail
  refine (toCrew _ _ _ _ _ _).mono ?_
  rintro _ w8 ⟨rfl, hb8⟩
  have hz8 := hb8.size
  replace hOw := hOw.bel hb8
  replace hOg := hOg.bel hb8
  replace hB := bel_trans hB hb8
  obtain ⟨hC1, hF1⟩ := bcell hB
  go_wp2_with fail
  refine (metresI ⟨x0_0, x0_1, x0_2, x0_3, x0_4⟩ _).mono ?_
  rintro _ w9 ⟨Ah, nh, ch, rfl, hOh, hb9⟩
  have hz9 := hb9.size
  replace hOw := hOw.bel hb9
  replace hOg := hOg.bel hb9
  replace hB := bel_trans hB hb9
  obtain ⟨hC1, hF1⟩ := bcell hB
  have hlw := hOw.sl.int_len
  have hlh := hOh.sl.int_len
  obtain rfl : nh = ng := hlh.symm.trans hlw
  clear hlw hlh
  go_wp2_with fail
  refine (eqIntS _ _ _ _ _ _ _ hOh.sl hOw.sl hng).mono ?_
  rintro _ w10 ⟨rfl, hb10⟩
  have hz10 := hb10.size
  replace hOw := hOw.bel hb10
  replace hOg := hOg.bel hb10
  replace hOh := hOh.bel hb10
  replace hB := bel_trans hB hb10
  obtain ⟨hC1, hF1⟩ := bcell hB
  go_wp2_with fail
  refine (heldIntS _ _ _ 1 _ hOg.sl hng (by omega) (by omega)).mono ?_
  rintro _ w11 ⟨rfl, hb11⟩
  have hz11 := hb11.size
  replace hOw := hOw.bel hb11
  replace hOg := hOg.bel hb11
  replace hOh := hOh.bel hb11
  replace hB := bel_trans hB hb11
  obtain ⟨hC1, hF1⟩ := bcell hB
  go_wp2
  go_ret
  exact ⟨rfl, by (repeat' (first | (with_reducible exact bel_refl _) | (with_reducible assumption) | (with_reducible refine bel_drew ?_) | (with_reducible refine bel_drewN ?_) | (with_reducible refine bel_alloc ?_) | (with_reducible refine bel_set ?_ ?_) | (with_reducible refine bel_trans ?_ (by with_reducible assumption)) | omega | (simp; done) | (simp; omega)))⟩



end Go.Proofs.Ytpnddpaijfinkaa
