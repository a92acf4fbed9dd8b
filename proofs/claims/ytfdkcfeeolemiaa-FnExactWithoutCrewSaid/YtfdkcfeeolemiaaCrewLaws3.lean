/-
  The law on the line without a crew, walked.
-/
import Derived.Test.YtfdkcfeeolemiaaCrewOut2
namespace Go.Proofs.Ytfdkcfeeolemiaa
open Go.RowKit

theorem lawWithoutCrew (A0 : Option Addr) (n0 c0 : Nat) (xs0 : List Crew) (x1 : Int) (w : World) (hS0 : Sl w 5 A0 n0 c0 (xs0.flatMap Crew.row)) :
    Calls Try.prog 3 #[.slice A0 n0 c0, .int .i64 x1] w fun e w' => e = .returned (.bool true) ∧ Below w.heap.size w w' := by
  have hmx0 := Nat.le_trans hS0.cap hS0.max
  have hB := bel_refl w
  by_cases hn0 : (n0 : Int) ≤ 1048576
  rotate_left
  · go_enter Try.func3, Try.ntmps3
    go_wp2_with fail
    refine (szCrewS_no _ _ _ (1048576) _ (by omega) (by omega) hmx0 (by omega)).mono ?_
    rintro _ _ ⟨rfl, rfl⟩
    go_wp2
    go_ret
    exact ⟨rfl, by (repeat' (first | (with_reducible exact bel_refl _) | (with_reducible assumption) | (with_reducible refine bel_drew ?_) | (with_reducible refine bel_drewN ?_) | (with_reducible refine bel_alloc ?_) | (with_reducible refine bel_set ?_ ?_) | (with_reducible refine bel_trans ?_ (by with_reducible assumption)) | omega | (simp; done) | (simp; omega)))⟩
  go_enter Try.func3, Try.ntmps3
  go_wp2_with fail
  refine (szCrewS_yes _ _ _ (1048576) _ (by omega) (by omega) (by omega)).mono ?_
  rintro _ _ ⟨rfl, rfl⟩
  go_wp2_with fail
  refine (toCrewS _ _ _ xs0 _ (hS0.bel hB) (by omega)).mono ?_
  rintro _ w1 ⟨ga0, rfl, hOa0, hb1⟩
  have hz1 := hb1.size
  replace hB := bel_trans hB hb1
  go_wp2_with fail
  refine (withoutS _ _ _ xs0 x1 _ hOa0.sl (by omega)).mono ?_
  rintro _ w2 ⟨rfl, hb2⟩
  have hz2 := hb2.size
  replace hOa0 := hOa0.bel hb2
  replace hB := bel_trans hB hb2
  go_wp2_with fail
  refine (toCrewS _ _ _ xs0 _ (hS0.bel hB) (by omega)).mono ?_
  rintro _ w3 ⟨gb0, rfl, hOb0, hb3⟩
  have hz3 := hb3.size
  replace hOa0 := hOa0.bel hb3
  replace hB := bel_trans hB hb3
  go_wp2_with fail
  refine (withoutI _ _ _ xs0 x1 _ hOb0.sl (by omega)).mono ?_
  rintro _ w4 ⟨rfl, hb4⟩
  have hz4 := hb4.size
  replace hOa0 := hOa0.bel hb4
  replace hOb0 := hOb0.bel hb4
  replace hB := bel_trans hB hb4
  go_wp2_with fail
  refine (toCrewS _ _ _ xs0 _ (hS0.bel hB) (by omega)).mono ?_
  rintro _ w5 ⟨gc0, rfl, hOc0, hb5⟩
  have hz5 := hb5.size
  replace hOa0 := hOa0.bel hb5
  replace hOb0 := hOb0.bel hb5
  replace hB := bel_trans hB hb5
  go_wp2_with fail
  refine (eqCrewS _ _ _ _ _ _ _ hOb0.sl hOc0.sl (by omega)).mono ?_
  rintro _ w6 ⟨rfl, hb6⟩
  have hz6 := hb6.size
  replace hOa0 := hOa0.bel hb6
  replace hOb0 := hOb0.bel hb6
  replace hOc0 := hOc0.bel hb6
  replace hB := bel_trans hB hb6
  go_wp2
  go_ret
  exact ⟨rfl, by (repeat' (first | (with_reducible exact bel_refl _) | (with_reducible assumption) | (with_reducible refine bel_drew ?_) | (with_reducible refine bel_drewN ?_) | (with_reducible refine bel_alloc ?_) | (with_reducible refine bel_set ?_ ?_) | (with_reducible refine bel_trans ?_ (by with_reducible assumption)) | omega | (simp; done) | (simp; omega)))⟩



end Go.Proofs.Ytfdkcfeeolemiaa
