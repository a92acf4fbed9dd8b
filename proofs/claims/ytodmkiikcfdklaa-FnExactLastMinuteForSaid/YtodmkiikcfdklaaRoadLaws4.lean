/-
  The law on last minutes, walked.
-/
import Derived.Test.YtodmkiikcfdklaaRoadLastTop
import Derived.Test.YtodmkiikcfdklaaIntData
namespace Go.Proofs.Ytodmkiikcfdklaa
open Go.RowKit

theorem lawLastMinuteFor (x0 : Int) (A1 : Option Addr) (n1 c1 : Nat) (xs1 : List Road) (x2 : Int) (A3 : Option Addr) (n3 c3 : Nat) (xs3 : List Int) (w : World) (hS1 : Sl w 4 A1 n1 c1 (xs1.flatMap Road.row)) (hS3 : Sl w 1 A3 n3 c3 (ints xs3)) :
    Calls Try.prog 9 #[.int .i64 x0, .slice A1 n1 c1, .int .i64 x2, .slice A3 n3 c3] w fun e w' => e = .returned (.bool true) ∧ Below w.heap.size w w' := by
  have hmx1 := Nat.le_trans hS1.cap hS1.max
  have hB := bel_refl w
  have hmx3 := Nat.le_trans hS3.cap hS3.max
  by_cases hn3 : (n3 : Int) ≤ 1048576
  rotate_left
  · go_enter Try.func9, Try.ntmps9
    go_wp2
    go_ret
    exact ⟨rfl, by (repeat' (first | (with_reducible exact bel_refl _) | (with_reducible assumption) | (with_reducible refine bel_drew ?_) | (with_reducible refine bel_drewN ?_) | (with_reducible refine bel_alloc ?_) | (with_reducible refine bel_set ?_ ?_) | (with_reducible refine bel_trans ?_ (by with_reducible assumption)) | omega | (simp; done) | (simp; omega)))⟩
  by_cases hn1 : (n1 : Int) ≤ 1048576
  rotate_left
  · go_enter Try.func9, Try.ntmps9
    go_wp2_with fail
    refine (szRoadS_no _ _ _ (1048576) _ (by omega) (by omega) hmx1 (by omega)).mono ?_
    rintro _ _ ⟨rfl, rfl⟩
    go_wp2
    go_ret
    exact ⟨rfl, by (repeat' (first | (with_reducible exact bel_refl _) | (with_reducible assumption) | (with_reducible refine bel_drew ?_) | (with_reducible refine bel_drewN ?_) | (with_reducible refine bel_alloc ?_) | (with_reducible refine bel_set ?_ ?_) | (with_reducible refine bel_trans ?_ (by with_reducible assumption)) | omega | (simp; done) | (simp; omega)))⟩
  go_enter Try.func9, Try.ntmps9
  go_wp2_with fail
  refine (szRoadS_yes _ _ _ (1048576) _ (by omega) (by omega) (by omega)).mono ?_
  rintro _ _ ⟨rfl, rfl⟩
  go_wp2_with fail
  refine (toRoadS _ _ _ xs1 _ (hS1.bel hB) (by omega)).mono ?_
  rintro _ w1 ⟨ga1, rfl, hOa1, hb1⟩
  have hz1 := hb1.size
  replace hB := bel_trans hB hb1
  go_wp2_with fail
  refine (toIntS _ _ _ xs3 _ (hS3.bel hB) (by omega)).mono ?_
  rintro _ w2 ⟨ga3, rfl, hOa3, hb2⟩
  have hz2 := hb2.size
  replace hOa1 := hOa1.bel hb2
  replace hB := bel_trans hB hb2
  go_wp2_with fail
  refine (lastForS x0 _ _ _ xs1 x2 _ _ _ xs3 _ hOa1.sl (by omega) hOa3.sl (by omega)).mono ?_
  rintro _ w3 ⟨rfl, hb3⟩
  have hz3 := hb3.size
  replace hOa1 := hOa1.bel hb3
  replace hOa3 := hOa3.bel hb3
  replace hB := bel_trans hB hb3
  go_wp2_with fail
  refine (toRoadS _ _ _ xs1 _ (hS1.bel hB) (by omega)).mono ?_
  rintro _ w4 ⟨gb1, rfl, hOb1, hb4⟩
  have hz4 := hb4.size
  replace hOa1 := hOa1.bel hb4
  replace hOa3 := hOa3.bel hb4
  replace hB := bel_trans hB hb4
  go_wp2_with fail
  refine (toIntS _ _ _ xs3 _ (hS3.bel hB) (by omega)).mono ?_
  rintro _ w5 ⟨gb3, rfl, hOb3, hb5⟩
  have hz5 := hb5.size
  replace hOa1 := hOa1.bel hb5
  replace hOa3 := hOa3.bel hb5
  replace hOb1 := hOb1.bel hb5
  replace hB := bel_trans hB hb5
  go_wp2_with fail
  refine (lastForI x0 _ _ _ xs1 x2 _ _ _ xs3 _ hOb1.sl (by omega) hOb3.sl (by omega)).mono ?_
  rintro _ w6 ⟨rfl, hb6⟩
  have hz6 := hb6.size
  replace hOa1 := hOa1.bel hb6
  replace hOa3 := hOa3.bel hb6
  replace hOb1 := hOb1.bel hb6
  replace hOb3 := hOb3.bel hb6
  replace hB := bel_trans hB hb6
  go_wp2_with fail
  refine (toRoadS _ _ _ xs1 _ (hS1.bel hB) (by omega)).mono ?_
  rintro _ w7 ⟨gc1, rfl, hOc1, hb7⟩
  have hz7 := hb7.size
  replace hOa1 := hOa1.bel hb7
  replace hOa3 := hOa3.bel hb7
  replace hOb1 := hOb1.bel hb7
  replace hOb3 := hOb3.bel hb7
  replace hB := bel_trans hB hb7
  go_wp2_with fail
  refine (eqRoadS _ _ _ _ _ _ _ hOb1.sl hOc1.sl (by omega)).mono ?_
  rintro _ w8 ⟨rfl, hb8⟩
  have hz8 := hb8.size
  replace hOa1 := hOa1.bel hb8
  replace hOa3 := hOa3.bel hb8
  replace hOb1 := hOb1.bel hb8
  replace hOb3 := hOb3.bel hb8
  replace hOc1 := hOc1.bel hb8
  replace hB := bel_trans hB hb8
  go_wp2_with fail
  refine (toIntS _ _ _ xs3 _ (hS3.bel hB) (by omega)).mono ?_
  rintro _ w9 ⟨gc3, rfl, hOc3, hb9⟩
  have hz9 := hb9.size
  replace hOa1 := hOa1.bel hb9
  replace hOa3 := hOa3.bel hb9
  replace hOb1 := hOb1.bel hb9
  replace hOb3 := hOb3.bel hb9
  replace hOc1 := hOc1.bel hb9
  replace hB := bel_trans hB hb9
  go_wp2_with fail
  refine (eqIntS _ _ _ _ _ _ _ hOb3.sl hOc3.sl (by omega)).mono ?_
  rintro _ w10 ⟨rfl, hb10⟩
  have hz10 := hb10.size
  replace hOa1 := hOa1.bel hb10
  replace hOa3 := hOa3.bel hb10
  replace hOb1 := hOb1.bel hb10
  replace hOb3 := hOb3.bel hb10
  replace hOc1 := hOc1.bel hb10
  replace hOc3 := hOc3.bel hb10
  replace hB := bel_trans hB hb10
  go_wp2
  go_ret
  exact ⟨rfl, by (repeat' (first | (with_reducible exact bel_refl _) | (with_reducible assumption) | (with_reducible refine bel_drew ?_) | (with_reducible refine bel_drewN ?_) | (with_reducible refine bel_alloc ?_) | (with_reducible refine bel_set ?_ ?_) | (with_reducible refine bel_trans ?_ (by with_reducible assumption)) | omega | (simp; done) | (simp; omega)))⟩



end Go.Proofs.Ytodmkiikcfdklaa
