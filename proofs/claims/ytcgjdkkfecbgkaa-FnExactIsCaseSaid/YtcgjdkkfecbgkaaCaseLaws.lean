/-
  The law on cases of evacuation, walked.
-/
import Derived.Test.YtcgjdkkfecbgkaaCaseTop
namespace Go.Proofs.Ytcgjdkkfecbgkaa
open Go.RowKit

theorem lawIsCase (x0 : Int) (A1 : Option Addr) (n1 c1 : Nat) (xs1 : List Road) (A2 : Option Addr) (n2 c2 : Nat) (xs2 : List Group) (A3 : Option Addr) (n3 c3 : Nat) (xs3 : List Shelter) (w : World) (hS1 : Sl w 4 A1 n1 c1 (xs1.flatMap Road.row)) (hS2 : Sl w 3 A2 n2 c2 (xs2.flatMap Group.row)) (hS3 : Sl w 2 A3 n3 c3 (xs3.flatMap Shelter.row)) :
    Calls Try.prog 3 #[.int .i64 x0, .slice A1 n1 c1, .slice A2 n2 c2, .slice A3 n3 c3] w fun e w' => e = .returned (.bool true) ∧ Below w.heap.size w w' := by
  have hmx1 := Nat.le_trans hS1.cap hS1.max
  have hmx2 := Nat.le_trans hS2.cap hS2.max
  have hmx3 := Nat.le_trans hS3.cap hS3.max
  have hB := bel_refl w
  by_cases hn1 : (n1 : Int) ≤ 1048576
  rotate_left
  · go_enter Try.func3, Try.ntmps3
    go_wp2_with fail
    refine (szRoadS_no _ _ _ (1048576) _ (by omega) (by omega) hmx1 (by omega)).mono ?_
    rintro _ _ ⟨rfl, rfl⟩
    go_wp2
    go_ret
    exact ⟨rfl, by (repeat' (first | (with_reducible exact bel_refl _) | (with_reducible assumption) | (with_reducible refine bel_drew ?_) | (with_reducible refine bel_drewN ?_) | (with_reducible refine bel_alloc ?_) | (with_reducible refine bel_set ?_ ?_) | (with_reducible refine bel_trans ?_ (by with_reducible assumption)) | omega | (simp; done) | (simp; omega)))⟩
  by_cases hn2 : (n2 : Int) ≤ 1048576 - n1
  rotate_left
  · go_enter Try.func3, Try.ntmps3
    go_wp2_with fail
    refine (szRoadS_yes _ _ _ (1048576) _ (by omega) (by omega) (by omega)).mono ?_
    rintro _ _ ⟨rfl, rfl⟩
    go_wp2_with fail
    refine (szGroupS_no _ _ _ (1048576 - n1) _ (by omega) (by omega) hmx2 (by omega)).mono ?_
    rintro _ _ ⟨rfl, rfl⟩
    go_wp2
    go_ret
    exact ⟨rfl, by (repeat' (first | (with_reducible exact bel_refl _) | (with_reducible assumption) | (with_reducible refine bel_drew ?_) | (with_reducible refine bel_drewN ?_) | (with_reducible refine bel_alloc ?_) | (with_reducible refine bel_set ?_ ?_) | (with_reducible refine bel_trans ?_ (by with_reducible assumption)) | omega | (simp; done) | (simp; omega)))⟩
  by_cases hn3 : (n3 : Int) ≤ 1048576 - n1 - n2
  rotate_left
  · go_enter Try.func3, Try.ntmps3
    go_wp2_with fail
    refine (szRoadS_yes _ _ _ (1048576) _ (by omega) (by omega) (by omega)).mono ?_
    rintro _ _ ⟨rfl, rfl⟩
    go_wp2_with fail
    refine (szGroupS_yes _ _ _ (1048576 - n1) _ (by omega) (by omega) (by omega)).mono ?_
    rintro _ _ ⟨rfl, rfl⟩
    go_wp2_with fail
    refine (szShelterS_no _ _ _ (1048576 - n1 - n2) _ (by omega) (by omega) hmx3 (by omega)).mono ?_
    rintro _ _ ⟨rfl, rfl⟩
    go_wp2
    go_ret
    exact ⟨rfl, by (repeat' (first | (with_reducible exact bel_refl _) | (with_reducible assumption) | (with_reducible refine bel_drew ?_) | (with_reducible refine bel_drewN ?_) | (with_reducible refine bel_alloc ?_) | (with_reducible refine bel_set ?_ ?_) | (with_reducible refine bel_trans ?_ (by with_reducible assumption)) | omega | (simp; done) | (simp; omega)))⟩
  go_enter Try.func3, Try.ntmps3
  go_wp2_with fail
  refine (szRoadS_yes _ _ _ (1048576) _ (by omega) (by omega) (by omega)).mono ?_
  rintro _ _ ⟨rfl, rfl⟩
  go_wp2_with fail
  refine (szGroupS_yes _ _ _ (1048576 - n1) _ (by omega) (by omega) (by omega)).mono ?_
  rintro _ _ ⟨rfl, rfl⟩
  go_wp2_with fail
  refine (szShelterS_yes _ _ _ (1048576 - n1 - n2) _ (by omega) (by omega) (by omega)).mono ?_
  rintro _ _ ⟨rfl, rfl⟩
  go_wp2_with fail
  refine (toRoadS _ _ _ xs1 _ (hS1.bel hB) (by omega)).mono ?_
  rintro _ w1 ⟨ga1, rfl, hOa1, hb1⟩
  have hz1 := hb1.size
  replace hB := bel_trans hB hb1
  go_wp2_with fail
  refine (toGroupS _ _ _ xs2 _ (hS2.bel hB) (by omega)).mono ?_
  rintro _ w2 ⟨ga2, rfl, hOa2, hb2⟩
  have hz2 := hb2.size
  replace hOa1 := hOa1.bel hb2
  replace hB := bel_trans hB hb2
  go_wp2_with fail
  refine (toShelterS _ _ _ xs3 _ (hS3.bel hB) (by omega)).mono ?_
  rintro _ w3 ⟨ga3, rfl, hOa3, hb3⟩
  have hz3 := hb3.size
  replace hOa1 := hOa1.bel hb3
  replace hOa2 := hOa2.bel hb3
  replace hB := bel_trans hB hb3
  go_wp2_with fail
  refine (caseS x0 _ _ _ xs1 _ _ _ xs2 _ _ _ xs3 _ hOa1.sl (by omega) hOa2.sl (by omega) hOa3.sl (by omega)).mono ?_
  rintro _ w4 ⟨rfl, hb4⟩
  have hz4 := hb4.size
  replace hOa1 := hOa1.bel hb4
  replace hOa2 := hOa2.bel hb4
  replace hOa3 := hOa3.bel hb4
  replace hB := bel_trans hB hb4
  go_wp2_with fail
  refine (toRoadS _ _ _ xs1 _ (hS1.bel hB) (by omega)).mono ?_
  rintro _ w5 ⟨gb1, rfl, hOb1, hb5⟩
  have hz5 := hb5.size
  replace hOa1 := hOa1.bel hb5
  replace hOa2 := hOa2.bel hb5
  replace hOa3 := hOa3.bel hb5
  replace hB := bel_trans hB hb5
  go_wp2_with fail
  refine (toGroupS _ _ _ xs2 _ (hS2.bel hB) (by omega)).mono ?_
  rintro _ w6 ⟨gb2, rfl, hOb2, hb6⟩
  have hz6 := hb6.size
  replace hOa1 := hOa1.bel hb6
  replace hOa2 := hOa2.bel hb6
  replace hOa3 := hOa3.bel hb6
  replace hOb1 := hOb1.bel hb6
  replace hB := bel_trans hB hb6
  go_wp2_with fail
  refine (toShelterS _ _ _ xs3 _ (hS3.bel hB) (by omega)).mono ?_
  rintro _ w7 ⟨gb3, rfl, hOb3, hb7⟩
  have hz7 := hb7.size
  replace hOa1 := hOa1.bel hb7
  replace hOa2 := hOa2.bel hb7
  replace hOa3 := hOa3.bel hb7
  replace hOb1 := hOb1.bel hb7
  replace hOb2 := hOb2.bel hb7
  replace hB := bel_trans hB hb7
  go_wp2_with fail
  refine (caseI x0 _ _ _ xs1 _ _ _ xs2 _ _ _ xs3 _ hOb1.sl (by omega) hOb2.sl (by omega) hOb3.sl (by omega)).mono ?_
  rintro _ w8 ⟨rfl, hb8⟩
  have hz8 := hb8.size
  replace hOa1 := hOa1.bel hb8
  replace hOa2 := hOa2.bel hb8
  replace hOa3 := hOa3.bel hb8
  replace hOb1 := hOb1.bel hb8
  replace hOb2 := hOb2.bel hb8
  replace hOb3 := hOb3.bel hb8
  replace hB := bel_trans hB hb8
  go_wp2_with fail
  refine (toRoadS _ _ _ xs1 _ (hS1.bel hB) (by omega)).mono ?_
  rintro _ w9 ⟨gc1, rfl, hOc1, hb9⟩
  have hz9 := hb9.size
  replace hOa1 := hOa1.bel hb9
  replace hOa2 := hOa2.bel hb9
  replace hOa3 := hOa3.bel hb9
  replace hOb1 := hOb1.bel hb9
  replace hOb2 := hOb2.bel hb9
  replace hOb3 := hOb3.bel hb9
  replace hB := bel_trans hB hb9
  go_wp2_with fail
  refine (eqRoadS _ _ _ _ _ _ _ hOb1.sl hOc1.sl (by omega)).mono ?_
  rintro _ w10 ⟨rfl, hb10⟩
  have hz10 := hb10.size
  replace hOa1 := hOa1.bel hb10
  replace hOa2 := hOa2.bel hb10
  replace hOa3 := hOa3.bel hb10
  replace hOb1 := hOb1.bel hb10
  replace hOb2 := hOb2.bel hb10
  replace hOb3 := hOb3.bel hb10
  replace hOc1 := hOc1.bel hb10
  replace hB := bel_trans hB hb10
  go_wp2_with fail
  refine (toGroupS _ _ _ xs2 _ (hS2.bel hB) (by omega)).mono ?_
  rintro _ w11 ⟨gc2, rfl, hOc2, hb11⟩
  have hz11 := hb11.size
  replace hOa1 := hOa1.bel hb11
  replace hOa2 := hOa2.bel hb11
  replace hOa3 := hOa3.bel hb11
  replace hOb1 := hOb1.bel hb11
  replace hOb2 := hOb2.bel hb11
  replace hOb3 := hOb3.bel hb11
  replace hOc1 := hOc1.bel hb11
  replace hB := bel_trans hB hb11
  go_wp2_with fail
  refine (eqGroupS _ _ _ _ _ _ _ hOb2.sl hOc2.sl (by omega)).mono ?_
  rintro _ w12 ⟨rfl, hb12⟩
  have hz12 := hb12.size
  replace hOa1 := hOa1.bel hb12
  replace hOa2 := hOa2.bel hb12
  replace hOa3 := hOa3.bel hb12
  replace hOb1 := hOb1.bel hb12
  replace hOb2 := hOb2.bel hb12
  replace hOb3 := hOb3.bel hb12
  replace hOc1 := hOc1.bel hb12
  replace hOc2 := hOc2.bel hb12
  replace hB := bel_trans hB hb12
  go_wp2_with fail
  refine (toShelterS _ _ _ xs3 _ (hS3.bel hB) (by omega)).mono ?_
  rintro _ w13 ⟨gc3, rfl, hOc3, hb13⟩
  have hz13 := hb13.size
  replace hOa1 := hOa1.bel hb13
  replace hOa2 := hOa2.bel hb13
  replace hOa3 := hOa3.bel hb13
  replace hOb1 := hOb1.bel hb13
  replace hOb2 := hOb2.bel hb13
  replace hOb3 := hOb3.bel hb13
  replace hOc1 := hOc1.bel hb13
  replace hOc2 := hOc2.bel hb13
  replace hB := bel_trans hB hb13
  go_wp2_with fail
  refine (eqShelterS _ _ _ _ _ _ _ hOb3.sl hOc3.sl (by omega)).mono ?_
  rintro _ w14 ⟨rfl, hb14⟩
  have hz14 := hb14.size
  replace hOa1 := hOa1.bel hb14
  replace hOa2 := hOa2.bel hb14
  replace hOa3 := hOa3.bel hb14
  replace hOb1 := hOb1.bel hb14
  replace hOb2 := hOb2.bel hb14
  replace hOb3 := hOb3.bel hb14
  replace hOc1 := hOc1.bel hb14
  replace hOc2 := hOc2.bel hb14
  replace hOc3 := hOc3.bel hb14
  replace hB := bel_trans hB hb14
  go_wp2
  go_ret
  exact ⟨rfl, by (repeat' (first | (with_reducible exact bel_refl _) | (with_reducible assumption) | (with_reducible refine bel_drew ?_) | (with_reducible refine bel_drewN ?_) | (with_reducible refine bel_alloc ?_) | (with_reducible refine bel_set ?_ ?_) | (with_reducible refine bel_trans ?_ (by with_reducible assumption)) | omega | (simp; done) | (simp; omega)))⟩



end Go.Proofs.Ytcgjdkkfecbgkaa
