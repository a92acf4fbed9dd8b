/-
  The law on networks of roads, walked.
-/
import Derived.Test.YtodmkiikcfdklaaRoadTop
namespace Go.Proofs.Ytodmkiikcfdklaa
open Go.RowKit

theorem lawIsNetwork (x0 : Int) (A1 : Option Addr) (n1 c1 : Nat) (xs1 : List Road) (w : World) (hS1 : Sl w 4 A1 n1 c1 (xs1.flatMap Road.row)) :
    Calls Try.prog 4 #[.int .i64 x0, .slice A1 n1 c1] w fun e w' => e = .returned (.bool true) ∧ Below w.heap.size w w' := by
  have hmx1 := Nat.le_trans hS1.cap hS1.max
  have hB := bel_refl w
  by_cases hn1 : (n1 : Int) ≤ 1048576
  rotate_left
  · go_enter Try.func4, Try.ntmps4
    go_wp2_with fail
    refine (szRoadS_no _ _ _ (1048576) _ (by omega) (by omega) hmx1 (by omega)).mono ?_
    rintro _ _ ⟨rfl, rfl⟩
    go_wp2
    go_ret
    exact ⟨rfl, by (repeat' (first | (with_reducible exact bel_refl _) | (with_reducible assumption) | (with_reducible refine bel_drew ?_) | (with_reducible refine bel_drewN ?_) | (with_reducible refine bel_alloc ?_) | (with_reducible refine bel_set ?_ ?_) | (with_reducible refine bel_trans ?_ (by with_reducible assumption)) | omega | (simp; done) | (simp; omega)))⟩
  go_enter Try.func4, Try.ntmps4
  go_wp2_with fail
  refine (szRoadS_yes _ _ _ (1048576) _ (by omega) (by omega) (by omega)).mono ?_
  rintro _ _ ⟨rfl, rfl⟩
  go_wp2_with fail
  refine (toRoadS _ _ _ xs1 _ (hS1.bel hB) (by omega)).mono ?_
  rintro _ w1 ⟨ga1, rfl, hOa1, hb1⟩
  have hz1 := hb1.size
  replace hB := bel_trans hB hb1
  go_wp2_with fail
  refine (isNetworkS x0 _ _ _ xs1 _ hOa1.sl (by omega)).mono ?_
  rintro _ w2 ⟨rfl, hb2⟩
  have hz2 := hb2.size
  replace hOa1 := hOa1.bel hb2
  replace hB := bel_trans hB hb2
  go_wp2_with fail
  refine (toRoadS _ _ _ xs1 _ (hS1.bel hB) (by omega)).mono ?_
  rintro _ w3 ⟨gb1, rfl, hOb1, hb3⟩
  have hz3 := hb3.size
  replace hOa1 := hOa1.bel hb3
  replace hB := bel_trans hB hb3
  go_wp2_with fail
  refine (isNetworkI x0 _ _ _ xs1 _ hOb1.sl (by omega)).mono ?_
  rintro _ w4 ⟨rfl, hb4⟩
  have hz4 := hb4.size
  replace hOa1 := hOa1.bel hb4
  replace hOb1 := hOb1.bel hb4
  replace hB := bel_trans hB hb4
  go_wp2_with fail
  refine (toRoadS _ _ _ xs1 _ (hS1.bel hB) (by omega)).mono ?_
  rintro _ w5 ⟨gc1, rfl, hOc1, hb5⟩
  have hz5 := hb5.size
  replace hOa1 := hOa1.bel hb5
  replace hOb1 := hOb1.bel hb5
  replace hB := bel_trans hB hb5
  go_wp2_with fail
  refine (eqRoadS _ _ _ _ _ _ _ hOb1.sl hOc1.sl (by omega)).mono ?_
  rintro _ w6 ⟨rfl, hb6⟩
  have hz6 := hb6.size
  replace hOa1 := hOa1.bel hb6
  replace hOb1 := hOb1.bel hb6
  replace hOc1 := hOc1.bel hb6
  replace hB := bel_trans hB hb6
  go_wp2
  go_ret
  exact ⟨rfl, by (repeat' (first | (with_reducible exact bel_refl _) | (with_reducible assumption) | (with_reducible refine bel_drew ?_) | (with_reducible refine bel_drewN ?_) | (with_reducible refine bel_alloc ?_) | (with_reducible refine bel_set ?_ ?_) | (with_reducible refine bel_trans ?_ (by with_reducible assumption)) | omega | (simp; done) | (simp; omega)))⟩



end Go.Proofs.Ytodmkiikcfdklaa
