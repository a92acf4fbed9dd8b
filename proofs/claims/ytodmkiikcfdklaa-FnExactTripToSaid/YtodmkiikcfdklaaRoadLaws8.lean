/-
  The law on trips, walked.
-/
import Derived.Test.YtodmkiikcfdklaaRoadTripTopI
namespace Go.Proofs.Ytodmkiikcfdklaa
open Go.RowKit

set_option maxHeartbeats 1000000 in
theorem lawTripTo (x0 : Int) (A1 : Option Addr) (n1 c1 : Nat) (xs1 : List Road) (x2 : Int) (x3 : Int) (x4 : Int) (w : World) (hS1 : Sl w 4 A1 n1 c1 (xs1.flatMap Road.row)) :
    Calls Try.prog 10 #[.int .i64 x0, .slice A1 n1 c1, .int .i64 x2, .int .i64 x3, .int .i64 x4] w fun e w' => e = .returned (.bool true) ∧ Below w.heap.size w w' := by
  have hmx1 := Nat.le_trans hS1.cap hS1.max
  have hB := bel_refl w
  by_cases hn1 : (n1 : Int) ≤ 1048576
  rotate_left
  · go_enter Try.func10, Try.ntmps10
    go_wp2_with fail
    refine (szRoadS_no _ _ _ (1048576) _ (by omega) (by omega) hmx1 (by omega)).mono ?_
    rintro _ _ ⟨rfl, rfl⟩
    go_wp2
    go_ret
    exact ⟨rfl, by (repeat' (first | (with_reducible exact bel_refl _) | (with_reducible assumption) | (with_reducible refine bel_drew ?_) | (with_reducible refine bel_drewN ?_) | (with_reducible refine bel_alloc ?_) | (with_reducible refine bel_set ?_ ?_) | (with_reducible refine bel_trans ?_ (by with_reducible assumption)) | omega | (simp; done) | (simp; omega)))⟩
  go_enter Try.func10, Try.ntmps10
  go_wp2_with fail
  refine (szRoadS_yes _ _ _ (1048576) _ (by omega) (by omega) (by omega)).mono ?_
  rintro _ _ ⟨rfl, rfl⟩
  go_wp2_with fail
  refine (toRoadS _ _ _ xs1 _ (hS1.bel hB) (by omega)).mono ?_
  rintro _ w1 ⟨ga1, rfl, hOa1, hb1⟩
  have hz1 := hb1.size
  replace hB := bel_trans hB hb1
  go_wp2_with fail
  refine (tripS x0 _ _ _ xs1 x2 x3 x4 _ hOa1.sl (by omega)).mono ?_
  rintro _ w2 ⟨Aw, nw, cw, rfl, hOw, hb2⟩
  have hz2 := hb2.size
  replace hOa1 := hOa1.bel hb2
  replace hB := bel_trans hB hb2
  go_wp2_with fail
  refine (toRoadS _ _ _ xs1 _ (hS1.bel hB) (by omega)).mono ?_
  rintro _ w3 ⟨gb1, rfl, hOb1, hb3⟩
  have hz3 := hb3.size
  replace hOa1 := hOa1.bel hb3
  replace hOw := hOw.bel hb3
  replace hB := bel_trans hB hb3
  go_wp2_with fail
  refine (tripI x0 _ _ _ xs1 x2 x3 x4 _ hOb1.sl (by omega)).mono ?_
  rintro _ w4 ⟨Ag, ng, cg, rfl, hOg, hb4⟩
  have hz4 := hb4.size
  replace hOa1 := hOa1.bel hb4
  replace hOw := hOw.bel hb4
  replace hOb1 := hOb1.bel hb4
  replace hB := bel_trans hB hb4
  have hbd := tripR_len x0 xs1 x2 x3 x4
  have hlw := hOw.sl.int_len
  have hlg := hOg.sl.int_len
  obtain rfl : ng = nw := hlg.symm.trans hlw
  have hng : ng ≤ 1048576 := by omega
  clear hlw hlg hbd
  go_wp2_with fail
  refine (eqIntS _ _ _ _ _ _ _ hOg.sl hOw.sl hng ).mono ?_
  rintro _ w5 ⟨rfl, hb5⟩
  have hz5 := hb5.size
  replace hOa1 := hOa1.bel hb5
  replace hOw := hOw.bel hb5
  replace hOb1 := hOb1.bel hb5
  replace hOg := hOg.bel hb5
  replace hB := bel_trans hB hb5
  go_wp2_with fail
  refine (toRoadS _ _ _ xs1 _ (hS1.bel hB) (by omega)).mono ?_
  rintro _ w6 ⟨gc1, rfl, hOc1, hb6⟩
  have hz6 := hb6.size
  replace hOa1 := hOa1.bel hb6
  replace hOw := hOw.bel hb6
  replace hOb1 := hOb1.bel hb6
  replace hOg := hOg.bel hb6
  replace hB := bel_trans hB hb6
  go_wp2_with fail
  refine (eqRoadS _ _ _ _ _ _ _ hOb1.sl hOc1.sl (by omega)).mono ?_
  rintro _ w7 ⟨rfl, hb7⟩
  have hz7 := hb7.size
  replace hOa1 := hOa1.bel hb7
  replace hOw := hOw.bel hb7
  replace hOb1 := hOb1.bel hb7
  replace hOg := hOg.bel hb7
  replace hOc1 := hOc1.bel hb7
  replace hB := bel_trans hB hb7
  have hOm := hOb1
  go_wp2_with fail
  refine (markRoadS _ _ _ _ _ (1) _ _ hOb1 (by omega) (by omega) (by omega)).mono ?_
  rintro _ w8 ⟨rfl, hOb1, hg8⟩
  have hz8 := hg8.size
  replace hOw := hOw.grown hg8 (fun g h => by have := hOm.ob g h; omega)
  replace hOg := hOg.grown hg8 (fun g h => by have := hOm.ob g h; omega)
  replace hB := hOm.bel_grown hB hg8 (by omega)
  clear hOm
  go_wp2_with fail
  refine (eqIntS _ _ _ _ _ _ _ hOg.sl hOw.sl hng ).mono ?_
  rintro _ w9 ⟨rfl, hb9⟩
  have hz9 := hb9.size
  replace hOw := hOw.bel hb9
  replace hOb1 := hOb1.bel hb9
  replace hOg := hOg.bel hb9
  replace hB := bel_trans hB hb9
  have hOm := hOg
  go_wp2_with fail
  refine (markIntS _ _ _ _ _ 1 _ _ hOg hng (by omega) (by omega)).mono ?_
  rintro _ w10 ⟨rfl, hOg, hg10⟩
  have hz10 := hg10.size
  replace hOw := hOw.grown hg10 (fun g h => by have := hOm.ob g h; omega)
  replace hB := hOm.bel_grown hB hg10 (by omega)
  clear hOm
  go_wp2_with fail
  refine (heldIntS _ _ _ 1 _ hOg.sl hng (by omega) (by omega)).mono ?_
  rintro _ w11 ⟨rfl, hb11⟩
  have hz11 := hb11.size
  replace hOw := hOw.bel hb11
  replace hOg := hOg.bel hb11
  replace hB := bel_trans hB hb11
  go_wp2_with fail
  refine (toRoadS _ _ _ xs1 _ (hS1.bel hB) (by omega)).mono ?_
  rintro _ w12 ⟨gd1, rfl, hOd1, hb12⟩
  have hz12 := hb12.size
  replace hOw := hOw.bel hb12
  replace hOg := hOg.bel hb12
  replace hB := bel_trans hB hb12
  go_wp2_with fail
  refine (tripI x0 _ _ _ xs1 x2 x3 x4 _ hOd1.sl (by omega)).mono ?_
  rintro _ w13 ⟨Ah, nh, ch, rfl, hOh, hb13⟩
  have hz13 := hb13.size
  replace hOw := hOw.bel hb13
  replace hOg := hOg.bel hb13
  replace hOd1 := hOd1.bel hb13
  replace hB := bel_trans hB hb13
  have hlw := hOw.sl.int_len
  have hlh := hOh.sl.int_len
  obtain rfl : nh = ng := hlh.symm.trans hlw
  clear hlw hlh
  go_wp2_with fail
  refine (eqIntS _ _ _ _ _ _ _ hOh.sl hOw.sl hng ).mono ?_
  rintro _ w14 ⟨rfl, hb14⟩
  have hz14 := hb14.size
  replace hOw := hOw.bel hb14
  replace hOg := hOg.bel hb14
  replace hOd1 := hOd1.bel hb14
  replace hOh := hOh.bel hb14
  replace hB := bel_trans hB hb14
  go_wp2_with fail
  refine (heldIntS _ _ _ 1 _ hOg.sl hng (by omega) (by omega)).mono ?_
  rintro _ w15 ⟨rfl, hb15⟩
  have hz15 := hb15.size
  replace hOw := hOw.bel hb15
  replace hOg := hOg.bel hb15
  replace hOd1 := hOd1.bel hb15
  replace hOh := hOh.bel hb15
  replace hB := bel_trans hB hb15
  go_wp2
  go_ret
  exact ⟨rfl, by (repeat' (first | (with_reducible exact bel_refl _) | (with_reducible assumption) | (with_reducible refine bel_drew ?_) | (with_reducible refine bel_drewN ?_) | (with_reducible refine bel_alloc ?_) | (with_reducible refine bel_set ?_ ?_) | (with_reducible refine bel_trans ?_ (by with_reducible assumption)) | omega | (simp; done) | (simp; omega)))⟩



end Go.Proofs.Ytodmkiikcfdklaa
