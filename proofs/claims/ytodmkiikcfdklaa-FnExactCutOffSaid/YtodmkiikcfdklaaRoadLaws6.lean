/-
  The law on places that are cut off, walked.
-/
import Derived.Test.YtodmkiikcfdklaaRoadCut
import Derived.Test.YtodmkiikcfdklaaIntData
namespace Go.Proofs.Ytodmkiikcfdklaa
open Go.RowKit

set_option maxHeartbeats 1000000 in
theorem lawCutOff (x0 : Int) (A1 : Option Addr) (n1 c1 : Nat) (xs1 : List Road) (A2 : Option Addr) (n2 c2 : Nat) (xs2 : List Int) (x3 : Int) (w : World) (hS1 : Sl w 4 A1 n1 c1 (xs1.flatMap Road.row)) (hS2 : Sl w 1 A2 n2 c2 (ints xs2)) :
    Calls Try.prog 11 #[.int .i64 x0, .slice A1 n1 c1, .slice A2 n2 c2, .int .i64 x3] w fun e w' => e = .returned (.bool true) ∧ Below w.heap.size w w' := by
  have hmx1 := Nat.le_trans hS1.cap hS1.max
  have hB := bel_refl w
  have hmx2 := Nat.le_trans hS2.cap hS2.max
  by_cases hn2 : (n2 : Int) ≤ 1048576
  rotate_left
  · go_enter Try.func11, Try.ntmps11
    go_wp2
    go_ret
    exact ⟨rfl, by (repeat' (first | (with_reducible exact bel_refl _) | (with_reducible assumption) | (with_reducible refine bel_drew ?_) | (with_reducible refine bel_drewN ?_) | (with_reducible refine bel_alloc ?_) | (with_reducible refine bel_set ?_ ?_) | (with_reducible refine bel_trans ?_ (by with_reducible assumption)) | omega | (simp; done) | (simp; omega)))⟩
  by_cases hn1 : (n1 : Int) ≤ 1048576
  rotate_left
  · go_enter Try.func11, Try.ntmps11
    go_wp2_with fail
    refine (szRoadS_no _ _ _ (1048576) _ (by omega) (by omega) hmx1 (by omega)).mono ?_
    rintro _ _ ⟨rfl, rfl⟩
    go_wp2
    go_ret
    exact ⟨rfl, by (repeat' (first | (with_reducible exact bel_refl _) | (with_reducible assumption) | (with_reducible refine bel_drew ?_) | (with_reducible refine bel_drewN ?_) | (with_reducible refine bel_alloc ?_) | (with_reducible refine bel_set ?_ ?_) | (with_reducible refine bel_trans ?_ (by with_reducible assumption)) | omega | (simp; done) | (simp; omega)))⟩
  go_enter Try.func11, Try.ntmps11
  go_wp2_with fail
  refine (szRoadS_yes _ _ _ (1048576) _ (by omega) (by omega) (by omega)).mono ?_
  rintro _ _ ⟨rfl, rfl⟩
  go_wp2_with fail
  refine (toRoadS _ _ _ xs1 _ (hS1.bel hB) (by omega)).mono ?_
  rintro _ w1 ⟨ga1, rfl, hOa1, hb1⟩
  have hz1 := hb1.size
  replace hB := bel_trans hB hb1
  go_wp2_with fail
  refine (toIntS _ _ _ xs2 _ (hS2.bel hB) (by omega)).mono ?_
  rintro _ w2 ⟨ga2, rfl, hOa2, hb2⟩
  have hz2 := hb2.size
  replace hOa1 := hOa1.bel hb2
  replace hB := bel_trans hB hb2
  go_wp2_with fail
  refine (cutS x0 _ _ _ xs1 _ _ _ xs2 x3 _ hOa1.sl (by omega) hOa2.sl (by omega)).mono ?_
  rintro _ w3 ⟨Aw, nw, cw, rfl, hOw, hb3⟩
  have hz3 := hb3.size
  replace hOa1 := hOa1.bel hb3
  replace hOa2 := hOa2.bel hb3
  replace hB := bel_trans hB hb3
  go_wp2_with fail
  refine (toRoadS _ _ _ xs1 _ (hS1.bel hB) (by omega)).mono ?_
  rintro _ w4 ⟨gb1, rfl, hOb1, hb4⟩
  have hz4 := hb4.size
  replace hOa1 := hOa1.bel hb4
  replace hOa2 := hOa2.bel hb4
  replace hOw := hOw.bel hb4
  replace hB := bel_trans hB hb4
  go_wp2_with fail
  refine (toIntS _ _ _ xs2 _ (hS2.bel hB) (by omega)).mono ?_
  rintro _ w5 ⟨gb2, rfl, hOb2, hb5⟩
  have hz5 := hb5.size
  replace hOa1 := hOa1.bel hb5
  replace hOa2 := hOa2.bel hb5
  replace hOw := hOw.bel hb5
  replace hOb1 := hOb1.bel hb5
  replace hB := bel_trans hB hb5
  go_wp2_with fail
  refine (cutI x0 _ _ _ xs1 _ _ _ xs2 x3 _ hOb1.sl (by omega) hOb2.sl (by omega)).mono ?_
  rintro _ w6 ⟨Ag, ng, cg, rfl, hOg, hb6⟩
  have hz6 := hb6.size
  replace hOa1 := hOa1.bel hb6
  replace hOa2 := hOa2.bel hb6
  replace hOw := hOw.bel hb6
  replace hOb1 := hOb1.bel hb6
  replace hOb2 := hOb2.bel hb6
  replace hB := bel_trans hB hb6
  have hbd := cutR_len x0 xs1 xs2 x3
  have hlw := hOw.sl.int_len
  have hlg := hOg.sl.int_len
  obtain rfl : ng = nw := hlg.symm.trans hlw
  have hng : ng ≤ 1048576 := by omega
  clear hlw hlg hbd
  go_wp2_with fail
  refine (eqIntS _ _ _ _ _ _ _ hOg.sl hOw.sl hng ).mono ?_
  rintro _ w7 ⟨rfl, hb7⟩
  have hz7 := hb7.size
  replace hOa1 := hOa1.bel hb7
  replace hOa2 := hOa2.bel hb7
  replace hOw := hOw.bel hb7
  replace hOb1 := hOb1.bel hb7
  replace hOb2 := hOb2.bel hb7
  replace hOg := hOg.bel hb7
  replace hB := bel_trans hB hb7
  go_wp2_with fail
  refine (toRoadS _ _ _ xs1 _ (hS1.bel hB) (by omega)).mono ?_
  rintro _ w8 ⟨gc1, rfl, hOc1, hb8⟩
  have hz8 := hb8.size
  replace hOa1 := hOa1.bel hb8
  replace hOa2 := hOa2.bel hb8
  replace hOw := hOw.bel hb8
  replace hOb1 := hOb1.bel hb8
  replace hOb2 := hOb2.bel hb8
  replace hOg := hOg.bel hb8
  replace hB := bel_trans hB hb8
  go_wp2_with fail
  refine (eqRoadS _ _ _ _ _ _ _ hOb1.sl hOc1.sl (by omega)).mono ?_
  rintro _ w9 ⟨rfl, hb9⟩
  have hz9 := hb9.size
  replace hOa1 := hOa1.bel hb9
  replace hOa2 := hOa2.bel hb9
  replace hOw := hOw.bel hb9
  replace hOb1 := hOb1.bel hb9
  replace hOb2 := hOb2.bel hb9
  replace hOg := hOg.bel hb9
  replace hOc1 := hOc1.bel hb9
  replace hB := bel_trans hB hb9
  go_wp2_with fail
  refine (toIntS _ _ _ xs2 _ (hS2.bel hB) (by omega)).mono ?_
  rintro _ w10 ⟨gc2, rfl, hOc2, hb10⟩
  have hz10 := hb10.size
  replace hOa1 := hOa1.bel hb10
  replace hOa2 := hOa2.bel hb10
  replace hOw := hOw.bel hb10
  replace hOb1 := hOb1.bel hb10
  replace hOb2 := hOb2.bel hb10
  replace hOg := hOg.bel hb10
  replace hOc1 := hOc1.bel hb10
  replace hB := bel_trans hB hb10
  go_wp2_with fail
  refine (eqIntS _ _ _ _ _ _ _ hOb2.sl hOc2.sl (by omega)).mono ?_
  rintro _ w11 ⟨rfl, hb11⟩
  have hz11 := hb11.size
  replace hOa1 := hOa1.bel hb11
  replace hOa2 := hOa2.bel hb11
  replace hOw := hOw.bel hb11
  replace hOb1 := hOb1.bel hb11
  replace hOb2 := hOb2.bel hb11
  replace hOg := hOg.bel hb11
  replace hOc1 := hOc1.bel hb11
  replace hOc2 := hOc2.bel hb11
  replace hB := bel_trans hB hb11
  have hOm := hOb1
  go_wp2_with fail
  refine (markRoadS _ _ _ _ _ (1) _ _ hOb1 (by omega) (by omega) (by omega)).mono ?_
  rintro _ w12 ⟨rfl, hOb1, hg12⟩
  have hz12 := hg12.size
  replace hOw := hOw.grown hg12 (fun g h => by have := hOm.ob g h; omega)
  replace hOb2 := hOb2.grown hg12 (fun g h => by have := hOm.ob g h; omega)
  replace hOg := hOg.grown hg12 (fun g h => by have := hOm.ob g h; omega)
  replace hB := hOm.bel_grown hB hg12 (by omega)
  clear hOm
  have hOm := hOb2
  go_wp2_with fail
  refine (markIntS _ _ _ _ _ (1 + 4 * n1) _ _ hOb2 (by omega) (by omega) (by omega)).mono ?_
  rintro _ w13 ⟨rfl, hOb2, hg13⟩
  have hz13 := hg13.size
  replace hOw := hOw.grown hg13 (fun g h => by have := hOm.ob g h; omega)
  replace hOb1 := hOb1.grown hg13 (fun g h => by have := hOm.ob g h; omega)
  replace hOg := hOg.grown hg13 (fun g h => by have := hOm.ob g h; omega)
  replace hB := hOm.bel_grown hB hg13 (by omega)
  clear hOm
  go_wp2_with fail
  refine (eqIntS _ _ _ _ _ _ _ hOg.sl hOw.sl hng ).mono ?_
  rintro _ w14 ⟨rfl, hb14⟩
  have hz14 := hb14.size
  replace hOw := hOw.bel hb14
  replace hOb1 := hOb1.bel hb14
  replace hOb2 := hOb2.bel hb14
  replace hOg := hOg.bel hb14
  replace hB := bel_trans hB hb14
  have hOm := hOg
  go_wp2_with fail
  refine (markIntS _ _ _ _ _ 1 _ _ hOg hng (by omega) (by omega)).mono ?_
  rintro _ w15 ⟨rfl, hOg, hg15⟩
  have hz15 := hg15.size
  replace hOw := hOw.grown hg15 (fun g h => by have := hOm.ob g h; omega)
  replace hB := hOm.bel_grown hB hg15 (by omega)
  clear hOm
  go_wp2_with fail
  refine (heldIntS _ _ _ 1 _ hOg.sl hng (by omega) (by omega)).mono ?_
  rintro _ w16 ⟨rfl, hb16⟩
  have hz16 := hb16.size
  replace hOw := hOw.bel hb16
  replace hOg := hOg.bel hb16
  replace hB := bel_trans hB hb16
  go_wp2_with fail
  refine (toRoadS _ _ _ xs1 _ (hS1.bel hB) (by omega)).mono ?_
  rintro _ w17 ⟨gd1, rfl, hOd1, hb17⟩
  have hz17 := hb17.size
  replace hOw := hOw.bel hb17
  replace hOg := hOg.bel hb17
  replace hB := bel_trans hB hb17
  go_wp2_with fail
  refine (toIntS _ _ _ xs2 _ (hS2.bel hB) (by omega)).mono ?_
  rintro _ w18 ⟨gd2, rfl, hOd2, hb18⟩
  have hz18 := hb18.size
  replace hOw := hOw.bel hb18
  replace hOg := hOg.bel hb18
  replace hOd1 := hOd1.bel hb18
  replace hB := bel_trans hB hb18
  go_wp2_with fail
  refine (cutI x0 _ _ _ xs1 _ _ _ xs2 x3 _ hOd1.sl (by omega) hOd2.sl (by omega)).mono ?_
  rintro _ w19 ⟨Ah, nh, ch, rfl, hOh, hb19⟩
  have hz19 := hb19.size
  replace hOw := hOw.bel hb19
  replace hOg := hOg.bel hb19
  replace hOd1 := hOd1.bel hb19
  replace hOd2 := hOd2.bel hb19
  replace hB := bel_trans hB hb19
  have hlw := hOw.sl.int_len
  have hlh := hOh.sl.int_len
  obtain rfl : nh = ng := hlh.symm.trans hlw
  clear hlw hlh
  go_wp2_with fail
  refine (eqIntS _ _ _ _ _ _ _ hOh.sl hOw.sl hng ).mono ?_
  rintro _ w20 ⟨rfl, hb20⟩
  have hz20 := hb20.size
  replace hOw := hOw.bel hb20
  replace hOg := hOg.bel hb20
  replace hOd1 := hOd1.bel hb20
  replace hOd2 := hOd2.bel hb20
  replace hOh := hOh.bel hb20
  replace hB := bel_trans hB hb20
  go_wp2_with fail
  refine (heldIntS _ _ _ 1 _ hOg.sl hng (by omega) (by omega)).mono ?_
  rintro _ w21 ⟨rfl, hb21⟩
  have hz21 := hb21.size
  replace hOw := hOw.bel hb21
  replace hOg := hOg.bel hb21
  replace hOd1 := hOd1.bel hb21
  replace hOd2 := hOd2.bel hb21
  replace hOh := hOh.bel hb21
  replace hB := bel_trans hB hb21
  go_wp2
  go_ret
  exact ⟨rfl, by (repeat' (first | (with_reducible exact bel_refl _) | (with_reducible assumption) | (with_reducible refine bel_drew ?_) | (with_reducible refine bel_drewN ?_) | (with_reducible refine bel_alloc ?_) | (with_reducible refine bel_set ?_ ?_) | (with_reducible refine bel_trans ?_ (by with_reducible assumption)) | omega | (simp; done) | (simp; omega)))⟩



end Go.Proofs.Ytodmkiikcfdklaa
