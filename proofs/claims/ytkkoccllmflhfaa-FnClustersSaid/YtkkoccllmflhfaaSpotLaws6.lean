/-
  The law on the latest hot spots, walked.
-/
import Derived.Test.YtkkoccllmflhfaaSpotLastS
namespace Go.Proofs.Ytkkoccllmflhfaa
open Go.RowKit

theorem sortD_len {L : List Int} (h : L.Nodup) : (sortD L).length = L.length := by
  have hp := List.mergeSort_perm L (fun a b => decide (a ≤ b))
  have hs := List.pairwise_mergeSort (le := fun a b : Int => decide (a ≤ b)) (fun a b c h1 h2 => by simp only [decide_eq_true_eq] at *; omega) (fun a b => by simp only [Bool.or_eq_true, decide_eq_true_eq]; omega) L
  have hu : Upto L.length (L.mergeSort fun a b => decide (a ≤ b)) := fun p q u v hpq _ hu hv => by
    obtain ⟨h1, h2⟩ := List.getElem?_eq_some_iff.1 hu
    obtain ⟨h3, h4⟩ := List.getElem?_eq_some_iff.1 hv
    have := List.pairwise_iff_getElem.1 hs p q h1 h3 hpq
    rw [h2, h4] at this
    exact of_decide_eq_true this
  rw [← rise_sortD (sorted_rise hp hu hp.length_eq h)]
  exact hp.length_eq
theorem latR_len (xs : List Hotspot) (t : Int) : (latR xs t).1.length ≤ 1048576 := by
  unfold latR
  split
  · rename_i h
    rw [Bool.and_eq_true] at h
    show (sortD _).length ≤ _
    rw [sortD_len (bests_nodup (freshH_rise h.1))]
    have h1 := bests_len (freshH t xs)
    have h2 := freshH_len xs t
    have h3 := listH_len h.1
    omega
  · exact Nat.zero_le _

set_option maxHeartbeats 1000000 in
theorem lawLatestSpots (A0 : Option Addr) (n0 c0 : Nat) (xs0 : List Hotspot) (x1 : Int) (w : World) (hS0 : Sl w 6 A0 n0 c0 (xs0.flatMap Hotspot.row)) :
    Calls Try.prog 3 #[.slice A0 n0 c0, .int .i64 x1] w fun e w' => e = .returned (.bool true) ∧ Below w.heap.size w w' := by
  have hmx0 := Nat.le_trans hS0.cap hS0.max
  have hB := bel_refl w
  by_cases hn0 : (n0 : Int) ≤ 1048576
  rotate_left
  · go_enter Try.func3, Try.ntmps3
    go_wp2_with fail
    refine (szHotspotS_no _ _ _ (1048576) _ (by omega) (by omega) hmx0 (by omega)).mono ?_
    rintro _ _ ⟨rfl, rfl⟩
    go_wp2
    go_ret
    exact ⟨rfl, by (repeat' (first | (with_reducible exact bel_refl _) | (with_reducible assumption) | (with_reducible refine bel_drew ?_) | (with_reducible refine bel_drewN ?_) | (with_reducible refine bel_alloc ?_) | (with_reducible refine bel_set ?_ ?_) | (with_reducible refine bel_trans ?_ (by with_reducible assumption)) | omega | (simp; done) | (simp; omega)))⟩
  go_enter Try.func3, Try.ntmps3
  go_wp2_with fail
  refine (szHotspotS_yes _ _ _ (1048576) _ (by omega) (by omega) (by omega)).mono ?_
  rintro _ _ ⟨rfl, rfl⟩
  go_wp2_with fail
  refine (toHotspotS _ _ _ xs0 _ (hS0.bel hB) (by omega)).mono ?_
  rintro _ w1 ⟨ga0, rfl, hOa0, hb1⟩
  have hz1 := hb1.size
  replace hB := bel_trans hB hb1
  go_wp2_with fail
  refine (latestS _ _ _ xs0 x1 _ hOa0.sl (by omega)).mono ?_
  rintro _ w2 ⟨Aw, nw, cw, rfl, hOw, hb2⟩
  have hz2 := hb2.size
  replace hOa0 := hOa0.bel hb2
  replace hB := bel_trans hB hb2
  go_wp2_with fail
  refine (toHotspotS _ _ _ xs0 _ (hS0.bel hB) (by omega)).mono ?_
  rintro _ w3 ⟨gb0, rfl, hOb0, hb3⟩
  have hz3 := hb3.size
  replace hOa0 := hOa0.bel hb3
  replace hOw := hOw.bel hb3
  replace hB := bel_trans hB hb3
  go_wp2_with fail
  refine (latestI _ _ _ xs0 x1 _ hOb0.sl (by omega)).mono ?_
  rintro _ w4 ⟨Ag, ng, cg, rfl, hOg, hb4⟩
  have hz4 := hb4.size
  replace hOa0 := hOa0.bel hb4
  replace hOw := hOw.bel hb4
  replace hOb0 := hOb0.bel hb4
  replace hB := bel_trans hB hb4
  have hbd := latR_len xs0 x1
  have hlw := hOw.sl.int_len
  have hlg := hOg.sl.int_len
  obtain rfl : ng = nw := hlg.symm.trans hlw
  have hng : ng ≤ 1048576 := by omega
  clear hlw hlg hbd
  go_wp2_with fail
  refine (eqIntS _ _ _ _ _ _ _ hOg.sl hOw.sl hng ).mono ?_
  rintro _ w5 ⟨rfl, hb5⟩
  have hz5 := hb5.size
  replace hOa0 := hOa0.bel hb5
  replace hOw := hOw.bel hb5
  replace hOb0 := hOb0.bel hb5
  replace hOg := hOg.bel hb5
  replace hB := bel_trans hB hb5
  go_wp2_with fail
  refine (toHotspotS _ _ _ xs0 _ (hS0.bel hB) (by omega)).mono ?_
  rintro _ w6 ⟨gc0, rfl, hOc0, hb6⟩
  have hz6 := hb6.size
  replace hOa0 := hOa0.bel hb6
  replace hOw := hOw.bel hb6
  replace hOb0 := hOb0.bel hb6
  replace hOg := hOg.bel hb6
  replace hB := bel_trans hB hb6
  go_wp2_with fail
  refine (eqHotspotS _ _ _ _ _ _ _ hOb0.sl hOc0.sl (by omega)).mono ?_
  rintro _ w7 ⟨rfl, hb7⟩
  have hz7 := hb7.size
  replace hOa0 := hOa0.bel hb7
  replace hOw := hOw.bel hb7
  replace hOb0 := hOb0.bel hb7
  replace hOg := hOg.bel hb7
  replace hOc0 := hOc0.bel hb7
  replace hB := bel_trans hB hb7
  have hOm := hOb0
  go_wp2_with fail
  refine (markHotspotS _ _ _ _ _ (1) _ _ hOb0 (by omega) (by omega) (by omega)).mono ?_
  rintro _ w8 ⟨rfl, hOb0, hg8⟩
  have hz8 := hg8.size
  replace hOw := hOw.grown hg8 (fun g h => by have := hOm.ob g h; omega)
  replace hOg := hOg.grown hg8 (fun g h => by have := hOm.ob g h; omega)
  replace hB := hOm.bel_grown hB hg8 (by omega)
  clear hOm
  go_wp2_with fail
  refine (eqIntS _ _ _ _ _ _ _ hOg.sl hOw.sl hng ).mono ?_
  rintro _ w9 ⟨rfl, hb9⟩
  have hz9 := hb9.size
  replace hOw := hOw.bel hb9
  replace hOb0 := hOb0.bel hb9
  replace hOg := hOg.bel hb9
  replace hB := bel_trans hB hb9
  have hOm := hOg
  go_wp2_with fail
  refine (markIntS _ _ _ _ _ 1 _ _ hOg hng (by omega) (by omega)).mono ?_
  rintro _ w10 ⟨rfl, hOg, hg10⟩
  have hz10 := hg10.size
  replace hOw := hOw.grown hg10 (fun g h => by have := hOm.ob g h; omega)
  replace hB := hOm.bel_grown hB hg10 (by omega)
  clear hOm
  go_wp2_with fail
  refine (heldIntS _ _ _ 1 _ hOg.sl hng (by omega) (by omega)).mono ?_
  rintro _ w11 ⟨rfl, hb11⟩
  have hz11 := hb11.size
  replace hOw := hOw.bel hb11
  replace hOg := hOg.bel hb11
  replace hB := bel_trans hB hb11
  go_wp2_with fail
  refine (toHotspotS _ _ _ xs0 _ (hS0.bel hB) (by omega)).mono ?_
  rintro _ w12 ⟨gd0, rfl, hOd0, hb12⟩
  have hz12 := hb12.size
  replace hOw := hOw.bel hb12
  replace hOg := hOg.bel hb12
  replace hB := bel_trans hB hb12
  go_wp2_with fail
  refine (latestI _ _ _ xs0 x1 _ hOd0.sl (by omega)).mono ?_
  rintro _ w13 ⟨Ah, nh, ch, rfl, hOh, hb13⟩
  have hz13 := hb13.size
  replace hOw := hOw.bel hb13
  replace hOg := hOg.bel hb13
  replace hOd0 := hOd0.bel hb13
  replace hB := bel_trans hB hb13
  have hlw := hOw.sl.int_len
  have hlh := hOh.sl.int_len
  obtain rfl : nh = ng := hlh.symm.trans hlw
  clear hlw hlh
  go_wp2_with fail
  refine (eqIntS _ _ _ _ _ _ _ hOh.sl hOw.sl hng ).mono ?_
  rintro _ w14 ⟨rfl, hb14⟩
  have hz14 := hb14.size
  replace hOw := hOw.bel hb14
  replace hOg := hOg.bel hb14
  replace hOd0 := hOd0.bel hb14
  replace hOh := hOh.bel hb14
  replace hB := bel_trans hB hb14
  go_wp2_with fail
  refine (heldIntS _ _ _ 1 _ hOg.sl hng (by omega) (by omega)).mono ?_
  rintro _ w15 ⟨rfl, hb15⟩
  have hz15 := hb15.size
  replace hOw := hOw.bel hb15
  replace hOg := hOg.bel hb15
  replace hOd0 := hOd0.bel hb15
  replace hOh := hOh.bel hb15
  replace hB := bel_trans hB hb15
  go_wp2
  go_ret
  exact ⟨rfl, by (repeat' (first | (with_reducible exact bel_refl _) | (with_reducible assumption) | (with_reducible refine bel_drew ?_) | (with_reducible refine bel_drewN ?_) | (with_reducible refine bel_alloc ?_) | (with_reducible refine bel_set ?_ ?_) | (with_reducible refine bel_trans ?_ (by with_reducible assumption)) | omega | (simp; done) | (simp; omega)))⟩



end Go.Proofs.Ytkkoccllmflhfaa
