/-
  Whether two hot spots may be one, and where: of the program and of the reference, walked.
-/
import Derived.Test.YtkkoccllmflhfaaGreatDoorSpotBox
import Derived.StillTailTactics
namespace Go.Proofs.YtkkoccllmflhfaaGreatDoor
open Go.RowKit

set_option maxHeartbeats 2000000 in
theorem mayBeOneI (a b : Hotspot) (w : World) (ha : goodH a = true) (hb : goodH b = true) :
    Calls Tryz.prog 35 #[.agg #[.int .i64 a.id, .int .i64 a.x, .int .i64 a.y, .int .i64 a.err, .int .i64 a.tick, .int .i64 a.heat], .agg #[.int .i64 b.id, .int .i64 b.x, .int .i64 b.y, .int .i64 b.err, .int .i64 b.tick, .int .i64 b.heat]] w fun e w' => e = .returned (.bool (sameB a b)) ∧ Below w.heap.size w w' := by
  have hsame := hid (same_both ha hb)
  have hbox := hid (both_box ha hb)
  have hall := hid (all_two ha hb)
  clear ha hb
  obtain ⟨q, hq⟩ : ∃ q, bothQ a b = q := ⟨_, rfl⟩
  rw [hq] at hsame hbox
  clear hq
  have hB0 := bel_refl ((w.alloc (.cells #[.int .i64 a.id, .int .i64 a.x, .int .i64 a.y, .int .i64 a.err, .int .i64 a.tick, .int .i64 a.heat] 25)).alloc (.cells #[.int .i64 b.id, .int .i64 b.x, .int .i64 b.y, .int .i64 b.err, .int .i64 b.tick, .int .i64 b.heat] 25))
  obtain ⟨v1, hv1⟩ : ∃ v, decide (q.a ≤ q.b) = v := ⟨_, rfl⟩
  obtain ⟨v2, hv2⟩ : ∃ v, decide (q.c ≤ q.d) = v := ⟨_, rfl⟩
  rw [hv1, hv2] at hsame
  rcases v1 with _ | _
  all_goals rcases v2 with _ | _
  all_goals
    go_enter Tryz.func35, Tryz.ntmps35
    go_wp2_with (go_at_call 37; refine (boxI _ 2 2 [a, b] _ (two_sl (by simp)) (by omega) hall.out).mono ?_; rintro _ w1 ⟨g, rfl, hO, hB1⟩)
    rw [hbox.out] at hO
    have f0 := hO.own.cellAt 0 (by omega)
    have f1 := hO.own.cellAt 1 (by omega)
    have f2 := hO.own.cellAt 2 (by omega)
    have f3 := hO.own.cellAt 3 (by omega)
    simp only [Box.list, ints, List.map_cons, List.map_nil, List.getElem?_cons_succ, List.getElem?_cons_zero] at f0 f1 f2 f3
    have hgl : g < w1.heap.size := hO.up g rfl
    have hB9 : Below w.heap.size w w1 := by (repeat' (first | (with_reducible exact bel_refl _) | (with_reducible assumption) | (with_reducible refine bel_drew ?_) | (with_reducible refine bel_drewN ?_) | (with_reducible refine bel_alloc ?_) | (with_reducible refine bel_set ?_ ?_) | (with_reducible refine bel_trans ?_ (by with_reducible assumption)) | omega | (simp; done) | (simp; omega)))
    clear hB1
    have hB2 := bel_refl w1
    clear hO hall hbox
    (refine wp_region_bel (by kernel_rfl) (by kernel_rfl) ?_; have hD := bel_cells hB2; (repeat (go_big_quiet_step ((fail)))); refine wpQuiet_nil ?_; intro w1 hB1; replace hB2 := bel_trans hB2 hB1; obtain ⟨hC1, hF1⟩ := bcell hB2; clear hD; replace hB1 := hB1)
    go_wp2
    go_ret
    exact ⟨by rw [hsame.out]; rfl, by (repeat' (first | (with_reducible exact bel_refl _) | (with_reducible assumption) | (with_reducible refine bel_drew ?_) | (with_reducible refine bel_drewN ?_) | (with_reducible refine bel_alloc ?_) | (with_reducible refine bel_set ?_ ?_) | (with_reducible refine bel_trans ?_ (by with_reducible assumption)) | omega | (simp; done) | (simp; omega)))⟩

set_option maxHeartbeats 1000000 in
theorem mayS (a b : Hotspot) (w : World) :
    Calls Tryz.prog 14 #[.agg #[.int .i64 a.id, .int .i64 a.x, .int .i64 a.y, .int .i64 a.err, .int .i64 a.tick, .int .i64 a.heat], .agg #[.int .i64 b.id, .int .i64 b.x, .int .i64 b.y, .int .i64 b.err, .int .i64 b.tick, .int .i64 b.heat]] w fun e w' => e = .returned (.tuple #[.bool (mayR a b).1, .bool (mayR a b).2]) ∧ Below w.heap.size w w' := by
  have hB2 := bel_refl ((w.alloc (.cells #[.int .i64 a.id, .int .i64 a.x, .int .i64 a.y, .int .i64 a.err, .int .i64 a.tick, .int .i64 a.heat] 25)).alloc (.cells #[.int .i64 b.id, .int .i64 b.x, .int .i64 b.y, .int .i64 b.err, .int .i64 b.tick, .int .i64 b.heat] 25))
  rcases ha : goodH a with _ | _
  · go_enter Tryz.func14, Tryz.ntmps14
    go_wp2_with (go_at_call 22; refine (l7One _ _).mono ?_; rintro _ w1 ⟨rfl, hB1⟩; (first | (with_reducible replace hB2 := bel_trans hB2 hB1) | (with_reducible replace hB2 := bel_trans (bel_alloc hB2) hB1)); obtain ⟨hC1, hF1⟩ := bcell hB2; replace hB1 := hB1)
    go_ret2
    refine ⟨?_, by (repeat' (first | (with_reducible exact bel_refl _) | (with_reducible assumption) | (with_reducible refine bel_drew ?_) | (with_reducible refine bel_drewN ?_) | (with_reducible refine bel_alloc ?_) | (with_reducible refine bel_set ?_ ?_) | (with_reducible refine bel_trans ?_ (by with_reducible assumption)) | omega | (simp; done) | (simp; omega)))⟩
    simp [mayR, ha]
  · rcases hb : goodH b with _ | _
    · go_enter Tryz.func14, Tryz.ntmps14
      go_wp2_with (go_at_call 22; refine (l7One _ _).mono ?_; rintro _ w1 ⟨rfl, hB1⟩; (first | (with_reducible replace hB2 := bel_trans hB2 hB1) | (with_reducible replace hB2 := bel_trans (bel_alloc hB2) hB1)); obtain ⟨hC1, hF1⟩ := bcell hB2; replace hB1 := hB1)
      go_ret2
      refine ⟨?_, by (repeat' (first | (with_reducible exact bel_refl _) | (with_reducible assumption) | (with_reducible refine bel_drew ?_) | (with_reducible refine bel_drewN ?_) | (with_reducible refine bel_alloc ?_) | (with_reducible refine bel_set ?_ ?_) | (with_reducible refine bel_trans ?_ (by with_reducible assumption)) | omega | (simp; done) | (simp; omega)))⟩
      simp [mayR, ha, hb]
    · have hA := hid ha
      have hB := hid hb
      go_enter Tryz.func14, Tryz.ntmps14
      go_wp2_with (first | (go_at_call 22; refine (l7One _ _).mono ?_; rintro _ w1 ⟨rfl, hB1⟩; (first | (with_reducible replace hB2 := bel_trans hB2 hB1) | (with_reducible replace hB2 := bel_trans (bel_alloc hB2) hB1)); obtain ⟨hC1, hF1⟩ := bcell hB2; replace hB1 := hB1) | (go_at_call 36; refine (l7Same _ _ _ hA.out hB.out).mono ?_; rintro _ w1 ⟨rfl, hB1⟩; (first | (with_reducible replace hB2 := bel_trans hB2 hB1) | (with_reducible replace hB2 := bel_trans (bel_alloc hB2) hB1)); obtain ⟨hC1, hF1⟩ := bcell hB2; replace hB1 := hB1))
      go_ret2
      refine ⟨?_, by (repeat' (first | (with_reducible exact bel_refl _) | (with_reducible assumption) | (with_reducible refine bel_drew ?_) | (with_reducible refine bel_drewN ?_) | (with_reducible refine bel_alloc ?_) | (with_reducible refine bel_set ?_ ?_) | (with_reducible refine bel_trans ?_ (by with_reducible assumption)) | omega | (simp; done) | (simp; omega)))⟩
      simp [mayR, ha, hb]

set_option maxHeartbeats 1000000 in
theorem mayI (a b : Hotspot) (w : World) :
    Calls Tryz.prog 13 #[.agg #[.int .i64 a.id, .int .i64 a.x, .int .i64 a.y, .int .i64 a.err, .int .i64 a.tick, .int .i64 a.heat], .agg #[.int .i64 b.id, .int .i64 b.x, .int .i64 b.y, .int .i64 b.err, .int .i64 b.tick, .int .i64 b.heat]] w fun e w' => e = .returned (.tuple #[.bool (mayR a b).1, .bool (mayR a b).2]) ∧ Below w.heap.size w w' := by
  have hB2 := bel_refl ((w.alloc (.cells #[.int .i64 a.id, .int .i64 a.x, .int .i64 a.y, .int .i64 a.err, .int .i64 a.tick, .int .i64 a.heat] 25)).alloc (.cells #[.int .i64 b.id, .int .i64 b.x, .int .i64 b.y, .int .i64 b.err, .int .i64 b.tick, .int .i64 b.heat] 25))
  rcases ha : goodH a with _ | _
  · go_enter Tryz.func13, Tryz.ntmps13
    go_wp2_with (go_at_call 8; refine (isHotspotI _ _).mono ?_; rintro _ w1 ⟨rfl, hB1⟩; (first | (with_reducible replace hB2 := bel_trans hB2 hB1) | (with_reducible replace hB2 := bel_trans (bel_alloc hB2) hB1)); obtain ⟨hC1, hF1⟩ := bcell hB2; replace hB1 := hB1)
    go_ret2
    refine ⟨?_, by (repeat' (first | (with_reducible exact bel_refl _) | (with_reducible assumption) | (with_reducible refine bel_drew ?_) | (with_reducible refine bel_drewN ?_) | (with_reducible refine bel_alloc ?_) | (with_reducible refine bel_set ?_ ?_) | (with_reducible refine bel_trans ?_ (by with_reducible assumption)) | omega | (simp; done) | (simp; omega)))⟩
    simp [mayR, ha]
  · rcases hb : goodH b with _ | _
    · go_enter Tryz.func13, Tryz.ntmps13
      go_wp2_with (go_at_call 8; refine (isHotspotI _ _).mono ?_; rintro _ w1 ⟨rfl, hB1⟩; (first | (with_reducible replace hB2 := bel_trans hB2 hB1) | (with_reducible replace hB2 := bel_trans (bel_alloc hB2) hB1)); obtain ⟨hC1, hF1⟩ := bcell hB2; replace hB1 := hB1)
      go_ret2
      refine ⟨?_, by (repeat' (first | (with_reducible exact bel_refl _) | (with_reducible assumption) | (with_reducible refine bel_drew ?_) | (with_reducible refine bel_drewN ?_) | (with_reducible refine bel_alloc ?_) | (with_reducible refine bel_set ?_ ?_) | (with_reducible refine bel_trans ?_ (by with_reducible assumption)) | omega | (simp; done) | (simp; omega)))⟩
      simp [mayR, ha, hb]
    · have hA := hid ha
      have hB := hid hb
      go_enter Tryz.func13, Tryz.ntmps13
      go_wp2_with (first | (go_at_call 8; refine (isHotspotI _ _).mono ?_; rintro _ w1 ⟨rfl, hB1⟩; (first | (with_reducible replace hB2 := bel_trans hB2 hB1) | (with_reducible replace hB2 := bel_trans (bel_alloc hB2) hB1)); obtain ⟨hC1, hF1⟩ := bcell hB2; replace hB1 := hB1) | (go_at_call 35; refine (mayBeOneI _ _ _ hA.out hB.out).mono ?_; rintro _ w1 ⟨rfl, hB1⟩; (first | (with_reducible replace hB2 := bel_trans hB2 hB1) | (with_reducible replace hB2 := bel_trans (bel_alloc hB2) hB1)); obtain ⟨hC1, hF1⟩ := bcell hB2; replace hB1 := hB1))
      go_ret2
      refine ⟨?_, by (repeat' (first | (with_reducible exact bel_refl _) | (with_reducible assumption) | (with_reducible refine bel_drew ?_) | (with_reducible refine bel_drewN ?_) | (with_reducible refine bel_alloc ?_) | (with_reducible refine bel_set ?_ ?_) | (with_reducible refine bel_trans ?_ (by with_reducible assumption)) | omega | (simp; done) | (simp; omega)))⟩
      simp [mayR, ha, hb]

def placeR (a b : Hotspot) : List Int × Bool := if goodH a && goodH b && sameB a b then ((bothQ a b).list, true) else ([], false)
theorem placeR_len (a b : Hotspot) : (placeR a b).1.length ≤ 1048576 := by
  unfold placeR
  split <;> simp [Box.list]
theorem still_c {P : Program} {f : FuncId} {args : Array Value} {w : World} {v : Value} (h : Calls P f args w fun e w' => e = .returned v ∧ w = w') : Calls P f args w fun e w'' => e = .returned v ∧ w'' = w :=
  h.mono fun _ _ ⟨h1, h2⟩ => ⟨h1, h2.symm⟩
set_option maxRecDepth 100000 in
set_option maxHeartbeats 2000000 in
theorem placeS (a b : Hotspot) (w : World) :
    Calls Tryz.prog 16 #[.agg #[.int .i64 a.id, .int .i64 a.x, .int .i64 a.y, .int .i64 a.err, .int .i64 a.tick, .int .i64 a.heat], .agg #[.int .i64 b.id, .int .i64 b.x, .int .i64 b.y, .int .i64 b.err, .int .i64 b.tick, .int .i64 b.heat]] w fun e w' => ∃ A n c, e = .returned (.tuple #[.slice A n c, .bool (placeR a b).2]) ∧ Own w.heap.size w'.heap.size w' 3 1 A n c (ints (placeR a b).1) ∧ Below w.heap.size w w' := by
  have hB2 := bel_refl ((w.alloc (.cells #[.int .i64 a.id, .int .i64 a.x, .int .i64 a.y, .int .i64 a.err, .int .i64 a.tick, .int .i64 a.heat] 25)).alloc (.cells #[.int .i64 b.id, .int .i64 b.x, .int .i64 b.y, .int .i64 b.err, .int .i64 b.tick, .int .i64 b.heat] 25))
  rcases ha : goodH a with _ | _
  · have hR : Hid (placeR a b = ([], false)) := by show _ = _; simp [placeR, ha]
    go_enter Tryz.func16, Tryz.ntmps16
    go_wp2_with (go_at_call 22; refine (l7One _ _).mono ?_; rintro _ w1 ⟨rfl, hB1⟩; (first | (with_reducible replace hB2 := bel_trans hB2 hB1) | (with_reducible replace hB2 := bel_trans (bel_alloc hB2) hB1)); obtain ⟨hC1, hF1⟩ := bcell hB2; replace hB1 := hB1)
    go_ret2; exact ⟨some ⟨w1.heap.size, 0, none⟩, 0, 0, by rw [hR.out]; rfl, by rw [hR.out]; exact (Own.mk_ (own_empty (Nat.le_refl _))).low (by have := hB2.size; simp at this; omega), by (repeat' (first | (with_reducible exact bel_refl _) | (with_reducible assumption) | (with_reducible refine bel_drew ?_) | (with_reducible refine bel_drewN ?_) | (with_reducible refine bel_alloc ?_) | (with_reducible refine bel_set ?_ ?_) | (with_reducible refine bel_trans ?_ (by with_reducible assumption)) | omega | (simp; done) | (simp; omega)))⟩
  · rcases hb : goodH b with _ | _
    · have hR : Hid (placeR a b = ([], false)) := by show _ = _; simp [placeR, hb]
      go_enter Tryz.func16, Tryz.ntmps16
      go_wp2_with (go_at_call 22; refine (l7One _ _).mono ?_; rintro _ w1 ⟨rfl, hB1⟩; (first | (with_reducible replace hB2 := bel_trans hB2 hB1) | (with_reducible replace hB2 := bel_trans (bel_alloc hB2) hB1)); obtain ⟨hC1, hF1⟩ := bcell hB2; replace hB1 := hB1)
      go_ret2; exact ⟨some ⟨w1.heap.size, 0, none⟩, 0, 0, by rw [hR.out]; rfl, by rw [hR.out]; exact (Own.mk_ (own_empty (Nat.le_refl _))).low (by have := hB2.size; simp at this; omega), by (repeat' (first | (with_reducible exact bel_refl _) | (with_reducible assumption) | (with_reducible refine bel_drew ?_) | (with_reducible refine bel_drewN ?_) | (with_reducible refine bel_alloc ?_) | (with_reducible refine bel_set ?_ ?_) | (with_reducible refine bel_trans ?_ (by with_reducible assumption)) | omega | (simp; done) | (simp; omega)))⟩
    · have hA := hid ha
      have hB := hid hb
      rcases hs : sameB a b with _ | _
      · have hR : Hid (placeR a b = ([], false)) := by show _ = _; simp [placeR, hs]
        go_enter Tryz.func16, Tryz.ntmps16
        go_wp2_with (first | (go_at_call 22; refine (l7One _ _).mono ?_; rintro _ w1 ⟨rfl, hB1⟩; (first | (with_reducible replace hB2 := bel_trans hB2 hB1) | (with_reducible replace hB2 := bel_trans (bel_alloc hB2) hB1)); obtain ⟨hC1, hF1⟩ := bcell hB2; replace hB1 := hB1) | (go_at_call 36; refine (l7Same _ _ _ hA.out hB.out).mono ?_; rintro _ w1 ⟨rfl, hB1⟩; (first | (with_reducible replace hB2 := bel_trans hB2 hB1) | (with_reducible replace hB2 := bel_trans (bel_alloc hB2) hB1)); obtain ⟨hC1, hF1⟩ := bcell hB2; replace hB1 := hB1))
        go_ret2; exact ⟨some ⟨w1.heap.size, 0, none⟩, 0, 0, by rw [hR.out]; rfl, by rw [hR.out]; exact (Own.mk_ (own_empty (Nat.le_refl _))).low (by have := hB2.size; simp at this; omega), by (repeat' (first | (with_reducible exact bel_refl _) | (with_reducible assumption) | (with_reducible refine bel_drew ?_) | (with_reducible refine bel_drewN ?_) | (with_reducible refine bel_alloc ?_) | (with_reducible refine bel_set ?_ ?_) | (with_reducible refine bel_trans ?_ (by with_reducible assumption)) | omega | (simp; done) | (simp; omega)))⟩
      · have hR : Hid (placeR a b = ((bothQ a b).list, true)) := by show _ = _; simp [placeR, hs, ha, hb]
        have hAb := goodH_bd ha
        have hBb := goodH_bd hb
        go_enter Tryz.func16, Tryz.ntmps16
        go_wp2_with (first | (go_at_call 22; refine (l7One _ _).mono ?_; rintro _ w1 ⟨rfl, hB1⟩; (first | (with_reducible replace hB2 := bel_trans hB2 hB1) | (with_reducible replace hB2 := bel_trans (bel_alloc hB2) hB1)); obtain ⟨hC1, hF1⟩ := bcell hB2; replace hB1 := hB1) | (go_at_call 36; refine (l7Same _ _ _ hA.out hB.out).mono ?_; rintro _ w1 ⟨rfl, hB1⟩; (first | (with_reducible replace hB2 := bel_trans hB2 hB1) | (with_reducible replace hB2 := bel_trans (bel_alloc hB2) hB1)); obtain ⟨hC1, hF1⟩ := bcell hB2; replace hB1 := hB1) | fail)
        have v0 : IntKind.i64.wrap (a.x - a.err) = a.x - a.err := IntWalk.i64_in _ (by omega); have v1 : IntKind.i64.wrap (a.x + a.err) = a.x + a.err := IntWalk.i64_in _ (by omega); have v2 : IntKind.i64.wrap (a.y - a.err) = a.y - a.err := IntWalk.i64_in _ (by omega); have v3 : IntKind.i64.wrap (a.y + a.err) = a.y + a.err := IntWalk.i64_in _ (by omega); have v4 : IntKind.i64.wrap (b.x - b.err) = b.x - b.err := IntWalk.i64_in _ (by omega); have v5 : IntKind.i64.wrap (b.x + b.err) = b.x + b.err := IntWalk.i64_in _ (by omega); have v6 : IntKind.i64.wrap (b.y - b.err) = b.y - b.err := IntWalk.i64_in _ (by omega); have v7 : IntKind.i64.wrap (b.y + b.err) = b.y + b.err := IntWalk.i64_in _ (by omega); refine wp_region_still_tail 44 (by kernel_rfl) (by kernel_rfl) ?_; (simp only [List.take_succ_cons, List.take_zero, List.drop_succ_cons, List.drop_zero]); (repeat (first | still_step | still_call (still_c (l1Most _ _ _)) | still_call (still_c (l1Least _ _ _)))); refine wpStill_nil ?_; change wpList _ _ _ _ _ w1.drew; go_wp2; go_ret2; have hlit := World.ownsRow_lit (base := w1.heap.size) (e := 3) (size := 1) w1 #[.int .i64 (max (a.x - a.err) (b.x - b.err)), .int .i64 (min (a.x + a.err) (b.x + b.err)), .int .i64 (max (a.y - a.err) (b.y - b.err)), .int .i64 (min (a.y + a.err) (b.y + b.err))] 4 (Nat.le_refl _) (by simp [maxLen]) rfl; exact ⟨_, _, _, by rw [hR.out]; rfl, by rw [hR.out]; exact ((Own.mk_ hlit).low (by have := hB2.size; simp at this; omega)).bel (bel_drew (bel_refl _)), by (repeat' (first | (with_reducible exact bel_refl _) | (with_reducible assumption) | (with_reducible refine bel_drew ?_) | (with_reducible refine bel_drewN ?_) | (with_reducible refine bel_alloc ?_) | (with_reducible refine bel_set ?_ ?_) | (with_reducible refine bel_trans ?_ (by with_reducible assumption)) | omega | (simp; done) | (simp; omega)))⟩

set_option maxRecDepth 100000 in
set_option maxHeartbeats 2000000 in
theorem placeI (a b : Hotspot) (w : World) :
    Calls Tryz.prog 15 #[.agg #[.int .i64 a.id, .int .i64 a.x, .int .i64 a.y, .int .i64 a.err, .int .i64 a.tick, .int .i64 a.heat], .agg #[.int .i64 b.id, .int .i64 b.x, .int .i64 b.y, .int .i64 b.err, .int .i64 b.tick, .int .i64 b.heat]] w fun e w' => ∃ A n c, e = .returned (.tuple #[.slice A n c, .bool (placeR a b).2]) ∧ Own w.heap.size w'.heap.size w' 3 1 A n c (ints (placeR a b).1) ∧ Below w.heap.size w w' := by
  have hB2 := bel_refl ((w.alloc (.cells #[.int .i64 a.id, .int .i64 a.x, .int .i64 a.y, .int .i64 a.err, .int .i64 a.tick, .int .i64 a.heat] 25)).alloc (.cells #[.int .i64 b.id, .int .i64 b.x, .int .i64 b.y, .int .i64 b.err, .int .i64 b.tick, .int .i64 b.heat] 25))
  rcases ha : goodH a with _ | _
  · have hR : Hid (placeR a b = ([], false)) := by show _ = _; simp [placeR, ha]
    go_enter Tryz.func15, Tryz.ntmps15
    go_wp2_with (go_at_call 8; refine (isHotspotI _ _).mono ?_; rintro _ w1 ⟨rfl, hB1⟩; (first | (with_reducible replace hB2 := bel_trans hB2 hB1) | (with_reducible replace hB2 := bel_trans (bel_alloc hB2) hB1)); obtain ⟨hC1, hF1⟩ := bcell hB2; replace hB1 := hB1)
    go_ret2; exact ⟨none, 0, 0, by rw [hR.out]; rfl, by rw [hR.out]; exact Own.mk_ (World.ownsRow_nil _ _ _ _), by (repeat' (first | (with_reducible exact bel_refl _) | (with_reducible assumption) | (with_reducible refine bel_drew ?_) | (with_reducible refine bel_drewN ?_) | (with_reducible refine bel_alloc ?_) | (with_reducible refine bel_set ?_ ?_) | (with_reducible refine bel_trans ?_ (by with_reducible assumption)) | omega | (simp; done) | (simp; omega)))⟩
  · rcases hb : goodH b with _ | _
    · have hR : Hid (placeR a b = ([], false)) := by show _ = _; simp [placeR, hb]
      go_enter Tryz.func15, Tryz.ntmps15
      go_wp2_with (go_at_call 8; refine (isHotspotI _ _).mono ?_; rintro _ w1 ⟨rfl, hB1⟩; (first | (with_reducible replace hB2 := bel_trans hB2 hB1) | (with_reducible replace hB2 := bel_trans (bel_alloc hB2) hB1)); obtain ⟨hC1, hF1⟩ := bcell hB2; replace hB1 := hB1)
      go_ret2; exact ⟨none, 0, 0, by rw [hR.out]; rfl, by rw [hR.out]; exact Own.mk_ (World.ownsRow_nil _ _ _ _), by (repeat' (first | (with_reducible exact bel_refl _) | (with_reducible assumption) | (with_reducible refine bel_drew ?_) | (with_reducible refine bel_drewN ?_) | (with_reducible refine bel_alloc ?_) | (with_reducible refine bel_set ?_ ?_) | (with_reducible refine bel_trans ?_ (by with_reducible assumption)) | omega | (simp; done) | (simp; omega)))⟩
    · have hA := hid ha
      have hB := hid hb
      rcases hs : sameB a b with _ | _
      · have hR : Hid (placeR a b = ([], false)) := by show _ = _; simp [placeR, hs]
        go_enter Tryz.func15, Tryz.ntmps15
        go_wp2_with (first | (go_at_call 8; refine (isHotspotI _ _).mono ?_; rintro _ w1 ⟨rfl, hB1⟩; (first | (with_reducible replace hB2 := bel_trans hB2 hB1) | (with_reducible replace hB2 := bel_trans (bel_alloc hB2) hB1)); obtain ⟨hC1, hF1⟩ := bcell hB2; replace hB1 := hB1) | (go_at_call 35; refine (mayBeOneI _ _ _ hA.out hB.out).mono ?_; rintro _ w1 ⟨rfl, hB1⟩; (first | (with_reducible replace hB2 := bel_trans hB2 hB1) | (with_reducible replace hB2 := bel_trans (bel_alloc hB2) hB1)); obtain ⟨hC1, hF1⟩ := bcell hB2; replace hB1 := hB1))
        go_ret2; exact ⟨none, 0, 0, by rw [hR.out]; rfl, by rw [hR.out]; exact Own.mk_ (World.ownsRow_nil _ _ _ _), by (repeat' (first | (with_reducible exact bel_refl _) | (with_reducible assumption) | (with_reducible refine bel_drew ?_) | (with_reducible refine bel_drewN ?_) | (with_reducible refine bel_alloc ?_) | (with_reducible refine bel_set ?_ ?_) | (with_reducible refine bel_trans ?_ (by with_reducible assumption)) | omega | (simp; done) | (simp; omega)))⟩
      · have hR : Hid (placeR a b = ((bothQ a b).list, true)) := by show _ = _; simp [placeR, hs, ha, hb]
        have hAb := goodH_bd ha
        have hBb := goodH_bd hb
        go_enter Tryz.func15, Tryz.ntmps15
        go_wp2_with (first | (go_at_call 8; refine (isHotspotI _ _).mono ?_; rintro _ w1 ⟨rfl, hB1⟩; (first | (with_reducible replace hB2 := bel_trans hB2 hB1) | (with_reducible replace hB2 := bel_trans (bel_alloc hB2) hB1)); obtain ⟨hC1, hF1⟩ := bcell hB2; replace hB1 := hB1) | (go_at_call 35; refine (mayBeOneI _ _ _ hA.out hB.out).mono ?_; rintro _ w1 ⟨rfl, hB1⟩; (first | (with_reducible replace hB2 := bel_trans hB2 hB1) | (with_reducible replace hB2 := bel_trans (bel_alloc hB2) hB1)); obtain ⟨hC1, hF1⟩ := bcell hB2; replace hB1 := hB1) | (go_at_call 37; refine (boxI _ 2 2 [a, b] _ (two_sl (by simp)) (by omega) (all_two hA.out hB.out)).mono ?_; rintro _ w9 ⟨g, rfl, hO, hB1⟩))
        rw [both_box hA.out hB.out] at hO; go_ret2; exact ⟨some ⟨g, 0, none⟩, 4, 4, by rw [hR.out]; rfl, by rw [hR.out]; exact hO.low (by have := hB2.size; simp at this ⊢; omega), by (repeat' (first | (with_reducible exact bel_refl _) | (with_reducible assumption) | (with_reducible refine bel_drew ?_) | (with_reducible refine bel_drewN ?_) | (with_reducible refine bel_alloc ?_) | (with_reducible refine bel_set ?_ ?_) | (with_reducible refine bel_trans ?_ (by with_reducible assumption)) | omega | (simp; done) | (simp; omega)))⟩

end Go.Proofs.YtkkoccllmflhfaaGreatDoor
