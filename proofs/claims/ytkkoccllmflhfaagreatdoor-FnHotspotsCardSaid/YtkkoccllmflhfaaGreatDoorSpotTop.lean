/-
  Two hot spots: whether they may be one, the steps between them: of the program and of the reference, walked.
-/
import Derived.Test.YtkkoccllmflhfaaGreatDoorSpotList
namespace Go.Proofs.YtkkoccllmflhfaaGreatDoor
open Go.RowKit

def spreadR (a b : Hotspot) : Int × Int × Bool := if goodH a && goodH b then (max 0 (max (farI a.x b.x) (farI a.y b.y) - a.err - b.err), max (farI a.x b.x) (farI a.y b.y) + a.err + b.err, true) else (0, 0, false)
def mayR (a b : Hotspot) : Bool × Bool := if goodH a && goodH b then (sameB a b, true) else (false, false)
theorem farI_bd {a b : Int} (h : 0 ≤ a ∧ a ≤ 1000 ∧ 0 ≤ b ∧ b ≤ 1000) : 0 ≤ farI a b ∧ farI a b ≤ 1000 := by
  unfold farI; omega
theorem iv {k : IntKind} {a b : Int} (h : a = b) : Value.int k a = .int k b := by rw [h]
theorem ret3 {a b c d e f : Value} (h : a = d) (h' : b = e) (h'' : c = f) : Ending.returned (.tuple #[a, b, c]) = .returned (.tuple #[d, e, f]) := by rw [h, h', h'']

theorem l7Same (a b : Hotspot) (w : World) (ha : goodH a = true) (hb : goodH b = true) :
    Calls Tryz.prog 36 #[.agg #[.int .i64 a.id, .int .i64 a.x, .int .i64 a.y, .int .i64 a.err, .int .i64 a.tick, .int .i64 a.heat], .agg #[.int .i64 b.id, .int .i64 b.x, .int .i64 b.y, .int .i64 b.err, .int .i64 b.tick, .int .i64 b.heat]] w fun e w' => e = .returned (.bool (sameB a b)) ∧ Below w.heap.size w w' := by
  have hA := goodH_bd ha
  have hB := goodH_bd hb
  have h1 := farI_bd (a := a.x) (b := b.x) (by omega)
  have h2 := farI_bd (a := a.y) (b := b.y) (by omega)
  have hB2 := bel_refl ((w.alloc (.cells #[.int .i64 a.id, .int .i64 a.x, .int .i64 a.y, .int .i64 a.err, .int .i64 a.tick, .int .i64 a.heat] 25)).alloc (.cells #[.int .i64 b.id, .int .i64 b.x, .int .i64 b.y, .int .i64 b.err, .int .i64 b.tick, .int .i64 b.heat] 25))
  clear ha hb
  go_enter Tryz.func36, Tryz.ntmps36
  go_wp2_with fail
  (refine wp_region_bel (by kernel_rfl) (by kernel_rfl) ?_; have hD := bel_cells hB2; (repeat (go_big_quiet_step (((first | (go_at_call 41; exact calls_bel_same (l7Far _ _ _ (by omega))) | (go_at_call 38; exact calls_bel_same (l1Most _ _ _))))))); refine wpQuiet_nil ?_; intro w1 hB1; replace hB2 := bel_trans hB2 hB1; obtain ⟨hC1, hF1⟩ := bcell hB2; clear hD; replace hB1 := hB1)
  go_wp2
  go_ret
  exact ⟨rfl, by (repeat' (first | (with_reducible exact bel_refl _) | (with_reducible assumption) | (with_reducible refine bel_drew ?_) | (with_reducible refine bel_drewN ?_) | (with_reducible refine bel_alloc ?_) | (with_reducible refine bel_set ?_ ?_) | (with_reducible refine bel_trans ?_ (by with_reducible assumption)) | omega | (simp; done) | (simp; omega)))⟩

set_option maxHeartbeats 1000000 in
theorem spreadS (a b : Hotspot) (w : World) :
    Calls Tryz.prog 19 #[.agg #[.int .i64 a.id, .int .i64 a.x, .int .i64 a.y, .int .i64 a.err, .int .i64 a.tick, .int .i64 a.heat], .agg #[.int .i64 b.id, .int .i64 b.x, .int .i64 b.y, .int .i64 b.err, .int .i64 b.tick, .int .i64 b.heat]] w fun e w' => e = .returned (.tuple #[.int .i64 (spreadR a b).1, .int .i64 (spreadR a b).2.1, .bool (spreadR a b).2.2]) ∧ Below w.heap.size w w' := by
  have hB2 := bel_refl ((w.alloc (.cells #[.int .i64 a.id, .int .i64 a.x, .int .i64 a.y, .int .i64 a.err, .int .i64 a.tick, .int .i64 a.heat] 25)).alloc (.cells #[.int .i64 b.id, .int .i64 b.x, .int .i64 b.y, .int .i64 b.err, .int .i64 b.tick, .int .i64 b.heat] 25))
  rcases ha : goodH a with _ | _
  · go_enter Tryz.func19, Tryz.ntmps19
    go_wp2_with (go_at_call 22; refine (l7One _ _).mono ?_; rintro _ w1 ⟨rfl, hB1⟩; (first | (with_reducible replace hB2 := bel_trans hB2 hB1) | (with_reducible replace hB2 := bel_trans (bel_alloc hB2) hB1)); obtain ⟨hC1, hF1⟩ := bcell hB2; replace hB1 := hB1)
    go_ret3
    refine ⟨?_, by (repeat' (first | (with_reducible exact bel_refl _) | (with_reducible assumption) | (with_reducible refine bel_drew ?_) | (with_reducible refine bel_drewN ?_) | (with_reducible refine bel_alloc ?_) | (with_reducible refine bel_set ?_ ?_) | (with_reducible refine bel_trans ?_ (by with_reducible assumption)) | omega | (simp; done) | (simp; omega)))⟩
    simp [spreadR, ha]
  · rcases hb : goodH b with _ | _
    · go_enter Tryz.func19, Tryz.ntmps19
      go_wp2_with (go_at_call 22; refine (l7One _ _).mono ?_; rintro _ w1 ⟨rfl, hB1⟩; (first | (with_reducible replace hB2 := bel_trans hB2 hB1) | (with_reducible replace hB2 := bel_trans (bel_alloc hB2) hB1)); obtain ⟨hC1, hF1⟩ := bcell hB2; replace hB1 := hB1)
      go_ret3
      refine ⟨?_, by (repeat' (first | (with_reducible exact bel_refl _) | (with_reducible assumption) | (with_reducible refine bel_drew ?_) | (with_reducible refine bel_drewN ?_) | (with_reducible refine bel_alloc ?_) | (with_reducible refine bel_set ?_ ?_) | (with_reducible refine bel_trans ?_ (by with_reducible assumption)) | omega | (simp; done) | (simp; omega)))⟩
      simp [spreadR, ha, hb]
    · have hA := goodH_bd ha
      have hB := goodH_bd hb
      have h1 := farI_bd (a := a.x) (b := b.x) (by omega)
      have h2 := farI_bd (a := a.y) (b := b.y) (by omega)
      have hR : Hid (spreadR a b = (max 0 (max (farI a.x b.x) (farI a.y b.y) - a.err - b.err), max (farI a.x b.x) (farI a.y b.y) + a.err + b.err, true)) := by show _ = _; simp [spreadR, ha, hb]
      go_enter Tryz.func19, Tryz.ntmps19
      go_wp2_with (first | (go_at_call 22; refine (l7One _ _).mono ?_; rintro _ w1 ⟨rfl, hB1⟩; (first | (with_reducible replace hB2 := bel_trans hB2 hB1) | (with_reducible replace hB2 := bel_trans (bel_alloc hB2) hB1)); obtain ⟨hC1, hF1⟩ := bcell hB2; replace hB1 := hB1))
      (refine wp_region_bel (by kernel_rfl) (by kernel_rfl) ?_; have hD := bel_cells hB2; (repeat (go_big_quiet_step (((first | (go_at_call 41; exact calls_bel_same (l7Far _ _ _ (by omega))) | (go_at_call 38; exact calls_bel_same (l1Most _ _ _))))))); refine wpQuiet_nil ?_; intro w1 hB1; replace hB2 := bel_trans hB2 hB1; obtain ⟨hC1, hF1⟩ := bcell hB2; clear hD; replace hB1 := hB1)
      go_wp2_with fail; (refine wp_region_bel (by kernel_rfl) (by kernel_rfl) ?_; have hD := bel_cells hB2; (repeat (go_big_quiet_step (((first | (go_at_call 41; exact calls_bel_same (l7Far _ _ _ (by omega))) | (go_at_call 38; exact calls_bel_same (l1Most _ _ _))))))); refine wpQuiet_nil ?_; intro w1 hB1; replace hB2 := bel_trans hB2 hB1; obtain ⟨hC1, hF1⟩ := bcell hB2; clear hD; replace hB1 := hB1); go_wp2
      all_goals go_ret3
      all_goals (refine ⟨?_, by (repeat' (first | (with_reducible exact bel_refl _) | (with_reducible assumption) | (with_reducible refine bel_drew ?_) | (with_reducible refine bel_drewN ?_) | (with_reducible refine bel_alloc ?_) | (with_reducible refine bel_set ?_ ?_) | (with_reducible refine bel_trans ?_ (by with_reducible assumption)) | omega | (simp; done) | (simp; omega)))⟩; rw [hR.out]; exact ret3 (iv (by (try dsimp only) <;> omega)) (iv (by (try dsimp only) <;> omega)) rfl)

set_option maxHeartbeats 1000000 in
theorem spreadI (a b : Hotspot) (w : World) :
    Calls Tryz.prog 18 #[.agg #[.int .i64 a.id, .int .i64 a.x, .int .i64 a.y, .int .i64 a.err, .int .i64 a.tick, .int .i64 a.heat], .agg #[.int .i64 b.id, .int .i64 b.x, .int .i64 b.y, .int .i64 b.err, .int .i64 b.tick, .int .i64 b.heat]] w fun e w' => e = .returned (.tuple #[.int .i64 (spreadR a b).1, .int .i64 (spreadR a b).2.1, .bool (spreadR a b).2.2]) ∧ Below w.heap.size w w' := by
  have hB2 := bel_refl ((w.alloc (.cells #[.int .i64 a.id, .int .i64 a.x, .int .i64 a.y, .int .i64 a.err, .int .i64 a.tick, .int .i64 a.heat] 25)).alloc (.cells #[.int .i64 b.id, .int .i64 b.x, .int .i64 b.y, .int .i64 b.err, .int .i64 b.tick, .int .i64 b.heat] 25))
  rcases ha : goodH a with _ | _
  · go_enter Tryz.func18, Tryz.ntmps18
    go_wp2_with (go_at_call 8; refine (isHotspotI _ _).mono ?_; rintro _ w1 ⟨rfl, hB1⟩; (first | (with_reducible replace hB2 := bel_trans hB2 hB1) | (with_reducible replace hB2 := bel_trans (bel_alloc hB2) hB1)); obtain ⟨hC1, hF1⟩ := bcell hB2; replace hB1 := hB1)
    go_ret3
    refine ⟨?_, by (repeat' (first | (with_reducible exact bel_refl _) | (with_reducible assumption) | (with_reducible refine bel_drew ?_) | (with_reducible refine bel_drewN ?_) | (with_reducible refine bel_alloc ?_) | (with_reducible refine bel_set ?_ ?_) | (with_reducible refine bel_trans ?_ (by with_reducible assumption)) | omega | (simp; done) | (simp; omega)))⟩
    simp [spreadR, ha]
  · rcases hb : goodH b with _ | _
    · go_enter Tryz.func18, Tryz.ntmps18
      go_wp2_with (go_at_call 8; refine (isHotspotI _ _).mono ?_; rintro _ w1 ⟨rfl, hB1⟩; (first | (with_reducible replace hB2 := bel_trans hB2 hB1) | (with_reducible replace hB2 := bel_trans (bel_alloc hB2) hB1)); obtain ⟨hC1, hF1⟩ := bcell hB2; replace hB1 := hB1)
      go_ret3
      refine ⟨?_, by (repeat' (first | (with_reducible exact bel_refl _) | (with_reducible assumption) | (with_reducible refine bel_drew ?_) | (with_reducible refine bel_drewN ?_) | (with_reducible refine bel_alloc ?_) | (with_reducible refine bel_set ?_ ?_) | (with_reducible refine bel_trans ?_ (by with_reducible assumption)) | omega | (simp; done) | (simp; omega)))⟩
      simp [spreadR, ha, hb]
    · have hA := goodH_bd ha
      have hB := goodH_bd hb
      have h1 := farI_bd (a := a.x) (b := b.x) (by omega)
      have h2 := farI_bd (a := a.y) (b := b.y) (by omega)
      have hR : Hid (spreadR a b = (max 0 (max (farI a.x b.x) (farI a.y b.y) - a.err - b.err), max (farI a.x b.x) (farI a.y b.y) + a.err + b.err, true)) := by show _ = _; simp [spreadR, ha, hb]
      go_enter Tryz.func18, Tryz.ntmps18
      go_wp2_with (first | (go_at_call 8; refine (isHotspotI _ _).mono ?_; rintro _ w1 ⟨rfl, hB1⟩; (first | (with_reducible replace hB2 := bel_trans hB2 hB1) | (with_reducible replace hB2 := bel_trans (bel_alloc hB2) hB1)); obtain ⟨hC1, hF1⟩ := bcell hB2; replace hB1 := hB1))
      (refine wp_region_bel (by kernel_rfl) (by kernel_rfl) ?_; have hD := bel_cells hB2; (repeat (go_big_quiet_step (((first | (go_at_call 40; exact calls_bel_same (distanceI _ _ _ (by omega))) | (go_at_call 38; exact calls_bel_same (l1Most _ _ _))))))); refine wpQuiet_nil ?_; intro w1 hB1; replace hB2 := bel_trans hB2 hB1; obtain ⟨hC1, hF1⟩ := bcell hB2; clear hD; replace hB1 := hB1)
      go_wp2
      all_goals go_ret3
      all_goals (refine ⟨?_, by (repeat' (first | (with_reducible exact bel_refl _) | (with_reducible assumption) | (with_reducible refine bel_drew ?_) | (with_reducible refine bel_drewN ?_) | (with_reducible refine bel_alloc ?_) | (with_reducible refine bel_set ?_ ?_) | (with_reducible refine bel_trans ?_ (by with_reducible assumption)) | omega | (simp; done) | (simp; omega)))⟩; rw [hR.out]; exact ret3 (iv (by (try dsimp only) <;> omega)) (iv (by (try dsimp only) <;> omega)) rfl)

end Go.Proofs.YtkkoccllmflhfaaGreatDoor
