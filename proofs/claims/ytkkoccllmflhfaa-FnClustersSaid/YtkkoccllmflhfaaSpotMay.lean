/-
  Whether two hot spots may be one, and where: of the program and of the reference, walked.
-/
import Derived.Test.YtkkoccllmflhfaaSpotBox
import Derived.StillTailTactics
namespace Go.Proofs.Ytkkoccllmflhfaa
open Go.RowKit

set_option maxHeartbeats 2000000 in
theorem mayBeOneI (a b : Hotspot) (w : World) (ha : goodH a = true) (hb : goodH b = true) :
    Calls Try.prog 52 #[.agg #[.int .i64 a.id, .int .i64 a.x, .int .i64 a.y, .int .i64 a.err, .int .i64 a.tick, .int .i64 a.heat], .agg #[.int .i64 b.id, .int .i64 b.x, .int .i64 b.y, .int .i64 b.err, .int .i64 b.tick, .int .i64 b.heat]] w fun e w' => e = .returned (.bool (sameB a b)) ∧ Below w.heap.size w w' := by
  have hsame := hid (same_both ha hb)
  have hbox := hid (both_box ha hb)
  have hall := hid (all_two ha hb)
  clear ha hb
  obtain ⟨q, hq⟩ : ∃ q, bothQ a b = q := ⟨_, rfl⟩
  rw [hq] at hsame hbox
  clear hq
  have hB0 := bel_refl ((w.alloc (.cells #[.int .i64 a.id, .int .i64 a.x, .int .i64 a.y, .int .i64 a.err, .int .i64 a.tick, .int .i64 a.heat] 49)).alloc (.cells #[.int .i64 b.id, .int .i64 b.x, .int .i64 b.y, .int .i64 b.err, .int .i64 b.tick, .int .i64 b.heat] 49))
  obtain ⟨v1, hv1⟩ : ∃ v, decide (q.a ≤ q.b) = v := ⟨_, rfl⟩
  obtain ⟨v2, hv2⟩ : ∃ v, decide (q.c ≤ q.d) = v := ⟨_, rfl⟩
  rw [hv1, hv2] at hsame
  rcases v1 with _ | _
  all_goals rcases v2 with _ | _
  all_goals
    go_enter Try.func52, Try.ntmps52
    go_wp2_with (go_at_call 47; refine (boxI _ 2 2 [a, b] _ (two_sl (by simp)) (by omega) hall.out).mono ?_; rintro _ w1 ⟨g, rfl, hO, hB1⟩)
    rw [hbox.out] at hO
    have f0 := hO.own.cellAt 0 (by omega)
    have f1 := hO.own.cellAt 1 (by omega)
    have f2 := hO.own.cellAt 2 (by omega)
    have f3 := hO.own.cellAt 3 (by omega)
    simp only [Box.list, ints, List.map_cons, List.map_nil, List.getElem?_cons_succ, List.getElem?_cons_zero] at f0 f1 f2 f3
    have hgl : g < w1.heap.size := hO.up g rfl
    have hB9 : Below w.heap.size w w1 := by (repeat' (first | (with_reducible exact bel_refl _) | (with_reducible assumption) | (with_reducible refine bel_drew ?_) | (with_reducible refine bel_drewN ?_) | (with_reducible refine bel_alloc ?_) | (with_reducible refine bel_set ?_ ?_) | (with_reducible refine bel_trans ?_ (by with_reducible assumption)) | omega | (simp; done) | (simp; omega)))
    clear hB1
    have hB2 := bel_refl w1
    clear hO hall hbox
    (refine wp_region_bel (by kernel_rfl) (by kernel_rfl) ?_; have hD := bel_cells hB2; (repeat (go_big_quiet_step ((fail)))); refine wpQuiet_nil ?_; intro w1 hB1; replace hB2 := bel_trans hB2 hB1; obtain ⟨hC1, hF1⟩ := bcell hB2; clear hD; replace hB1 := hB1)
    go_wp2
    go_ret
    exact ⟨by rw [hsame.out]; rfl, by (repeat' (first | (with_reducible exact bel_refl _) | (with_reducible assumption) | (with_reducible refine bel_drew ?_) | (with_reducible refine bel_drewN ?_) | (with_reducible refine bel_alloc ?_) | (with_reducible refine bel_set ?_ ?_) | (with_reducible refine bel_trans ?_ (by with_reducible assumption)) | omega | (simp; done) | (simp; omega)))⟩

set_option maxHeartbeats 1000000 in
theorem mayI (a b : Hotspot) (w : World) :
    Calls Try.prog 30 #[.agg #[.int .i64 a.id, .int .i64 a.x, .int .i64 a.y, .int .i64 a.err, .int .i64 a.tick, .int .i64 a.heat], .agg #[.int .i64 b.id, .int .i64 b.x, .int .i64 b.y, .int .i64 b.err, .int .i64 b.tick, .int .i64 b.heat]] w fun e w' => e = .returned (.tuple #[.bool (mayR a b).1, .bool (mayR a b).2]) ∧ Below w.heap.size w w' := by
  have hB2 := bel_refl ((w.alloc (.cells #[.int .i64 a.id, .int .i64 a.x, .int .i64 a.y, .int .i64 a.err, .int .i64 a.tick, .int .i64 a.heat] 49)).alloc (.cells #[.int .i64 b.id, .int .i64 b.x, .int .i64 b.y, .int .i64 b.err, .int .i64 b.tick, .int .i64 b.heat] 49))
  rcases ha : goodH a with _ | _
  · go_enter Try.func30, Try.ntmps30
    go_wp2_with (go_at_call 45; refine (isHotspotI _ _).mono ?_; rintro _ w1 ⟨rfl, hB1⟩; (first | (with_reducible replace hB2 := bel_trans hB2 hB1) | (with_reducible replace hB2 := bel_trans (bel_alloc hB2) hB1)); obtain ⟨hC1, hF1⟩ := bcell hB2; replace hB1 := hB1)
    go_ret2
    refine ⟨?_, by (repeat' (first | (with_reducible exact bel_refl _) | (with_reducible assumption) | (with_reducible refine bel_drew ?_) | (with_reducible refine bel_drewN ?_) | (with_reducible refine bel_alloc ?_) | (with_reducible refine bel_set ?_ ?_) | (with_reducible refine bel_trans ?_ (by with_reducible assumption)) | omega | (simp; done) | (simp; omega)))⟩
    simp [mayR, ha]
  · rcases hb : goodH b with _ | _
    · go_enter Try.func30, Try.ntmps30
      go_wp2_with (go_at_call 45; refine (isHotspotI _ _).mono ?_; rintro _ w1 ⟨rfl, hB1⟩; (first | (with_reducible replace hB2 := bel_trans hB2 hB1) | (with_reducible replace hB2 := bel_trans (bel_alloc hB2) hB1)); obtain ⟨hC1, hF1⟩ := bcell hB2; replace hB1 := hB1)
      go_ret2
      refine ⟨?_, by (repeat' (first | (with_reducible exact bel_refl _) | (with_reducible assumption) | (with_reducible refine bel_drew ?_) | (with_reducible refine bel_drewN ?_) | (with_reducible refine bel_alloc ?_) | (with_reducible refine bel_set ?_ ?_) | (with_reducible refine bel_trans ?_ (by with_reducible assumption)) | omega | (simp; done) | (simp; omega)))⟩
      simp [mayR, ha, hb]
    · have hA := hid ha
      have hB := hid hb
      go_enter Try.func30, Try.ntmps30
      go_wp2_with (first | (go_at_call 45; refine (isHotspotI _ _).mono ?_; rintro _ w1 ⟨rfl, hB1⟩; (first | (with_reducible replace hB2 := bel_trans hB2 hB1) | (with_reducible replace hB2 := bel_trans (bel_alloc hB2) hB1)); obtain ⟨hC1, hF1⟩ := bcell hB2; replace hB1 := hB1) | (go_at_call 52; refine (mayBeOneI _ _ _ hA.out hB.out).mono ?_; rintro _ w1 ⟨rfl, hB1⟩; (first | (with_reducible replace hB2 := bel_trans hB2 hB1) | (with_reducible replace hB2 := bel_trans (bel_alloc hB2) hB1)); obtain ⟨hC1, hF1⟩ := bcell hB2; replace hB1 := hB1))
      go_ret2
      refine ⟨?_, by (repeat' (first | (with_reducible exact bel_refl _) | (with_reducible assumption) | (with_reducible refine bel_drew ?_) | (with_reducible refine bel_drewN ?_) | (with_reducible refine bel_alloc ?_) | (with_reducible refine bel_set ?_ ?_) | (with_reducible refine bel_trans ?_ (by with_reducible assumption)) | omega | (simp; done) | (simp; omega)))⟩
      simp [mayR, ha, hb]

def placeR (a b : Hotspot) : List Int × Bool := if goodH a && goodH b && sameB a b then ((bothQ a b).list, true) else ([], false)
theorem placeR_len (a b : Hotspot) : (placeR a b).1.length ≤ 1048576 := by
  unfold placeR
  split <;> simp [Box.list]
theorem still_c {P : Program} {f : FuncId} {args : Array Value} {w : World} {v : Value} (h : Calls P f args w fun e w' => e = .returned v ∧ w = w') : Calls P f args w fun e w'' => e = .returned v ∧ w'' = w :=
  h.mono fun _ _ ⟨h1, h2⟩ => ⟨h1, h2.symm⟩
end Go.Proofs.Ytkkoccllmflhfaa
