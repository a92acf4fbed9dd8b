/-
  The law on the text of a hot spot, walked.
-/
import Derived.Test.YtkkoccllmflhfaaDoorSpotTxt
namespace Go.Proofs.YtkkoccllmflhfaaDoor
open Go.RowKit

theorem lawSpotText (a b c d e f : Int) (w : World) (hT : Tab w) :
    Calls Tryd.prog 3 #[.agg #[.int .i64 a, .int .i64 b, .int .i64 c, .int .i64 d, .int .i64 e, .int .i64 f]] w fun e w' => e = .returned (.bool true) ∧ Below w.heap.size w w' := by
  have hB2 := bel_refl (w.alloc (.cells #[.int .i64 a, .int .i64 b, .int .i64 c, .int .i64 d, .int .i64 e, .int .i64 f] 23))
  replace hT := tab_bel hT (bel_alloc (o := .cells #[.int .i64 a, .int .i64 b, .int .i64 c, .int .i64 d, .int .i64 e, .int .i64 f] 23) (bel_refl w))
  obtain ⟨T, hTe⟩ : ∃ T, (textR ⟨a, b, c, d, e, f⟩).1 = T := ⟨_, rfl⟩
  obtain ⟨k, hk⟩ : ∃ k, (textR ⟨a, b, c, d, e, f⟩).2 = k := ⟨_, rfl⟩
  have hS := fun w => spotTextS ⟨a, b, c, d, e, f⟩ w
  have hI := fun w hT => spotTextI ⟨a, b, c, d, e, f⟩ w hT
  rw [hTe, hk] at hS hI
  clear hTe hk
  go_enter Tryd.func3, Tryd.ntmps3
  go_wp2_with (first | (go_at_call 6; refine (toHotspot _ _ _ _ _ _ _).mono ?_; rintro _ w1 ⟨rfl, hB1⟩; (first | (with_reducible replace hB2 := bel_trans hB2 hB1) | (with_reducible replace hB2 := bel_trans (bel_alloc hB2) hB1)); obtain ⟨hC1, hF1⟩ := bcell hB2; replace hB1 := hB1) | (go_at_call 5; refine (hS _).mono ?_; rintro _ w1 ⟨rfl, hB1⟩; (first | (with_reducible replace hB2 := bel_trans hB2 hB1) | (with_reducible replace hB2 := bel_trans (bel_alloc hB2) hB1)); obtain ⟨hC1, hF1⟩ := bcell hB2; replace hB1 := hB1) | (go_at_call 7; refine (hI _ (tab_bel hT hB2)).mono ?_; rintro _ w1 ⟨rfl, hB1⟩; (first | (with_reducible replace hB2 := bel_trans hB2 hB1) | (with_reducible replace hB2 := bel_trans (bel_alloc hB2) hB1)); obtain ⟨hC1, hF1⟩ := bcell hB2; replace hB1 := hB1))
  go_ret
  exact ⟨ret_bool (by simp), by (repeat' (first | (with_reducible exact bel_refl _) | (with_reducible assumption) | (with_reducible refine bel_drew ?_) | (with_reducible refine bel_drewN ?_) | (with_reducible refine bel_alloc ?_) | (with_reducible refine bel_set ?_ ?_) | (with_reducible refine bel_trans ?_ (by with_reducible assumption)) | omega | (simp; done) | (simp; omega)))⟩
end Go.Proofs.YtkkoccllmflhfaaDoor
