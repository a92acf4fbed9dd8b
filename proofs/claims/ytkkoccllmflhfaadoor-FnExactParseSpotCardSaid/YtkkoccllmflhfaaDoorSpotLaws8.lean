/-
  The law on the hot spot of a text, walked.
-/
import Derived.Test.YtkkoccllmflhfaaDoorParseS3
namespace Go.Proofs.YtkkoccllmflhfaaDoor
open Go.RowKit

set_option maxHeartbeats 1000000 in
theorem lawParseSpot (s : ByteArray) (w : World) (hmx : s.size ≤ maxLen) (hE : Env w) :
    Calls Tryd.prog 4 #[.string s] w fun e w' => e = .returned (.bool true) ∧ Below w.heap.size w w' := by
  unfold maxLen at hmx
  by_cases hs : s.size ≤ 1048576
  · have hsi : ¬ (1048576 : Int) < (s.size : Int) := by omega
    obtain ⟨P, hP⟩ : ∃ P, (parseR s).1 = P := ⟨_, rfl⟩
    obtain ⟨k, hk⟩ : ∃ k, (parseR s).2 = k := ⟨_, rfl⟩
    have hS := fun w => parseSpotS s w hs
    have hI := fun w hE => parseSpotI s w hs hE
    rw [hP, hk] at hS hI
    clear hP hk
    go_enter Tryd.func4, Tryd.ntmps4
    go_wp2_with fail
    refine (hS _).mono ?_
    rintro _ w1 ⟨rfl, hb1⟩
    have hl1 := bel_alloc (o := .cells #[.int .i64 P.id, .int .i64 P.x, .int .i64 P.y, .int .i64 P.err, .int .i64 P.tick, .int .i64 P.heat] 26) (bel_refl w1)
    have hq0 := heap_alloc_new w1 (.cells #[.int .i64 P.id, .int .i64 P.x, .int .i64 P.y, .int .i64 P.err, .int .i64 P.tick, .int .i64 P.heat] 26)
    replace hE := (hE.bel hb1).bel hl1
    clear hS
    go_wp2_with fail
    refine (hI _ hE).mono ?_
    rintro _ w2 ⟨rfl, hb2⟩
    have hl2 := bel_alloc (o := .cells #[.int .i64 P.id, .int .i64 P.x, .int .i64 P.y, .int .i64 P.err, .int .i64 P.tick, .int .i64 P.heat] 26) (bel_refl w2)
    replace hq0 := blk_belP (blk_belP hq0 hb2) hl2
    have hq1 := heap_alloc_new w2 (.cells #[.int .i64 P.id, .int .i64 P.x, .int .i64 P.y, .int .i64 P.err, .int .i64 P.tick, .int .i64 P.heat] 26)
    obtain ⟨⟨c0, c1, c2, c3, c4, c5⟩, cz⟩ := cells6P hq0
    obtain ⟨⟨k0, k1, k2, k3, k4, k5⟩, kz⟩ := cells6P hq1
    have hb := bel_trans (bel_trans (bel_trans hb1 hl1) hb2) hl2
    clear hq0 hq1 hI hE
    go_wp2_with fail
    refine (eqHotspot _ _ _ _ _ _ _).mono ?_
    rintro _ w3 ⟨rfl, hb3⟩
    go_wp2_with fail
    go_ret
    exact ⟨ret_bool (by simp), bel_trans hb hb3⟩
  · have hsi : (1048576 : Int) < (s.size : Int) := by omega
    go_enter Tryd.func4, Tryd.ntmps4
    go_wp2
    go_ret
    exact ⟨rfl, bel_refl w⟩
end Go.Proofs.YtkkoccllmflhfaaDoor
