/-
  The text of a hot spot that is drawn, mostly whole: walked.
-/
import Derived.Test.YtkkoccllmflhfaaGreatDoorSpotDraw3
import Derived.Test.YtkkoccllmflhfaaGreatDoorParseS3
namespace Go.Proofs.YtkkoccllmflhfaaGreatDoor
open Go.RowKit

theorem textR_size (x : Hotspot) : (textR x).1.size ≤ 70 := by
  unfold textR
  split
  · rename_i h
    exact textH_size h
  · exact Nat.zero_le _
set_option maxHeartbeats 4000000 in
set_option maxRecDepth 100000 in
theorem drawParse (A : Option Addr) (n c : Nat) (cs : List Int) (w : World) (hC : Code w A n c cs) :
    Calls Tryz.prog 10 #[.slice A n c] w fun e w' => ∃ s : ByteArray, e = .returned (.string s) ∧ s.size ≤ 1001 ∧ Below w.heap.size w w' := by
  have hst : Cur w w.heap.size A n c 0 (w.alloc (.cells #[.slice A n c, .int .i64 0, .int .u64 0] 54)) := code_startZ (bel_refl w)
  go_enter Tryz.func10, Tryz.ntmps10
  go_wp2_with fail
  refine (amongC w w.heap.size A n c cs 0 _ 3 3 [1, 7, 999] _ hC (hst.kept (bel_alloc (bel_refl _))) (by omega) (lit_sl rfl rfl (by simp [maxLen]) (by simp)) (by omega) (ne_lit (by simp))).mono ?_
  rintro _ w1 ⟨r1, rfl, -, hc1, hg1⟩
  clear hg1 hst
  go_wp2_with fail
  refine (hotspotC w w.heap.size A n c cs _ _ _ hC hc1 (by omega)).mono ?_
  rintro _ w2 ⟨x, rfl, hc2, hg2⟩
  clear hg2 hc1
  have hTs := textR_size x
  have hT := fun w => spotTextS x w
  obtain ⟨T, hTe⟩ : ∃ T, (textR x).1 = T := ⟨_, rfl⟩
  obtain ⟨k, hk⟩ : ∃ k, (textR x).2 = k := ⟨_, rfl⟩
  rw [hTe] at hTs
  rw [hTe, hk] at hT
  clear hTe hk
  go_wp2_with fail
  refine (hT _).mono ?_
  rintro _ w3 ⟨rfl, hb⟩
  have hc3 := hc2.kept hb
  clear hc2 hb hT
  go_wp2_with fail
  refine (oneC w w.heap.size A n c cs _ 4 _ hC hc3 (by omega) (by omega)).mono ?_
  rintro _ w4 ⟨b, rfl, hc4, -⟩
  rcases b with _ | _
  · go_wp2_with fail
    go_ret
    exact ⟨T, rfl, by omega, hc4.bel⟩
  · go_wp2_with fail
    refine (spoiltC w w.heap.size A n c cs _ T _ hC hc4 (by omega) (by omega)).mono ?_
    rintro _ w5 ⟨t, rfl, hts, hc5, -⟩
    go_wp2_with fail
    go_ret
    exact ⟨t, rfl, hts, hc5.bel⟩
end Go.Proofs.YtkkoccllmflhfaaGreatDoor
