/-
  The smallest number of cells of a line and the greatest number of disjoint ways: of the program and of the reference, walked.
-/
import Derived.Test.YtcdgkiiokplidaaWaysI
import Derived.Test.YtcdgkiiokplidaaFlowS
namespace Go.Proofs.Ytcdgkiiokplidaa
open Go.RowKit

/-- How many ways there are: one number alone. -/
noncomputable def waysF (t : Terr) (so ass : List Int) : Int := Classical.epsilon fun K => Cert (2 * t.n + 2) (2 * t.n) (2 * t.n + 1) (ones (netI t so ass)) K
theorem waysF_I {t : Terr} {so ass : List Int} {K : Int} (h : Cert (2 * t.n + 2) (2 * t.n) (2 * t.n + 1) (ones (netI t so ass)) K) : K = waysF t so ass :=
  h.same (by omega) (Classical.epsilon_spec (p := fun K => Cert (2 * t.n + 2) (2 * t.n) (2 * t.n + 1) (ones (netI t so ass)) K) ⟨K, h⟩)
theorem waysF_S {t : Terr} {so ass : List Int} (hd : (so.all fun x => !hasB ass x) = true) {K : Int} (h : Cert (2 * t.n + 2) (2 * t.n) (2 * t.n + 1) (ones (netS t so ass)) K) : K = waysF t so ass := waysF_I (ways_back hd h)
noncomputable def fewA (t : Terr) (so ass : List Int) : Int × Bool := if askC t so ass = true then (if touchB t so ass = true then (0, false) else (waysF t so ass, true)) else (0, false)
theorem askC_parts {t : Terr} {so ass : List Int} (h : askC t so ass = true) : goodT t = true ∧ setT t so = true ∧ setT t ass = true ∧ (so.all fun x => !hasB ass x) = true := by
  simp only [askC, Bool.and_eq_true] at h
  exact ⟨h.1.1, h.1.2.1, h.1.2.2, h.2⟩
set_option maxHeartbeats 2000000 in
theorem fewestI (t : Terr) (A B : Option Addr) (n c m d : Nat) (so ass : List Int) (w : World) (hT : TOk w t) (ht : t.n ≤ 1048576) (hS : Sl w 1 A n c (ints so)) (hn : n ≤ 1048576) (hM : Sl w 1 B m d (ints ass)) (hm : m ≤ 1048576) :
    Calls Try.prog 9 #[.agg #[.int .i64 t.W, .int .i64 t.H, .slice t.A t.n t.c], .slice A n c, .slice B m d] w fun e w' => e = .returned (.tuple #[.int .i64 (fewA t so ass).1, .bool (fewA t so ass).2]) ∧ Below w.heap.size w w' := by
  have hb0 := bel_alloc (o := .cells #[.int .i64 t.W, .int .i64 t.H, .slice t.A t.n t.c] 28) (bel_refl w)
  rcases h1 : askC t so ass with _ | _
  · have hR := hid (show fewA t so ass = (0, false) by rw [fewA, h1, if_neg (by simp)])
    go_enter Try.func9, Try.ntmps9
    go_wp2_with fail
    refine (isCaseI t A B n c m d so ass _ (hT.bel hb0) ht (hS.bel hb0) hn (hM.bel hb0) hm).mono ?_
    rw [h1]
    rintro _ w1 ⟨rfl, hB1⟩
    go_wp2_with fail
    go_ret2
    exact ⟨by rw [hR.out]; rfl, bel_trans hb0 hB1⟩
  obtain ⟨hg, hss, hsa, hd⟩ := askC_parts h1
  replace hd := hid hd
  rcases h2 : touchB t so ass with _ | _
  · have hR := hid (show fewA t so ass = (waysF t so ass, true) by rw [fewA, h1, if_pos rfl, h2, if_neg (by simp)])
    go_enter Try.func9, Try.ntmps9
    go_wp2_with fail
    refine (isCaseI t A B n c m d so ass _ (hT.bel hb0) ht (hS.bel hb0) hn (hM.bel hb0) hm).mono ?_
    rw [h1]
    rintro _ w1 ⟨rfl, hB1⟩
    obtain ⟨hC1, hF1⟩ := bcell hB1
    go_wp2_with fail
    refine (touchesI t A B n c m d so ass _ ((hT.bel hb0).bel hB1) hg ((hS.bel hb0).bel hB1) hn ((hM.bel hb0).bel hB1) hm (setT_in hss) (setT_in hsa)).mono ?_
    rw [h2]
    rintro _ w2 ⟨rfl, hB2⟩
    have hb2 := bel_trans hB1 hB2
    obtain ⟨hC2, hF2⟩ := bcell hb2
    go_wp2_with fail
    refine (waysI t A B n c m d so ass _ ((hT.bel hb0).bel hb2) hg ((hS.bel hb0).bel hb2) hn ((hM.bel hb0).bel hb2) hm).mono ?_
    rintro _ w3 ⟨K, rfl, hK, hB3⟩
    have hKe := hid (waysF_I hK)
    go_wp2_with fail
    go_ret2
    exact ⟨by rw [hR.out, ← hKe.out]; rfl, bel_trans hb0 (bel_trans hb2 hB3)⟩
  · have hR := hid (show fewA t so ass = (0, false) by rw [fewA, h1, if_pos rfl, h2, if_pos rfl])
    go_enter Try.func9, Try.ntmps9
    go_wp2_with fail
    refine (isCaseI t A B n c m d so ass _ (hT.bel hb0) ht (hS.bel hb0) hn (hM.bel hb0) hm).mono ?_
    rw [h1]
    rintro _ w1 ⟨rfl, hB1⟩
    obtain ⟨hC1, hF1⟩ := bcell hB1
    go_wp2_with fail
    refine (touchesI t A B n c m d so ass _ ((hT.bel hb0).bel hB1) hg ((hS.bel hb0).bel hB1) hn ((hM.bel hb0).bel hB1) hm (setT_in hss) (setT_in hsa)).mono ?_
    rw [h2]
    rintro _ w2 ⟨rfl, hB2⟩
    go_wp2_with fail
    go_ret2
    exact ⟨by rw [hR.out]; rfl, bel_trans hb0 (bel_trans hB1 hB2)⟩
set_option maxHeartbeats 2000000 in
theorem fewestS (t : Terr) (A B : Option Addr) (n c m d : Nat) (so ass : List Int) (w : World) (hT : TOk w t) (ht : t.n ≤ 1048576) (hS : Sl w 1 A n c (ints so)) (hn : n ≤ 1048576) (hM : Sl w 1 B m d (ints ass)) (hm : m ≤ 1048576) :
    Calls Try.prog 6 #[.agg #[.int .i64 t.W, .int .i64 t.H, .slice t.A t.n t.c], .slice A n c, .slice B m d] w fun e w' => e = .returned (.tuple #[.int .i64 (fewA t so ass).1, .bool (fewA t so ass).2]) ∧ Below w.heap.size w w' := by
  have hb0 := bel_alloc (o := .cells #[.int .i64 t.W, .int .i64 t.H, .slice t.A t.n t.c] 28) (bel_refl w)
  rcases h1 : askC t so ass with _ | _
  · have hR := hid (show fewA t so ass = (0, false) by rw [fewA, h1, if_neg (by simp)])
    go_enter Try.func6, Try.ntmps6
    go_wp2_with fail
    refine (l9Asked t A B n c m d so ass _ (hT.bel hb0) ht (hS.bel hb0) hn (hM.bel hb0) hm).mono ?_
    rw [h1]
    rintro _ w1 ⟨rfl, hB1⟩
    go_wp2_with fail
    go_ret2
    exact ⟨by rw [hR.out]; rfl, bel_trans hb0 hB1⟩
  obtain ⟨hg, hss, hsa, hd⟩ := askC_parts h1
  replace hd := hid hd
  rcases h2 : touchB t so ass with _ | _
  · have hR := hid (show fewA t so ass = (waysF t so ass, true) by rw [fewA, h1, if_pos rfl, h2, if_neg (by simp)])
    go_enter Try.func6, Try.ntmps6
    go_wp2_with fail
    refine (l9Asked t A B n c m d so ass _ (hT.bel hb0) ht (hS.bel hb0) hn (hM.bel hb0) hm).mono ?_
    rw [h1]
    rintro _ w1 ⟨rfl, hB1⟩
    obtain ⟨hC1, hF1⟩ := bcell hB1
    go_wp2_with fail
    refine (l9Open t A B n c m d so ass _ ((hT.bel hb0).bel hB1) hg ((hS.bel hb0).bel hB1) hn ((hM.bel hb0).bel hB1) hm (setT_in hss)).mono ?_
    rw [h2]
    rintro _ w2 ⟨rfl, hB2⟩
    have hb2 := bel_trans hB1 hB2
    obtain ⟨hC2, hF2⟩ := bcell hb2
    go_wp2_with fail
    refine (l9Ways t A B n c m d so ass _ ((hT.bel hb0).bel hb2) hg ((hS.bel hb0).bel hb2) hn ((hM.bel hb0).bel hb2) hm).mono ?_
    rintro _ w3 ⟨K, rfl, hK, hB3⟩
    have hKe := hid (waysF_S hd hK)
    go_wp2_with fail
    go_ret2
    exact ⟨by rw [hR.out, ← hKe.out]; rfl, bel_trans hb0 (bel_trans hb2 hB3)⟩
  · have hR := hid (show fewA t so ass = (0, false) by rw [fewA, h1, if_pos rfl, h2, if_pos rfl])
    go_enter Try.func6, Try.ntmps6
    go_wp2_with fail
    refine (l9Asked t A B n c m d so ass _ (hT.bel hb0) ht (hS.bel hb0) hn (hM.bel hb0) hm).mono ?_
    rw [h1]
    rintro _ w1 ⟨rfl, hB1⟩
    obtain ⟨hC1, hF1⟩ := bcell hB1
    go_wp2_with fail
    refine (l9Open t A B n c m d so ass _ ((hT.bel hb0).bel hB1) hg ((hS.bel hb0).bel hB1) hn ((hM.bel hb0).bel hB1) hm (setT_in hss)).mono ?_
    rw [h2]
    rintro _ w2 ⟨rfl, hB2⟩
    go_wp2_with fail
    go_ret2
    exact ⟨by rw [hR.out]; rfl, bel_trans hb0 (bel_trans hB1 hB2)⟩
set_option maxHeartbeats 2000000 in
theorem disjointS (t : Terr) (A B : Option Addr) (n c m d : Nat) (so ass : List Int) (w : World) (hT : TOk w t) (ht : t.n ≤ 1048576) (hS : Sl w 1 A n c (ints so)) (hn : n ≤ 1048576) (hM : Sl w 1 B m d (ints ass)) (hm : m ≤ 1048576) :
    Calls Try.prog 12 #[.agg #[.int .i64 t.W, .int .i64 t.H, .slice t.A t.n t.c], .slice A n c, .slice B m d] w fun e w' => e = .returned (.tuple #[.int .i64 (fewA t so ass).1, .bool (fewA t so ass).2]) ∧ Below w.heap.size w w' := by
  have hb0 := bel_alloc (o := .cells #[.int .i64 t.W, .int .i64 t.H, .slice t.A t.n t.c] 28) (bel_refl w)
  rcases h1 : askC t so ass with _ | _
  · have hR := hid (show fewA t so ass = (0, false) by rw [fewA, h1, if_neg (by simp)])
    go_enter Try.func12, Try.ntmps12
    go_wp2_with fail
    refine (l9Asked t A B n c m d so ass _ (hT.bel hb0) ht (hS.bel hb0) hn (hM.bel hb0) hm).mono ?_
    rw [h1]
    rintro _ w1 ⟨rfl, hB1⟩
    go_wp2_with fail
    go_ret2
    exact ⟨by rw [hR.out]; rfl, bel_trans hb0 hB1⟩
  obtain ⟨hg, hss, hsa, hd⟩ := askC_parts h1
  replace hd := hid hd
  rcases h2 : touchB t so ass with _ | _
  · have hR := hid (show fewA t so ass = (waysF t so ass, true) by rw [fewA, h1, if_pos rfl, h2, if_neg (by simp)])
    go_enter Try.func12, Try.ntmps12
    go_wp2_with fail
    refine (l9Asked t A B n c m d so ass _ (hT.bel hb0) ht (hS.bel hb0) hn (hM.bel hb0) hm).mono ?_
    rw [h1]
    rintro _ w1 ⟨rfl, hB1⟩
    obtain ⟨hC1, hF1⟩ := bcell hB1
    go_wp2_with fail
    refine (l9Open t A B n c m d so ass _ ((hT.bel hb0).bel hB1) hg ((hS.bel hb0).bel hB1) hn ((hM.bel hb0).bel hB1) hm (setT_in hss)).mono ?_
    rw [h2]
    rintro _ w2 ⟨rfl, hB2⟩
    have hb2 := bel_trans hB1 hB2
    obtain ⟨hC2, hF2⟩ := bcell hb2
    go_wp2_with fail
    refine (l9Ways t A B n c m d so ass _ ((hT.bel hb0).bel hb2) hg ((hS.bel hb0).bel hb2) hn ((hM.bel hb0).bel hb2) hm).mono ?_
    rintro _ w3 ⟨K, rfl, hK, hB3⟩
    have hKe := hid (waysF_S hd hK)
    go_wp2_with fail
    go_ret2
    exact ⟨by rw [hR.out, ← hKe.out]; rfl, bel_trans hb0 (bel_trans hb2 hB3)⟩
  · have hR := hid (show fewA t so ass = (0, false) by rw [fewA, h1, if_pos rfl, h2, if_pos rfl])
    go_enter Try.func12, Try.ntmps12
    go_wp2_with fail
    refine (l9Asked t A B n c m d so ass _ (hT.bel hb0) ht (hS.bel hb0) hn (hM.bel hb0) hm).mono ?_
    rw [h1]
    rintro _ w1 ⟨rfl, hB1⟩
    obtain ⟨hC1, hF1⟩ := bcell hB1
    go_wp2_with fail
    refine (l9Open t A B n c m d so ass _ ((hT.bel hb0).bel hB1) hg ((hS.bel hb0).bel hB1) hn ((hM.bel hb0).bel hB1) hm (setT_in hss)).mono ?_
    rw [h2]
    rintro _ w2 ⟨rfl, hB2⟩
    go_wp2_with fail
    go_ret2
    exact ⟨by rw [hR.out]; rfl, bel_trans hb0 (bel_trans hB1 hB2)⟩
theorem disjointI (t : Terr) (A B : Option Addr) (n c m d : Nat) (so ass : List Int) (w : World) (hT : TOk w t) (ht : t.n ≤ 1048576) (hS : Sl w 1 A n c (ints so)) (hn : n ≤ 1048576) (hM : Sl w 1 B m d (ints ass)) (hm : m ≤ 1048576) :
    Calls Try.prog 13 #[.agg #[.int .i64 t.W, .int .i64 t.H, .slice t.A t.n t.c], .slice A n c, .slice B m d] w fun e w' => e = .returned (.tuple #[.int .i64 (fewA t so ass).1, .bool (fewA t so ass).2]) ∧ Below w.heap.size w w' := by
  have hb0 := bel_alloc (o := .cells #[.int .i64 t.W, .int .i64 t.H, .slice t.A t.n t.c] 28) (bel_refl w)
  obtain ⟨R, hR⟩ : ∃ R, fewA t so ass = R := ⟨_, rfl⟩
  have hI := fun w' hT hS hM => fewestI t A B n c m d so ass w' hT ht hS hn hM hm
  rw [hR] at hI ⊢
  replace hI := hid hI
  clear hR
  go_enter Try.func13, Try.ntmps13
  go_wp2_with fail
  refine (hI.out _ (hT.bel hb0) (hS.bel hb0) (hM.bel hb0)).mono ?_
  rintro _ w1 ⟨rfl, hB1⟩
  go_wp2_with fail
  go_ret2
  exact ⟨rfl, bel_trans hb0 hB1⟩
end Go.Proofs.Ytcdgkiiokplidaa
