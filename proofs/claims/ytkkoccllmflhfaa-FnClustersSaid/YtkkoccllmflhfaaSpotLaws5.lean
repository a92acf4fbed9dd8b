/-
  The law on the exported clusters, walked.
-/
import Derived.Test.YtkkoccllmflhfaaClusTopS
import Derived.Test.YtkkoccllmflhfaaSSDataH
namespace Go.Proofs.Ytkkoccllmflhfaa
open Go.RowKit

theorem clusR_bd (xs : List Hotspot) : (clusR xs).1.length ≤ 1048576 ∧ (∀ l ∈ (clusR xs).1, l.length ≤ 1048576) ∧ ((rows (clusR xs).1).map List.length).sum ≤ 1048576 := by
  have key : ∀ LL : List (List Int), (∀ l ∈ LL, l.length ≤ 10) → ((rows LL).map List.length).sum ≤ 10 * LL.length := fun LL => by
    induction LL with
    | nil => intro _; simp [rows]
    | cons p ps ih =>
      intro h
      have h1 := h p (by simp)
      have h2 := ih fun l hl => h l (by simp [hl])
      simp only [rows, List.map_cons, List.sum_cons, List.length_cons, ints_len] at h2 ⊢
      omega
  unfold clusR
  split
  · rename_i hc
    have h1 := listH_len hc
    have h2 := clusU_len xs xs.length
    have h3 : ∀ l ∈ (clusL xs).map (idsH xs), l.length ≤ 10 := fun l hl => by
      simp only [List.mem_map] at hl
      obtain ⟨q, hq, rfl⟩ := hl
      rw [idsH, List.length_map]
      exact Nat.le_trans (List.length_filterMap_le _ _) (Nat.le_trans (clusL_len hq) h1)
    have h4 : ((clusL xs).map (idsH xs)).length ≤ 10 := by rw [List.length_map]; exact Nat.le_trans h2 h1
    have h5 := key _ h3
    exact ⟨by simpa using (by omega : ((clusL xs).map (idsH xs)).length ≤ 1048576), fun l hl => Nat.le_trans (h3 l hl) (by omega), by simp only []; omega⟩
  · simp [rows]
set_option maxHeartbeats 1000000 in
theorem lawClustersOf (A0 : Option Addr) (n0 c0 : Nat) (xs0 : List Hotspot) (w : World) (hS0 : Sl w 6 A0 n0 c0 (xs0.flatMap Hotspot.row)) :
    Calls Try.prog 4 #[.slice A0 n0 c0] w fun e w' => e = .returned (.bool true) ∧ Below w.heap.size w w' := by
  have hmx0 := Nat.le_trans hS0.cap hS0.max
  have hB := bel_refl w
  by_cases hn0 : (n0 : Int) ≤ 1048576
  rotate_left
  · go_enter Try.func4, Try.ntmps4
    go_wp2_with fail
    refine (szHotspotS_no _ _ _ (1048576) _ (by omega) (by omega) hmx0 (by omega)).mono ?_
    rintro _ _ ⟨rfl, rfl⟩
    go_wp2
    go_ret
    exact ⟨rfl, by (repeat' (first | (with_reducible exact bel_refl _) | (with_reducible assumption) | (with_reducible refine bel_drew ?_) | (with_reducible refine bel_drewN ?_) | (with_reducible refine bel_alloc ?_) | (with_reducible refine bel_set ?_ ?_) | (with_reducible refine bel_trans ?_ (by with_reducible assumption)) | omega | (simp; done) | (simp; omega)))⟩
  go_enter Try.func4, Try.ntmps4
  go_wp2_with fail
  refine (szHotspotS_yes _ _ _ (1048576) _ (by omega) (by omega) (by omega)).mono ?_
  rintro _ _ ⟨rfl, rfl⟩
  go_wp2_with fail
  refine (toHotspotS _ _ _ xs0 _ (hS0.bel hB) (by omega)).mono ?_
  rintro _ w1 ⟨ga0, rfl, hOa0, hb1⟩
  have hz1 := hb1.size
  replace hB := bel_trans hB hb1
  go_wp2_with fail
  refine (clustersOfS _ _ _ xs0 _ hOa0.sl (by omega)).mono ?_
  rintro _ w2 ⟨Aw, nw, cw, Vw, rfl, hOw, hb2⟩
  have hz2 := hb2.size
  replace hOa0 := hOa0.bel hb2
  replace hB := bel_trans hB hb2
  go_wp2_with fail
  refine (toHotspotS _ _ _ xs0 _ (hS0.bel hB) (by omega)).mono ?_
  rintro _ w3 ⟨gb0, rfl, hOb0, hb3⟩
  have hz3 := hb3.size
  replace hOa0 := hOa0.bel hb3
  replace hOw := hOw.bel hb3
  replace hB := bel_trans hB hb3
  go_wp2_with fail
  refine (clustersOfI _ _ _ xs0 _ hOb0.sl (by omega)).mono ?_
  rintro _ w4 ⟨Ag, ng, cg, Vg, rfl, hOg, hb4⟩
  have hz4 := hb4.size
  replace hOa0 := hOa0.bel hb4
  replace hOw := hOw.bel hb4
  replace hOb0 := hOb0.bel hb4
  replace hB := bel_trans hB hb4
  have hbd := clusR_bd xs0
  have hlw := hOw.ss.len
  have hlg := hOg.ss.len
  obtain rfl : ng = nw := hlg.symm.trans hlw
  have hng : ng ≤ 1048576 := by have := hbd.1; simp only [rows_len] at hlg; omega
  clear hlw hlg
  go_wp2_with fail
  refine (eqIntSS _ _ _ _ _ _ _ hOg.ss hOw.ss hng hbd.2.1).mono ?_
  rintro _ w5 ⟨rfl, hb5⟩
  have hz5 := hb5.size
  replace hOa0 := hOa0.bel hb5
  replace hOw := hOw.bel hb5
  replace hOb0 := hOb0.bel hb5
  replace hOg := hOg.bel hb5
  replace hB := bel_trans hB hb5
  go_wp2_with fail
  refine (toHotspotS _ _ _ xs0 _ (hS0.bel hB) (by omega)).mono ?_
  rintro _ w6 ⟨gc0, rfl, hOc0, hb6⟩
  have hz6 := hb6.size
  replace hOa0 := hOa0.bel hb6
  replace hOw := hOw.bel hb6
  replace hOb0 := hOb0.bel hb6
  replace hOg := hOg.bel hb6
  replace hB := bel_trans hB hb6
  go_wp2_with fail
  refine (eqHotspotS _ _ _ _ _ _ _ hOb0.sl hOc0.sl (by omega)).mono ?_
  rintro _ w7 ⟨rfl, hb7⟩
  have hz7 := hb7.size
  replace hOa0 := hOa0.bel hb7
  replace hOw := hOw.bel hb7
  replace hOb0 := hOb0.bel hb7
  replace hOg := hOg.bel hb7
  replace hOc0 := hOc0.bel hb7
  replace hB := bel_trans hB hb7
  have hOm := hOb0
  go_wp2_with fail
  refine (markHotspotS _ _ _ _ _ (1) _ _ hOb0 (by omega) (by omega) (by omega)).mono ?_
  rintro _ w8 ⟨rfl, hOb0, hg8⟩
  have hz8 := hg8.size
  replace hOw := hOw.grown hg8 (fun g h => by have := hOm.ob g h; omega)
  replace hOg := hOg.grown hg8 (fun g h => by have := hOm.ob g h; omega)
  replace hB := hOm.bel_grown hB hg8 (by omega)
  clear hOm
  go_wp2_with fail
  refine (eqIntSS _ _ _ _ _ _ _ hOg.ss hOw.ss hng hbd.2.1).mono ?_
  rintro _ w9 ⟨rfl, hb9⟩
  have hz9 := hb9.size
  replace hOw := hOw.bel hb9
  replace hOb0 := hOb0.bel hb9
  replace hOg := hOg.bel hb9
  replace hB := bel_trans hB hb9
  have hOm := hOg
  go_wp2_with fail
  refine (markIntSS _ _ _ _ _ 1 _ _ _ hOg hng hbd.2.2 (by omega) (by omega)).mono ?_
  rintro _ w10 ⟨rfl, hOg, hg10⟩
  have hz10 := hg10.size
  replace hOw := hOw.grownIn hg10 (by omega)
  replace hB := hg10.bel hB (by omega)
  clear hOm
  go_wp2_with fail
  refine (heldIntSS _ _ _ 1 _ _ hOg.ss hng hbd.2.2 (by omega) (by omega)).mono ?_
  rintro _ w11 ⟨rfl, hb11⟩
  have hz11 := hb11.size
  replace hOw := hOw.bel hb11
  replace hOg := hOg.bel hb11
  replace hB := bel_trans hB hb11
  go_wp2_with fail
  refine (toHotspotS _ _ _ xs0 _ (hS0.bel hB) (by omega)).mono ?_
  rintro _ w12 ⟨gd0, rfl, hOd0, hb12⟩
  have hz12 := hb12.size
  replace hOw := hOw.bel hb12
  replace hOg := hOg.bel hb12
  replace hB := bel_trans hB hb12
  go_wp2_with fail
  refine (clustersOfI _ _ _ xs0 _ hOd0.sl (by omega)).mono ?_
  rintro _ w13 ⟨Ah, nh, ch, Vh, rfl, hOh, hb13⟩
  have hz13 := hb13.size
  replace hOw := hOw.bel hb13
  replace hOg := hOg.bel hb13
  replace hOd0 := hOd0.bel hb13
  replace hB := bel_trans hB hb13
  have hlw := hOw.ss.len
  have hlh := hOh.ss.len
  obtain rfl : nh = ng := hlh.symm.trans hlw
  clear hlw hlh
  go_wp2_with fail
  refine (eqIntSS _ _ _ _ _ _ _ hOh.ss hOw.ss hng hbd.2.1).mono ?_
  rintro _ w14 ⟨rfl, hb14⟩
  have hz14 := hb14.size
  replace hOw := hOw.bel hb14
  replace hOg := hOg.bel hb14
  replace hOd0 := hOd0.bel hb14
  replace hOh := hOh.bel hb14
  replace hB := bel_trans hB hb14
  go_wp2_with fail
  refine (heldIntSS _ _ _ 1 _ _ hOg.ss hng hbd.2.2 (by omega) (by omega)).mono ?_
  rintro _ w15 ⟨rfl, hb15⟩
  have hz15 := hb15.size
  replace hOw := hOw.bel hb15
  replace hOg := hOg.bel hb15
  replace hOd0 := hOd0.bel hb15
  replace hOh := hOh.bel hb15
  replace hB := bel_trans hB hb15
  go_wp2
  go_ret
  exact ⟨rfl, by (repeat' (first | (with_reducible exact bel_refl _) | (with_reducible assumption) | (with_reducible refine bel_drew ?_) | (with_reducible refine bel_drewN ?_) | (with_reducible refine bel_alloc ?_) | (with_reducible refine bel_set ?_ ?_) | (with_reducible refine bel_trans ?_ (by with_reducible assumption)) | omega | (simp; done) | (simp; omega)))⟩



end Go.Proofs.Ytkkoccllmflhfaa
