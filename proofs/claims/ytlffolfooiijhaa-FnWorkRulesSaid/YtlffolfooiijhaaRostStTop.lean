/-
  Rosters: the exported function that returns the stints of a crew, of the program and of the reference, walked.
-/
import Derived.Test.YtlffolfooiijhaaRostStintsS
namespace Go.Proofs.Ytlffolfooiijhaa
open Go.RowKit

theorem stintsR_bd (xs : List Duty) (cr : Int) : (stintsR xs cr).1.length ≤ 1048576 ∧ (∀ l ∈ (stintsR xs cr).1, l.length ≤ 1048576) ∧ ((rows (stintsR xs cr).1).map List.length).sum ≤ 1048576 := by
  have key : ∀ ps : List (Int × Int), ((rows (pairs ps)).map List.length).sum = 2 * ps.length := fun ps => by
    induction ps with
    | nil => rfl
    | cons p ps ih =>
      simp only [rows, pairs, List.map_cons, List.sum_cons, List.length_cons, ints_len] at ih ⊢
      simp only [List.length_nil]
      omega
  unfold stintsR
  split
  · rename_i hc
    rw [Bool.and_eq_true] at hc
    have h1 := rosterB_len hc.1
    have h2 := stints_len xs cr xs.length
    rw [List.take_length] at h2
    refine ⟨by rw [pairs_len]; omega, fun l hl => ?_, by rw [key]; omega⟩
    simp only [pairs, List.mem_map] at hl
    obtain ⟨p, _, rfl⟩ := hl
    simp
  · simp [rows]

theorem stintsOfS (A : Option Addr) (n c : Nat) (xs : List Duty) (cr : Int) (w : World) (hS : Sl w 3 A n c (xs.flatMap Duty.row)) (hn : n ≤ 1048576) :
    Calls Try.prog 17 #[.slice A n c, .int .i64 cr] w fun e w' => ∃ A' n' c' Vs, e = .returned (.tuple #[.slice A' n' c', .bool (stintsR xs cr).2]) ∧ OwnSS w.heap.size w'.heap.size w' 45 3 A' n' c' (rows (stintsR xs cr).1) Vs ∧ Below w.heap.size w w' := by
  have hB2 := bel_refl w
  rcases hg : rosterB xs with _ | _
  · have hR : Hid (stintsR xs cr = ([], false)) := by show _ = _; simp [stintsR, hg]
    go_enter Try.func17, Try.ntmps17
    go_wp2_with (go_at_call 53; refine (l11Asked _ _ _ _ _ _ hS hn).mono ?_; rintro _ w1 ⟨rfl, hB1⟩; (first | (with_reducible replace hB2 := bel_trans hB2 hB1) | (with_reducible replace hB2 := bel_trans (bel_alloc hB2) hB1)); obtain ⟨hC1, hF1⟩ := bcell hB2; replace hB1 := hB1)
    go_ret2
    exact ⟨some ⟨w1.heap.size, 0, none⟩, 0, 0, [], by rw [hR.out]; rfl, by rw [hR.out]; exact own_nil ((Own.mk_ (own_empty (Nat.le_refl _))).low hB2.size), by (repeat' (first | (with_reducible exact bel_refl _) | (with_reducible assumption) | (with_reducible refine bel_drew ?_) | (with_reducible refine bel_drewN ?_) | (with_reducible refine bel_alloc ?_) | (with_reducible refine bel_set ?_ ?_) | (with_reducible refine bel_trans ?_ (by with_reducible assumption)) | omega | (simp; done) | (simp; omega)))⟩
  · have hG := rosterB_all hg
    have hn6 : n ≤ 13 := by have := rosterB_len hg; rw [hS.xs_len Duty.row_len (by omega)] at this; omega
    rcases hh : inB cr 1 20 with _ | _
    · have hR : Hid (stintsR xs cr = ([], false)) := by show _ = _; simp [stintsR, hg, hh]
      go_enter Try.func17, Try.ntmps17
      go_wp2_with (go_at_call 53; refine (l11Asked _ _ _ _ _ _ hS hn).mono ?_; rintro _ w1 ⟨rfl, hB1⟩; (first | (with_reducible replace hB2 := bel_trans hB2 hB1) | (with_reducible replace hB2 := bel_trans (bel_alloc hB2) hB1)); obtain ⟨hC1, hF1⟩ := bcell hB2; replace hB1 := hB1)
      go_ret2
      exact ⟨some ⟨w1.heap.size, 0, none⟩, 0, 0, [], by rw [hR.out]; rfl, by rw [hR.out]; exact own_nil ((Own.mk_ (own_empty (Nat.le_refl _))).low hB2.size), by (repeat' (first | (with_reducible exact bel_refl _) | (with_reducible assumption) | (with_reducible refine bel_drew ?_) | (with_reducible refine bel_drewN ?_) | (with_reducible refine bel_alloc ?_) | (with_reducible refine bel_set ?_ ?_) | (with_reducible refine bel_trans ?_ (by with_reducible assumption)) | omega | (simp; done) | (simp; omega)))⟩
    · have hR : Hid (stintsR xs cr = (pairs (stintsP xs cr), true)) := by show _ = _; simp [stintsR, hg, hh]
      go_enter Try.func17, Try.ntmps17
      go_wp2_with (first | (go_at_call 53; refine (l11Asked _ _ _ _ _ _ hS hn).mono ?_; rintro _ w1 ⟨rfl, hB1⟩; (first | (with_reducible replace hB2 := bel_trans hB2 hB1) | (with_reducible replace hB2 := bel_trans (bel_alloc hB2) hB1)); obtain ⟨hC1, hF1⟩ := bcell hB2; replace hB1 := hB1) | (go_at_call 54; refine (l11StintsS _ _ _ _ _ _ (hS.bel hB2) hn6 hG).mono ?_; rintro _ w2 ⟨A1, n1, c1, Vs1, rfl, hO, hB1⟩; replace hB1 := hB1))
      go_ret2
      refine ⟨A1, n1, c1, Vs1, ?_, ?_, by (repeat' (first | (with_reducible exact bel_refl _) | (with_reducible assumption) | (with_reducible refine bel_drew ?_) | (with_reducible refine bel_drewN ?_) | (with_reducible refine bel_alloc ?_) | (with_reducible refine bel_set ?_ ?_) | (with_reducible refine bel_trans ?_ (by with_reducible assumption)) | omega | (simp; done) | (simp; omega)))⟩
      · rw [hR.out]; rfl
      · rw [hR.out]
        exact hO.low hB2.size

theorem stintsOfI (A : Option Addr) (n c : Nat) (xs : List Duty) (cr : Int) (w : World) (hS : Sl w 3 A n c (xs.flatMap Duty.row)) (hn : n ≤ 1048576) :
    Calls Try.prog 16 #[.slice A n c, .int .i64 cr] w fun e w' => ∃ A' n' c' Vs, e = .returned (.tuple #[.slice A' n' c', .bool (stintsR xs cr).2]) ∧ OwnSS w.heap.size w'.heap.size w' 45 3 A' n' c' (rows (stintsR xs cr).1) Vs ∧ Below w.heap.size w w' := by
  have hB2 := bel_refl w
  rcases hg : rosterB xs with _ | _
  · have hR : Hid (stintsR xs cr = ([], false)) := by show _ = _; simp [stintsR, hg]
    go_enter Try.func16, Try.ntmps16
    go_wp2_with (first | (go_at_call 26; refine (isRosterI _ _ _ _ _ (hS.bel (by (repeat' (first | (with_reducible exact bel_refl _) | (with_reducible assumption) | (with_reducible refine bel_drew ?_) | (with_reducible refine bel_drewN ?_) | (with_reducible refine bel_alloc ?_) | (with_reducible refine bel_set ?_ ?_) | (with_reducible refine bel_trans ?_ (by with_reducible assumption)) | omega | (simp; done) | (simp; omega))))) (by omega)).mono ?_; rintro _ w1 ⟨rfl, hB1⟩; (first | (with_reducible replace hB2 := bel_trans hB2 hB1) | (with_reducible replace hB2 := bel_trans (bel_alloc hB2) hB1)); obtain ⟨hC1, hF1⟩ := bcell hB2; replace hB1 := hB1) | (go_at_call 51; refine (isWorker _ _).mono ?_; rintro _ w1 ⟨rfl, rfl⟩))
    go_ret2
    exact ⟨none, 0, 0, [], by rw [hR.out]; rfl, by rw [hR.out]; exact own_nil (Own.mk_ (World.ownsRow_nil _ _ _ _)), by (repeat' (first | (with_reducible exact bel_refl _) | (with_reducible assumption) | (with_reducible refine bel_drew ?_) | (with_reducible refine bel_drewN ?_) | (with_reducible refine bel_alloc ?_) | (with_reducible refine bel_set ?_ ?_) | (with_reducible refine bel_trans ?_ (by with_reducible assumption)) | omega | (simp; done) | (simp; omega)))⟩
  · have hG := rosterB_all hg
    have hn6 : n ≤ 13 := by have := rosterB_len hg; rw [hS.xs_len Duty.row_len (by omega)] at this; omega
    rcases hh : inB cr 1 20 with _ | _
    · have hR : Hid (stintsR xs cr = ([], false)) := by show _ = _; simp [stintsR, hg, hh]
      go_enter Try.func16, Try.ntmps16
      go_wp2_with (first | (go_at_call 26; refine (isRosterI _ _ _ _ _ (hS.bel (by (repeat' (first | (with_reducible exact bel_refl _) | (with_reducible assumption) | (with_reducible refine bel_drew ?_) | (with_reducible refine bel_drewN ?_) | (with_reducible refine bel_alloc ?_) | (with_reducible refine bel_set ?_ ?_) | (with_reducible refine bel_trans ?_ (by with_reducible assumption)) | omega | (simp; done) | (simp; omega))))) (by omega)).mono ?_; rintro _ w1 ⟨rfl, hB1⟩; (first | (with_reducible replace hB2 := bel_trans hB2 hB1) | (with_reducible replace hB2 := bel_trans (bel_alloc hB2) hB1)); obtain ⟨hC1, hF1⟩ := bcell hB2; replace hB1 := hB1) | (go_at_call 51; refine (isWorker _ _).mono ?_; rintro _ w1 ⟨rfl, rfl⟩))
      go_ret2
      exact ⟨none, 0, 0, [], by rw [hR.out]; rfl, by rw [hR.out]; exact own_nil (Own.mk_ (World.ownsRow_nil _ _ _ _)), by (repeat' (first | (with_reducible exact bel_refl _) | (with_reducible assumption) | (with_reducible refine bel_drew ?_) | (with_reducible refine bel_drewN ?_) | (with_reducible refine bel_alloc ?_) | (with_reducible refine bel_set ?_ ?_) | (with_reducible refine bel_trans ?_ (by with_reducible assumption)) | omega | (simp; done) | (simp; omega)))⟩
    · have hR : Hid (stintsR xs cr = (pairs (stintsP xs cr), true)) := by show _ = _; simp [stintsR, hg, hh]
      go_enter Try.func16, Try.ntmps16
      go_wp2_with (first | (first | (go_at_call 26; refine (isRosterI _ _ _ _ _ (hS.bel (by (repeat' (first | (with_reducible exact bel_refl _) | (with_reducible assumption) | (with_reducible refine bel_drew ?_) | (with_reducible refine bel_drewN ?_) | (with_reducible refine bel_alloc ?_) | (with_reducible refine bel_set ?_ ?_) | (with_reducible refine bel_trans ?_ (by with_reducible assumption)) | omega | (simp; done) | (simp; omega))))) (by omega)).mono ?_; rintro _ w1 ⟨rfl, hB1⟩; (first | (with_reducible replace hB2 := bel_trans hB2 hB1) | (with_reducible replace hB2 := bel_trans (bel_alloc hB2) hB1)); obtain ⟨hC1, hF1⟩ := bcell hB2; replace hB1 := hB1) | (go_at_call 51; refine (isWorker _ _).mono ?_; rintro _ w1 ⟨rfl, rfl⟩)) | (go_at_call 52; refine (stintsI _ _ _ _ _ _ (hS.bel hB2) hn6 hG).mono ?_; rintro _ w2 ⟨A1, n1, c1, Vs1, rfl, hO, hB1⟩; replace hB1 := hB1))
      go_ret2
      refine ⟨A1, n1, c1, Vs1, ?_, ?_, by (repeat' (first | (with_reducible exact bel_refl _) | (with_reducible assumption) | (with_reducible refine bel_drew ?_) | (with_reducible refine bel_drewN ?_) | (with_reducible refine bel_alloc ?_) | (with_reducible refine bel_set ?_ ?_) | (with_reducible refine bel_trans ?_ (by with_reducible assumption)) | omega | (simp; done) | (simp; omega)))⟩
      · rw [hR.out]; rfl
      · rw [hR.out]
        exact hO.low hB2.size

end Go.Proofs.Ytlffolfooiijhaa
