/-
  Rosters: the exported functions that return numbers, or the crews that work in an hour, walked.
-/
import Derived.Test.YtlffolfooiijhaaRostHours
namespace Go.Proofs.Ytlffolfooiijhaa
open Go.RowKit

def hoursOfR (xs : List Duty) (cr : Int) : Int × Bool := if rosterB xs && inB cr 1 20 then (hoursN xs cr 0 500, true) else (0, false)
def mostR (xs : List Duty) (cr s : Int) : Int × Bool := if rosterB xs && inB cr 1 20 && inB s 1 200 then (mostN xs cr s, true) else (0, false)
def atR (xs : List Duty) (h : Int) : List Int × Bool := if rosterB xs && inB h 0 499 then (atL xs h, true) else ([], false)
theorem atR_len (xs : List Duty) (h : Int) : (atR xs h).1.length ≤ 1048576 := by
  unfold atR
  split
  · rename_i hc
    rw [Bool.and_eq_true] at hc
    have h1 := rosterB_len hc.1
    have h2 := atL_len xs h xs.length
    rw [List.take_length] at h2
    exact Nat.le_trans h2 (by omega)
  · simp

theorem l11Asked (A : Option Addr) (n c : Nat) (xs : List Duty) (cr : Int) (w : World) (hS : Sl w 3 A n c (xs.flatMap Duty.row)) (hn : n ≤ 1048576) :
    Calls Try.prog 53 #[.slice A n c, .int .i64 cr] w fun e w' => e = .returned (.bool (rosterB xs && inB cr 1 20)) ∧ Below w.heap.size w w' := by
  have hB2 := bel_refl w
  rcases hg : rosterB xs with _ | _
  · go_enter Try.func53, Try.ntmps53
    go_wp2_with (first | (go_at_call 45; refine (l11Good _ _ _ _ _ hS (by omega)).mono ?_; rintro _ w1 ⟨rfl, hB1⟩; (first | (with_reducible replace hB2 := bel_trans hB2 hB1) | (with_reducible replace hB2 := bel_trans (bel_alloc hB2) hB1)); obtain ⟨hC1, hF1⟩ := bcell hB2; replace hB1 := hB1) | (go_at_call 82; refine (l11Crew _ _).mono ?_; rintro _ w1 ⟨rfl, rfl⟩))
    go_ret
    refine ⟨?_, by (repeat' (first | (with_reducible exact bel_refl _) | (with_reducible assumption) | (with_reducible refine bel_drew ?_) | (with_reducible refine bel_drewN ?_) | (with_reducible refine bel_alloc ?_) | (with_reducible refine bel_set ?_ ?_) | (with_reducible refine bel_trans ?_ (by with_reducible assumption)) | omega | (simp; done) | (simp; omega)))⟩
    simp
  · go_enter Try.func53, Try.ntmps53
    go_wp2_with (first | (go_at_call 45; refine (l11Good _ _ _ _ _ hS (by omega)).mono ?_; rintro _ w1 ⟨rfl, hB1⟩; (first | (with_reducible replace hB2 := bel_trans hB2 hB1) | (with_reducible replace hB2 := bel_trans (bel_alloc hB2) hB1)); obtain ⟨hC1, hF1⟩ := bcell hB2; replace hB1 := hB1) | (go_at_call 82; refine (l11Crew _ _).mono ?_; rintro _ w1 ⟨rfl, rfl⟩))
    go_ret
    refine ⟨?_, by (repeat' (first | (with_reducible exact bel_refl _) | (with_reducible assumption) | (with_reducible refine bel_drew ?_) | (with_reducible refine bel_drewN ?_) | (with_reducible refine bel_alloc ?_) | (with_reducible refine bel_set ?_ ?_) | (with_reducible refine bel_trans ?_ (by with_reducible assumption)) | omega | (simp; done) | (simp; omega)))⟩
    simp

theorem hoursOfS (A : Option Addr) (n c : Nat) (xs : List Duty) (cr : Int) (w : World) (hS : Sl w 3 A n c (xs.flatMap Duty.row)) (hn : n ≤ 1048576) :
    Calls Try.prog 20 #[.slice A n c, .int .i64 cr] w fun e w' => e = .returned (.tuple #[.int .i64 (hoursOfR xs cr).1, .bool (hoursOfR xs cr).2]) ∧ Below w.heap.size w w' := by
  have hB2 := bel_refl w
  rcases hg : rosterB xs with _ | _
  · go_enter Try.func20, Try.ntmps20
    go_wp2_with (go_at_call 53; refine (l11Asked _ _ _ _ _ _ hS hn).mono ?_; rintro _ w1 ⟨rfl, hB1⟩; (first | (with_reducible replace hB2 := bel_trans hB2 hB1) | (with_reducible replace hB2 := bel_trans (bel_alloc hB2) hB1)); obtain ⟨hC1, hF1⟩ := bcell hB2; replace hB1 := hB1)
    go_ret2
    refine ⟨?_, by (repeat' (first | (with_reducible exact bel_refl _) | (with_reducible assumption) | (with_reducible refine bel_drew ?_) | (with_reducible refine bel_drewN ?_) | (with_reducible refine bel_alloc ?_) | (with_reducible refine bel_set ?_ ?_) | (with_reducible refine bel_trans ?_ (by with_reducible assumption)) | omega | (simp; done) | (simp; omega)))⟩
    simp [hoursOfR, hg]
  · have hG := rosterB_all hg
    have hn6 : n ≤ 13 := by have := rosterB_len hg; rw [hS.xs_len Duty.row_len (by omega)] at this; omega
    rcases hh : inB cr 1 20 with _ | _
    · go_enter Try.func20, Try.ntmps20
      go_wp2_with (go_at_call 53; refine (l11Asked _ _ _ _ _ _ hS hn).mono ?_; rintro _ w1 ⟨rfl, hB1⟩; (first | (with_reducible replace hB2 := bel_trans hB2 hB1) | (with_reducible replace hB2 := bel_trans (bel_alloc hB2) hB1)); obtain ⟨hC1, hF1⟩ := bcell hB2; replace hB1 := hB1)
      go_ret2
      refine ⟨?_, by (repeat' (first | (with_reducible exact bel_refl _) | (with_reducible assumption) | (with_reducible refine bel_drew ?_) | (with_reducible refine bel_drewN ?_) | (with_reducible refine bel_alloc ?_) | (with_reducible refine bel_set ?_ ?_) | (with_reducible refine bel_trans ?_ (by with_reducible assumption)) | omega | (simp; done) | (simp; omega)))⟩
      simp [hoursOfR, hg, hh]
    · go_enter Try.func20, Try.ntmps20
      go_wp2_with (first | (go_at_call 53; refine (l11Asked _ _ _ _ _ _ hS hn).mono ?_; rintro _ w1 ⟨rfl, hB1⟩; (first | (with_reducible replace hB2 := bel_trans hB2 hB1) | (with_reducible replace hB2 := bel_trans (bel_alloc hB2) hB1)); obtain ⟨hC1, hF1⟩ := bcell hB2; replace hB1 := hB1) | (go_at_call 56; refine (hoursS _ _ _ _ _ _ _ _ (hS.bel hB2) hn6 hG (by omega) (by omega)).mono ?_; rintro _ w1 ⟨rfl, hB1⟩; (first | (with_reducible replace hB2 := bel_trans hB2 hB1) | (with_reducible replace hB2 := bel_trans (bel_alloc hB2) hB1)); obtain ⟨hC1, hF1⟩ := bcell hB2; replace hB1 := hB1))
      go_ret2
      refine ⟨?_, by (repeat' (first | (with_reducible exact bel_refl _) | (with_reducible assumption) | (with_reducible refine bel_drew ?_) | (with_reducible refine bel_drewN ?_) | (with_reducible refine bel_alloc ?_) | (with_reducible refine bel_set ?_ ?_) | (with_reducible refine bel_trans ?_ (by with_reducible assumption)) | omega | (simp; done) | (simp; omega)))⟩
      simp [hoursOfR, hg, hh]

theorem hoursOfI (A : Option Addr) (n c : Nat) (xs : List Duty) (cr : Int) (w : World) (hS : Sl w 3 A n c (xs.flatMap Duty.row)) (hn : n ≤ 1048576) :
    Calls Try.prog 19 #[.slice A n c, .int .i64 cr] w fun e w' => e = .returned (.tuple #[.int .i64 (hoursOfR xs cr).1, .bool (hoursOfR xs cr).2]) ∧ Below w.heap.size w w' := by
  have hB2 := bel_refl w
  rcases hg : rosterB xs with _ | _
  · go_enter Try.func19, Try.ntmps19
    go_wp2_with (first | (go_at_call 26; refine (isRosterI _ _ _ _ _ (hS.bel (by (repeat' (first | (with_reducible exact bel_refl _) | (with_reducible assumption) | (with_reducible refine bel_drew ?_) | (with_reducible refine bel_drewN ?_) | (with_reducible refine bel_alloc ?_) | (with_reducible refine bel_set ?_ ?_) | (with_reducible refine bel_trans ?_ (by with_reducible assumption)) | omega | (simp; done) | (simp; omega))))) (by omega)).mono ?_; rintro _ w1 ⟨rfl, hB1⟩; (first | (with_reducible replace hB2 := bel_trans hB2 hB1) | (with_reducible replace hB2 := bel_trans (bel_alloc hB2) hB1)); obtain ⟨hC1, hF1⟩ := bcell hB2; replace hB1 := hB1) | (go_at_call 51; refine (isWorker _ _).mono ?_; rintro _ w1 ⟨rfl, rfl⟩) | (go_at_call 59; refine (isIn _ _ _ _).mono ?_; rintro _ w1 ⟨rfl, rfl⟩))
    go_ret2
    refine ⟨?_, by (repeat' (first | (with_reducible exact bel_refl _) | (with_reducible assumption) | (with_reducible refine bel_drew ?_) | (with_reducible refine bel_drewN ?_) | (with_reducible refine bel_alloc ?_) | (with_reducible refine bel_set ?_ ?_) | (with_reducible refine bel_trans ?_ (by with_reducible assumption)) | omega | (simp; done) | (simp; omega)))⟩
    simp [hoursOfR, hg]
  · have hG := rosterB_all hg
    have hn6 : n ≤ 13 := by have := rosterB_len hg; rw [hS.xs_len Duty.row_len (by omega)] at this; omega
    rcases hh : inB cr 1 20 with _ | _
    · go_enter Try.func19, Try.ntmps19
      go_wp2_with (first | (go_at_call 26; refine (isRosterI _ _ _ _ _ (hS.bel (by (repeat' (first | (with_reducible exact bel_refl _) | (with_reducible assumption) | (with_reducible refine bel_drew ?_) | (with_reducible refine bel_drewN ?_) | (with_reducible refine bel_alloc ?_) | (with_reducible refine bel_set ?_ ?_) | (with_reducible refine bel_trans ?_ (by with_reducible assumption)) | omega | (simp; done) | (simp; omega))))) (by omega)).mono ?_; rintro _ w1 ⟨rfl, hB1⟩; (first | (with_reducible replace hB2 := bel_trans hB2 hB1) | (with_reducible replace hB2 := bel_trans (bel_alloc hB2) hB1)); obtain ⟨hC1, hF1⟩ := bcell hB2; replace hB1 := hB1) | (go_at_call 51; refine (isWorker _ _).mono ?_; rintro _ w1 ⟨rfl, rfl⟩) | (go_at_call 59; refine (isIn _ _ _ _).mono ?_; rintro _ w1 ⟨rfl, rfl⟩))
      go_ret2
      refine ⟨?_, by (repeat' (first | (with_reducible exact bel_refl _) | (with_reducible assumption) | (with_reducible refine bel_drew ?_) | (with_reducible refine bel_drewN ?_) | (with_reducible refine bel_alloc ?_) | (with_reducible refine bel_set ?_ ?_) | (with_reducible refine bel_trans ?_ (by with_reducible assumption)) | omega | (simp; done) | (simp; omega)))⟩
      simp [hoursOfR, hg, hh]
    · go_enter Try.func19, Try.ntmps19
      go_wp2_with (first | (first | (go_at_call 26; refine (isRosterI _ _ _ _ _ (hS.bel (by (repeat' (first | (with_reducible exact bel_refl _) | (with_reducible assumption) | (with_reducible refine bel_drew ?_) | (with_reducible refine bel_drewN ?_) | (with_reducible refine bel_alloc ?_) | (with_reducible refine bel_set ?_ ?_) | (with_reducible refine bel_trans ?_ (by with_reducible assumption)) | omega | (simp; done) | (simp; omega))))) (by omega)).mono ?_; rintro _ w1 ⟨rfl, hB1⟩; (first | (with_reducible replace hB2 := bel_trans hB2 hB1) | (with_reducible replace hB2 := bel_trans (bel_alloc hB2) hB1)); obtain ⟨hC1, hF1⟩ := bcell hB2; replace hB1 := hB1) | (go_at_call 51; refine (isWorker _ _).mono ?_; rintro _ w1 ⟨rfl, rfl⟩) | (go_at_call 59; refine (isIn _ _ _ _).mono ?_; rintro _ w1 ⟨rfl, rfl⟩)) | (go_at_call 55; refine (hoursI _ _ _ _ _ _ _ _ (hS.bel hB2) hn6 hG (by omega) (by omega)).mono ?_; rintro _ w1 ⟨rfl, hB1⟩; (first | (with_reducible replace hB2 := bel_trans hB2 hB1) | (with_reducible replace hB2 := bel_trans (bel_alloc hB2) hB1)); obtain ⟨hC1, hF1⟩ := bcell hB2; replace hB1 := hB1))
      go_ret2
      refine ⟨?_, by (repeat' (first | (with_reducible exact bel_refl _) | (with_reducible assumption) | (with_reducible refine bel_drew ?_) | (with_reducible refine bel_drewN ?_) | (with_reducible refine bel_alloc ?_) | (with_reducible refine bel_set ?_ ?_) | (with_reducible refine bel_trans ?_ (by with_reducible assumption)) | omega | (simp; done) | (simp; omega)))⟩
      simp [hoursOfR, hg, hh]

theorem mostTS (A : Option Addr) (n c : Nat) (xs : List Duty) (cr s : Int) (w : World) (hS : Sl w 3 A n c (xs.flatMap Duty.row)) (hn : n ≤ 1048576) :
    Calls Try.prog 23 #[.slice A n c, .int .i64 cr, .int .i64 s] w fun e w' => e = .returned (.tuple #[.int .i64 (mostR xs cr s).1, .bool (mostR xs cr s).2]) ∧ Below w.heap.size w w' := by
  have hB2 := bel_refl w
  rcases hg : rosterB xs with _ | _
  · go_enter Try.func23, Try.ntmps23
    go_wp2_with (first | (go_at_call 53; refine (l11Asked _ _ _ _ _ _ hS hn).mono ?_; rintro _ w1 ⟨rfl, hB1⟩; (first | (with_reducible replace hB2 := bel_trans hB2 hB1) | (with_reducible replace hB2 := bel_trans (bel_alloc hB2) hB1)); obtain ⟨hC1, hF1⟩ := bcell hB2; replace hB1 := hB1) | (go_at_call 61; refine (l11Span _ _).mono ?_; rintro _ w1 ⟨rfl, rfl⟩))
    go_ret2
    refine ⟨?_, by (repeat' (first | (with_reducible exact bel_refl _) | (with_reducible assumption) | (with_reducible refine bel_drew ?_) | (with_reducible refine bel_drewN ?_) | (with_reducible refine bel_alloc ?_) | (with_reducible refine bel_set ?_ ?_) | (with_reducible refine bel_trans ?_ (by with_reducible assumption)) | omega | (simp; done) | (simp; omega)))⟩
    simp [mostR, hg]
  · have hG := rosterB_all hg
    have hn6 : n ≤ 13 := by have := rosterB_len hg; rw [hS.xs_len Duty.row_len (by omega)] at this; omega
    rcases hh : inB cr 1 20 with _ | _
    · go_enter Try.func23, Try.ntmps23
      go_wp2_with (first | (go_at_call 53; refine (l11Asked _ _ _ _ _ _ hS hn).mono ?_; rintro _ w1 ⟨rfl, hB1⟩; (first | (with_reducible replace hB2 := bel_trans hB2 hB1) | (with_reducible replace hB2 := bel_trans (bel_alloc hB2) hB1)); obtain ⟨hC1, hF1⟩ := bcell hB2; replace hB1 := hB1) | (go_at_call 61; refine (l11Span _ _).mono ?_; rintro _ w1 ⟨rfl, rfl⟩))
      go_ret2
      refine ⟨?_, by (repeat' (first | (with_reducible exact bel_refl _) | (with_reducible assumption) | (with_reducible refine bel_drew ?_) | (with_reducible refine bel_drewN ?_) | (with_reducible refine bel_alloc ?_) | (with_reducible refine bel_set ?_ ?_) | (with_reducible refine bel_trans ?_ (by with_reducible assumption)) | omega | (simp; done) | (simp; omega)))⟩
      simp [mostR, hg, hh]
    · rcases hs : inB s 1 200 with _ | _
      · go_enter Try.func23, Try.ntmps23
        go_wp2_with (first | (go_at_call 53; refine (l11Asked _ _ _ _ _ _ hS hn).mono ?_; rintro _ w1 ⟨rfl, hB1⟩; (first | (with_reducible replace hB2 := bel_trans hB2 hB1) | (with_reducible replace hB2 := bel_trans (bel_alloc hB2) hB1)); obtain ⟨hC1, hF1⟩ := bcell hB2; replace hB1 := hB1) | (go_at_call 61; refine (l11Span _ _).mono ?_; rintro _ w1 ⟨rfl, rfl⟩))
        go_ret2
        refine ⟨?_, by (repeat' (first | (with_reducible exact bel_refl _) | (with_reducible assumption) | (with_reducible refine bel_drew ?_) | (with_reducible refine bel_drewN ?_) | (with_reducible refine bel_alloc ?_) | (with_reducible refine bel_set ?_ ?_) | (with_reducible refine bel_trans ?_ (by with_reducible assumption)) | omega | (simp; done) | (simp; omega)))⟩
        simp [mostR, hg, hh, hs]
      · have hsb := inB_iff.1 hs
        go_enter Try.func23, Try.ntmps23
        go_wp2_with (first | (first | (go_at_call 53; refine (l11Asked _ _ _ _ _ _ hS hn).mono ?_; rintro _ w1 ⟨rfl, hB1⟩; (first | (with_reducible replace hB2 := bel_trans hB2 hB1) | (with_reducible replace hB2 := bel_trans (bel_alloc hB2) hB1)); obtain ⟨hC1, hF1⟩ := bcell hB2; replace hB1 := hB1) | (go_at_call 61; refine (l11Span _ _).mono ?_; rintro _ w1 ⟨rfl, rfl⟩)) | (go_at_call 62; refine (mostS _ _ _ _ _ _ _ (hS.bel hB2) hn6 hG (by omega)).mono ?_; rintro _ w1 ⟨rfl, hB1⟩; (first | (with_reducible replace hB2 := bel_trans hB2 hB1) | (with_reducible replace hB2 := bel_trans (bel_alloc hB2) hB1)); obtain ⟨hC1, hF1⟩ := bcell hB2; replace hB1 := hB1))
        go_ret2
        refine ⟨?_, by (repeat' (first | (with_reducible exact bel_refl _) | (with_reducible assumption) | (with_reducible refine bel_drew ?_) | (with_reducible refine bel_drewN ?_) | (with_reducible refine bel_alloc ?_) | (with_reducible refine bel_set ?_ ?_) | (with_reducible refine bel_trans ?_ (by with_reducible assumption)) | omega | (simp; done) | (simp; omega)))⟩
        simp [mostR, hg, hh, hs]

theorem mostTI (A : Option Addr) (n c : Nat) (xs : List Duty) (cr s : Int) (w : World) (hS : Sl w 3 A n c (xs.flatMap Duty.row)) (hn : n ≤ 1048576) :
    Calls Try.prog 22 #[.slice A n c, .int .i64 cr, .int .i64 s] w fun e w' => e = .returned (.tuple #[.int .i64 (mostR xs cr s).1, .bool (mostR xs cr s).2]) ∧ Below w.heap.size w w' := by
  have hB2 := bel_refl w
  rcases hg : rosterB xs with _ | _
  · go_enter Try.func22, Try.ntmps22
    go_wp2_with (first | (go_at_call 26; refine (isRosterI _ _ _ _ _ (hS.bel (by (repeat' (first | (with_reducible exact bel_refl _) | (with_reducible assumption) | (with_reducible refine bel_drew ?_) | (with_reducible refine bel_drewN ?_) | (with_reducible refine bel_alloc ?_) | (with_reducible refine bel_set ?_ ?_) | (with_reducible refine bel_trans ?_ (by with_reducible assumption)) | omega | (simp; done) | (simp; omega))))) (by omega)).mono ?_; rintro _ w1 ⟨rfl, hB1⟩; (first | (with_reducible replace hB2 := bel_trans hB2 hB1) | (with_reducible replace hB2 := bel_trans (bel_alloc hB2) hB1)); obtain ⟨hC1, hF1⟩ := bcell hB2; replace hB1 := hB1) | (go_at_call 51; refine (isWorker _ _).mono ?_; rintro _ w1 ⟨rfl, rfl⟩) | (go_at_call 59; refine (isIn _ _ _ _).mono ?_; rintro _ w1 ⟨rfl, rfl⟩))
    go_ret2
    refine ⟨?_, by (repeat' (first | (with_reducible exact bel_refl _) | (with_reducible assumption) | (with_reducible refine bel_drew ?_) | (with_reducible refine bel_drewN ?_) | (with_reducible refine bel_alloc ?_) | (with_reducible refine bel_set ?_ ?_) | (with_reducible refine bel_trans ?_ (by with_reducible assumption)) | omega | (simp; done) | (simp; omega)))⟩
    simp [mostR, hg]
  · have hG := rosterB_all hg
    have hn6 : n ≤ 13 := by have := rosterB_len hg; rw [hS.xs_len Duty.row_len (by omega)] at this; omega
    rcases hh : inB cr 1 20 with _ | _
    · go_enter Try.func22, Try.ntmps22
      go_wp2_with (first | (go_at_call 26; refine (isRosterI _ _ _ _ _ (hS.bel (by (repeat' (first | (with_reducible exact bel_refl _) | (with_reducible assumption) | (with_reducible refine bel_drew ?_) | (with_reducible refine bel_drewN ?_) | (with_reducible refine bel_alloc ?_) | (with_reducible refine bel_set ?_ ?_) | (with_reducible refine bel_trans ?_ (by with_reducible assumption)) | omega | (simp; done) | (simp; omega))))) (by omega)).mono ?_; rintro _ w1 ⟨rfl, hB1⟩; (first | (with_reducible replace hB2 := bel_trans hB2 hB1) | (with_reducible replace hB2 := bel_trans (bel_alloc hB2) hB1)); obtain ⟨hC1, hF1⟩ := bcell hB2; replace hB1 := hB1) | (go_at_call 51; refine (isWorker _ _).mono ?_; rintro _ w1 ⟨rfl, rfl⟩) | (go_at_call 59; refine (isIn _ _ _ _).mono ?_; rintro _ w1 ⟨rfl, rfl⟩))
      go_ret2
      refine ⟨?_, by (repeat' (first | (with_reducible exact bel_refl _) | (with_reducible assumption) | (with_reducible refine bel_drew ?_) | (with_reducible refine bel_drewN ?_) | (with_reducible refine bel_alloc ?_) | (with_reducible refine bel_set ?_ ?_) | (with_reducible refine bel_trans ?_ (by with_reducible assumption)) | omega | (simp; done) | (simp; omega)))⟩
      simp [mostR, hg, hh]
    · rcases hs : inB s 1 200 with _ | _
      · go_enter Try.func22, Try.ntmps22
        go_wp2_with (first | (go_at_call 26; refine (isRosterI _ _ _ _ _ (hS.bel (by (repeat' (first | (with_reducible exact bel_refl _) | (with_reducible assumption) | (with_reducible refine bel_drew ?_) | (with_reducible refine bel_drewN ?_) | (with_reducible refine bel_alloc ?_) | (with_reducible refine bel_set ?_ ?_) | (with_reducible refine bel_trans ?_ (by with_reducible assumption)) | omega | (simp; done) | (simp; omega))))) (by omega)).mono ?_; rintro _ w1 ⟨rfl, hB1⟩; (first | (with_reducible replace hB2 := bel_trans hB2 hB1) | (with_reducible replace hB2 := bel_trans (bel_alloc hB2) hB1)); obtain ⟨hC1, hF1⟩ := bcell hB2; replace hB1 := hB1) | (go_at_call 51; refine (isWorker _ _).mono ?_; rintro _ w1 ⟨rfl, rfl⟩) | (go_at_call 59; refine (isIn _ _ _ _).mono ?_; rintro _ w1 ⟨rfl, rfl⟩))
        go_ret2
        refine ⟨?_, by (repeat' (first | (with_reducible exact bel_refl _) | (with_reducible assumption) | (with_reducible refine bel_drew ?_) | (with_reducible refine bel_drewN ?_) | (with_reducible refine bel_alloc ?_) | (with_reducible refine bel_set ?_ ?_) | (with_reducible refine bel_trans ?_ (by with_reducible assumption)) | omega | (simp; done) | (simp; omega)))⟩
        simp [mostR, hg, hh, hs]
      · have hsb := inB_iff.1 hs
        go_enter Try.func22, Try.ntmps22
        go_wp2_with (first | (first | (go_at_call 26; refine (isRosterI _ _ _ _ _ (hS.bel (by (repeat' (first | (with_reducible exact bel_refl _) | (with_reducible assumption) | (with_reducible refine bel_drew ?_) | (with_reducible refine bel_drewN ?_) | (with_reducible refine bel_alloc ?_) | (with_reducible refine bel_set ?_ ?_) | (with_reducible refine bel_trans ?_ (by with_reducible assumption)) | omega | (simp; done) | (simp; omega))))) (by omega)).mono ?_; rintro _ w1 ⟨rfl, hB1⟩; (first | (with_reducible replace hB2 := bel_trans hB2 hB1) | (with_reducible replace hB2 := bel_trans (bel_alloc hB2) hB1)); obtain ⟨hC1, hF1⟩ := bcell hB2; replace hB1 := hB1) | (go_at_call 51; refine (isWorker _ _).mono ?_; rintro _ w1 ⟨rfl, rfl⟩) | (go_at_call 59; refine (isIn _ _ _ _).mono ?_; rintro _ w1 ⟨rfl, rfl⟩)) | (go_at_call 60; refine (mostI _ _ _ _ _ _ _ (hS.bel hB2) hn6 hG (by omega)).mono ?_; rintro _ w1 ⟨rfl, hB1⟩; (first | (with_reducible replace hB2 := bel_trans hB2 hB1) | (with_reducible replace hB2 := bel_trans (bel_alloc hB2) hB1)); obtain ⟨hC1, hF1⟩ := bcell hB2; replace hB1 := hB1))
        go_ret2
        refine ⟨?_, by (repeat' (first | (with_reducible exact bel_refl _) | (with_reducible assumption) | (with_reducible refine bel_drew ?_) | (with_reducible refine bel_drewN ?_) | (with_reducible refine bel_alloc ?_) | (with_reducible refine bel_set ?_ ?_) | (with_reducible refine bel_trans ?_ (by with_reducible assumption)) | omega | (simp; done) | (simp; omega)))⟩
        simp [mostR, hg, hh, hs]

theorem atTS (A : Option Addr) (n c : Nat) (xs : List Duty) (h : Int) (w : World) (hS : Sl w 3 A n c (xs.flatMap Duty.row)) (hn : n ≤ 1048576) :
    Calls Try.prog 43 #[.slice A n c, .int .i64 h] w fun e w' => ∃ A' n' c', e = .returned (.tuple #[.slice A' n' c', .bool (atR xs h).2]) ∧ Own w.heap.size w'.heap.size w' 3 1 A' n' c' (ints (atR xs h).1) ∧ Below w.heap.size w w' := by
  have hB2 := bel_refl w
  rcases hg : rosterB xs with _ | _
  · have hR : Hid (atR xs h = ([], false)) := by show _ = _; simp [atR, hg]
    go_enter Try.func43, Try.ntmps43
    go_wp2_with (first | (go_at_call 45; refine (l11Good _ _ _ _ _ hS (by omega)).mono ?_; rintro _ w1 ⟨rfl, hB1⟩; (first | (with_reducible replace hB2 := bel_trans hB2 hB1) | (with_reducible replace hB2 := bel_trans (bel_alloc hB2) hB1)); obtain ⟨hC1, hF1⟩ := bcell hB2; replace hB1 := hB1) | (go_at_call 73; refine (l1In _ _ _ _).mono ?_; rintro _ w1 ⟨rfl, rfl⟩))
    go_ret2
    exact ⟨some ⟨w1.heap.size, 0, none⟩, 0, 0, by rw [hR.out]; rfl, by rw [hR.out]; exact (Own.mk_ (own_empty (Nat.le_refl _))).low hB2.size, by (repeat' (first | (with_reducible exact bel_refl _) | (with_reducible assumption) | (with_reducible refine bel_drew ?_) | (with_reducible refine bel_drewN ?_) | (with_reducible refine bel_alloc ?_) | (with_reducible refine bel_set ?_ ?_) | (with_reducible refine bel_trans ?_ (by with_reducible assumption)) | omega | (simp; done) | (simp; omega)))⟩
  · have hG := rosterB_all hg
    have hn6 : n ≤ 13 := by have := rosterB_len hg; rw [hS.xs_len Duty.row_len (by omega)] at this; omega
    rcases hh : inB h 0 499 with _ | _
    · have hR : Hid (atR xs h = ([], false)) := by show _ = _; simp [atR, hg, hh]
      go_enter Try.func43, Try.ntmps43
      go_wp2_with (first | (go_at_call 45; refine (l11Good _ _ _ _ _ hS (by omega)).mono ?_; rintro _ w1 ⟨rfl, hB1⟩; (first | (with_reducible replace hB2 := bel_trans hB2 hB1) | (with_reducible replace hB2 := bel_trans (bel_alloc hB2) hB1)); obtain ⟨hC1, hF1⟩ := bcell hB2; replace hB1 := hB1) | (go_at_call 73; refine (l1In _ _ _ _).mono ?_; rintro _ w1 ⟨rfl, rfl⟩))
      go_ret2
      exact ⟨some ⟨w1.heap.size, 0, none⟩, 0, 0, by rw [hR.out]; rfl, by rw [hR.out]; exact (Own.mk_ (own_empty (Nat.le_refl _))).low hB2.size, by (repeat' (first | (with_reducible exact bel_refl _) | (with_reducible assumption) | (with_reducible refine bel_drew ?_) | (with_reducible refine bel_drewN ?_) | (with_reducible refine bel_alloc ?_) | (with_reducible refine bel_set ?_ ?_) | (with_reducible refine bel_trans ?_ (by with_reducible assumption)) | omega | (simp; done) | (simp; omega)))⟩
    · have hR : Hid (atR xs h = (atL xs h, true)) := by show _ = _; simp [atR, hg, hh]
      go_enter Try.func43, Try.ntmps43
      go_wp2_with (first | (first | (go_at_call 45; refine (l11Good _ _ _ _ _ hS (by omega)).mono ?_; rintro _ w1 ⟨rfl, hB1⟩; (first | (with_reducible replace hB2 := bel_trans hB2 hB1) | (with_reducible replace hB2 := bel_trans (bel_alloc hB2) hB1)); obtain ⟨hC1, hF1⟩ := bcell hB2; replace hB1 := hB1) | (go_at_call 73; refine (l1In _ _ _ _).mono ?_; rintro _ w1 ⟨rfl, rfl⟩)) | (go_at_call 76; refine (atS _ _ _ _ _ _ (hS.bel hB2) hn6 hG).mono ?_; rintro _ w2 ⟨A1, n1, c1, rfl, hO, hB1⟩; replace hB1 := hB1))
      go_ret2
      refine ⟨A1, n1, c1, ?_, ?_, by (repeat' (first | (with_reducible exact bel_refl _) | (with_reducible assumption) | (with_reducible refine bel_drew ?_) | (with_reducible refine bel_drewN ?_) | (with_reducible refine bel_alloc ?_) | (with_reducible refine bel_set ?_ ?_) | (with_reducible refine bel_trans ?_ (by with_reducible assumption)) | omega | (simp; done) | (simp; omega)))⟩
      · rw [hR.out]; rfl
      · rw [hR.out]
        exact hO.low hB2.size

theorem atTI (A : Option Addr) (n c : Nat) (xs : List Duty) (h : Int) (w : World) (hS : Sl w 3 A n c (xs.flatMap Duty.row)) (hn : n ≤ 1048576) :
    Calls Try.prog 41 #[.slice A n c, .int .i64 h] w fun e w' => ∃ A' n' c', e = .returned (.tuple #[.slice A' n' c', .bool (atR xs h).2]) ∧ Own w.heap.size w'.heap.size w' 3 1 A' n' c' (ints (atR xs h).1) ∧ Below w.heap.size w w' := by
  have hB2 := bel_refl w
  rcases hg : rosterB xs with _ | _
  · have hR : Hid (atR xs h = ([], false)) := by show _ = _; simp [atR, hg]
    go_enter Try.func41, Try.ntmps41
    go_wp2_with (first | (go_at_call 26; refine (isRosterI _ _ _ _ _ (hS.bel (by (repeat' (first | (with_reducible exact bel_refl _) | (with_reducible assumption) | (with_reducible refine bel_drew ?_) | (with_reducible refine bel_drewN ?_) | (with_reducible refine bel_alloc ?_) | (with_reducible refine bel_set ?_ ?_) | (with_reducible refine bel_trans ?_ (by with_reducible assumption)) | omega | (simp; done) | (simp; omega))))) (by omega)).mono ?_; rintro _ w1 ⟨rfl, hB1⟩; (first | (with_reducible replace hB2 := bel_trans hB2 hB1) | (with_reducible replace hB2 := bel_trans (bel_alloc hB2) hB1)); obtain ⟨hC1, hF1⟩ := bcell hB2; replace hB1 := hB1) | (go_at_call 51; refine (isWorker _ _).mono ?_; rintro _ w1 ⟨rfl, rfl⟩) | (go_at_call 59; refine (isIn _ _ _ _).mono ?_; rintro _ w1 ⟨rfl, rfl⟩))
    go_ret2
    exact ⟨none, 0, 0, by rw [hR.out]; rfl, by rw [hR.out]; exact Own.mk_ (World.ownsRow_nil _ _ _ _), by (repeat' (first | (with_reducible exact bel_refl _) | (with_reducible assumption) | (with_reducible refine bel_drew ?_) | (with_reducible refine bel_drewN ?_) | (with_reducible refine bel_alloc ?_) | (with_reducible refine bel_set ?_ ?_) | (with_reducible refine bel_trans ?_ (by with_reducible assumption)) | omega | (simp; done) | (simp; omega)))⟩
  · have hG := rosterB_all hg
    have hn6 : n ≤ 13 := by have := rosterB_len hg; rw [hS.xs_len Duty.row_len (by omega)] at this; omega
    rcases hh : inB h 0 499 with _ | _
    · have hR : Hid (atR xs h = ([], false)) := by show _ = _; simp [atR, hg, hh]
      go_enter Try.func41, Try.ntmps41
      go_wp2_with (first | (go_at_call 26; refine (isRosterI _ _ _ _ _ (hS.bel (by (repeat' (first | (with_reducible exact bel_refl _) | (with_reducible assumption) | (with_reducible refine bel_drew ?_) | (with_reducible refine bel_drewN ?_) | (with_reducible refine bel_alloc ?_) | (with_reducible refine bel_set ?_ ?_) | (with_reducible refine bel_trans ?_ (by with_reducible assumption)) | omega | (simp; done) | (simp; omega))))) (by omega)).mono ?_; rintro _ w1 ⟨rfl, hB1⟩; (first | (with_reducible replace hB2 := bel_trans hB2 hB1) | (with_reducible replace hB2 := bel_trans (bel_alloc hB2) hB1)); obtain ⟨hC1, hF1⟩ := bcell hB2; replace hB1 := hB1) | (go_at_call 51; refine (isWorker _ _).mono ?_; rintro _ w1 ⟨rfl, rfl⟩) | (go_at_call 59; refine (isIn _ _ _ _).mono ?_; rintro _ w1 ⟨rfl, rfl⟩))
      go_ret2
      exact ⟨none, 0, 0, by rw [hR.out]; rfl, by rw [hR.out]; exact Own.mk_ (World.ownsRow_nil _ _ _ _), by (repeat' (first | (with_reducible exact bel_refl _) | (with_reducible assumption) | (with_reducible refine bel_drew ?_) | (with_reducible refine bel_drewN ?_) | (with_reducible refine bel_alloc ?_) | (with_reducible refine bel_set ?_ ?_) | (with_reducible refine bel_trans ?_ (by with_reducible assumption)) | omega | (simp; done) | (simp; omega)))⟩
    · have hR : Hid (atR xs h = (atL xs h, true)) := by show _ = _; simp [atR, hg, hh]
      go_enter Try.func41, Try.ntmps41
      go_wp2_with (first | (first | (go_at_call 26; refine (isRosterI _ _ _ _ _ (hS.bel (by (repeat' (first | (with_reducible exact bel_refl _) | (with_reducible assumption) | (with_reducible refine bel_drew ?_) | (with_reducible refine bel_drewN ?_) | (with_reducible refine bel_alloc ?_) | (with_reducible refine bel_set ?_ ?_) | (with_reducible refine bel_trans ?_ (by with_reducible assumption)) | omega | (simp; done) | (simp; omega))))) (by omega)).mono ?_; rintro _ w1 ⟨rfl, hB1⟩; (first | (with_reducible replace hB2 := bel_trans hB2 hB1) | (with_reducible replace hB2 := bel_trans (bel_alloc hB2) hB1)); obtain ⟨hC1, hF1⟩ := bcell hB2; replace hB1 := hB1) | (go_at_call 51; refine (isWorker _ _).mono ?_; rintro _ w1 ⟨rfl, rfl⟩) | (go_at_call 59; refine (isIn _ _ _ _).mono ?_; rintro _ w1 ⟨rfl, rfl⟩)) | (go_at_call 75; refine (atI _ _ _ _ _ _ (hS.bel hB2) hn6 hG).mono ?_; rintro _ w2 ⟨A1, n1, c1, rfl, hO, hB1⟩; replace hB1 := hB1))
      go_ret2
      refine ⟨A1, n1, c1, ?_, ?_, by (repeat' (first | (with_reducible exact bel_refl _) | (with_reducible assumption) | (with_reducible refine bel_drew ?_) | (with_reducible refine bel_drewN ?_) | (with_reducible refine bel_alloc ?_) | (with_reducible refine bel_set ?_ ?_) | (with_reducible refine bel_trans ?_ (by with_reducible assumption)) | omega | (simp; done) | (simp; omega)))⟩
      · rw [hR.out]; rfl
      · rw [hR.out]
        exact hO.low hB2.size

end Go.Proofs.Ytlffolfooiijhaa
