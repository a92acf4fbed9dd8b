/-
  The limits that a crew does not keep: the functions that the law calls.
-/
import Derived.Test.YtlffolfooiijhaaRostBroken
namespace Go.Proofs.Ytlffolfooiijhaa
open Go.RowKit

def brokenR (xs : List Duty) (cr : Int) (r : WorkRule) : List ByteArray × Bool := if rosterB xs && inB cr 1 20 && goodW r then (brokenL xs cr r, true) else ([], false)
theorem brokenL_len (xs : List Duty) (cr : Int) (r : WorkRule) : (brokenL xs cr r).length ≤ 3 := by
  have := wordsL_len (flagL xs cr r) 3
  rwa [List.take_of_length_le (by simp [flagL])] at this
theorem brokenR_len (xs : List Duty) (cr : Int) (r : WorkRule) : (brokenR xs cr r).1.length ≤ 1048576 := by
  unfold brokenR
  split
  · have := brokenL_len xs cr r
    show (brokenL xs cr r).length ≤ _
    omega
  · simp

set_option maxHeartbeats 1000000 in
theorem brokenRS (A : Option Addr) (n c : Nat) (xs : List Duty) (cr : Int) (r : WorkRule) (w : World) (hS : Sl w 3 A n c (xs.flatMap Duty.row)) (hn : n ≤ 1048576) :
    Calls Try.prog 32 #[.slice A n c, .int .i64 cr, .agg #[.int .i64 r.work, .int .i64 r.rest, .int .i64 r.span, .int .i64 r.most]] w fun e w' => ∃ A' n' c', e = .returned (.tuple #[.slice A' n' c', .bool (brokenR xs cr r).2]) ∧ Own w.heap.size w'.heap.size w' 9 1 A' n' c' (strs (brokenR xs cr r).1) ∧ Below w.heap.size w w' := by
  have hB2 := bel_refl (w.alloc (.cells #[.int .i64 r.work, .int .i64 r.rest, .int .i64 r.span, .int .i64 r.most] 53))
  rcases hall : (rosterB xs && inB cr 1 20 && goodW r) with _ | _
  · have hR : Hid (brokenR xs cr r = ([], false)) := by show _ = _; rw [brokenR, hall]; rfl
    rcases hg : rosterB xs with _ | _ <;> rcases hh : inB cr 1 20 with _ | _ <;> rcases hk : goodW r with _ | _
    all_goals first
      | (rw [hg, hh, hk] at hall; cases hall; done)
      | (go_enter Try.func32, Try.ntmps32
         go_wp2_with (first | (go_at_call 53; refine (l11Asked _ _ _ _ _ _ (hS.bel (by (repeat' (first | (with_reducible exact bel_refl _) | (with_reducible assumption) | (with_reducible refine bel_drew ?_) | (with_reducible refine bel_drewN ?_) | (with_reducible refine bel_alloc ?_) | (with_reducible refine bel_set ?_ ?_) | (with_reducible refine bel_trans ?_ (by with_reducible assumption)) | omega | (simp; done) | (simp; omega))))) hn).mono ?_; rintro _ w1 ⟨rfl, hB1⟩; (first | (with_reducible replace hB2 := bel_trans hB2 hB1) | (with_reducible replace hB2 := bel_trans (bel_alloc hB2) hB1)); obtain ⟨hC1, hF1⟩ := bcell hB2; replace hB1 := hB1) | (go_at_call 67; refine (l11Rule r _).mono ?_; rintro _ w1 ⟨rfl, hB1⟩; (first | (with_reducible replace hB2 := bel_trans hB2 hB1) | (with_reducible replace hB2 := bel_trans (bel_alloc hB2) hB1)); obtain ⟨hC1, hF1⟩ := bcell hB2; replace hB1 := hB1))
         go_ret2
         exact ⟨some ⟨w1.heap.size, 0, none⟩, 0, 0, by rw [hR.out]; rfl, by rw [hR.out]; exact (Own.mk_ (own_empty (Nat.le_refl _))).low (by have := hB2.size; simp at this; omega), by (repeat' (first | (with_reducible exact bel_refl _) | (with_reducible assumption) | (with_reducible refine bel_drew ?_) | (with_reducible refine bel_drewN ?_) | (with_reducible refine bel_alloc ?_) | (with_reducible refine bel_set ?_ ?_) | (with_reducible refine bel_trans ?_ (by with_reducible assumption)) | omega | (simp; done) | (simp; omega)))⟩)
  · have hR : Hid (brokenR xs cr r = (brokenL xs cr r, true)) := by show _ = _; rw [brokenR, hall]; rfl
    simp only [Bool.and_eq_true] at hall
    obtain ⟨⟨hg, hh⟩, hk⟩ := hall
    have hG := rosterB_all hg
    have hn6 : n ≤ 13 := by have := rosterB_len hg; rw [hS.xs_len Duty.row_len (by omega)] at this; omega
    go_enter Try.func32, Try.ntmps32
    go_wp2_with (first | (first | (go_at_call 53; refine (l11Asked _ _ _ _ _ _ (hS.bel (by (repeat' (first | (with_reducible exact bel_refl _) | (with_reducible assumption) | (with_reducible refine bel_drew ?_) | (with_reducible refine bel_drewN ?_) | (with_reducible refine bel_alloc ?_) | (with_reducible refine bel_set ?_ ?_) | (with_reducible refine bel_trans ?_ (by with_reducible assumption)) | omega | (simp; done) | (simp; omega))))) hn).mono ?_; rintro _ w1 ⟨rfl, hB1⟩; (first | (with_reducible replace hB2 := bel_trans hB2 hB1) | (with_reducible replace hB2 := bel_trans (bel_alloc hB2) hB1)); obtain ⟨hC1, hF1⟩ := bcell hB2; replace hB1 := hB1) | (go_at_call 67; refine (l11Rule r _).mono ?_; rintro _ w1 ⟨rfl, hB1⟩; (first | (with_reducible replace hB2 := bel_trans hB2 hB1) | (with_reducible replace hB2 := bel_trans (bel_alloc hB2) hB1)); obtain ⟨hC1, hF1⟩ := bcell hB2; replace hB1 := hB1)) | (go_at_call 71; refine (brokenS _ _ _ xs cr r _ (hS.bel (by (repeat' (first | (with_reducible exact bel_refl _) | (with_reducible assumption) | (with_reducible refine bel_drew ?_) | (with_reducible refine bel_drewN ?_) | (with_reducible refine bel_alloc ?_) | (with_reducible refine bel_set ?_ ?_) | (with_reducible refine bel_trans ?_ (by with_reducible assumption)) | omega | (simp; done) | (simp; omega))))) hn6 hG hk).mono ?_; rintro _ w2 ⟨A1, n1, c1, rfl, hO, hB1⟩; replace hB1 := hB1))
    go_ret2
    have hz := hB2.size
    simp at hz
    refine ⟨A1, n1, c1, ?_, ?_, by (repeat' (first | (with_reducible exact bel_refl _) | (with_reducible assumption) | (with_reducible refine bel_drew ?_) | (with_reducible refine bel_drewN ?_) | (with_reducible refine bel_alloc ?_) | (with_reducible refine bel_set ?_ ?_) | (with_reducible refine bel_trans ?_ (by with_reducible assumption)) | omega | (simp; done) | (simp; omega)))⟩
    · rw [hR.out]; rfl
    · rw [hR.out]
      exact hO.low (by omega)

set_option maxHeartbeats 1000000 in
theorem brokenRI (A : Option Addr) (n c : Nat) (xs : List Duty) (cr : Int) (r : WorkRule) (w : World) (hS : Sl w 3 A n c (xs.flatMap Duty.row)) (hn : n ≤ 1048576) :
    Calls Try.prog 30 #[.slice A n c, .int .i64 cr, .agg #[.int .i64 r.work, .int .i64 r.rest, .int .i64 r.span, .int .i64 r.most]] w fun e w' => ∃ A' n' c', e = .returned (.tuple #[.slice A' n' c', .bool (brokenR xs cr r).2]) ∧ Own w.heap.size w'.heap.size w' 9 1 A' n' c' (strs (brokenR xs cr r).1) ∧ Below w.heap.size w w' := by
  have hB2 := bel_refl (w.alloc (.cells #[.int .i64 r.work, .int .i64 r.rest, .int .i64 r.span, .int .i64 r.most] 53))
  rcases hall : (rosterB xs && inB cr 1 20 && goodW r) with _ | _
  · have hR : Hid (brokenR xs cr r = ([], false)) := by show _ = _; rw [brokenR, hall]; rfl
    rcases hg : rosterB xs with _ | _ <;> rcases hh : inB cr 1 20 with _ | _ <;> rcases hk : goodW r with _ | _
    all_goals first
      | (rw [hg, hh, hk] at hall; cases hall; done)
      | (go_enter Try.func30, Try.ntmps30
         go_wp2_with (first | (go_at_call 26; refine (isRosterI _ _ _ _ _ (hS.bel (by (repeat' (first | (with_reducible exact bel_refl _) | (with_reducible assumption) | (with_reducible refine bel_drew ?_) | (with_reducible refine bel_drewN ?_) | (with_reducible refine bel_alloc ?_) | (with_reducible refine bel_set ?_ ?_) | (with_reducible refine bel_trans ?_ (by with_reducible assumption)) | omega | (simp; done) | (simp; omega))))) (by omega)).mono ?_; rintro _ w1 ⟨rfl, hB1⟩; (first | (with_reducible replace hB2 := bel_trans hB2 hB1) | (with_reducible replace hB2 := bel_trans (bel_alloc hB2) hB1)); obtain ⟨hC1, hF1⟩ := bcell hB2; replace hB1 := hB1) | (go_at_call 51; refine (isWorker _ _).mono ?_; rintro _ w1 ⟨rfl, rfl⟩) | (go_at_call 65; refine (isWorkRule r _).mono ?_; rintro _ w1 ⟨rfl, hB1⟩; (first | (with_reducible replace hB2 := bel_trans hB2 hB1) | (with_reducible replace hB2 := bel_trans (bel_alloc hB2) hB1)); obtain ⟨hC1, hF1⟩ := bcell hB2; replace hB1 := hB1))
         go_ret2
         exact ⟨none, 0, 0, by rw [hR.out]; rfl, by rw [hR.out]; exact Own.mk_ (World.ownsRow_nil _ _ _ _), by (repeat' (first | (with_reducible exact bel_refl _) | (with_reducible assumption) | (with_reducible refine bel_drew ?_) | (with_reducible refine bel_drewN ?_) | (with_reducible refine bel_alloc ?_) | (with_reducible refine bel_set ?_ ?_) | (with_reducible refine bel_trans ?_ (by with_reducible assumption)) | omega | (simp; done) | (simp; omega)))⟩)
  · have hR : Hid (brokenR xs cr r = (brokenL xs cr r, true)) := by show _ = _; rw [brokenR, hall]; rfl
    simp only [Bool.and_eq_true] at hall
    obtain ⟨⟨hg, hh⟩, hk⟩ := hall
    have hG := rosterB_all hg
    have hn6 : n ≤ 13 := by have := rosterB_len hg; rw [hS.xs_len Duty.row_len (by omega)] at this; omega
    go_enter Try.func30, Try.ntmps30
    go_wp2_with (first | (first | (go_at_call 26; refine (isRosterI _ _ _ _ _ (hS.bel (by (repeat' (first | (with_reducible exact bel_refl _) | (with_reducible assumption) | (with_reducible refine bel_drew ?_) | (with_reducible refine bel_drewN ?_) | (with_reducible refine bel_alloc ?_) | (with_reducible refine bel_set ?_ ?_) | (with_reducible refine bel_trans ?_ (by with_reducible assumption)) | omega | (simp; done) | (simp; omega))))) (by omega)).mono ?_; rintro _ w1 ⟨rfl, hB1⟩; (first | (with_reducible replace hB2 := bel_trans hB2 hB1) | (with_reducible replace hB2 := bel_trans (bel_alloc hB2) hB1)); obtain ⟨hC1, hF1⟩ := bcell hB2; replace hB1 := hB1) | (go_at_call 51; refine (isWorker _ _).mono ?_; rintro _ w1 ⟨rfl, rfl⟩) | (go_at_call 65; refine (isWorkRule r _).mono ?_; rintro _ w1 ⟨rfl, hB1⟩; (first | (with_reducible replace hB2 := bel_trans hB2 hB1) | (with_reducible replace hB2 := bel_trans (bel_alloc hB2) hB1)); obtain ⟨hC1, hF1⟩ := bcell hB2; replace hB1 := hB1)) | (go_at_call 70; refine (brokenI _ _ _ xs cr r _ (hS.bel (by (repeat' (first | (with_reducible exact bel_refl _) | (with_reducible assumption) | (with_reducible refine bel_drew ?_) | (with_reducible refine bel_drewN ?_) | (with_reducible refine bel_alloc ?_) | (with_reducible refine bel_set ?_ ?_) | (with_reducible refine bel_trans ?_ (by with_reducible assumption)) | omega | (simp; done) | (simp; omega))))) hn6 hG hk).mono ?_; rintro _ w2 ⟨A1, n1, c1, rfl, hO, hB1⟩; replace hB1 := hB1))
    go_ret2
    have hz := hB2.size
    simp at hz
    refine ⟨A1, n1, c1, ?_, ?_, by (repeat' (first | (with_reducible exact bel_refl _) | (with_reducible assumption) | (with_reducible refine bel_drew ?_) | (with_reducible refine bel_drewN ?_) | (with_reducible refine bel_alloc ?_) | (with_reducible refine bel_set ?_ ?_) | (with_reducible refine bel_trans ?_ (by with_reducible assumption)) | omega | (simp; done) | (simp; omega)))⟩
    · rw [hR.out]; rfl
    · rw [hR.out]
      exact hO.low (by omega)

end Go.Proofs.Ytlffolfooiijhaa
