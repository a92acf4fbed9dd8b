/-
  Whether a crew may have a duty more, and its next free hour: of the program and of the reference, walked.
-/
import Derived.Test.YtlffolfooiijhaaRostAddS
import Derived.Test.YtlffolfooiijhaaRostBrTop
namespace Go.Proofs.Ytlffolfooiijhaa
open Go.RowKit

def mayB (xs : List Duty) (r : WorkRule) (d : Duty) : Bool := rosterB (insS d xs) && (brokenL (insS d xs) d.crew r).isEmpty
theorem words_empty {n : Nat} {L : List ByteArray} (h : L.length = n) : (((n : Int) == 0) : Bool) = L.isEmpty := by
  rcases L with _ | ⟨x, L⟩
  · simp at h; subst h; rfl
  · simp at h; subst h
    show ((((L.length + 1 : Nat) : Int)) == 0) = false
    rw [beq_eq_false_iff_ne]; omega
set_option maxHeartbeats 1000000 in
theorem mayI (A : Option Addr) (n c : Nat) (xs : List Duty) (r : WorkRule) (d : Duty) (w : World) (hS : Sl w 3 A n c (xs.flatMap Duty.row)) (hx : rosterB xs = true) (hr : goodW r = true) :
    Calls Try.prog 66 #[.slice A n c, .agg #[.int .i64 r.work, .int .i64 r.rest, .int .i64 r.span, .int .i64 r.most], .agg #[.int .i64 d.crew, .int .i64 d.fr, .int .i64 d.til]] w fun e w' => e = .returned (.bool (mayB xs r d)) ∧ Below w.heap.size w w' := by
  have hn : n ≤ 12 := by have := rosterB_len hx; rw [hS.xs_len Duty.row_len (by omega)] at this; exact this
  have hB2 := bel_refl ((w.alloc (.cells #[.int .i64 r.work, .int .i64 r.rest, .int .i64 r.span, .int .i64 r.most] 53)).alloc (.cells #[.int .i64 d.crew, .int .i64 d.fr, .int .i64 d.til] 30))
  have heq : rosterB (insI xs d) = rosterB (insS d xs) := (ins_roster hx)
  rcases hg : rosterB (insS d xs) with _ | _
  · have hR : Hid (mayB xs r d = false) := by show _ = _; rw [mayB, hg]; rfl
    have hL : rosterB (insI xs d) = false := heq.trans hg
    go_enter Try.func66, Try.ntmps66
    go_wp2_with (first | (go_at_call 47; refine (withDuty20 _ _ _ xs d _ (hS.bel (by (repeat' (first | (with_reducible exact bel_refl _) | (with_reducible assumption) | (with_reducible refine bel_drew ?_) | (with_reducible refine bel_drewN ?_) | (with_reducible refine bel_alloc ?_) | (with_reducible refine bel_set ?_ ?_) | (with_reducible refine bel_trans ?_ (by with_reducible assumption)) | omega | (simp; done) | (simp; omega))))) hn).mono ?_; rintro _ w1 ⟨A1, c1, rfl, hO1, hB1⟩; replace hB2 := bel_trans hB2 hB1; obtain ⟨hC1, hF1⟩ := bcell hB2) | (go_at_call 26; refine (isRosterI _ _ _ (insI xs d) _ hO1.sl (by omega)).mono ?_; rw [hL]; rintro _ w2 ⟨rfl, hb2⟩; replace hB2 := bel_trans hB2 hb2))
    go_ret
    exact ⟨ret_bool hR.out.symm, by (repeat' (first | (with_reducible exact bel_refl _) | (with_reducible assumption) | (with_reducible refine bel_drew ?_) | (with_reducible refine bel_drewN ?_) | (with_reducible refine bel_alloc ?_) | (with_reducible refine bel_set ?_ ?_) | (with_reducible refine bel_trans ?_ (by with_reducible assumption)) | omega | (simp; done) | (simp; omega)))⟩
  · have hsame : Hid (insI xs d = insS d xs) := (insS_same hx hg)
    have hR : Hid (mayB xs r d = (brokenL (insS d xs) d.crew r).isEmpty) := by show _ = _; rw [mayB, hg]; rfl
    have hG := rosterB_all hg
    go_enter Try.func66, Try.ntmps66
    go_wp2_with (first | (go_at_call 47; refine (withDuty20 _ _ _ xs d _ (hS.bel (by (repeat' (first | (with_reducible exact bel_refl _) | (with_reducible assumption) | (with_reducible refine bel_drew ?_) | (with_reducible refine bel_drewN ?_) | (with_reducible refine bel_alloc ?_) | (with_reducible refine bel_set ?_ ?_) | (with_reducible refine bel_trans ?_ (by with_reducible assumption)) | omega | (simp; done) | (simp; omega))))) hn).mono ?_; rintro _ w1 ⟨A1, c1, rfl, hO1, hB1⟩; replace hB2 := bel_trans hB2 hB1; obtain ⟨hC1, hF1⟩ := bcell hB2; rw [hsame.out] at hO1) | (go_at_call 26; refine (isRosterI _ _ _ (insS d xs) _ hO1.sl (by omega)).mono ?_; rw [hg]; rintro _ w2 ⟨rfl, hb2⟩; replace hB2 := bel_trans hB2 hb2; obtain ⟨hC1, hF1⟩ := bcell hB2) | (go_at_call 70; refine (brokenI _ _ _ (insS d xs) d.crew r _ (hO1.bel hb2).sl (by omega) hG hr).mono ?_; rintro _ w3 ⟨A3, n3, c3, rfl, hO3, hb3⟩; replace hB2 := bel_trans hB2 hb3))
    go_ret
    have hl := words_empty hO3.sl.str_len
    exact ⟨ret_bool (by rw [hR.out, ← hl]), by (repeat' (first | (with_reducible exact bel_refl _) | (with_reducible assumption) | (with_reducible refine bel_drew ?_) | (with_reducible refine bel_drewN ?_) | (with_reducible refine bel_alloc ?_) | (with_reducible refine bel_set ?_ ?_) | (with_reducible refine bel_trans ?_ (by with_reducible assumption)) | omega | (simp; done) | (simp; omega)))⟩

set_option maxHeartbeats 1000000 in
theorem mayS (A : Option Addr) (n c : Nat) (xs : List Duty) (r : WorkRule) (d : Duty) (w : World) (hS : Sl w 3 A n c (xs.flatMap Duty.row)) (hx : rosterB xs = true) (hr : goodW r = true) :
    Calls Try.prog 69 #[.slice A n c, .agg #[.int .i64 r.work, .int .i64 r.rest, .int .i64 r.span, .int .i64 r.most], .agg #[.int .i64 d.crew, .int .i64 d.fr, .int .i64 d.til]] w fun e w' => e = .returned (.bool (mayB xs r d)) ∧ Below w.heap.size w w' := by
  have hn : n ≤ 12 := by have := rosterB_len hx; rw [hS.xs_len Duty.row_len (by omega)] at this; exact this
  have hB2 := bel_refl ((w.alloc (.cells #[.int .i64 r.work, .int .i64 r.rest, .int .i64 r.span, .int .i64 r.most] 53)).alloc (.cells #[.int .i64 d.crew, .int .i64 d.fr, .int .i64 d.til] 30))
  have heq : rosterB (insS d xs) = rosterB (insS d xs) := rfl
  rcases hg : rosterB (insS d xs) with _ | _
  · have hR : Hid (mayB xs r d = false) := by show _ = _; rw [mayB, hg]; rfl
    have hL : rosterB (insS d xs) = false := heq.trans hg
    go_enter Try.func69, Try.ntmps69
    go_wp2_with (first | (go_at_call 46; refine (addS _ _ _ xs d _ (hS.bel (by (repeat' (first | (with_reducible exact bel_refl _) | (with_reducible assumption) | (with_reducible refine bel_drew ?_) | (with_reducible refine bel_drewN ?_) | (with_reducible refine bel_alloc ?_) | (with_reducible refine bel_set ?_ ?_) | (with_reducible refine bel_trans ?_ (by with_reducible assumption)) | omega | (simp; done) | (simp; omega))))) hn).mono ?_; rintro _ w1 ⟨A1, c1, rfl, hO1, hB1⟩; replace hB2 := bel_trans hB2 hB1; obtain ⟨hC1, hF1⟩ := bcell hB2) | (go_at_call 45; refine (l11Good _ _ _ (insS d xs) _ hO1.sl (by omega)).mono ?_; rw [hL]; rintro _ w2 ⟨rfl, hb2⟩; replace hB2 := bel_trans hB2 hb2))
    go_ret
    exact ⟨ret_bool hR.out.symm, by (repeat' (first | (with_reducible exact bel_refl _) | (with_reducible assumption) | (with_reducible refine bel_drew ?_) | (with_reducible refine bel_drewN ?_) | (with_reducible refine bel_alloc ?_) | (with_reducible refine bel_set ?_ ?_) | (with_reducible refine bel_trans ?_ (by with_reducible assumption)) | omega | (simp; done) | (simp; omega)))⟩
  · have hsame : Hid (insS d xs = insS d xs) := rfl
    have hR : Hid (mayB xs r d = (brokenL (insS d xs) d.crew r).isEmpty) := by show _ = _; rw [mayB, hg]; rfl
    have hG := rosterB_all hg
    go_enter Try.func69, Try.ntmps69
    go_wp2_with (first | (go_at_call 46; refine (addS _ _ _ xs d _ (hS.bel (by (repeat' (first | (with_reducible exact bel_refl _) | (with_reducible assumption) | (with_reducible refine bel_drew ?_) | (with_reducible refine bel_drewN ?_) | (with_reducible refine bel_alloc ?_) | (with_reducible refine bel_set ?_ ?_) | (with_reducible refine bel_trans ?_ (by with_reducible assumption)) | omega | (simp; done) | (simp; omega))))) hn).mono ?_; rintro _ w1 ⟨A1, c1, rfl, hO1, hB1⟩; replace hB2 := bel_trans hB2 hB1; obtain ⟨hC1, hF1⟩ := bcell hB2; rw [hsame.out] at hO1) | (go_at_call 45; refine (l11Good _ _ _ (insS d xs) _ hO1.sl (by omega)).mono ?_; rw [hg]; rintro _ w2 ⟨rfl, hb2⟩; replace hB2 := bel_trans hB2 hb2; obtain ⟨hC1, hF1⟩ := bcell hB2) | (go_at_call 71; refine (brokenS _ _ _ (insS d xs) d.crew r _ (hO1.bel hb2).sl (by omega) hG hr).mono ?_; rintro _ w3 ⟨A3, n3, c3, rfl, hO3, hb3⟩; replace hB2 := bel_trans hB2 hb3))
    go_ret
    have hl := words_empty hO3.sl.str_len
    exact ⟨ret_bool (by rw [hR.out, ← hl]), by (repeat' (first | (with_reducible exact bel_refl _) | (with_reducible assumption) | (with_reducible refine bel_drew ?_) | (with_reducible refine bel_drewN ?_) | (with_reducible refine bel_alloc ?_) | (with_reducible refine bel_set ?_ ?_) | (with_reducible refine bel_trans ?_ (by with_reducible assumption)) | omega | (simp; done) | (simp; omega)))⟩

def mayR (xs : List Duty) (r : WorkRule) (d : Duty) : Bool × Bool := if rosterB xs && goodW r && goodD d then (mayB xs r d, true) else (false, false)
set_option maxHeartbeats 1000000 in
theorem mayRI (A : Option Addr) (n c : Nat) (xs : List Duty) (r : WorkRule) (d : Duty) (w : World) (hS : Sl w 3 A n c (xs.flatMap Duty.row)) (hn : n ≤ 1048576) :
    Calls Try.prog 28 #[.slice A n c, .agg #[.int .i64 r.work, .int .i64 r.rest, .int .i64 r.span, .int .i64 r.most], .agg #[.int .i64 d.crew, .int .i64 d.fr, .int .i64 d.til]] w fun e w' => e = .returned (.tuple #[.bool (mayR xs r d).1, .bool (mayR xs r d).2]) ∧ Below w.heap.size w w' := by
  have hB2 := bel_refl ((w.alloc (.cells #[.int .i64 r.work, .int .i64 r.rest, .int .i64 r.span, .int .i64 r.most] 53)).alloc (.cells #[.int .i64 d.crew, .int .i64 d.fr, .int .i64 d.til] 30))
  rcases hall : (rosterB xs && goodW r && goodD d) with _ | _
  · have hR : Hid (mayR xs r d = (false, false)) := by show _ = _; rw [mayR, hall]; rfl
    rcases hg : rosterB xs with _ | _ <;> rcases hh : goodW r with _ | _ <;> rcases hk : goodD d with _ | _
    all_goals first
      | (rw [hg, hh, hk] at hall; cases hall; done)
      | (go_enter Try.func28, Try.ntmps28
         go_wp2_with (first | (go_at_call 26; refine (isRosterI _ _ _ xs _ (hS.bel (by (repeat' (first | (with_reducible exact bel_refl _) | (with_reducible assumption) | (with_reducible refine bel_drew ?_) | (with_reducible refine bel_drewN ?_) | (with_reducible refine bel_alloc ?_) | (with_reducible refine bel_set ?_ ?_) | (with_reducible refine bel_trans ?_ (by with_reducible assumption)) | omega | (simp; done) | (simp; omega))))) (by omega)).mono ?_; rintro _ w1 ⟨rfl, hB1⟩; (first | (with_reducible replace hB2 := bel_trans hB2 hB1) | (with_reducible replace hB2 := bel_trans (bel_alloc hB2) hB1)); obtain ⟨hC1, hF1⟩ := bcell hB2; replace hB1 := hB1) | (go_at_call 65; refine (isWorkRule r _).mono ?_; rintro _ w1 ⟨rfl, hB1⟩; (first | (with_reducible replace hB2 := bel_trans hB2 hB1) | (with_reducible replace hB2 := bel_trans (bel_alloc hB2) hB1)); obtain ⟨hC1, hF1⟩ := bcell hB2; replace hB1 := hB1) | (go_at_call 63; refine (isDuty d _).mono ?_; rintro _ w1 ⟨rfl, hB1⟩; (first | (with_reducible replace hB2 := bel_trans hB2 hB1) | (with_reducible replace hB2 := bel_trans (bel_alloc hB2) hB1)); obtain ⟨hC1, hF1⟩ := bcell hB2; replace hB1 := hB1))
         go_ret2
         exact ⟨by rw [hR.out]; rfl, by (repeat' (first | (with_reducible exact bel_refl _) | (with_reducible assumption) | (with_reducible refine bel_drew ?_) | (with_reducible refine bel_drewN ?_) | (with_reducible refine bel_alloc ?_) | (with_reducible refine bel_set ?_ ?_) | (with_reducible refine bel_trans ?_ (by with_reducible assumption)) | omega | (simp; done) | (simp; omega)))⟩)
  · have hR : Hid (mayR xs r d = (mayB xs r d, true)) := by show _ = _; rw [mayR, hall]; rfl
    simp only [Bool.and_eq_true] at hall
    obtain ⟨⟨hg, hh⟩, hk⟩ := hall
    go_enter Try.func28, Try.ntmps28
    go_wp2_with (first | (first | (go_at_call 26; refine (isRosterI _ _ _ xs _ (hS.bel (by (repeat' (first | (with_reducible exact bel_refl _) | (with_reducible assumption) | (with_reducible refine bel_drew ?_) | (with_reducible refine bel_drewN ?_) | (with_reducible refine bel_alloc ?_) | (with_reducible refine bel_set ?_ ?_) | (with_reducible refine bel_trans ?_ (by with_reducible assumption)) | omega | (simp; done) | (simp; omega))))) (by omega)).mono ?_; rintro _ w1 ⟨rfl, hB1⟩; (first | (with_reducible replace hB2 := bel_trans hB2 hB1) | (with_reducible replace hB2 := bel_trans (bel_alloc hB2) hB1)); obtain ⟨hC1, hF1⟩ := bcell hB2; replace hB1 := hB1) | (go_at_call 65; refine (isWorkRule r _).mono ?_; rintro _ w1 ⟨rfl, hB1⟩; (first | (with_reducible replace hB2 := bel_trans hB2 hB1) | (with_reducible replace hB2 := bel_trans (bel_alloc hB2) hB1)); obtain ⟨hC1, hF1⟩ := bcell hB2; replace hB1 := hB1) | (go_at_call 63; refine (isDuty d _).mono ?_; rintro _ w1 ⟨rfl, hB1⟩; (first | (with_reducible replace hB2 := bel_trans hB2 hB1) | (with_reducible replace hB2 := bel_trans (bel_alloc hB2) hB1)); obtain ⟨hC1, hF1⟩ := bcell hB2; replace hB1 := hB1)) | (go_at_call 66; refine (mayI _ _ _ xs r d _ (hS.bel (by (repeat' (first | (with_reducible exact bel_refl _) | (with_reducible assumption) | (with_reducible refine bel_drew ?_) | (with_reducible refine bel_drewN ?_) | (with_reducible refine bel_alloc ?_) | (with_reducible refine bel_set ?_ ?_) | (with_reducible refine bel_trans ?_ (by with_reducible assumption)) | omega | (simp; done) | (simp; omega))))) hg hh).mono ?_; rintro _ w1 ⟨rfl, hB1⟩; (first | (with_reducible replace hB2 := bel_trans hB2 hB1) | (with_reducible replace hB2 := bel_trans (bel_alloc hB2) hB1)); obtain ⟨hC1, hF1⟩ := bcell hB2; replace hB1 := hB1))
    go_ret2
    exact ⟨by rw [hR.out]; rfl, by (repeat' (first | (with_reducible exact bel_refl _) | (with_reducible assumption) | (with_reducible refine bel_drew ?_) | (with_reducible refine bel_drewN ?_) | (with_reducible refine bel_alloc ?_) | (with_reducible refine bel_set ?_ ?_) | (with_reducible refine bel_trans ?_ (by with_reducible assumption)) | omega | (simp; done) | (simp; omega)))⟩

set_option maxHeartbeats 1000000 in
theorem mayRS (A : Option Addr) (n c : Nat) (xs : List Duty) (r : WorkRule) (d : Duty) (w : World) (hS : Sl w 3 A n c (xs.flatMap Duty.row)) (hn : n ≤ 1048576) :
    Calls Try.prog 29 #[.slice A n c, .agg #[.int .i64 r.work, .int .i64 r.rest, .int .i64 r.span, .int .i64 r.most], .agg #[.int .i64 d.crew, .int .i64 d.fr, .int .i64 d.til]] w fun e w' => e = .returned (.tuple #[.bool (mayR xs r d).1, .bool (mayR xs r d).2]) ∧ Below w.heap.size w w' := by
  have hB2 := bel_refl ((w.alloc (.cells #[.int .i64 r.work, .int .i64 r.rest, .int .i64 r.span, .int .i64 r.most] 53)).alloc (.cells #[.int .i64 d.crew, .int .i64 d.fr, .int .i64 d.til] 30))
  rcases hall : (rosterB xs && goodW r && goodD d) with _ | _
  · have hR : Hid (mayR xs r d = (false, false)) := by show _ = _; rw [mayR, hall]; rfl
    rcases hg : rosterB xs with _ | _ <;> rcases hh : goodW r with _ | _ <;> rcases hk : goodD d with _ | _
    all_goals first
      | (rw [hg, hh, hk] at hall; cases hall; done)
      | (go_enter Try.func29, Try.ntmps29
         go_wp2_with (first | (go_at_call 45; refine (l11Good _ _ _ xs _ (hS.bel (by (repeat' (first | (with_reducible exact bel_refl _) | (with_reducible assumption) | (with_reducible refine bel_drew ?_) | (with_reducible refine bel_drewN ?_) | (with_reducible refine bel_alloc ?_) | (with_reducible refine bel_set ?_ ?_) | (with_reducible refine bel_trans ?_ (by with_reducible assumption)) | omega | (simp; done) | (simp; omega))))) (by omega)).mono ?_; rintro _ w1 ⟨rfl, hB1⟩; (first | (with_reducible replace hB2 := bel_trans hB2 hB1) | (with_reducible replace hB2 := bel_trans (bel_alloc hB2) hB1)); obtain ⟨hC1, hF1⟩ := bcell hB2; replace hB1 := hB1) | (go_at_call 67; refine (l11Rule r _).mono ?_; rintro _ w1 ⟨rfl, hB1⟩; (first | (with_reducible replace hB2 := bel_trans hB2 hB1) | (with_reducible replace hB2 := bel_trans (bel_alloc hB2) hB1)); obtain ⟨hC1, hF1⟩ := bcell hB2; replace hB1 := hB1) | (go_at_call 68; refine (l11One d _).mono ?_; rintro _ w1 ⟨rfl, hB1⟩; (first | (with_reducible replace hB2 := bel_trans hB2 hB1) | (with_reducible replace hB2 := bel_trans (bel_alloc hB2) hB1)); obtain ⟨hC1, hF1⟩ := bcell hB2; replace hB1 := hB1))
         go_ret2
         exact ⟨by rw [hR.out]; rfl, by (repeat' (first | (with_reducible exact bel_refl _) | (with_reducible assumption) | (with_reducible refine bel_drew ?_) | (with_reducible refine bel_drewN ?_) | (with_reducible refine bel_alloc ?_) | (with_reducible refine bel_set ?_ ?_) | (with_reducible refine bel_trans ?_ (by with_reducible assumption)) | omega | (simp; done) | (simp; omega)))⟩)
  · have hR : Hid (mayR xs r d = (mayB xs r d, true)) := by show _ = _; rw [mayR, hall]; rfl
    simp only [Bool.and_eq_true] at hall
    obtain ⟨⟨hg, hh⟩, hk⟩ := hall
    go_enter Try.func29, Try.ntmps29
    go_wp2_with (first | (first | (go_at_call 45; refine (l11Good _ _ _ xs _ (hS.bel (by (repeat' (first | (with_reducible exact bel_refl _) | (with_reducible assumption) | (with_reducible refine bel_drew ?_) | (with_reducible refine bel_drewN ?_) | (with_reducible refine bel_alloc ?_) | (with_reducible refine bel_set ?_ ?_) | (with_reducible refine bel_trans ?_ (by with_reducible assumption)) | omega | (simp; done) | (simp; omega))))) (by omega)).mono ?_; rintro _ w1 ⟨rfl, hB1⟩; (first | (with_reducible replace hB2 := bel_trans hB2 hB1) | (with_reducible replace hB2 := bel_trans (bel_alloc hB2) hB1)); obtain ⟨hC1, hF1⟩ := bcell hB2; replace hB1 := hB1) | (go_at_call 67; refine (l11Rule r _).mono ?_; rintro _ w1 ⟨rfl, hB1⟩; (first | (with_reducible replace hB2 := bel_trans hB2 hB1) | (with_reducible replace hB2 := bel_trans (bel_alloc hB2) hB1)); obtain ⟨hC1, hF1⟩ := bcell hB2; replace hB1 := hB1) | (go_at_call 68; refine (l11One d _).mono ?_; rintro _ w1 ⟨rfl, hB1⟩; (first | (with_reducible replace hB2 := bel_trans hB2 hB1) | (with_reducible replace hB2 := bel_trans (bel_alloc hB2) hB1)); obtain ⟨hC1, hF1⟩ := bcell hB2; replace hB1 := hB1)) | (go_at_call 69; refine (mayS _ _ _ xs r d _ (hS.bel (by (repeat' (first | (with_reducible exact bel_refl _) | (with_reducible assumption) | (with_reducible refine bel_drew ?_) | (with_reducible refine bel_drewN ?_) | (with_reducible refine bel_alloc ?_) | (with_reducible refine bel_set ?_ ?_) | (with_reducible refine bel_trans ?_ (by with_reducible assumption)) | omega | (simp; done) | (simp; omega))))) hg hh).mono ?_; rintro _ w1 ⟨rfl, hB1⟩; (first | (with_reducible replace hB2 := bel_trans hB2 hB1) | (with_reducible replace hB2 := bel_trans (bel_alloc hB2) hB1)); obtain ⟨hC1, hF1⟩ := bcell hB2; replace hB1 := hB1))
    go_ret2
    exact ⟨by rw [hR.out]; rfl, by (repeat' (first | (with_reducible exact bel_refl _) | (with_reducible assumption) | (with_reducible refine bel_drew ?_) | (with_reducible refine bel_drewN ?_) | (with_reducible refine bel_alloc ?_) | (with_reducible refine bel_set ?_ ?_) | (with_reducible refine bel_trans ?_ (by with_reducible assumption)) | omega | (simp; done) | (simp; omega)))⟩

def nextU (xs : List Duty) (r : WorkRule) (cr hh : Int) : Nat → Int → Int × Bool
  | 0, _ => (0, false)
  | k + 1, h => if h + hh ≤ 500 then (if mayB xs r ⟨cr, h, h + hh⟩ then (h, true) else nextU xs r cr hh k (h + 1)) else (0, false)
def nextR (xs : List Duty) (r : WorkRule) (cr f hh : Int) : Int × Bool := if rosterB xs && goodW r && inB cr 1 20 && inB f 0 500 && inB hh 1 48 then nextU xs r cr hh 501 f else (0, false)
theorem next_no {xs : List Duty} {r : WorkRule} {cr hh h : Int} {k : Nat} (h0 : ¬ h + hh ≤ 500) : nextU xs r cr hh k h = (0, false) := by
  rcases k with _ | k
  · rfl
  · rw [nextU, if_neg h0]
theorem next_yes {xs : List Duty} {r : WorkRule} {cr hh h : Int} {k : Nat} (h0 : h + hh ≤ 500) (hm : mayB xs r ⟨cr, h, h + hh⟩ = true) : nextU xs r cr hh (k + 1) h = (h, true) := by
  rw [nextU, if_pos h0, if_pos hm]
theorem next_go {xs : List Duty} {r : WorkRule} {cr hh h : Int} {k : Nat} (h0 : h + hh ≤ 500) (hm : mayB xs r ⟨cr, h, h + hh⟩ = false) : nextU xs r cr hh (k + 1) h = nextU xs r cr hh k (h + 1) := by
  rw [nextU, if_pos h0, hm]; simp
set_option maxHeartbeats 2000000 in
theorem nextRI (A : Option Addr) (n c : Nat) (xs : List Duty) (r : WorkRule) (cr f hh : Int) (w : World) (hS : Sl w 3 A n c (xs.flatMap Duty.row)) (hn : n ≤ 1048576) :
    Calls Try.prog 36 #[.slice A n c, .agg #[.int .i64 r.work, .int .i64 r.rest, .int .i64 r.span, .int .i64 r.most], .int .i64 cr, .int .i64 f, .int .i64 hh] w fun e w' => e = .returned (.tuple #[.int .i64 (nextR xs r cr f hh).1, .bool (nextR xs r cr f hh).2]) ∧ Below w.heap.size w w' := by
  have hB2 := bel_refl (w.alloc (.cells #[.int .i64 r.work, .int .i64 r.rest, .int .i64 r.span, .int .i64 r.most] 53))
  rcases hall : (rosterB xs && goodW r && inB cr 1 20 && inB f 0 500 && inB hh 1 48) with _ | _
  · have hR : Hid (nextR xs r cr f hh = (0, false)) := by show _ = _; rw [nextR, hall]; rfl
    rcases hg : rosterB xs with _ | _ <;> rcases hk : inB cr 1 20 with _ | _ <;> rcases hw : goodW r with _ | _ <;> rcases hf : inB f 0 500 with _ | _ <;> rcases hz : inB hh 1 48 with _ | _
    all_goals first
      | (rw [hg, hk, hw, hf, hz] at hall; cases hall; done)
      | (go_enter Try.func36, Try.ntmps36
         go_wp2_with (first | (go_at_call 26; refine (isRosterI _ _ _ xs _ (hS.bel (by (repeat' (first | (with_reducible exact bel_refl _) | (with_reducible assumption) | (with_reducible refine bel_drew ?_) | (with_reducible refine bel_drewN ?_) | (with_reducible refine bel_alloc ?_) | (with_reducible refine bel_set ?_ ?_) | (with_reducible refine bel_trans ?_ (by with_reducible assumption)) | omega | (simp; done) | (simp; omega))))) (by omega)).mono ?_; rintro _ w1 ⟨rfl, hB1⟩; (first | (with_reducible replace hB2 := bel_trans hB2 hB1) | (with_reducible replace hB2 := bel_trans (bel_alloc hB2) hB1)); obtain ⟨hC1, hF1⟩ := bcell hB2; replace hB1 := hB1) | (go_at_call 65; refine (isWorkRule r _).mono ?_; rintro _ w1 ⟨rfl, hB1⟩; (first | (with_reducible replace hB2 := bel_trans hB2 hB1) | (with_reducible replace hB2 := bel_trans (bel_alloc hB2) hB1)); obtain ⟨hC1, hF1⟩ := bcell hB2; replace hB1 := hB1) | (go_at_call 51; refine (isWorker _ _).mono ?_; rintro _ w1 ⟨rfl, rfl⟩) | (go_at_call 59; refine (isIn _ _ _ _).mono ?_; rintro _ w1 ⟨rfl, rfl⟩))
         go_ret2
         exact ⟨by rw [hR.out]; rfl, by (repeat' (first | (with_reducible exact bel_refl _) | (with_reducible assumption) | (with_reducible refine bel_drew ?_) | (with_reducible refine bel_drewN ?_) | (with_reducible refine bel_alloc ?_) | (with_reducible refine bel_set ?_ ?_) | (with_reducible refine bel_trans ?_ (by with_reducible assumption)) | omega | (simp; done) | (simp; omega)))⟩)
  · have hR : Hid (nextR xs r cr f hh = nextU xs r cr hh 501 f) := by show _ = _; rw [nextR, hall]; rfl
    simp only [Bool.and_eq_true] at hall
    obtain ⟨⟨⟨⟨hg, hw⟩, hk⟩, hf⟩, hz⟩ := hall
    have hfb := inB_iff.1 hf
    have hzb := inB_iff.1 hz
    obtain ⟨T, hT⟩ : ∃ T, nextU xs r cr hh 501 f = T := ⟨_, rfl⟩
    rw [hT] at hR
    replace hT := hid hT
    obtain ⟨K, hK⟩ : ∃ K : Nat, K = 501 := ⟨_, rfl⟩
    rw [← hK] at hT
    replace hK := hid hK
    go_enter Try.func36, Try.ntmps36
    go_wp2_with (first | (go_at_call 26; refine (isRosterI _ _ _ xs _ (hS.bel (by (repeat' (first | (with_reducible exact bel_refl _) | (with_reducible assumption) | (with_reducible refine bel_drew ?_) | (with_reducible refine bel_drewN ?_) | (with_reducible refine bel_alloc ?_) | (with_reducible refine bel_set ?_ ?_) | (with_reducible refine bel_trans ?_ (by with_reducible assumption)) | omega | (simp; done) | (simp; omega))))) (by omega)).mono ?_; rintro _ w1 ⟨rfl, hB1⟩; (first | (with_reducible replace hB2 := bel_trans hB2 hB1) | (with_reducible replace hB2 := bel_trans (bel_alloc hB2) hB1)); obtain ⟨hC1, hF1⟩ := bcell hB2; replace hB1 := hB1) | (go_at_call 65; refine (isWorkRule r _).mono ?_; rintro _ w1 ⟨rfl, hB1⟩; (first | (with_reducible replace hB2 := bel_trans hB2 hB1) | (with_reducible replace hB2 := bel_trans (bel_alloc hB2) hB1)); obtain ⟨hC1, hF1⟩ := bcell hB2; replace hB1 := hB1) | (go_at_call 51; refine (isWorker _ _).mono ?_; rintro _ w1 ⟨rfl, rfl⟩) | (go_at_call 59; refine (isIn _ _ _ _).mono ?_; rintro _ w1 ⟨rfl, rfl⟩))
    have hB0 := hB2
    go_loopw [12] (fun v wr => ∃ (i : Nat), i < K ∧ v = .int .i64 (f + i) ∧ Hid (nextU xs r cr hh (K - i) (f + i) = T) ∧ Below (w.alloc (.cells #[.int .i64 r.work, .int .i64 r.rest, .int .i64 r.span, .int .i64 r.most] 53)).heap.size (w.alloc (.cells #[.int .i64 r.work, .int .i64 r.rest, .int .i64 r.span, .int .i64 r.most] 53)) wr) (fun v _ => 1001 - (intOf v).toNat)
    case atStart => exact ⟨0, by have := hK.out; omega, by simp, by simpa using hT, hB0⟩
    case round =>
      obtain ⟨i, hi', rfl, hnx, hB2⟩ := hrel
      obtain ⟨hC1, hF1⟩ := bcell hB2
      obtain ⟨h, hh2⟩ : ∃ h, f + (i : Int) = h := ⟨_, rfl⟩
      rw [hh2] at hnx ⊢
      have hh0 : 0 ≤ h := by omega
      have hh1 : h ≤ 1001 := by have := hK.out; omega
      replace hi' := hid hi'
      replace hh2 := hid hh2
      by_cases hlt : h + hh ≤ 500
      · rcases hm : mayB xs r ⟨cr, h, h + hh⟩ with _ | _
        · go_wp2_with (go_at_call 66; refine (mayI _ _ _ xs r ⟨cr, h, h + hh⟩ _ (hS.bel (bel_trans (bel_alloc (bel_refl w)) hB2)) hg hw).mono ?_; rw [hm]; rintro _ w2 ⟨rfl, hb2⟩; replace hB2 := bel_trans hB2 hb2)
          go_roundw
          case rel => exact ⟨i + 1, (by have := hh2.out; have := hK.out; omega), by rw [← hh2.out]; push_cast; rw [Int.add_assoc], (by
            show _ = _
            have e1 : K - i = (K - (i + 1)) + 1 := by have := hi'.out; omega
            have e2 : f + ((i + 1 : Nat) : Int) = h + 1 := by have := hh2.out; omega
            rw [e2, ← next_go hlt hm, ← e1]
            exact hnx.out), hB2⟩
          case measure => simp [intOf]; omega
        · go_wp2_with (go_at_call 66; refine (mayI _ _ _ xs r ⟨cr, h, h + hh⟩ _ (hS.bel (bel_trans (bel_alloc (bel_refl w)) hB2)) hg hw).mono ?_; rw [hm]; rintro _ w2 ⟨rfl, hb2⟩; replace hB2 := bel_trans hB2 hb2)
          go_ret2
          have e1 : K - i = (K - (i + 1)) + 1 := by have := hi'.out; omega
          have e3 := hnx.out
          rw [e1, next_yes hlt hm] at e3
          exact ⟨by rw [hR.out, ← e3]; rfl, by (repeat' (first | (with_reducible exact bel_refl _) | (with_reducible assumption) | (with_reducible refine bel_drew ?_) | (with_reducible refine bel_drewN ?_) | (with_reducible refine bel_alloc ?_) | (with_reducible refine bel_set ?_ ?_) | (with_reducible refine bel_trans ?_ (by with_reducible assumption)) | omega | (simp; done) | (simp; omega)))⟩
      · go_wp2
        go_ret2
        have e3 := hnx.out
        rw [next_no (by omega)] at e3
        exact ⟨by rw [hR.out, ← e3]; rfl, by (repeat' (first | (with_reducible exact bel_refl _) | (with_reducible assumption) | (with_reducible refine bel_drew ?_) | (with_reducible refine bel_drewN ?_) | (with_reducible refine bel_alloc ?_) | (with_reducible refine bel_set ?_ ?_) | (with_reducible refine bel_trans ?_ (by with_reducible assumption)) | omega | (simp; done) | (simp; omega)))⟩

set_option maxHeartbeats 2000000 in
theorem nextRS (A : Option Addr) (n c : Nat) (xs : List Duty) (r : WorkRule) (cr f hh : Int) (w : World) (hS : Sl w 3 A n c (xs.flatMap Duty.row)) (hn : n ≤ 1048576) :
    Calls Try.prog 37 #[.slice A n c, .agg #[.int .i64 r.work, .int .i64 r.rest, .int .i64 r.span, .int .i64 r.most], .int .i64 cr, .int .i64 f, .int .i64 hh] w fun e w' => e = .returned (.tuple #[.int .i64 (nextR xs r cr f hh).1, .bool (nextR xs r cr f hh).2]) ∧ Below w.heap.size w w' := by
  have hB2 := bel_refl (w.alloc (.cells #[.int .i64 r.work, .int .i64 r.rest, .int .i64 r.span, .int .i64 r.most] 53))
  rcases hall : (rosterB xs && goodW r && inB cr 1 20 && inB f 0 500 && inB hh 1 48) with _ | _
  · have hR : Hid (nextR xs r cr f hh = (0, false)) := by show _ = _; rw [nextR, hall]; rfl
    rcases hg : rosterB xs with _ | _ <;> rcases hk : inB cr 1 20 with _ | _ <;> rcases hw : goodW r with _ | _ <;> rcases hf : inB f 0 500 with _ | _ <;> rcases hz : inB hh 1 48 with _ | _
    all_goals first
      | (rw [hg, hk, hw, hf, hz] at hall; cases hall; done)
      | (go_enter Try.func37, Try.ntmps37
         go_wp2_with (first | (go_at_call 53; refine (l11Asked _ _ _ xs _ _ (hS.bel (by (repeat' (first | (with_reducible exact bel_refl _) | (with_reducible assumption) | (with_reducible refine bel_drew ?_) | (with_reducible refine bel_drewN ?_) | (with_reducible refine bel_alloc ?_) | (with_reducible refine bel_set ?_ ?_) | (with_reducible refine bel_trans ?_ (by with_reducible assumption)) | omega | (simp; done) | (simp; omega))))) hn).mono ?_; rintro _ w1 ⟨rfl, hB1⟩; (first | (with_reducible replace hB2 := bel_trans hB2 hB1) | (with_reducible replace hB2 := bel_trans (bel_alloc hB2) hB1)); obtain ⟨hC1, hF1⟩ := bcell hB2; replace hB1 := hB1) | (go_at_call 67; refine (l11Rule r _).mono ?_; rintro _ w1 ⟨rfl, hB1⟩; (first | (with_reducible replace hB2 := bel_trans hB2 hB1) | (with_reducible replace hB2 := bel_trans (bel_alloc hB2) hB1)); obtain ⟨hC1, hF1⟩ := bcell hB2; replace hB1 := hB1) | (go_at_call 73; refine (l1In _ _ _ _).mono ?_; rintro _ w1 ⟨rfl, rfl⟩))
         go_ret2
         exact ⟨by rw [hR.out]; rfl, by (repeat' (first | (with_reducible exact bel_refl _) | (with_reducible assumption) | (with_reducible refine bel_drew ?_) | (with_reducible refine bel_drewN ?_) | (with_reducible refine bel_alloc ?_) | (with_reducible refine bel_set ?_ ?_) | (with_reducible refine bel_trans ?_ (by with_reducible assumption)) | omega | (simp; done) | (simp; omega)))⟩)
  · have hR : Hid (nextR xs r cr f hh = nextU xs r cr hh 501 f) := by show _ = _; rw [nextR, hall]; rfl
    simp only [Bool.and_eq_true] at hall
    obtain ⟨⟨⟨⟨hg, hw⟩, hk⟩, hf⟩, hz⟩ := hall
    have hfb := inB_iff.1 hf
    have hzb := inB_iff.1 hz
    obtain ⟨T, hT⟩ : ∃ T, nextU xs r cr hh 501 f = T := ⟨_, rfl⟩
    rw [hT] at hR
    replace hT := hid hT
    obtain ⟨K, hK⟩ : ∃ K : Nat, K = 501 := ⟨_, rfl⟩
    rw [← hK] at hT
    replace hK := hid hK
    go_enter Try.func37, Try.ntmps37
    go_wp2_with (first | (go_at_call 53; refine (l11Asked _ _ _ xs _ _ (hS.bel (by (repeat' (first | (with_reducible exact bel_refl _) | (with_reducible assumption) | (with_reducible refine bel_drew ?_) | (with_reducible refine bel_drewN ?_) | (with_reducible refine bel_alloc ?_) | (with_reducible refine bel_set ?_ ?_) | (with_reducible refine bel_trans ?_ (by with_reducible assumption)) | omega | (simp; done) | (simp; omega))))) hn).mono ?_; rintro _ w1 ⟨rfl, hB1⟩; (first | (with_reducible replace hB2 := bel_trans hB2 hB1) | (with_reducible replace hB2 := bel_trans (bel_alloc hB2) hB1)); obtain ⟨hC1, hF1⟩ := bcell hB2; replace hB1 := hB1) | (go_at_call 67; refine (l11Rule r _).mono ?_; rintro _ w1 ⟨rfl, hB1⟩; (first | (with_reducible replace hB2 := bel_trans hB2 hB1) | (with_reducible replace hB2 := bel_trans (bel_alloc hB2) hB1)); obtain ⟨hC1, hF1⟩ := bcell hB2; replace hB1 := hB1) | (go_at_call 73; refine (l1In _ _ _ _).mono ?_; rintro _ w1 ⟨rfl, rfl⟩))
    have hB0 := hB2
    go_loopw [12] (fun v wr => ∃ (i : Nat), i < K ∧ v = .int .i64 (f + i) ∧ Hid (nextU xs r cr hh (K - i) (f + i) = T) ∧ Below (w.alloc (.cells #[.int .i64 r.work, .int .i64 r.rest, .int .i64 r.span, .int .i64 r.most] 53)).heap.size (w.alloc (.cells #[.int .i64 r.work, .int .i64 r.rest, .int .i64 r.span, .int .i64 r.most] 53)) wr) (fun v _ => 1001 - (intOf v).toNat)
    case atStart => exact ⟨0, by have := hK.out; omega, by simp, by simpa using hT, hB0⟩
    case round =>
      obtain ⟨i, hi', rfl, hnx, hB2⟩ := hrel
      obtain ⟨hC1, hF1⟩ := bcell hB2
      obtain ⟨h, hh2⟩ : ∃ h, f + (i : Int) = h := ⟨_, rfl⟩
      rw [hh2] at hnx ⊢
      have hh0 : 0 ≤ h := by omega
      have hh1 : h ≤ 1001 := by have := hK.out; omega
      replace hi' := hid hi'
      replace hh2 := hid hh2
      by_cases hlt : h + hh ≤ 500
      · rcases hm : mayB xs r ⟨cr, h, h + hh⟩ with _ | _
        · go_wp2_with (go_at_call 69; refine (mayS _ _ _ xs r ⟨cr, h, h + hh⟩ _ (hS.bel (bel_trans (bel_alloc (bel_refl w)) hB2)) hg hw).mono ?_; rw [hm]; rintro _ w2 ⟨rfl, hb2⟩; replace hB2 := bel_trans hB2 hb2)
          go_roundw
          case rel => exact ⟨i + 1, (by have := hh2.out; have := hK.out; omega), by rw [← hh2.out]; push_cast; rw [Int.add_assoc], (by
            show _ = _
            have e1 : K - i = (K - (i + 1)) + 1 := by have := hi'.out; omega
            have e2 : f + ((i + 1 : Nat) : Int) = h + 1 := by have := hh2.out; omega
            rw [e2, ← next_go hlt hm, ← e1]
            exact hnx.out), hB2⟩
          case measure => simp [intOf]; omega
        · go_wp2_with (go_at_call 69; refine (mayS _ _ _ xs r ⟨cr, h, h + hh⟩ _ (hS.bel (bel_trans (bel_alloc (bel_refl w)) hB2)) hg hw).mono ?_; rw [hm]; rintro _ w2 ⟨rfl, hb2⟩; replace hB2 := bel_trans hB2 hb2)
          go_ret2
          have e1 : K - i = (K - (i + 1)) + 1 := by have := hi'.out; omega
          have e3 := hnx.out
          rw [e1, next_yes hlt hm] at e3
          exact ⟨by rw [hR.out, ← e3]; rfl, by (repeat' (first | (with_reducible exact bel_refl _) | (with_reducible assumption) | (with_reducible refine bel_drew ?_) | (with_reducible refine bel_drewN ?_) | (with_reducible refine bel_alloc ?_) | (with_reducible refine bel_set ?_ ?_) | (with_reducible refine bel_trans ?_ (by with_reducible assumption)) | omega | (simp; done) | (simp; omega)))⟩
      · go_wp2
        go_ret2
        have e3 := hnx.out
        rw [next_no (by omega)] at e3
        exact ⟨by rw [hR.out, ← e3]; rfl, by (repeat' (first | (with_reducible exact bel_refl _) | (with_reducible assumption) | (with_reducible refine bel_drew ?_) | (with_reducible refine bel_drewN ?_) | (with_reducible refine bel_alloc ?_) | (with_reducible refine bel_set ?_ ?_) | (with_reducible refine bel_trans ?_ (by with_reducible assumption)) | omega | (simp; done) | (simp; omega)))⟩

end Go.Proofs.Ytlffolfooiijhaa
