/-
  The exported functions on crews that return numbers, of the program and of the reference, walked.
-/
import Derived.Test.YthbjgccldoofgaaCrewList
namespace Go.Proofs.Ythbjgccldoofgaa
open Go.RowKit

def builtR (x : Crew) (h : Int) : Int × Bool := if goodC x && inB h 0 240 then (builtN x h.toNat, true) else (0, false)
def hoursForR (x : Crew) (m : Int) : Int × Bool := if goodC x && inB m 0 20000 then hoursR [x] m else (0, false)
def togetherR (xs : List Crew) (h : Int) : Int × Bool := if listC xs && inB h 0 240 then (togetherN xs h.toNat, true) else (0, false)
def hoursTR (xs : List Crew) (m : Int) : Int × Bool := if listC xs && inB m 0 20000 then hoursR xs m else (0, false)
def metresR (x : Crew) : List Int × Bool := if goodC x then (shiftL x, true) else ([], false)

theorem one_sl {w : World} {x : Crew} : Sl (w.alloc (.cells #[.int .i64 x.id, .int .i64 x.rate, .int .i64 x.tires, .int .i64 x.shift, .int .i64 x.start] 25)) 5 (some ⟨w.heap.size, 0, none⟩) 1 1 ([x].flatMap Crew.row) :=
  ⟨by simp [Crew.row], by omega, by simp [maxLen], fun _ => ⟨_, _, rfl, by simp, fun j v hv => by
    rw [Nat.zero_add, cell_of_row _ _ j _ _ (0, 0) (heap_alloc_new w _)]
    simpa [Crew.row] using hv⟩⟩
theorem one_all {x : Crew} (h : goodC x = true) : allC [x] := fun i y hy => by
  rcases i with _ | i
  · simp only [List.getElem?_cons_zero, Option.some.injEq] at hy
    rw [← hy]; exact h
  · simp at hy
theorem one_together (x : Crew) (h : Nat) : togetherN [x] h = builtN x h := by simp [togetherN]
theorem listC_all {xs : List Crew} (h : listC xs = true) : allC xs := fun i x hx => by
  rw [listC, Bool.and_eq_true] at h
  exact good_of h.1 hx
theorem listC_len {xs : List Crew} (h : listC xs = true) : xs.length ≤ 6 := by
  rw [listC, Bool.and_eq_true] at h
  exact of_decide_eq_true h.2

theorem builtByS (x : Crew) (h : Int) (w : World) :
    Calls Try.prog 8 #[.agg #[.int .i64 x.id, .int .i64 x.rate, .int .i64 x.tires, .int .i64 x.shift, .int .i64 x.start], .int .i64 h] w fun e w' => e = .returned (.tuple #[.int .i64 (builtR x h).1, .bool (builtR x h).2]) ∧ Below w.heap.size w w' := by
  have hB2 := bel_refl (w.alloc (.cells #[.int .i64 x.id, .int .i64 x.rate, .int .i64 x.tires, .int .i64 x.shift, .int .i64 x.start] 25))
  rcases hg : goodC x with _ | _
  · go_enter Try.func8, Try.ntmps8
    go_wp2_with (first | (go_at_call 36; refine (l10Good _ _).mono ?_; rintro _ w1 ⟨rfl, hB1⟩; (first | (with_reducible replace hB2 := bel_trans hB2 hB1) | (with_reducible replace hB2 := bel_trans (bel_alloc hB2) hB1)); obtain ⟨hC1, hF1⟩ := bcell hB2; replace hB1 := hB1))
    go_ret2
    refine ⟨?_, by (repeat' (first | (with_reducible exact bel_refl _) | (with_reducible assumption) | (with_reducible refine bel_drew ?_) | (with_reducible refine bel_drewN ?_) | (with_reducible refine bel_alloc ?_) | (with_reducible refine bel_set ?_ ?_) | (with_reducible refine bel_trans ?_ (by with_reducible assumption)) | omega | (simp; done) | (simp; omega)))⟩
    simp [builtR, hg]
  · have hG := hid hg
    rcases hh : inB h 0 240 with _ | _
    · go_enter Try.func8, Try.ntmps8
      go_wp2_with (first | (go_at_call 36; refine (l10Good _ _).mono ?_; rintro _ w1 ⟨rfl, hB1⟩; (first | (with_reducible replace hB2 := bel_trans hB2 hB1) | (with_reducible replace hB2 := bel_trans (bel_alloc hB2) hB1)); obtain ⟨hC1, hF1⟩ := bcell hB2; replace hB1 := hB1) | (go_at_call 37; refine (l10Hour _ _).mono ?_; rintro _ w1 ⟨rfl, rfl⟩))
      go_ret2
      refine ⟨?_, by (repeat' (first | (with_reducible exact bel_refl _) | (with_reducible assumption) | (with_reducible refine bel_drew ?_) | (with_reducible refine bel_drewN ?_) | (with_reducible refine bel_alloc ?_) | (with_reducible refine bel_set ?_ ?_) | (with_reducible refine bel_trans ?_ (by with_reducible assumption)) | omega | (simp; done) | (simp; omega)))⟩
      simp [builtR, hg, hh]
    · obtain ⟨h0, h1⟩ := inB_iff.1 hh
      obtain ⟨H, rfl⟩ := Int.eq_ofNat_of_zero_le h0
      go_enter Try.func8, Try.ntmps8
      go_wp2_with (first | (go_at_call 36; refine (l10Good _ _).mono ?_; rintro _ w1 ⟨rfl, hB1⟩; (first | (with_reducible replace hB2 := bel_trans hB2 hB1) | (with_reducible replace hB2 := bel_trans (bel_alloc hB2) hB1)); obtain ⟨hC1, hF1⟩ := bcell hB2; replace hB1 := hB1) | (go_at_call 37; refine (l10Hour _ _).mono ?_; rintro _ w1 ⟨rfl, rfl⟩) | (go_at_call 38; refine (l10Built _ _ _ hG.out (by omega)).mono ?_; rintro _ w1 ⟨rfl, hB1⟩; (first | (with_reducible replace hB2 := bel_trans hB2 hB1) | (with_reducible replace hB2 := bel_trans (bel_alloc hB2) hB1)); obtain ⟨hC1, hF1⟩ := bcell hB2; replace hB1 := hB1))
      go_ret2
      refine ⟨?_, by (repeat' (first | (with_reducible exact bel_refl _) | (with_reducible assumption) | (with_reducible refine bel_drew ?_) | (with_reducible refine bel_drewN ?_) | (with_reducible refine bel_alloc ?_) | (with_reducible refine bel_set ?_ ?_) | (with_reducible refine bel_trans ?_ (by with_reducible assumption)) | omega | (simp; done) | (simp; omega)))⟩
      first | (simp [builtR, hg, hh]; done) | simp [builtR, hg, hh, one_together]

theorem builtByI (x : Crew) (h : Int) (w : World) :
    Calls Try.prog 7 #[.agg #[.int .i64 x.id, .int .i64 x.rate, .int .i64 x.tires, .int .i64 x.shift, .int .i64 x.start], .int .i64 h] w fun e w' => e = .returned (.tuple #[.int .i64 (builtR x h).1, .bool (builtR x h).2]) ∧ Below w.heap.size w w' := by
  have hB2 := bel_refl (w.alloc (.cells #[.int .i64 x.id, .int .i64 x.rate, .int .i64 x.tires, .int .i64 x.shift, .int .i64 x.start] 25))
  rcases hg : goodC x with _ | _
  · go_enter Try.func7, Try.ntmps7
    go_wp2_with (first | (go_at_call 12; refine (isCrewI _ _).mono ?_; rintro _ w1 ⟨rfl, hB1⟩; (first | (with_reducible replace hB2 := bel_trans hB2 hB1) | (with_reducible replace hB2 := bel_trans (bel_alloc hB2) hB1)); obtain ⟨hC1, hF1⟩ := bcell hB2; replace hB1 := hB1))
    go_ret2
    refine ⟨?_, by (repeat' (first | (with_reducible exact bel_refl _) | (with_reducible assumption) | (with_reducible refine bel_drew ?_) | (with_reducible refine bel_drewN ?_) | (with_reducible refine bel_alloc ?_) | (with_reducible refine bel_set ?_ ?_) | (with_reducible refine bel_trans ?_ (by with_reducible assumption)) | omega | (simp; done) | (simp; omega)))⟩
    simp [builtR, hg]
  · have hG := hid hg
    rcases hh : inB h 0 240 with _ | _
    · go_enter Try.func7, Try.ntmps7
      go_wp2_with (first | (go_at_call 12; refine (isCrewI _ _).mono ?_; rintro _ w1 ⟨rfl, hB1⟩; (first | (with_reducible replace hB2 := bel_trans hB2 hB1) | (with_reducible replace hB2 := bel_trans (bel_alloc hB2) hB1)); obtain ⟨hC1, hF1⟩ := bcell hB2; replace hB1 := hB1) | (go_at_call 34; refine (isIn _ _ _ _).mono ?_; rintro _ w1 ⟨rfl, rfl⟩))
      go_ret2
      refine ⟨?_, by (repeat' (first | (with_reducible exact bel_refl _) | (with_reducible assumption) | (with_reducible refine bel_drew ?_) | (with_reducible refine bel_drewN ?_) | (with_reducible refine bel_alloc ?_) | (with_reducible refine bel_set ?_ ?_) | (with_reducible refine bel_trans ?_ (by with_reducible assumption)) | omega | (simp; done) | (simp; omega)))⟩
      simp [builtR, hg, hh]
    · obtain ⟨h0, h1⟩ := inB_iff.1 hh
      obtain ⟨H, rfl⟩ := Int.eq_ofNat_of_zero_le h0
      go_enter Try.func7, Try.ntmps7
      go_wp2_with (first | (go_at_call 12; refine (isCrewI _ _).mono ?_; rintro _ w1 ⟨rfl, hB1⟩; (first | (with_reducible replace hB2 := bel_trans hB2 hB1) | (with_reducible replace hB2 := bel_trans (bel_alloc hB2) hB1)); obtain ⟨hC1, hF1⟩ := bcell hB2; replace hB1 := hB1) | (go_at_call 34; refine (isIn _ _ _ _).mono ?_; rintro _ w1 ⟨rfl, rfl⟩) | (go_at_call 35; refine (builtI _ _ _ [x] _ _ one_sl (by omega) (one_all hG.out) (by omega)).mono ?_; rintro _ w1 ⟨rfl, hB1⟩; (first | (with_reducible replace hB2 := bel_trans hB2 hB1) | (with_reducible replace hB2 := bel_trans (bel_alloc hB2) hB1)); obtain ⟨hC1, hF1⟩ := bcell hB2; replace hB1 := hB1))
      go_ret2
      refine ⟨?_, by (repeat' (first | (with_reducible exact bel_refl _) | (with_reducible assumption) | (with_reducible refine bel_drew ?_) | (with_reducible refine bel_drewN ?_) | (with_reducible refine bel_alloc ?_) | (with_reducible refine bel_set ?_ ?_) | (with_reducible refine bel_trans ?_ (by with_reducible assumption)) | omega | (simp; done) | (simp; omega)))⟩
      first | (simp [builtR, hg, hh]; done) | simp [builtR, hg, hh, one_together]

theorem togetherByS (A : Option Addr) (n c : Nat) (xs : List Crew) (h : Int) (w : World) (hS : Sl w 5 A n c (xs.flatMap Crew.row)) (hn : n ≤ 1048576) :
    Calls Try.prog 28 #[.slice A n c, .int .i64 h] w fun e w' => e = .returned (.tuple #[.int .i64 (togetherR xs h).1, .bool (togetherR xs h).2]) ∧ Below w.heap.size w w' := by
  have hB2 := bel_refl w
  rcases hg : listC xs with _ | _
  · go_enter Try.func28, Try.ntmps28
    go_wp2_with (first | (go_at_call 48; refine (l10List _ _ _ _ _ hS hn).mono ?_; rintro _ w1 ⟨rfl, hB1⟩; (first | (with_reducible replace hB2 := bel_trans hB2 hB1) | (with_reducible replace hB2 := bel_trans (bel_alloc hB2) hB1)); obtain ⟨hC1, hF1⟩ := bcell hB2; replace hB1 := hB1))
    go_ret2
    refine ⟨?_, by (repeat' (first | (with_reducible exact bel_refl _) | (with_reducible assumption) | (with_reducible refine bel_drew ?_) | (with_reducible refine bel_drewN ?_) | (with_reducible refine bel_alloc ?_) | (with_reducible refine bel_set ?_ ?_) | (with_reducible refine bel_trans ?_ (by with_reducible assumption)) | omega | (simp; done) | (simp; omega)))⟩
    simp [togetherR, hg]
  · have hG := listC_all hg
    have hn6 : n ≤ 6 := by have := listC_len hg; rw [hS.xs_len Crew.row_len (by omega)] at this; exact this
    rcases hh : inB h 0 240 with _ | _
    · go_enter Try.func28, Try.ntmps28
      go_wp2_with (first | (go_at_call 48; refine (l10List _ _ _ _ _ hS hn).mono ?_; rintro _ w1 ⟨rfl, hB1⟩; (first | (with_reducible replace hB2 := bel_trans hB2 hB1) | (with_reducible replace hB2 := bel_trans (bel_alloc hB2) hB1)); obtain ⟨hC1, hF1⟩ := bcell hB2; replace hB1 := hB1) | (go_at_call 37; refine (l10Hour _ _).mono ?_; rintro _ w1 ⟨rfl, rfl⟩))
      go_ret2
      refine ⟨?_, by (repeat' (first | (with_reducible exact bel_refl _) | (with_reducible assumption) | (with_reducible refine bel_drew ?_) | (with_reducible refine bel_drewN ?_) | (with_reducible refine bel_alloc ?_) | (with_reducible refine bel_set ?_ ?_) | (with_reducible refine bel_trans ?_ (by with_reducible assumption)) | omega | (simp; done) | (simp; omega)))⟩
      simp [togetherR, hg, hh]
    · obtain ⟨h0, h1⟩ := inB_iff.1 hh
      obtain ⟨H, rfl⟩ := Int.eq_ofNat_of_zero_le h0
      go_enter Try.func28, Try.ntmps28
      go_wp2_with (first | (go_at_call 48; refine (l10List _ _ _ _ _ hS hn).mono ?_; rintro _ w1 ⟨rfl, hB1⟩; (first | (with_reducible replace hB2 := bel_trans hB2 hB1) | (with_reducible replace hB2 := bel_trans (bel_alloc hB2) hB1)); obtain ⟨hC1, hF1⟩ := bcell hB2; replace hB1 := hB1) | (go_at_call 37; refine (l10Hour _ _).mono ?_; rintro _ w1 ⟨rfl, rfl⟩) | (go_at_call 53; refine (l10Together _ _ _ _ _ _ (hS.bel hB2) hn6 hG (by omega)).mono ?_; rintro _ w1 ⟨rfl, hB1⟩; (first | (with_reducible replace hB2 := bel_trans hB2 hB1) | (with_reducible replace hB2 := bel_trans (bel_alloc hB2) hB1)); obtain ⟨hC1, hF1⟩ := bcell hB2; replace hB1 := hB1))
      go_ret2
      refine ⟨?_, by (repeat' (first | (with_reducible exact bel_refl _) | (with_reducible assumption) | (with_reducible refine bel_drew ?_) | (with_reducible refine bel_drewN ?_) | (with_reducible refine bel_alloc ?_) | (with_reducible refine bel_set ?_ ?_) | (with_reducible refine bel_trans ?_ (by with_reducible assumption)) | omega | (simp; done) | (simp; omega)))⟩
      simp [togetherR, hg, hh]

theorem togetherByI (A : Option Addr) (n c : Nat) (xs : List Crew) (h : Int) (w : World) (hS : Sl w 5 A n c (xs.flatMap Crew.row)) (hn : n ≤ 1048576) :
    Calls Try.prog 27 #[.slice A n c, .int .i64 h] w fun e w' => e = .returned (.tuple #[.int .i64 (togetherR xs h).1, .bool (togetherR xs h).2]) ∧ Below w.heap.size w w' := by
  have hB2 := bel_refl w
  rcases hg : listC xs with _ | _
  · go_enter Try.func27, Try.ntmps27
    go_wp2_with (first | (go_at_call 46; refine (areCrewsI _ _ _ _ _ hS hn).mono ?_; rintro _ w1 ⟨rfl, hB1⟩; (first | (with_reducible replace hB2 := bel_trans hB2 hB1) | (with_reducible replace hB2 := bel_trans (bel_alloc hB2) hB1)); obtain ⟨hC1, hF1⟩ := bcell hB2; replace hB1 := hB1))
    go_ret2
    refine ⟨?_, by (repeat' (first | (with_reducible exact bel_refl _) | (with_reducible assumption) | (with_reducible refine bel_drew ?_) | (with_reducible refine bel_drewN ?_) | (with_reducible refine bel_alloc ?_) | (with_reducible refine bel_set ?_ ?_) | (with_reducible refine bel_trans ?_ (by with_reducible assumption)) | omega | (simp; done) | (simp; omega)))⟩
    simp [togetherR, hg]
  · have hG := listC_all hg
    have hn6 : n ≤ 6 := by have := listC_len hg; rw [hS.xs_len Crew.row_len (by omega)] at this; exact this
    rcases hh : inB h 0 240 with _ | _
    · go_enter Try.func27, Try.ntmps27
      go_wp2_with (first | (go_at_call 46; refine (areCrewsI _ _ _ _ _ hS hn).mono ?_; rintro _ w1 ⟨rfl, hB1⟩; (first | (with_reducible replace hB2 := bel_trans hB2 hB1) | (with_reducible replace hB2 := bel_trans (bel_alloc hB2) hB1)); obtain ⟨hC1, hF1⟩ := bcell hB2; replace hB1 := hB1) | (go_at_call 34; refine (isIn _ _ _ _).mono ?_; rintro _ w1 ⟨rfl, rfl⟩))
      go_ret2
      refine ⟨?_, by (repeat' (first | (with_reducible exact bel_refl _) | (with_reducible assumption) | (with_reducible refine bel_drew ?_) | (with_reducible refine bel_drewN ?_) | (with_reducible refine bel_alloc ?_) | (with_reducible refine bel_set ?_ ?_) | (with_reducible refine bel_trans ?_ (by with_reducible assumption)) | omega | (simp; done) | (simp; omega)))⟩
      simp [togetherR, hg, hh]
    · obtain ⟨h0, h1⟩ := inB_iff.1 hh
      obtain ⟨H, rfl⟩ := Int.eq_ofNat_of_zero_le h0
      go_enter Try.func27, Try.ntmps27
      go_wp2_with (first | (go_at_call 46; refine (areCrewsI _ _ _ _ _ hS hn).mono ?_; rintro _ w1 ⟨rfl, hB1⟩; (first | (with_reducible replace hB2 := bel_trans hB2 hB1) | (with_reducible replace hB2 := bel_trans (bel_alloc hB2) hB1)); obtain ⟨hC1, hF1⟩ := bcell hB2; replace hB1 := hB1) | (go_at_call 34; refine (isIn _ _ _ _).mono ?_; rintro _ w1 ⟨rfl, rfl⟩) | (go_at_call 35; refine (builtI _ _ _ _ _ _ (hS.bel hB2) hn6 hG (by omega)).mono ?_; rintro _ w1 ⟨rfl, hB1⟩; (first | (with_reducible replace hB2 := bel_trans hB2 hB1) | (with_reducible replace hB2 := bel_trans (bel_alloc hB2) hB1)); obtain ⟨hC1, hF1⟩ := bcell hB2; replace hB1 := hB1))
      go_ret2
      refine ⟨?_, by (repeat' (first | (with_reducible exact bel_refl _) | (with_reducible assumption) | (with_reducible refine bel_drew ?_) | (with_reducible refine bel_drewN ?_) | (with_reducible refine bel_alloc ?_) | (with_reducible refine bel_set ?_ ?_) | (with_reducible refine bel_trans ?_ (by with_reducible assumption)) | omega | (simp; done) | (simp; omega)))⟩
      simp [togetherR, hg, hh]

theorem hoursR_bd (xs : List Crew) (m : Int) : 0 ≤ (hoursR xs m).1 ∧ (hoursR xs m).1 ≤ 240 ∧ ((hoursR xs m).2 = false → (hoursR xs m).1 = 0) := by
  unfold hoursR
  split
  · rename_i h e
    have := (List.mem_range.1 (List.mem_of_find?_eq_some e))
    simp
    omega
  · simp
theorem leastI_neg {xs : List Crew} {m : Int} (h : (hoursR xs m).2 = false) : leastI xs m = -1 := by simp [leastI, h]
theorem leastI_pos {xs : List Crew} {m : Int} (h : (hoursR xs m).2 = true) : leastI xs m = (hoursR xs m).1 := by simp [leastI, h]

theorem hoursForS (x : Crew) (m : Int) (w : World) :
    Calls Try.prog 16 #[.agg #[.int .i64 x.id, .int .i64 x.rate, .int .i64 x.tires, .int .i64 x.shift, .int .i64 x.start], .int .i64 m] w fun e w' => e = .returned (.tuple #[.int .i64 (hoursForR x m).1, .bool (hoursForR x m).2]) ∧ Below w.heap.size w w' := by
  have hB2 := bel_refl (w.alloc (.cells #[.int .i64 x.id, .int .i64 x.rate, .int .i64 x.tires, .int .i64 x.shift, .int .i64 x.start] 25))
  rcases hg : goodC x with _ | _
  · go_enter Try.func16, Try.ntmps16
    go_wp2_with (first | (go_at_call 36; refine (l10Good _ _).mono ?_; rintro _ w1 ⟨rfl, hB1⟩; (first | (with_reducible replace hB2 := bel_trans hB2 hB1) | (with_reducible replace hB2 := bel_trans (bel_alloc hB2) hB1)); obtain ⟨hC1, hF1⟩ := bcell hB2; replace hB1 := hB1))
    go_ret2
    refine ⟨?_, by (repeat' (first | (with_reducible exact bel_refl _) | (with_reducible assumption) | (with_reducible refine bel_drew ?_) | (with_reducible refine bel_drewN ?_) | (with_reducible refine bel_alloc ?_) | (with_reducible refine bel_set ?_ ?_) | (with_reducible refine bel_trans ?_ (by with_reducible assumption)) | omega | (simp; done) | (simp; omega)))⟩
    simp [hoursForR, hg]
  · have hG := hid hg
    rcases hh : inB m 0 20000 with _ | _
    · go_enter Try.func16, Try.ntmps16
      go_wp2_with (first | (go_at_call 36; refine (l10Good _ _).mono ?_; rintro _ w1 ⟨rfl, hB1⟩; (first | (with_reducible replace hB2 := bel_trans hB2 hB1) | (with_reducible replace hB2 := bel_trans (bel_alloc hB2) hB1)); obtain ⟨hC1, hF1⟩ := bcell hB2; replace hB1 := hB1) | (go_at_call 44; refine (l10Metres _ _).mono ?_; rintro _ w1 ⟨rfl, rfl⟩))
      go_ret2
      refine ⟨?_, by (repeat' (first | (with_reducible exact bel_refl _) | (with_reducible assumption) | (with_reducible refine bel_drew ?_) | (with_reducible refine bel_drewN ?_) | (with_reducible refine bel_alloc ?_) | (with_reducible refine bel_set ?_ ?_) | (with_reducible refine bel_trans ?_ (by with_reducible assumption)) | omega | (simp; done) | (simp; omega)))⟩
      simp [hoursForR, hg, hh]
    · have hb := hoursR_bd [x] m
      rcases hr : (hoursR [x] m).2 with _ | _
      · have hl := leastI_neg hr
        have h1 := hid (hb.2.2 hr)
        clear hb
        go_enter Try.func16, Try.ntmps16
        go_wp2_with (first | (go_at_call 36; refine (l10Good _ _).mono ?_; rintro _ w1 ⟨rfl, hB1⟩; (first | (with_reducible replace hB2 := bel_trans hB2 hB1) | (with_reducible replace hB2 := bel_trans (bel_alloc hB2) hB1)); obtain ⟨hC1, hF1⟩ := bcell hB2; replace hB1 := hB1) | (go_at_call 44; refine (l10Metres _ _).mono ?_; rintro _ w1 ⟨rfl, rfl⟩) | (go_at_call 45; refine (l10Least _ _ _ [x] _ _ one_sl (by omega) (one_all hG.out)).mono ?_; rintro _ w1 ⟨rfl, hB1⟩; (first | (with_reducible replace hB2 := bel_trans hB2 hB1) | (with_reducible replace hB2 := bel_trans (bel_alloc hB2) hB1)); obtain ⟨hC1, hF1⟩ := bcell hB2; replace hB1 := hB1))
        go_ret2
        refine ⟨?_, by (repeat' (first | (with_reducible exact bel_refl _) | (with_reducible assumption) | (with_reducible refine bel_drew ?_) | (with_reducible refine bel_drewN ?_) | (with_reducible refine bel_alloc ?_) | (with_reducible refine bel_set ?_ ?_) | (with_reducible refine bel_trans ?_ (by with_reducible assumption)) | omega | (simp; done) | (simp; omega)))⟩
        simp [hoursForR, hg, hh, hr, h1.out]
      · have hl := leastI_pos hr
        have hb0 : ¬ (hoursR [x] m).1 < 0 := by omega
        clear hb
        go_enter Try.func16, Try.ntmps16
        go_wp2_with (first | (go_at_call 36; refine (l10Good _ _).mono ?_; rintro _ w1 ⟨rfl, hB1⟩; (first | (with_reducible replace hB2 := bel_trans hB2 hB1) | (with_reducible replace hB2 := bel_trans (bel_alloc hB2) hB1)); obtain ⟨hC1, hF1⟩ := bcell hB2; replace hB1 := hB1) | (go_at_call 44; refine (l10Metres _ _).mono ?_; rintro _ w1 ⟨rfl, rfl⟩) | (go_at_call 45; refine (l10Least _ _ _ [x] _ _ one_sl (by omega) (one_all hG.out)).mono ?_; rintro _ w1 ⟨rfl, hB1⟩; (first | (with_reducible replace hB2 := bel_trans hB2 hB1) | (with_reducible replace hB2 := bel_trans (bel_alloc hB2) hB1)); obtain ⟨hC1, hF1⟩ := bcell hB2; replace hB1 := hB1))
        go_ret2
        refine ⟨?_, by (repeat' (first | (with_reducible exact bel_refl _) | (with_reducible assumption) | (with_reducible refine bel_drew ?_) | (with_reducible refine bel_drewN ?_) | (with_reducible refine bel_alloc ?_) | (with_reducible refine bel_set ?_ ?_) | (with_reducible refine bel_trans ?_ (by with_reducible assumption)) | omega | (simp; done) | (simp; omega)))⟩
        simp [hoursForR, hg, hh, hr]

theorem hoursForTI (x : Crew) (m : Int) (w : World) :
    Calls Try.prog 15 #[.agg #[.int .i64 x.id, .int .i64 x.rate, .int .i64 x.tires, .int .i64 x.shift, .int .i64 x.start], .int .i64 m] w fun e w' => e = .returned (.tuple #[.int .i64 (hoursForR x m).1, .bool (hoursForR x m).2]) ∧ Below w.heap.size w w' := by
  have hB2 := bel_refl (w.alloc (.cells #[.int .i64 x.id, .int .i64 x.rate, .int .i64 x.tires, .int .i64 x.shift, .int .i64 x.start] 25))
  rcases hg : goodC x with _ | _
  · go_enter Try.func15, Try.ntmps15
    go_wp2_with (first | (go_at_call 12; refine (isCrewI _ _).mono ?_; rintro _ w1 ⟨rfl, hB1⟩; (first | (with_reducible replace hB2 := bel_trans hB2 hB1) | (with_reducible replace hB2 := bel_trans (bel_alloc hB2) hB1)); obtain ⟨hC1, hF1⟩ := bcell hB2; replace hB1 := hB1))
    go_ret2
    refine ⟨?_, by (repeat' (first | (with_reducible exact bel_refl _) | (with_reducible assumption) | (with_reducible refine bel_drew ?_) | (with_reducible refine bel_drewN ?_) | (with_reducible refine bel_alloc ?_) | (with_reducible refine bel_set ?_ ?_) | (with_reducible refine bel_trans ?_ (by with_reducible assumption)) | omega | (simp; done) | (simp; omega)))⟩
    simp [hoursForR, hg]
  · have hG := hid hg
    rcases hh : inB m 0 20000 with _ | _
    · go_enter Try.func15, Try.ntmps15
      go_wp2_with (first | (go_at_call 12; refine (isCrewI _ _).mono ?_; rintro _ w1 ⟨rfl, hB1⟩; (first | (with_reducible replace hB2 := bel_trans hB2 hB1) | (with_reducible replace hB2 := bel_trans (bel_alloc hB2) hB1)); obtain ⟨hC1, hF1⟩ := bcell hB2; replace hB1 := hB1) | (go_at_call 42; refine (isMetres _ _).mono ?_; rintro _ w1 ⟨rfl, rfl⟩))
      go_ret2
      refine ⟨?_, by (repeat' (first | (with_reducible exact bel_refl _) | (with_reducible assumption) | (with_reducible refine bel_drew ?_) | (with_reducible refine bel_drewN ?_) | (with_reducible refine bel_alloc ?_) | (with_reducible refine bel_set ?_ ?_) | (with_reducible refine bel_trans ?_ (by with_reducible assumption)) | omega | (simp; done) | (simp; omega)))⟩
      simp [hoursForR, hg, hh]
    · have hb := hoursR_bd [x] m
      rcases hr : (hoursR [x] m).2 with _ | _
      · have hl := leastI_neg hr
        have h1 := hid (hb.2.2 hr)
        clear hb
        go_enter Try.func15, Try.ntmps15
        go_wp2_with (first | (go_at_call 12; refine (isCrewI _ _).mono ?_; rintro _ w1 ⟨rfl, hB1⟩; (first | (with_reducible replace hB2 := bel_trans hB2 hB1) | (with_reducible replace hB2 := bel_trans (bel_alloc hB2) hB1)); obtain ⟨hC1, hF1⟩ := bcell hB2; replace hB1 := hB1) | (go_at_call 42; refine (isMetres _ _).mono ?_; rintro _ w1 ⟨rfl, rfl⟩) | (go_at_call 43; refine (hoursForI _ _ _ [x] _ _ one_sl (by omega) (one_all hG.out)).mono ?_; rintro _ w1 ⟨rfl, hB1⟩; (first | (with_reducible replace hB2 := bel_trans hB2 hB1) | (with_reducible replace hB2 := bel_trans (bel_alloc hB2) hB1)); obtain ⟨hC1, hF1⟩ := bcell hB2; replace hB1 := hB1))
        go_ret2
        refine ⟨?_, by (repeat' (first | (with_reducible exact bel_refl _) | (with_reducible assumption) | (with_reducible refine bel_drew ?_) | (with_reducible refine bel_drewN ?_) | (with_reducible refine bel_alloc ?_) | (with_reducible refine bel_set ?_ ?_) | (with_reducible refine bel_trans ?_ (by with_reducible assumption)) | omega | (simp; done) | (simp; omega)))⟩
        simp [hoursForR, hg, hh, hr, h1.out]
      · have hl := leastI_pos hr
        have hb0 : ¬ (hoursR [x] m).1 < 0 := by omega
        clear hb
        go_enter Try.func15, Try.ntmps15
        go_wp2_with (first | (go_at_call 12; refine (isCrewI _ _).mono ?_; rintro _ w1 ⟨rfl, hB1⟩; (first | (with_reducible replace hB2 := bel_trans hB2 hB1) | (with_reducible replace hB2 := bel_trans (bel_alloc hB2) hB1)); obtain ⟨hC1, hF1⟩ := bcell hB2; replace hB1 := hB1) | (go_at_call 42; refine (isMetres _ _).mono ?_; rintro _ w1 ⟨rfl, rfl⟩) | (go_at_call 43; refine (hoursForI _ _ _ [x] _ _ one_sl (by omega) (one_all hG.out)).mono ?_; rintro _ w1 ⟨rfl, hB1⟩; (first | (with_reducible replace hB2 := bel_trans hB2 hB1) | (with_reducible replace hB2 := bel_trans (bel_alloc hB2) hB1)); obtain ⟨hC1, hF1⟩ := bcell hB2; replace hB1 := hB1))
        go_ret2
        refine ⟨?_, by (repeat' (first | (with_reducible exact bel_refl _) | (with_reducible assumption) | (with_reducible refine bel_drew ?_) | (with_reducible refine bel_drewN ?_) | (with_reducible refine bel_alloc ?_) | (with_reducible refine bel_set ?_ ?_) | (with_reducible refine bel_trans ?_ (by with_reducible assumption)) | omega | (simp; done) | (simp; omega)))⟩
        simp [hoursForR, hg, hh, hr]

theorem hoursTogetherS (A : Option Addr) (n c : Nat) (xs : List Crew) (m : Int) (w : World) (hS : Sl w 5 A n c (xs.flatMap Crew.row)) (hn : n ≤ 1048576) :
    Calls Try.prog 25 #[.slice A n c, .int .i64 m] w fun e w' => e = .returned (.tuple #[.int .i64 (hoursTR xs m).1, .bool (hoursTR xs m).2]) ∧ Below w.heap.size w w' := by
  have hB2 := bel_refl w
  rcases hg : listC xs with _ | _
  · go_enter Try.func25, Try.ntmps25
    go_wp2_with (first | (go_at_call 48; refine (l10List _ _ _ _ _ hS hn).mono ?_; rintro _ w1 ⟨rfl, hB1⟩; (first | (with_reducible replace hB2 := bel_trans hB2 hB1) | (with_reducible replace hB2 := bel_trans (bel_alloc hB2) hB1)); obtain ⟨hC1, hF1⟩ := bcell hB2; replace hB1 := hB1))
    go_ret2
    refine ⟨?_, by (repeat' (first | (with_reducible exact bel_refl _) | (with_reducible assumption) | (with_reducible refine bel_drew ?_) | (with_reducible refine bel_drewN ?_) | (with_reducible refine bel_alloc ?_) | (with_reducible refine bel_set ?_ ?_) | (with_reducible refine bel_trans ?_ (by with_reducible assumption)) | omega | (simp; done) | (simp; omega)))⟩
    simp [hoursTR, hg]
  · have hG := listC_all hg
    have hn6 : n ≤ 6 := by have := listC_len hg; rw [hS.xs_len Crew.row_len (by omega)] at this; exact this
    rcases hh : inB m 0 20000 with _ | _
    · go_enter Try.func25, Try.ntmps25
      go_wp2_with (first | (go_at_call 48; refine (l10List _ _ _ _ _ hS hn).mono ?_; rintro _ w1 ⟨rfl, hB1⟩; (first | (with_reducible replace hB2 := bel_trans hB2 hB1) | (with_reducible replace hB2 := bel_trans (bel_alloc hB2) hB1)); obtain ⟨hC1, hF1⟩ := bcell hB2; replace hB1 := hB1) | (go_at_call 44; refine (l10Metres _ _).mono ?_; rintro _ w1 ⟨rfl, rfl⟩))
      go_ret2
      refine ⟨?_, by (repeat' (first | (with_reducible exact bel_refl _) | (with_reducible assumption) | (with_reducible refine bel_drew ?_) | (with_reducible refine bel_drewN ?_) | (with_reducible refine bel_alloc ?_) | (with_reducible refine bel_set ?_ ?_) | (with_reducible refine bel_trans ?_ (by with_reducible assumption)) | omega | (simp; done) | (simp; omega)))⟩
      simp [hoursTR, hg, hh]
    · have hb := hoursR_bd xs m
      rcases hr : (hoursR xs m).2 with _ | _
      · have hl := leastI_neg hr
        have h1 := hid (hb.2.2 hr)
        clear hb
        go_enter Try.func25, Try.ntmps25
        go_wp2_with (first | (go_at_call 48; refine (l10List _ _ _ _ _ hS hn).mono ?_; rintro _ w1 ⟨rfl, hB1⟩; (first | (with_reducible replace hB2 := bel_trans hB2 hB1) | (with_reducible replace hB2 := bel_trans (bel_alloc hB2) hB1)); obtain ⟨hC1, hF1⟩ := bcell hB2; replace hB1 := hB1) | (go_at_call 44; refine (l10Metres _ _).mono ?_; rintro _ w1 ⟨rfl, rfl⟩) | (go_at_call 45; refine (l10Least _ _ _ _ _ _ (hS.bel hB2) hn6 hG).mono ?_; rintro _ w1 ⟨rfl, hB1⟩; (first | (with_reducible replace hB2 := bel_trans hB2 hB1) | (with_reducible replace hB2 := bel_trans (bel_alloc hB2) hB1)); obtain ⟨hC1, hF1⟩ := bcell hB2; replace hB1 := hB1))
        go_ret2
        refine ⟨?_, by (repeat' (first | (with_reducible exact bel_refl _) | (with_reducible assumption) | (with_reducible refine bel_drew ?_) | (with_reducible refine bel_drewN ?_) | (with_reducible refine bel_alloc ?_) | (with_reducible refine bel_set ?_ ?_) | (with_reducible refine bel_trans ?_ (by with_reducible assumption)) | omega | (simp; done) | (simp; omega)))⟩
        simp [hoursTR, hg, hh, hr, h1.out]
      · have hl := leastI_pos hr
        have hb0 : ¬ (hoursR xs m).1 < 0 := by omega
        clear hb
        go_enter Try.func25, Try.ntmps25
        go_wp2_with (first | (go_at_call 48; refine (l10List _ _ _ _ _ hS hn).mono ?_; rintro _ w1 ⟨rfl, hB1⟩; (first | (with_reducible replace hB2 := bel_trans hB2 hB1) | (with_reducible replace hB2 := bel_trans (bel_alloc hB2) hB1)); obtain ⟨hC1, hF1⟩ := bcell hB2; replace hB1 := hB1) | (go_at_call 44; refine (l10Metres _ _).mono ?_; rintro _ w1 ⟨rfl, rfl⟩) | (go_at_call 45; refine (l10Least _ _ _ _ _ _ (hS.bel hB2) hn6 hG).mono ?_; rintro _ w1 ⟨rfl, hB1⟩; (first | (with_reducible replace hB2 := bel_trans hB2 hB1) | (with_reducible replace hB2 := bel_trans (bel_alloc hB2) hB1)); obtain ⟨hC1, hF1⟩ := bcell hB2; replace hB1 := hB1))
        go_ret2
        refine ⟨?_, by (repeat' (first | (with_reducible exact bel_refl _) | (with_reducible assumption) | (with_reducible refine bel_drew ?_) | (with_reducible refine bel_drewN ?_) | (with_reducible refine bel_alloc ?_) | (with_reducible refine bel_set ?_ ?_) | (with_reducible refine bel_trans ?_ (by with_reducible assumption)) | omega | (simp; done) | (simp; omega)))⟩
        simp [hoursTR, hg, hh, hr]

theorem hoursTogetherI (A : Option Addr) (n c : Nat) (xs : List Crew) (m : Int) (w : World) (hS : Sl w 5 A n c (xs.flatMap Crew.row)) (hn : n ≤ 1048576) :
    Calls Try.prog 24 #[.slice A n c, .int .i64 m] w fun e w' => e = .returned (.tuple #[.int .i64 (hoursTR xs m).1, .bool (hoursTR xs m).2]) ∧ Below w.heap.size w w' := by
  have hB2 := bel_refl w
  rcases hg : listC xs with _ | _
  · go_enter Try.func24, Try.ntmps24
    go_wp2_with (first | (go_at_call 46; refine (areCrewsI _ _ _ _ _ hS hn).mono ?_; rintro _ w1 ⟨rfl, hB1⟩; (first | (with_reducible replace hB2 := bel_trans hB2 hB1) | (with_reducible replace hB2 := bel_trans (bel_alloc hB2) hB1)); obtain ⟨hC1, hF1⟩ := bcell hB2; replace hB1 := hB1))
    go_ret2
    refine ⟨?_, by (repeat' (first | (with_reducible exact bel_refl _) | (with_reducible assumption) | (with_reducible refine bel_drew ?_) | (with_reducible refine bel_drewN ?_) | (with_reducible refine bel_alloc ?_) | (with_reducible refine bel_set ?_ ?_) | (with_reducible refine bel_trans ?_ (by with_reducible assumption)) | omega | (simp; done) | (simp; omega)))⟩
    simp [hoursTR, hg]
  · have hG := listC_all hg
    have hn6 : n ≤ 6 := by have := listC_len hg; rw [hS.xs_len Crew.row_len (by omega)] at this; exact this
    rcases hh : inB m 0 20000 with _ | _
    · go_enter Try.func24, Try.ntmps24
      go_wp2_with (first | (go_at_call 46; refine (areCrewsI _ _ _ _ _ hS hn).mono ?_; rintro _ w1 ⟨rfl, hB1⟩; (first | (with_reducible replace hB2 := bel_trans hB2 hB1) | (with_reducible replace hB2 := bel_trans (bel_alloc hB2) hB1)); obtain ⟨hC1, hF1⟩ := bcell hB2; replace hB1 := hB1) | (go_at_call 42; refine (isMetres _ _).mono ?_; rintro _ w1 ⟨rfl, rfl⟩))
      go_ret2
      refine ⟨?_, by (repeat' (first | (with_reducible exact bel_refl _) | (with_reducible assumption) | (with_reducible refine bel_drew ?_) | (with_reducible refine bel_drewN ?_) | (with_reducible refine bel_alloc ?_) | (with_reducible refine bel_set ?_ ?_) | (with_reducible refine bel_trans ?_ (by with_reducible assumption)) | omega | (simp; done) | (simp; omega)))⟩
      simp [hoursTR, hg, hh]
    · have hb := hoursR_bd xs m
      rcases hr : (hoursR xs m).2 with _ | _
      · have hl := leastI_neg hr
        have h1 := hid (hb.2.2 hr)
        clear hb
        go_enter Try.func24, Try.ntmps24
        go_wp2_with (first | (go_at_call 46; refine (areCrewsI _ _ _ _ _ hS hn).mono ?_; rintro _ w1 ⟨rfl, hB1⟩; (first | (with_reducible replace hB2 := bel_trans hB2 hB1) | (with_reducible replace hB2 := bel_trans (bel_alloc hB2) hB1)); obtain ⟨hC1, hF1⟩ := bcell hB2; replace hB1 := hB1) | (go_at_call 42; refine (isMetres _ _).mono ?_; rintro _ w1 ⟨rfl, rfl⟩) | (go_at_call 43; refine (hoursForI _ _ _ _ _ _ (hS.bel hB2) hn6 hG).mono ?_; rintro _ w1 ⟨rfl, hB1⟩; (first | (with_reducible replace hB2 := bel_trans hB2 hB1) | (with_reducible replace hB2 := bel_trans (bel_alloc hB2) hB1)); obtain ⟨hC1, hF1⟩ := bcell hB2; replace hB1 := hB1))
        go_ret2
        refine ⟨?_, by (repeat' (first | (with_reducible exact bel_refl _) | (with_reducible assumption) | (with_reducible refine bel_drew ?_) | (with_reducible refine bel_drewN ?_) | (with_reducible refine bel_alloc ?_) | (with_reducible refine bel_set ?_ ?_) | (with_reducible refine bel_trans ?_ (by with_reducible assumption)) | omega | (simp; done) | (simp; omega)))⟩
        simp [hoursTR, hg, hh, hr, h1.out]
      · have hl := leastI_pos hr
        have hb0 : ¬ (hoursR xs m).1 < 0 := by omega
        clear hb
        go_enter Try.func24, Try.ntmps24
        go_wp2_with (first | (go_at_call 46; refine (areCrewsI _ _ _ _ _ hS hn).mono ?_; rintro _ w1 ⟨rfl, hB1⟩; (first | (with_reducible replace hB2 := bel_trans hB2 hB1) | (with_reducible replace hB2 := bel_trans (bel_alloc hB2) hB1)); obtain ⟨hC1, hF1⟩ := bcell hB2; replace hB1 := hB1) | (go_at_call 42; refine (isMetres _ _).mono ?_; rintro _ w1 ⟨rfl, rfl⟩) | (go_at_call 43; refine (hoursForI _ _ _ _ _ _ (hS.bel hB2) hn6 hG).mono ?_; rintro _ w1 ⟨rfl, hB1⟩; (first | (with_reducible replace hB2 := bel_trans hB2 hB1) | (with_reducible replace hB2 := bel_trans (bel_alloc hB2) hB1)); obtain ⟨hC1, hF1⟩ := bcell hB2; replace hB1 := hB1))
        go_ret2
        refine ⟨?_, by (repeat' (first | (with_reducible exact bel_refl _) | (with_reducible assumption) | (with_reducible refine bel_drew ?_) | (with_reducible refine bel_drewN ?_) | (with_reducible refine bel_alloc ?_) | (with_reducible refine bel_set ?_ ?_) | (with_reducible refine bel_trans ?_ (by with_reducible assumption)) | omega | (simp; done) | (simp; omega)))⟩
        simp [hoursTR, hg, hh, hr]

theorem metresS (x : Crew) (w : World) :
    Calls Try.prog 10 #[.agg #[.int .i64 x.id, .int .i64 x.rate, .int .i64 x.tires, .int .i64 x.shift, .int .i64 x.start]] w fun e w' => ∃ A n c, e = .returned (.tuple #[.slice A n c, .bool (metresR x).2]) ∧ Own w.heap.size w'.heap.size w' 3 1 A n c (ints (metresR x).1) ∧ Below w.heap.size w w' := by
  have hB2 := bel_refl (w.alloc (.cells #[.int .i64 x.id, .int .i64 x.rate, .int .i64 x.tires, .int .i64 x.shift, .int .i64 x.start] 25))
  rcases hg : goodC x with _ | _
  · have hR : Hid (metresR x = ([], false)) := by show _ = _; simp [metresR, hg]
    go_enter Try.func10, Try.ntmps10
    go_wp2_with (first | (go_at_call 36; refine (l10Good _ _).mono ?_; rintro _ w1 ⟨rfl, hB1⟩; (first | (with_reducible replace hB2 := bel_trans hB2 hB1) | (with_reducible replace hB2 := bel_trans (bel_alloc hB2) hB1)); obtain ⟨hC1, hF1⟩ := bcell hB2; replace hB1 := hB1))
    go_ret2
    exact ⟨some ⟨w1.heap.size, 0, none⟩, 0, 0, by rw [hR.out]; rfl, by rw [hR.out]; exact (Own.mk_ (own_empty (Nat.le_refl _))).low (by have := hB2.size; simp at this; omega), by (repeat' (first | (with_reducible exact bel_refl _) | (with_reducible assumption) | (with_reducible refine bel_drew ?_) | (with_reducible refine bel_drewN ?_) | (with_reducible refine bel_alloc ?_) | (with_reducible refine bel_set ?_ ?_) | (with_reducible refine bel_trans ?_ (by with_reducible assumption)) | omega | (simp; done) | (simp; omega)))⟩
  · have hG := hid hg
    have hR : Hid (metresR x = (shiftL x, true)) := by show _ = _; simp [metresR, hg]
    go_enter Try.func10, Try.ntmps10
    go_wp2_with (first | (go_at_call 36; refine (l10Good _ _).mono ?_; rintro _ w1 ⟨rfl, hB1⟩; (first | (with_reducible replace hB2 := bel_trans hB2 hB1) | (with_reducible replace hB2 := bel_trans (bel_alloc hB2) hB1)); obtain ⟨hC1, hF1⟩ := bcell hB2; replace hB1 := hB1) | (go_at_call 40; refine (l10Shift _ _ hG.out).mono ?_; rintro _ w2 ⟨A, n, c, rfl, hO, hB1⟩))
    go_ret2
    refine ⟨A, n, c, ?_, ?_, by (repeat' (first | (with_reducible exact bel_refl _) | (with_reducible assumption) | (with_reducible refine bel_drew ?_) | (with_reducible refine bel_drewN ?_) | (with_reducible refine bel_alloc ?_) | (with_reducible refine bel_set ?_ ?_) | (with_reducible refine bel_trans ?_ (by with_reducible assumption)) | omega | (simp; done) | (simp; omega)))⟩
    · rw [hR.out]; rfl
    · rw [hR.out]
      exact hO.low (by have := hB2.size; simp at this; omega)

theorem metresI (x : Crew) (w : World) :
    Calls Try.prog 9 #[.agg #[.int .i64 x.id, .int .i64 x.rate, .int .i64 x.tires, .int .i64 x.shift, .int .i64 x.start]] w fun e w' => ∃ A n c, e = .returned (.tuple #[.slice A n c, .bool (metresR x).2]) ∧ Own w.heap.size w'.heap.size w' 3 1 A n c (ints (metresR x).1) ∧ Below w.heap.size w w' := by
  have hB2 := bel_refl (w.alloc (.cells #[.int .i64 x.id, .int .i64 x.rate, .int .i64 x.tires, .int .i64 x.shift, .int .i64 x.start] 25))
  rcases hg : goodC x with _ | _
  · have hR : Hid (metresR x = ([], false)) := by show _ = _; simp [metresR, hg]
    go_enter Try.func9, Try.ntmps9
    go_wp2_with (first | (go_at_call 12; refine (isCrewI _ _).mono ?_; rintro _ w1 ⟨rfl, hB1⟩; (first | (with_reducible replace hB2 := bel_trans hB2 hB1) | (with_reducible replace hB2 := bel_trans (bel_alloc hB2) hB1)); obtain ⟨hC1, hF1⟩ := bcell hB2; replace hB1 := hB1))
    go_ret2
    exact ⟨none, 0, 0, by rw [hR.out]; rfl, by rw [hR.out]; exact Own.mk_ (World.ownsRow_nil _ _ _ _), by (repeat' (first | (with_reducible exact bel_refl _) | (with_reducible assumption) | (with_reducible refine bel_drew ?_) | (with_reducible refine bel_drewN ?_) | (with_reducible refine bel_alloc ?_) | (with_reducible refine bel_set ?_ ?_) | (with_reducible refine bel_trans ?_ (by with_reducible assumption)) | omega | (simp; done) | (simp; omega)))⟩
  · have hG := hid hg
    have hR : Hid (metresR x = (shiftL x, true)) := by show _ = _; simp [metresR, hg]
    go_enter Try.func9, Try.ntmps9
    go_wp2_with (first | (go_at_call 12; refine (isCrewI _ _).mono ?_; rintro _ w1 ⟨rfl, hB1⟩; (first | (with_reducible replace hB2 := bel_trans hB2 hB1) | (with_reducible replace hB2 := bel_trans (bel_alloc hB2) hB1)); obtain ⟨hC1, hF1⟩ := bcell hB2; replace hB1 := hB1) | (go_at_call 39; refine (shiftI _ _ hG.out).mono ?_; rintro _ w2 ⟨A, n, c, rfl, hO, hB1⟩))
    go_ret2
    refine ⟨A, n, c, ?_, ?_, by (repeat' (first | (with_reducible exact bel_refl _) | (with_reducible assumption) | (with_reducible refine bel_drew ?_) | (with_reducible refine bel_drewN ?_) | (with_reducible refine bel_alloc ?_) | (with_reducible refine bel_set ?_ ?_) | (with_reducible refine bel_trans ?_ (by with_reducible assumption)) | omega | (simp; done) | (simp; omega)))⟩
    · rw [hR.out]; rfl
    · rw [hR.out]
      exact hO.low (by have := hB2.size; simp at this; omega)

theorem metres_len (x : Crew) : (metresR x).1.length ≤ 1048576 := by
  unfold metresR
  split
  · rename_i h
    have := goodC_bd h
    simp only [shiftL_len]
    omega
  · simp
end Go.Proofs.Ythbjgccldoofgaa
