/-
  Hot spots: whether one is valid, whether a list of them is, distances: the functions of the program and of the reference, walked.
-/
import Derived.Test.YtkkoccllmflhfaaGreatDoorIn
import Derived.Test.YtkkoccllmflhfaaGreatDoorListMath
import Derived.Test.YtkkoccllmflhfaaGreatDoorSpotData
namespace Go.Proofs.YtkkoccllmflhfaaGreatDoor
open Go.RowKit

def goodH (x : Hotspot) : Bool := inB x.id 1 999 && inB x.x 0 1000 && inB x.y 0 1000 && inB x.err 0 50 && inB x.tick 0 9999 && inB x.heat 1 1000
theorem goodH_bd {x : Hotspot} (h : goodH x = true) : 1 ≤ x.id ∧ x.id ≤ 999 ∧ 0 ≤ x.x ∧ x.x ≤ 1000 ∧ 0 ≤ x.y ∧ x.y ≤ 1000 ∧ 0 ≤ x.err ∧ x.err ≤ 50 ∧ 0 ≤ x.tick ∧ x.tick ≤ 9999 ∧ 1 ≤ x.heat ∧ x.heat ≤ 1000 := by
  simp only [goodH, Bool.and_eq_true, inB_iff] at h
  omega
def clashH (y x : Hotspot) : Bool := decide (x.id ≤ y.id)
def listH (xs : List Hotspot) : Bool := noneBad (badAt goodH clashH xs) xs.length && decide (xs.length ≤ 10)
def allH (xs : List Hotspot) : Prop := ∀ (i : Nat) (x : Hotspot), xs[i]? = some x → goodH x = true
theorem listH_all {xs : List Hotspot} (h : listH xs = true) : allH xs := fun i x hx => by
  rw [listH, Bool.and_eq_true] at h
  exact good_of h.1 hx
theorem listH_len {xs : List Hotspot} (h : listH xs = true) : xs.length ≤ 10 := by
  rw [listH, Bool.and_eq_true] at h
  exact of_decide_eq_true h.2
def farI (a b : Int) : Int := max (a - b) (b - a)
def sameB (a b : Hotspot) : Bool := decide (max (farI a.x b.x) (farI a.y b.y) ≤ a.err + b.err)

theorem l7Grid (n : Int) (w : World) :
    Calls Tryz.prog 44 #[.int .i64 n] w fun e w' => e = .returned (.bool (inB n 0 1000)) ∧ w = w' := by
  go_enter Tryz.func44, Tryz.ntmps44
  go_wp2_with (go_at_call 43; refine (l1In _ _ _ _).mono ?_; rintro _ w1 ⟨rfl, rfl⟩)
  go_ret
  exact ⟨rfl, rfl⟩

theorem l4Tick (n : Int) (w : World) :
    Calls Tryz.prog 45 #[.int .i64 n] w fun e w' => e = .returned (.bool (inB n 0 9999)) ∧ w = w' := by
  go_enter Tryz.func45, Tryz.ntmps45
  go_wp2_with (go_at_call 43; refine (l1In _ _ _ _).mono ?_; rintro _ w1 ⟨rfl, rfl⟩)
  go_ret
  exact ⟨rfl, rfl⟩

theorem isTick (n : Int) (w : World) :
    Calls Tryz.prog 25 #[.int .i64 n] w fun e w' => e = .returned (.bool (inB n 0 9999)) ∧ w = w' := by
  go_enter Tryz.func25, Tryz.ntmps25
  go_wp2_with (go_at_call 24; refine (isIn _ _ _ _).mono ?_; rintro _ w1 ⟨rfl, rfl⟩)
  go_ret
  exact ⟨rfl, rfl⟩

set_option maxHeartbeats 1000000 in
theorem isHotspotI (x : Hotspot) (w : World) :
    Calls Tryz.prog 8 #[.agg #[.int .i64 x.id, .int .i64 x.x, .int .i64 x.y, .int .i64 x.err, .int .i64 x.tick, .int .i64 x.heat]] w fun e w' => e = .returned (.bool (goodH x)) ∧ Below w.heap.size w w' := by
  go_enter Tryz.func8, Tryz.ntmps8
  go_wp2_with (first | (go_at_call 24; refine (isIn _ _ _ _).mono ?_; rintro _ w1 ⟨rfl, rfl⟩) | (go_at_call 25; refine (isTick _ _).mono ?_; rintro _ w1 ⟨rfl, rfl⟩))
  all_goals go_ret
  all_goals (refine ⟨?_, by (repeat' (first | (with_reducible exact bel_refl _) | (with_reducible assumption) | (with_reducible refine bel_drew ?_) | (with_reducible refine bel_drewN ?_) | (with_reducible refine bel_alloc ?_) | (with_reducible refine bel_set ?_ ?_) | (with_reducible refine bel_trans ?_ (by with_reducible assumption)) | omega | (simp; done) | (simp; omega)))⟩; simp [goodH, *])

set_option maxHeartbeats 1000000 in
theorem l7One (x : Hotspot) (w : World) :
    Calls Tryz.prog 22 #[.agg #[.int .i64 x.id, .int .i64 x.x, .int .i64 x.y, .int .i64 x.err, .int .i64 x.tick, .int .i64 x.heat]] w fun e w' => e = .returned (.bool (goodH x)) ∧ Below w.heap.size w w' := by
  go_enter Tryz.func22, Tryz.ntmps22
  go_wp2_with (first | (go_at_call 43; refine (l1In _ _ _ _).mono ?_; rintro _ w1 ⟨rfl, rfl⟩) | (go_at_call 44; refine (l7Grid _ _).mono ?_; rintro _ w1 ⟨rfl, rfl⟩) | (go_at_call 45; refine (l4Tick _ _).mono ?_; rintro _ w1 ⟨rfl, rfl⟩))
  all_goals go_ret
  all_goals (refine ⟨?_, by (repeat' (first | (with_reducible exact bel_refl _) | (with_reducible assumption) | (with_reducible refine bel_drew ?_) | (with_reducible refine bel_drewN ?_) | (with_reducible refine bel_alloc ?_) | (with_reducible refine bel_set ?_ ?_) | (with_reducible refine bel_trans ?_ (by with_reducible assumption)) | omega | (simp; done) | (simp; omega)))⟩; simp [goodH, *])

theorem l7Far (a b : Int) (w : World) (h : -3000 ≤ a ∧ a ≤ 3000 ∧ -3000 ≤ b ∧ b ≤ 3000) :
    Calls Tryz.prog 41 #[.int .i64 a, .int .i64 b] w fun e w' => e = .returned (.int .i64 (farI a b)) ∧ w = w' := by
  go_enter Tryz.func41, Tryz.ntmps41
  go_wp2_with (go_at_call 38; refine (l1Most _ _ _).mono ?_; rintro _ w1 ⟨rfl, rfl⟩)
  go_ret
  exact ⟨rfl, rfl⟩
theorem distanceI (a b : Int) (w : World) (h : -3000 ≤ a ∧ a ≤ 3000 ∧ -3000 ≤ b ∧ b ≤ 3000) :
    Calls Tryz.prog 40 #[.int .i64 a, .int .i64 b] w fun e w' => e = .returned (.int .i64 (farI a b)) ∧ w = w' := by
  go_enter Tryz.func40, Tryz.ntmps40
  go_wp2
  go_ret
  exact ⟨rfl, rfl⟩
end Go.Proofs.YtkkoccllmflhfaaGreatDoor
