/-
  The functions of an aircraft's sortie, of the program and of the reference, walked: what each returns, and that it leaves what was there.
-/
import Derived.Test.YtlglmkbnbpfpfaaRows
import Derived.Test.YtlglmkbnbpfpfaaBase
namespace Go.Proofs.Ytlglmkbnbpfpfaa
open Go.RowKit

def goodA (i l s f m : Int) : Bool := inB i 1 99 && inB l 100 20000 && inB s 1 20 && inB f 1 600 && inB m 1 30
def goodT (a b c : Int) : Bool := inB a 1 400 && inB b 1 400 && inB c 1 400
def flightB (i l s f m a b c : Int) : Bool := goodA i l s f m && goodT a b c
def fly (s far : Int) : Int := (far + s - 1) / s
def dropAt (s m a b n : Int) : Int := fly s a + n * (m + fly s b) + (n - 1) * fly s b
def sortie (s m a b c n : Int) : Int := dropAt s m a b n + fly s c
def mostD (p : Int → Bool) : Nat → Int → Int
  | 0, n => n
  | k + 1, n => if p (n + 1) then mostD p k (n + 1) else n
def mostP (s f m a b c : Int) : Int := mostD (fun n => decide (sortie s m a b c n ≤ f)) 1000 0
def legD (p : Int → Bool) : Nat → Int × Bool
  | 0 => (0, false)
  | k + 1 => if p (k + 1) then (k + 1, true) else legD p k
def legP (s f m a c : Int) : Int × Bool := legD (fun n => decide (sortie s m a n c 1 ≤ f)) 400
def sortieR (i l s f m a b c n : Int) : Int × Bool := if flightB i l s f m a b c && inB n 1 100 then (sortie s m a b c n, true) else (0, false)
def mostR (i l s f m a b c : Int) : Int × Bool := if flightB i l s f m a b c then (mostP s f m a b c, true) else (0, false)
def legR (i l s f m a b c : Int) : Int × Bool := if flightB i l s f m a b c then legP s f m a c else (0, false)

theorem flight_bd {i l s f m a b c : Int} (h : flightB i l s f m a b c = true) :
    1 ≤ s ∧ s ≤ 20 ∧ 1 ≤ f ∧ f ≤ 600 ∧ 1 ≤ m ∧ m ≤ 30 ∧ 1 ≤ a ∧ a ≤ 400 ∧ 1 ≤ b ∧ b ≤ 400 ∧ 1 ≤ c ∧ c ≤ 400 := by
  simp only [flightB, goodA, goodT, Bool.and_eq_true, inB_iff] at h
  omega
theorem flight_leg {i l s f m a b c n : Int} (h : flightB i l s f m a b c = true) (h0 : 1 ≤ n) (h1 : n ≤ 400) : flightB i l s f m a n c = true := by
  simp only [flightB, goodA, goodT, Bool.and_eq_true, inB_iff] at h ⊢
  omega
theorem fly_bd {s far : Int} (hs : 1 ≤ s) (hs2 : s ≤ 20) (h0 : 0 ≤ far) (h1 : far ≤ 400) : 0 ≤ fly s far ∧ fly s far ≤ 420 := by
  unfold fly
  exact ⟨Int.ediv_nonneg (by omega) (by omega), Int.le_trans (Int.ediv_le_self _ (by omega)) (by omega)⟩
theorem dropAt_bd {i l s f m a b c n : Int} (h : flightB i l s f m a b c = true) (hn0 : 1 ≤ n) (hn1 : n ≤ 1000) :
    0 ≤ n * (m + fly s b) ∧ n * (m + fly s b) ≤ 450000 ∧ 0 ≤ (n - 1) * fly s b ∧ (n - 1) * fly s b ≤ 420000 ∧ n ≤ n * (m + fly s b) ∧ 0 ≤ fly s a ∧ fly s a ≤ 420 ∧ 0 ≤ fly s b ∧ fly s b ≤ 420 ∧ 0 ≤ fly s c ∧ fly s c ≤ 420 := by
  have hx := flight_bd h
  have hfa := fly_bd (s := s) (far := a) (by omega) (by omega) (by omega) (by omega)
  have hfb := fly_bd (s := s) (far := b) (by omega) (by omega) (by omega) (by omega)
  have hfc := fly_bd (s := s) (far := c) (by omega) (by omega) (by omega) (by omega)
  have h1 : n * (m + fly s b) ≤ 1000 * 450 := Int.mul_le_mul hn1 (by omega) (by omega) (by omega)
  have h2 : (n - 1) * fly s b ≤ 1000 * 420 := Int.mul_le_mul (by omega) (by omega) (by omega) (by omega)
  have h3 : n * 1 ≤ n * (m + fly s b) := Int.mul_le_mul (by omega) (by omega) (by omega) (by omega)
  have h4 : 0 ≤ (n - 1) * fly s b := Int.mul_nonneg (by omega) (by omega)
  omega
theorem sortie_bd {i l s f m a b c n : Int} (h : flightB i l s f m a b c = true) (hn0 : 1 ≤ n) (hn1 : n ≤ 1000) :
    0 ≤ dropAt s m a b n ∧ dropAt s m a b n ≤ 1000000 ∧ n ≤ sortie s m a b c n := by
  have hx := dropAt_bd h hn0 hn1
  unfold sortie dropAt
  omega
theorem sort_pre {n : Int} (h : inB n 1 100 = true) : 1 ≤ n ∧ n ≤ 1000 := by
  rw [inB_iff] at h; omega
theorem mostD_yes (p : Int → Bool) (n : Nat) (r : Int) (hn : n < 1000) (hp : p (n + 1) = true) (h : Hid (mostD p (1000 - n) n = r)) : Hid (mostD p (1000 - (n + 1)) (n + 1 : Nat) = r) := by
  have h := h.out
  rw [show 1000 - n = (1000 - (n + 1)) + 1 from by omega, mostD, if_pos hp] at h
  show mostD _ _ _ = _
  rw [← h]
  push_cast
  rfl
theorem mostD_no (p : Int → Bool) (n : Nat) (r : Int) (hn : n < 1000) (hp : p (n + 1) = false) (h : Hid (mostD p (1000 - n) n = r)) : (n : Int) = r := by
  have h := h.out
  rw [show 1000 - n = (1000 - (n + 1)) + 1 from by omega, mostD, if_neg (by simp [hp])] at h
  exact h
theorem legD_yes (p : Int → Bool) (n : Nat) (r : Int × Bool) (hp : p ((n : Int) + 1) = true) (h : Hid (legD p (n + 1) = r)) : r = ((n : Int) + 1, true) := by
  rw [← h.out, legD, if_pos hp]
theorem legD_no (p : Int → Bool) (n : Nat) (r : Int × Bool) (hp : p ((n : Int) + 1) = false) (h : Hid (legD p (n + 1) = r)) : Hid (legD p n = r) := by
  show legD p n = r
  rw [← h.out, legD, if_neg (by simp [hp])]

theorem isIn (n lo hi : Int) (w : World) :
    Calls Try.prog 21 #[.int .i64 n, .int .i64 lo, .int .i64 hi] w fun e w' => e = .returned (.bool (inB n lo hi)) ∧ w = w' := by
  go_enter Try.func21, Try.ntmps21
  go_wp2
  all_goals (go_ret; refine ⟨?_, rfl⟩; simp [inB, *]; try omega)

theorem l1In (n lo hi : Int) (w : World) :
    Calls Try.prog 24 #[.int .i64 n, .int .i64 lo, .int .i64 hi] w fun e w' => e = .returned (.bool (inB n lo hi)) ∧ w = w' := by
  go_enter Try.func24, Try.ntmps24
  go_wp2
  all_goals (go_ret; refine ⟨?_, rfl⟩; simp [inB, *]; try omega)

theorem l14Far (n : Int) (w : World) :
    Calls Try.prog 30 #[.int .i64 n] w fun e w' => e = .returned (.bool (inB n 1 400)) ∧ w = w' := by
  go_enter Try.func30, Try.ntmps30
  go_wp2_with (go_at_call 24; refine (l1In _ _ _ _).mono ?_; rintro _ w1 ⟨rfl, rfl⟩)
  go_ret
  exact ⟨rfl, rfl⟩

theorem toTarget (a b c : Int) (w : World) :
    Calls Try.prog 9 #[.agg #[.int .i64 a, .int .i64 b, .int .i64 c]] w fun e w' => e = .returned (.agg #[.int .i64 a, .int .i64 b, .int .i64 c]) ∧ Below w.heap.size w w' := by
  go_enter Try.func9, Try.ntmps9
  go_wp2
  exact bodyPost_ret (v := .agg #[.int .i64 a, .int .i64 b, .int .i64 c]) (by simp [results, Try.results9, go_sem]) rfl ⟨rfl, by (repeat (first | exact bel_refl _ | assumption | refine bel_drew ?_ | refine bel_drewN ?_ | refine bel_alloc ?_ | refine bel_set ?_ (by first | (simp; done) | (simp; omega) | omega) | refine bel_trans ?_ (by assumption)))⟩

theorem toAircraft (i l s f m : Int) (w : World) :
    Calls Try.prog 12 #[.agg #[.int .i64 i, .int .i64 l, .int .i64 s, .int .i64 f, .int .i64 m]] w fun e w' => e = .returned (.agg #[.int .i64 i, .int .i64 l, .int .i64 s, .int .i64 f, .int .i64 m]) ∧ Below w.heap.size w w' := by
  go_enter Try.func12, Try.ntmps12
  go_wp2
  exact bodyPost_ret (v := .agg #[.int .i64 i, .int .i64 l, .int .i64 s, .int .i64 f, .int .i64 m]) (by simp [results, Try.results12, go_sem]) rfl ⟨rfl, by (repeat (first | exact bel_refl _ | assumption | refine bel_drew ?_ | refine bel_drewN ?_ | refine bel_alloc ?_ | refine bel_set ?_ (by first | (simp; done) | (simp; omega) | omega) | refine bel_trans ?_ (by assumption)))⟩

theorem isTargetI (a b c : Int) (w : World) :
    Calls Try.prog 10 #[.agg #[.int .i64 a, .int .i64 b, .int .i64 c]] w fun e w' => e = .returned (.bool (goodT a b c)) ∧ Below w.heap.size w w' := by
  go_enter Try.func10, Try.ntmps10
  go_wp2_with (go_at_call 21; refine (isIn _ _ _ _).mono ?_; rintro _ w1 ⟨rfl, rfl⟩)
  all_goals go_ret
  all_goals (refine ⟨?_, by (repeat (first | exact bel_refl _ | assumption | refine bel_drew ?_ | refine bel_drewN ?_ | refine bel_alloc ?_ | refine bel_set ?_ (by first | (simp; done) | (simp; omega) | omega) | refine bel_trans ?_ (by assumption)))⟩; simp [goodT, *])

theorem l14Target (a b c : Int) (w : World) :
    Calls Try.prog 20 #[.agg #[.int .i64 a, .int .i64 b, .int .i64 c]] w fun e w' => e = .returned (.bool (goodT a b c)) ∧ Below w.heap.size w w' := by
  go_enter Try.func20, Try.ntmps20
  go_wp2_with (go_at_call 30; refine (l14Far _ _).mono ?_; rintro _ w1 ⟨rfl, rfl⟩)
  all_goals go_ret
  all_goals (refine ⟨?_, by (repeat (first | exact bel_refl _ | assumption | refine bel_drew ?_ | refine bel_drewN ?_ | refine bel_alloc ?_ | refine bel_set ?_ (by first | (simp; done) | (simp; omega) | omega) | refine bel_trans ?_ (by assumption)))⟩; simp [goodT, *])

theorem isTargetS (a b c : Int) (w : World) :
    Calls Try.prog 8 #[.agg #[.int .i64 a, .int .i64 b, .int .i64 c]] w fun e w' => e = .returned (.bool (goodT a b c)) ∧ Below w.heap.size w w' := by
  go_enter Try.func8, Try.ntmps8
  go_wp2_with (go_at_call 20; refine (l14Target _ _ _ _).mono ?_; rintro e w1 ⟨rfl, hb⟩)
  go_ret
  exact ⟨rfl, by (repeat (first | exact bel_refl _ | assumption | refine bel_drew ?_ | refine bel_drewN ?_ | refine bel_alloc ?_ | refine bel_set ?_ (by first | (simp; done) | (simp; omega) | omega) | refine bel_trans ?_ (by assumption)))⟩

theorem isAircraftI (i l s f m : Int) (w : World) :
    Calls Try.prog 13 #[.agg #[.int .i64 i, .int .i64 l, .int .i64 s, .int .i64 f, .int .i64 m]] w fun e w' => e = .returned (.bool (goodA i l s f m)) ∧ Below w.heap.size w w' := by
  go_enter Try.func13, Try.ntmps13
  go_wp2_with (go_at_call 21; refine (isIn _ _ _ _).mono ?_; rintro _ w1 ⟨rfl, rfl⟩)
  all_goals go_ret
  all_goals (refine ⟨?_, by (repeat (first | exact bel_refl _ | assumption | refine bel_drew ?_ | refine bel_drewN ?_ | refine bel_alloc ?_ | refine bel_set ?_ (by first | (simp; done) | (simp; omega) | omega) | refine bel_trans ?_ (by assumption)))⟩; simp [goodA, *])

theorem l14Good (i l s f m : Int) (w : World) :
    Calls Try.prog 22 #[.agg #[.int .i64 i, .int .i64 l, .int .i64 s, .int .i64 f, .int .i64 m]] w fun e w' => e = .returned (.bool (goodA i l s f m)) ∧ Below w.heap.size w w' := by
  go_enter Try.func22, Try.ntmps22
  go_wp2_with (go_at_call 24; refine (l1In _ _ _ _).mono ?_; rintro _ w1 ⟨rfl, rfl⟩)
  all_goals go_ret
  all_goals (refine ⟨?_, by (repeat (first | exact bel_refl _ | assumption | refine bel_drew ?_ | refine bel_drewN ?_ | refine bel_alloc ?_ | refine bel_set ?_ (by first | (simp; done) | (simp; omega) | omega) | refine bel_trans ?_ (by assumption)))⟩; simp [goodA, *])

theorem isAircraftS (i l s f m : Int) (w : World) :
    Calls Try.prog 11 #[.agg #[.int .i64 i, .int .i64 l, .int .i64 s, .int .i64 f, .int .i64 m]] w fun e w' => e = .returned (.bool (goodA i l s f m)) ∧ Below w.heap.size w w' := by
  go_enter Try.func11, Try.ntmps11
  go_wp2_with (go_at_call 22; refine (l14Good _ _ _ _ _ _).mono ?_; rintro e w1 ⟨rfl, hb⟩)
  go_ret
  exact ⟨rfl, by (repeat (first | exact bel_refl _ | assumption | refine bel_drew ?_ | refine bel_drewN ?_ | refine bel_alloc ?_ | refine bel_set ?_ (by first | (simp; done) | (simp; omega) | omega) | refine bel_trans ?_ (by assumption)))⟩

theorem isFlight (i l s f m a b c : Int) (w : World) :
    Calls Try.prog 26 #[.agg #[.int .i64 i, .int .i64 l, .int .i64 s, .int .i64 f, .int .i64 m], .agg #[.int .i64 a, .int .i64 b, .int .i64 c]] w fun e w' => e = .returned (.bool (flightB i l s f m a b c)) ∧ Below w.heap.size w w' := by
  have hB2 := bel_refl ((w.alloc (.cells #[.int .i64 i, .int .i64 l, .int .i64 s, .int .i64 f, .int .i64 m] 31)).alloc (.cells #[.int .i64 a, .int .i64 b, .int .i64 c] 25))
  go_enter Try.func26, Try.ntmps26
  go_wp2_with (first | (go_at_call 13; refine (isAircraftI _ _ _ _ _ _).mono ?_; rintro _ w1 ⟨rfl, hB1⟩; replace hB2 := bel_trans hB2 hB1; obtain ⟨hC1, hF1⟩ := bcell hB2) | (go_at_call 10; refine (isTargetI _ _ _ _).mono ?_; rintro _ w1 ⟨rfl, hB1⟩; replace hB2 := bel_trans hB2 hB1; obtain ⟨hC1, hF1⟩ := bcell hB2))
  all_goals go_ret
  all_goals (refine ⟨?_, by (repeat (first | exact bel_refl _ | assumption | refine bel_drew ?_ | refine bel_drewN ?_ | refine bel_alloc ?_ | refine bel_set ?_ (by first | (simp; done) | (simp; omega) | omega) | refine bel_trans ?_ (by assumption)))⟩; simp [flightB, *])

theorem l14Asked (i l s f m a b c : Int) (w : World) :
    Calls Try.prog 23 #[.agg #[.int .i64 i, .int .i64 l, .int .i64 s, .int .i64 f, .int .i64 m], .agg #[.int .i64 a, .int .i64 b, .int .i64 c]] w fun e w' => e = .returned (.bool (flightB i l s f m a b c)) ∧ Below w.heap.size w w' := by
  have hB2 := bel_refl ((w.alloc (.cells #[.int .i64 i, .int .i64 l, .int .i64 s, .int .i64 f, .int .i64 m] 31)).alloc (.cells #[.int .i64 a, .int .i64 b, .int .i64 c] 25))
  go_enter Try.func23, Try.ntmps23
  go_wp2_with (first | (go_at_call 22; refine (l14Good _ _ _ _ _ _).mono ?_; rintro _ w1 ⟨rfl, hB1⟩; replace hB2 := bel_trans hB2 hB1; obtain ⟨hC1, hF1⟩ := bcell hB2) | (go_at_call 20; refine (l14Target _ _ _ _).mono ?_; rintro _ w1 ⟨rfl, hB1⟩; replace hB2 := bel_trans hB2 hB1; obtain ⟨hC1, hF1⟩ := bcell hB2))
  all_goals go_ret
  all_goals (refine ⟨?_, by (repeat (first | exact bel_refl _ | assumption | refine bel_drew ?_ | refine bel_drewN ?_ | refine bel_alloc ?_ | refine bel_set ?_ (by first | (simp; done) | (simp; omega) | omega) | refine bel_trans ?_ (by assumption)))⟩; simp [flightB, *])

theorem flyS (i l s f m far : Int) (w : World) (hs : 1 ≤ s) (hs2 : s ≤ 20) (h0 : 0 ≤ far) (h1 : far ≤ 400) :
    Calls Try.prog 32 #[.agg #[.int .i64 i, .int .i64 l, .int .i64 s, .int .i64 f, .int .i64 m], .int .i64 far] w fun e w' => e = .returned (.int .i64 (fly s far)) ∧ Below w.heap.size w w' := by
  go_enter Try.func32, Try.ntmps32
  go_wp2
  go_ret
  exact ⟨rfl, by (repeat (first | exact bel_refl _ | assumption | refine bel_drew ?_ | refine bel_drewN ?_ | refine bel_alloc ?_ | refine bel_set ?_ (by first | (simp; done) | (simp; omega) | omega) | refine bel_trans ?_ (by assumption)))⟩

theorem dropAtS (i l s f m a b c n : Int) (w : World) (h : flightB i l s f m a b c = true) (hn0 : 1 ≤ n) (hn1 : n ≤ 1000) :
    Calls Try.prog 31 #[.agg #[.int .i64 i, .int .i64 l, .int .i64 s, .int .i64 f, .int .i64 m], .agg #[.int .i64 a, .int .i64 b, .int .i64 c], .int .i64 n] w fun e w' => e = .returned (.int .i64 (dropAt s m a b n)) ∧ Below w.heap.size w w' := by
  have hB2 := bel_refl ((w.alloc (.cells #[.int .i64 i, .int .i64 l, .int .i64 s, .int .i64 f, .int .i64 m] 31)).alloc (.cells #[.int .i64 a, .int .i64 b, .int .i64 c] 25))
  have hx := flight_bd h
  have hdb := dropAt_bd h hn0 hn1
  clear h
  go_enter Try.func31, Try.ntmps31
  go_wp2_with (go_at_call 32; refine (flyS _ _ _ _ _ _ _ (by omega) (by omega) (by omega) (by omega)).mono ?_; rintro _ w1 ⟨rfl, hB1⟩; replace hB2 := bel_trans hB2 hB1; obtain ⟨hC1, hF1⟩ := bcell hB2)
  (refine wp_region_bel (by kernel_rfl) (by kernel_rfl) ?_; have hD := bel_cells hB2; (repeat (go_big_quiet_step (((go_at_call 32; exact calls_bel (flyS _ _ _ _ _ _ _ (by omega) (by omega) (by omega) (by omega))))))); refine wpQuiet_nil ?_; intro w1 hB1; replace hB2 := bel_trans hB2 hB1; obtain ⟨hC1, hF1⟩ := bcell hB2; clear hD)
  go_wp2
  go_ret
  exact ⟨rfl, by (repeat (first | exact bel_refl _ | assumption | refine bel_drew ?_ | refine bel_drewN ?_ | refine bel_alloc ?_ | refine bel_set ?_ (by first | (simp; done) | (simp; omega) | omega) | refine bel_trans ?_ (by assumption)))⟩

theorem sortieS (i l s f m a b c n : Int) (w : World) (h : flightB i l s f m a b c = true) (hn0 : 1 ≤ n) (hn1 : n ≤ 1000) :
    Calls Try.prog 25 #[.agg #[.int .i64 i, .int .i64 l, .int .i64 s, .int .i64 f, .int .i64 m], .agg #[.int .i64 a, .int .i64 b, .int .i64 c], .int .i64 n] w fun e w' => e = .returned (.int .i64 (sortie s m a b c n)) ∧ Below w.heap.size w w' := by
  have hB2 := bel_refl ((w.alloc (.cells #[.int .i64 i, .int .i64 l, .int .i64 s, .int .i64 f, .int .i64 m] 31)).alloc (.cells #[.int .i64 a, .int .i64 b, .int .i64 c] 25))
  have hx := flight_bd h
  have hdb := dropAt_bd h hn0 hn1
  have hdd := sortie_bd h hn0 hn1
  have hfl := hid h
  clear h
  go_enter Try.func25, Try.ntmps25
  go_wp2_with fail
  (refine wp_region_bel (by kernel_rfl) (by kernel_rfl) ?_; have hD := bel_cells hB2; (repeat (go_big_quiet_step ((first | (go_at_call 32; exact calls_bel (flyS _ _ _ _ _ _ _ (by omega) (by omega) (by omega) (by omega))) | (go_at_call 31; exact calls_bel (dropAtS _ _ _ _ _ _ _ _ _ _ hfl.out hn0 hn1)))))); refine wpQuiet_nil ?_; intro w1 hB1; replace hB2 := bel_trans hB2 hB1; obtain ⟨hC1, hF1⟩ := bcell hB2; clear hD)
  go_wp2
  go_ret
  exact ⟨rfl, by (repeat (first | exact bel_refl _ | assumption | refine bel_drew ?_ | refine bel_drewN ?_ | refine bel_alloc ?_ | refine bel_set ?_ (by first | (simp; done) | (simp; omega) | omega) | refine bel_trans ?_ (by assumption)))⟩

theorem mostS (i l s f m a b c : Int) (w : World) (h : flightB i l s f m a b c = true) :
    Calls Try.prog 28 #[.agg #[.int .i64 i, .int .i64 l, .int .i64 s, .int .i64 f, .int .i64 m], .agg #[.int .i64 a, .int .i64 b, .int .i64 c]] w fun e w' => e = .returned (.int .i64 (mostP s f m a b c)) ∧ Below w.heap.size w w' := by
  have hB2 := bel_refl ((w.alloc (.cells #[.int .i64 i, .int .i64 l, .int .i64 s, .int .i64 f, .int .i64 m] 31)).alloc (.cells #[.int .i64 a, .int .i64 b, .int .i64 c] 25))
  have hx := flight_bd h
  have hfl := hid h
  clear h
  go_enter Try.func28, Try.ntmps28
  go_wp2_with fail
  go_loopw [5] (fun v wr => ∃ n : Nat, n ≤ 600 ∧ v = .int .i64 n ∧ Hid (mostD (fun n => decide (sortie s m a b c n ≤ f)) (1000 - n) n = mostP s f m a b c) ∧ Below ((w.alloc (.cells #[.int .i64 i, .int .i64 l, .int .i64 s, .int .i64 f, .int .i64 m] 31)).alloc (.cells #[.int .i64 a, .int .i64 b, .int .i64 c] 25)).heap.size ((w.alloc (.cells #[.int .i64 i, .int .i64 l, .int .i64 s, .int .i64 f, .int .i64 m] 31)).alloc (.cells #[.int .i64 a, .int .i64 b, .int .i64 c] 25)) wr) (fun v _ => (1000 - intOf v).toNat)
  case atStart => exact ⟨0, by omega, rfl, rfl, hB2⟩
  case round =>
    obtain ⟨n, hn, rfl, hH, hB2⟩ := hrel
    have hso := sortie_bd hfl.out (n := n + 1) (by omega) (by omega)
    obtain ⟨hC1, hF1⟩ := bcell hB2
    go_wp2_with fail
    (refine wp_region_bel (by kernel_rfl) (by kernel_rfl) ?_; have hD := bel_cells hB2; (repeat (go_big_quiet_step (((go_at_call 25; exact calls_bel (sortieS _ _ _ _ _ _ _ _ _ _ hfl.out (by omega) (by omega))))))); refine wpQuiet_nil ?_; intro w1 hB1; replace hB2 := bel_trans hB2 hB1; obtain ⟨hC1, hF1⟩ := bcell hB2; clear hD)
    by_cases hp : sortie s m a b c (n + 1) ≤ f
    · go_wp2
      go_roundw
      case rel => exact ⟨n + 1, by omega, by go_num, mostD_yes _ _ _ (by omega) (by simpa using hp) hH, by (repeat (first | exact bel_refl _ | assumption | refine bel_drew ?_ | refine bel_drewN ?_ | refine bel_alloc ?_ | refine bel_set ?_ (by first | (simp; done) | (simp; omega) | omega) | refine bel_trans ?_ (by assumption)))⟩
      case measure => simp [intOf]; omega
    · go_wp2
      go_ret
      exact ⟨ret_int (mostD_no _ _ _ (by omega) (by simpa using hp) hH), by (repeat (first | exact bel_refl _ | assumption | refine bel_drew ?_ | refine bel_drewN ?_ | refine bel_alloc ?_ | refine bel_set ?_ (by first | (simp; done) | (simp; omega) | omega) | refine bel_trans ?_ (by assumption)))⟩

theorem xsortS (i l s f m a b c n : Int) (w : World) :
    Calls Try.prog 14 #[.agg #[.int .i64 i, .int .i64 l, .int .i64 s, .int .i64 f, .int .i64 m], .agg #[.int .i64 a, .int .i64 b, .int .i64 c], .int .i64 n] w fun e w' => e = .returned (.tuple #[.int .i64 (sortieR i l s f m a b c n).1, .bool (sortieR i l s f m a b c n).2]) ∧ Below w.heap.size w w' := by
  have hB2 := bel_refl ((w.alloc (.cells #[.int .i64 i, .int .i64 l, .int .i64 s, .int .i64 f, .int .i64 m] 31)).alloc (.cells #[.int .i64 a, .int .i64 b, .int .i64 c] 25))
  go_enter Try.func14, Try.ntmps14
  go_wp2_with (first
    | (go_at_call 23; refine (l14Asked _ _ _ _ _ _ _ _ _).mono ?_; rintro _ w1 ⟨rfl, hB1⟩; replace hB2 := bel_trans hB2 hB1; obtain ⟨hC1, hF1⟩ := bcell hB2)
    | (go_at_call 24; refine (l1In _ _ _ _).mono ?_; rintro _ w1 ⟨rfl, rfl⟩)
    | (go_at_call 25; refine (sortieS _ _ _ _ _ _ _ _ _ _ (by assumption) (sort_pre (nb (by assumption))).1 (sort_pre (nb (by assumption))).2).mono ?_; rintro _ w1 ⟨rfl, hB1⟩; replace hB2 := bel_trans hB2 hB1; obtain ⟨hC1, hF1⟩ := bcell hB2))
  all_goals go_ret2
  all_goals ((try have nb1 := nb (by assumption)); (try have nt1 := nt (by assumption)); refine ⟨?_, by (repeat (first | exact bel_refl _ | assumption | refine bel_drew ?_ | refine bel_drewN ?_ | refine bel_alloc ?_ | refine bel_set ?_ (by first | (simp; done) | (simp; omega) | omega) | refine bel_trans ?_ (by assumption)))⟩; simp [sortieR, *])

theorem xmostS (i l s f m a b c : Int) (w : World) :
    Calls Try.prog 18 #[.agg #[.int .i64 i, .int .i64 l, .int .i64 s, .int .i64 f, .int .i64 m], .agg #[.int .i64 a, .int .i64 b, .int .i64 c]] w fun e w' => e = .returned (.tuple #[.int .i64 (mostR i l s f m a b c).1, .bool (mostR i l s f m a b c).2]) ∧ Below w.heap.size w w' := by
  have hB2 := bel_refl ((w.alloc (.cells #[.int .i64 i, .int .i64 l, .int .i64 s, .int .i64 f, .int .i64 m] 31)).alloc (.cells #[.int .i64 a, .int .i64 b, .int .i64 c] 25))
  go_enter Try.func18, Try.ntmps18
  go_wp2_with (first
    | (go_at_call 23; refine (l14Asked _ _ _ _ _ _ _ _ _).mono ?_; rintro _ w1 ⟨rfl, hB1⟩; replace hB2 := bel_trans hB2 hB1; obtain ⟨hC1, hF1⟩ := bcell hB2)
    | (go_at_call 28; refine (mostS _ _ _ _ _ _ _ _ _ (nb (by assumption))).mono ?_; rintro _ w1 ⟨rfl, hB1⟩; replace hB2 := bel_trans hB2 hB1; obtain ⟨hC1, hF1⟩ := bcell hB2))
  all_goals go_ret2
  all_goals ((try have nb1 := nb (by assumption)); (try have nt1 := nt (by assumption)); refine ⟨?_, by (repeat (first | exact bel_refl _ | assumption | refine bel_drew ?_ | refine bel_drewN ?_ | refine bel_alloc ?_ | refine bel_set ?_ (by first | (simp; done) | (simp; omega) | omega) | refine bel_trans ?_ (by assumption)))⟩; simp [mostR, *])

set_option maxRecDepth 100000 in
theorem xlegS (i l s f m a b c : Int) (w : World) :
    Calls Try.prog 16 #[.agg #[.int .i64 i, .int .i64 l, .int .i64 s, .int .i64 f, .int .i64 m], .agg #[.int .i64 a, .int .i64 b, .int .i64 c]] w fun e w' => e = .returned (.tuple #[.int .i64 (legR i l s f m a b c).1, .bool (legR i l s f m a b c).2]) ∧ Below w.heap.size w w' := by
  have hB2 := bel_refl ((w.alloc (.cells #[.int .i64 i, .int .i64 l, .int .i64 s, .int .i64 f, .int .i64 m] 31)).alloc (.cells #[.int .i64 a, .int .i64 b, .int .i64 c] 25))
  by_cases h : flightB i l s f m a b c = true
  · have hR : Hid (legR i l s f m a b c = legP s f m a c) := by show _ = _; simp [legR, h]
    have hx := flight_bd h
    have hfl := hid h
    go_enter Try.func16, Try.ntmps16
    go_wp2_with (go_at_call 23; refine (l14Asked _ _ _ _ _ _ _ _ _).mono ?_; rintro _ w1 ⟨rfl, hB1⟩; replace hB2 := bel_trans hB2 hB1; obtain ⟨hC1, hF1⟩ := bcell hB2)
    clear h
    go_loopw [6] (fun v wr => ∃ n : Nat, n ≤ 400 ∧ v = .int .i64 n ∧ Hid (legD (fun n => decide (sortie s m a n c 1 ≤ f)) n = legP s f m a c) ∧ Below ((w.alloc (.cells #[.int .i64 i, .int .i64 l, .int .i64 s, .int .i64 f, .int .i64 m] 31)).alloc (.cells #[.int .i64 a, .int .i64 b, .int .i64 c] 25)).heap.size ((w.alloc (.cells #[.int .i64 i, .int .i64 l, .int .i64 s, .int .i64 f, .int .i64 m] 31)).alloc (.cells #[.int .i64 a, .int .i64 b, .int .i64 c] 25)) wr) (fun v _ => (intOf v).toNat)
    case atStart => exact ⟨400, by omega, rfl, rfl, hB2⟩
    case round =>
      obtain ⟨n, hn, rfl, hH, hB2⟩ := hrel
      obtain ⟨hC1, hF1⟩ := bcell hB2
      rcases n with _ | n
      · go_wp2
        go_ret2
        refine ⟨?_, by (repeat (first | exact bel_refl _ | assumption | refine bel_drew ?_ | refine bel_drewN ?_ | refine bel_alloc ?_ | refine bel_set ?_ (by first | (simp; done) | (simp; omega) | omega) | refine bel_trans ?_ (by assumption)))⟩
        simp [hR.out, ← hH.out, legD]
      · have hp0 : ((n + 1 : Nat) : Int) = (n : Int) + 1 := by omega
        rw [hp0]
        have hn1 : (n : Int) + 1 ≤ 400 := by omega
        clear hp0
        go_wp2_with fail
        (refine wp_region_bel (by kernel_rfl) (by kernel_rfl) ?_; have hD := bel_cells hB2; (repeat (go_big_quiet_step (((go_at_call 25; exact calls_bel (sortieS _ _ _ _ _ _ _ _ _ _ (flight_leg hfl.out (by omega) (by omega)) (by omega) (by omega))))))); refine wpQuiet_nil ?_; intro w1 hB1; replace hB2 := bel_trans hB2 hB1; obtain ⟨hC1, hF1⟩ := bcell hB2; clear hD)
        by_cases hp : sortie s m a (n + 1) c 1 ≤ f
        · go_wp2
          go_ret2
          refine ⟨?_, by (repeat (first | exact bel_refl _ | assumption | refine bel_drew ?_ | refine bel_drewN ?_ | refine bel_alloc ?_ | refine bel_set ?_ (by first | (simp; done) | (simp; omega) | omega) | refine bel_trans ?_ (by assumption)))⟩
          simp [hR.out, legD_yes _ _ _ (by simpa using hp) hH]
        · go_wp2
          go_roundw
          case rel => exact ⟨n, by omega, by go_num, legD_no _ _ _ (by simpa using hp) hH, by (repeat (first | exact bel_refl _ | assumption | refine bel_drew ?_ | refine bel_drewN ?_ | refine bel_alloc ?_ | refine bel_set ?_ (by first | (simp; done) | (simp; omega) | omega) | refine bel_trans ?_ (by assumption)))⟩
          case measure => simp [intOf]
  · have hR : Hid (legR i l s f m a b c = (0, false)) := by show _ = _; simp [legR, h]
    go_enter Try.func16, Try.ntmps16
    go_wp2_with (go_at_call 23; refine (l14Asked _ _ _ _ _ _ _ _ _).mono ?_; rintro _ w1 ⟨rfl, hB1⟩; replace hB2 := bel_trans hB2 hB1; obtain ⟨hC1, hF1⟩ := bcell hB2)
    go_ret2
    refine ⟨?_, by (repeat (first | exact bel_refl _ | assumption | refine bel_drew ?_ | refine bel_drewN ?_ | refine bel_alloc ?_ | refine bel_set ?_ (by first | (simp; done) | (simp; omega) | omega) | refine bel_trans ?_ (by assumption)))⟩
    simp [hR.out]

theorem flyI (i l s f m far : Int) (w : World) (hs : 1 ≤ s) (hs2 : s ≤ 20) (h0 : 0 ≤ far) (h1 : far ≤ 400) :
    Calls Try.prog 34 #[.agg #[.int .i64 i, .int .i64 l, .int .i64 s, .int .i64 f, .int .i64 m], .int .i64 far] w fun e w' => e = .returned (.int .i64 (fly s far)) ∧ Below w.heap.size w w' := by
  go_enter Try.func34, Try.ntmps34
  go_wp2
  go_ret
  exact ⟨rfl, by (repeat (first | exact bel_refl _ | assumption | refine bel_drew ?_ | refine bel_drewN ?_ | refine bel_alloc ?_ | refine bel_set ?_ (by first | (simp; done) | (simp; omega) | omega) | refine bel_trans ?_ (by assumption)))⟩

theorem dropAtI (i l s f m a b c n : Int) (w : World) (h : flightB i l s f m a b c = true) (hn0 : 1 ≤ n) (hn1 : n ≤ 1000) :
    Calls Try.prog 33 #[.agg #[.int .i64 i, .int .i64 l, .int .i64 s, .int .i64 f, .int .i64 m], .agg #[.int .i64 a, .int .i64 b, .int .i64 c], .int .i64 n] w fun e w' => e = .returned (.int .i64 (dropAt s m a b n)) ∧ Below w.heap.size w w' := by
  have hB2 := bel_refl ((w.alloc (.cells #[.int .i64 i, .int .i64 l, .int .i64 s, .int .i64 f, .int .i64 m] 31)).alloc (.cells #[.int .i64 a, .int .i64 b, .int .i64 c] 25))
  have hx := flight_bd h
  have hdb := dropAt_bd h hn0 hn1
  clear h
  go_enter Try.func33, Try.ntmps33
  go_wp2_with (go_at_call 34; refine (flyI _ _ _ _ _ _ _ (by omega) (by omega) (by omega) (by omega)).mono ?_; rintro _ w1 ⟨rfl, hB1⟩; replace hB2 := bel_trans hB2 hB1; obtain ⟨hC1, hF1⟩ := bcell hB2)
  (refine wp_region_bel (by kernel_rfl) (by kernel_rfl) ?_; have hD := bel_cells hB2; (repeat (go_big_quiet_step (((go_at_call 34; exact calls_bel (flyI _ _ _ _ _ _ _ (by omega) (by omega) (by omega) (by omega))))))); refine wpQuiet_nil ?_; intro w1 hB1; replace hB2 := bel_trans hB2 hB1; obtain ⟨hC1, hF1⟩ := bcell hB2; clear hD)
  go_wp2
  go_ret
  exact ⟨rfl, by (repeat (first | exact bel_refl _ | assumption | refine bel_drew ?_ | refine bel_drewN ?_ | refine bel_alloc ?_ | refine bel_set ?_ (by first | (simp; done) | (simp; omega) | omega) | refine bel_trans ?_ (by assumption)))⟩

theorem sortieI (i l s f m a b c n : Int) (w : World) (h : flightB i l s f m a b c = true) (hn0 : 1 ≤ n) (hn1 : n ≤ 1000) :
    Calls Try.prog 27 #[.agg #[.int .i64 i, .int .i64 l, .int .i64 s, .int .i64 f, .int .i64 m], .agg #[.int .i64 a, .int .i64 b, .int .i64 c], .int .i64 n] w fun e w' => e = .returned (.int .i64 (sortie s m a b c n)) ∧ Below w.heap.size w w' := by
  have hB2 := bel_refl ((w.alloc (.cells #[.int .i64 i, .int .i64 l, .int .i64 s, .int .i64 f, .int .i64 m] 31)).alloc (.cells #[.int .i64 a, .int .i64 b, .int .i64 c] 25))
  have hx := flight_bd h
  have hdb := dropAt_bd h hn0 hn1
  have hdd := sortie_bd h hn0 hn1
  have hfl := hid h
  clear h
  go_enter Try.func27, Try.ntmps27
  go_wp2_with fail
  (refine wp_region_bel (by kernel_rfl) (by kernel_rfl) ?_; have hD := bel_cells hB2; (repeat (go_big_quiet_step ((first | (go_at_call 34; exact calls_bel (flyI _ _ _ _ _ _ _ (by omega) (by omega) (by omega) (by omega))) | (go_at_call 33; exact calls_bel (dropAtI _ _ _ _ _ _ _ _ _ _ hfl.out hn0 hn1)))))); refine wpQuiet_nil ?_; intro w1 hB1; replace hB2 := bel_trans hB2 hB1; obtain ⟨hC1, hF1⟩ := bcell hB2; clear hD)
  go_wp2
  go_ret
  exact ⟨rfl, by (repeat (first | exact bel_refl _ | assumption | refine bel_drew ?_ | refine bel_drewN ?_ | refine bel_alloc ?_ | refine bel_set ?_ (by first | (simp; done) | (simp; omega) | omega) | refine bel_trans ?_ (by assumption)))⟩

theorem mostI (i l s f m a b c : Int) (w : World) (h : flightB i l s f m a b c = true) :
    Calls Try.prog 29 #[.agg #[.int .i64 i, .int .i64 l, .int .i64 s, .int .i64 f, .int .i64 m], .agg #[.int .i64 a, .int .i64 b, .int .i64 c]] w fun e w' => e = .returned (.int .i64 (mostP s f m a b c)) ∧ Below w.heap.size w w' := by
  have hB2 := bel_refl ((w.alloc (.cells #[.int .i64 i, .int .i64 l, .int .i64 s, .int .i64 f, .int .i64 m] 31)).alloc (.cells #[.int .i64 a, .int .i64 b, .int .i64 c] 25))
  have hx := flight_bd h
  have hfl := hid h
  clear h
  go_enter Try.func29, Try.ntmps29
  go_wp2_with fail
  go_loopw [5] (fun v wr => ∃ n : Nat, n ≤ 600 ∧ v = .int .i64 n ∧ Hid (mostD (fun n => decide (sortie s m a b c n ≤ f)) (1000 - n) n = mostP s f m a b c) ∧ Below ((w.alloc (.cells #[.int .i64 i, .int .i64 l, .int .i64 s, .int .i64 f, .int .i64 m] 31)).alloc (.cells #[.int .i64 a, .int .i64 b, .int .i64 c] 25)).heap.size ((w.alloc (.cells #[.int .i64 i, .int .i64 l, .int .i64 s, .int .i64 f, .int .i64 m] 31)).alloc (.cells #[.int .i64 a, .int .i64 b, .int .i64 c] 25)) wr) (fun v _ => (1000 - intOf v).toNat)
  case atStart => exact ⟨0, by omega, rfl, rfl, hB2⟩
  case round =>
    obtain ⟨n, hn, rfl, hH, hB2⟩ := hrel
    have hso := sortie_bd hfl.out (n := n + 1) (by omega) (by omega)
    obtain ⟨hC1, hF1⟩ := bcell hB2
    go_wp2_with fail
    (refine wp_region_bel (by kernel_rfl) (by kernel_rfl) ?_; have hD := bel_cells hB2; (repeat (go_big_quiet_step (((go_at_call 27; exact calls_bel (sortieI _ _ _ _ _ _ _ _ _ _ hfl.out (by omega) (by omega))))))); refine wpQuiet_nil ?_; intro w1 hB1; replace hB2 := bel_trans hB2 hB1; obtain ⟨hC1, hF1⟩ := bcell hB2; clear hD)
    by_cases hp : sortie s m a b c (n + 1) ≤ f
    · go_wp2
      go_roundw
      case rel => exact ⟨n + 1, by omega, by go_num, mostD_yes _ _ _ (by omega) (by simpa using hp) hH, by (repeat (first | exact bel_refl _ | assumption | refine bel_drew ?_ | refine bel_drewN ?_ | refine bel_alloc ?_ | refine bel_set ?_ (by first | (simp; done) | (simp; omega) | omega) | refine bel_trans ?_ (by assumption)))⟩
      case measure => simp [intOf]; omega
    · go_wp2
      go_ret
      exact ⟨ret_int (mostD_no _ _ _ (by omega) (by simpa using hp) hH), by (repeat (first | exact bel_refl _ | assumption | refine bel_drew ?_ | refine bel_drewN ?_ | refine bel_alloc ?_ | refine bel_set ?_ (by first | (simp; done) | (simp; omega) | omega) | refine bel_trans ?_ (by assumption)))⟩

theorem xsortI (i l s f m a b c n : Int) (w : World) :
    Calls Try.prog 15 #[.agg #[.int .i64 i, .int .i64 l, .int .i64 s, .int .i64 f, .int .i64 m], .agg #[.int .i64 a, .int .i64 b, .int .i64 c], .int .i64 n] w fun e w' => e = .returned (.tuple #[.int .i64 (sortieR i l s f m a b c n).1, .bool (sortieR i l s f m a b c n).2]) ∧ Below w.heap.size w w' := by
  have hB2 := bel_refl ((w.alloc (.cells #[.int .i64 i, .int .i64 l, .int .i64 s, .int .i64 f, .int .i64 m] 31)).alloc (.cells #[.int .i64 a, .int .i64 b, .int .i64 c] 25))
  go_enter Try.func15, Try.ntmps15
  go_wp2_with (first
    | (go_at_call 26; refine (isFlight _ _ _ _ _ _ _ _ _).mono ?_; rintro _ w1 ⟨rfl, hB1⟩; replace hB2 := bel_trans hB2 hB1; obtain ⟨hC1, hF1⟩ := bcell hB2)
    | (go_at_call 21; refine (isIn _ _ _ _).mono ?_; rintro _ w1 ⟨rfl, rfl⟩)
    | (go_at_call 27; refine (sortieI _ _ _ _ _ _ _ _ _ _ (by assumption) (sort_pre (nb (by assumption))).1 (sort_pre (nb (by assumption))).2).mono ?_; rintro _ w1 ⟨rfl, hB1⟩; replace hB2 := bel_trans hB2 hB1; obtain ⟨hC1, hF1⟩ := bcell hB2))
  all_goals go_ret2
  all_goals ((try have nb1 := nb (by assumption)); (try have nt1 := nt (by assumption)); refine ⟨?_, by (repeat (first | exact bel_refl _ | assumption | refine bel_drew ?_ | refine bel_drewN ?_ | refine bel_alloc ?_ | refine bel_set ?_ (by first | (simp; done) | (simp; omega) | omega) | refine bel_trans ?_ (by assumption)))⟩; simp [sortieR, *])

theorem xmostI (i l s f m a b c : Int) (w : World) :
    Calls Try.prog 19 #[.agg #[.int .i64 i, .int .i64 l, .int .i64 s, .int .i64 f, .int .i64 m], .agg #[.int .i64 a, .int .i64 b, .int .i64 c]] w fun e w' => e = .returned (.tuple #[.int .i64 (mostR i l s f m a b c).1, .bool (mostR i l s f m a b c).2]) ∧ Below w.heap.size w w' := by
  have hB2 := bel_refl ((w.alloc (.cells #[.int .i64 i, .int .i64 l, .int .i64 s, .int .i64 f, .int .i64 m] 31)).alloc (.cells #[.int .i64 a, .int .i64 b, .int .i64 c] 25))
  go_enter Try.func19, Try.ntmps19
  go_wp2_with (first
    | (go_at_call 26; refine (isFlight _ _ _ _ _ _ _ _ _).mono ?_; rintro _ w1 ⟨rfl, hB1⟩; replace hB2 := bel_trans hB2 hB1; obtain ⟨hC1, hF1⟩ := bcell hB2)
    | (go_at_call 29; refine (mostI _ _ _ _ _ _ _ _ _ (nb (by assumption))).mono ?_; rintro _ w1 ⟨rfl, hB1⟩; replace hB2 := bel_trans hB2 hB1; obtain ⟨hC1, hF1⟩ := bcell hB2))
  all_goals go_ret2
  all_goals ((try have nb1 := nb (by assumption)); (try have nt1 := nt (by assumption)); refine ⟨?_, by (repeat (first | exact bel_refl _ | assumption | refine bel_drew ?_ | refine bel_drewN ?_ | refine bel_alloc ?_ | refine bel_set ?_ (by first | (simp; done) | (simp; omega) | omega) | refine bel_trans ?_ (by assumption)))⟩; simp [mostR, *])

set_option maxRecDepth 100000 in
theorem xlegI (i l s f m a b c : Int) (w : World) :
    Calls Try.prog 17 #[.agg #[.int .i64 i, .int .i64 l, .int .i64 s, .int .i64 f, .int .i64 m], .agg #[.int .i64 a, .int .i64 b, .int .i64 c]] w fun e w' => e = .returned (.tuple #[.int .i64 (legR i l s f m a b c).1, .bool (legR i l s f m a b c).2]) ∧ Below w.heap.size w w' := by
  have hB2 := bel_refl ((w.alloc (.cells #[.int .i64 i, .int .i64 l, .int .i64 s, .int .i64 f, .int .i64 m] 31)).alloc (.cells #[.int .i64 a, .int .i64 b, .int .i64 c] 25))
  by_cases h : flightB i l s f m a b c = true
  · have hR : Hid (legR i l s f m a b c = legP s f m a c) := by show _ = _; simp [legR, h]
    have hx := flight_bd h
    have hfl := hid h
    go_enter Try.func17, Try.ntmps17
    go_wp2_with (go_at_call 26; refine (isFlight _ _ _ _ _ _ _ _ _).mono ?_; rintro _ w1 ⟨rfl, hB1⟩; replace hB2 := bel_trans hB2 hB1; obtain ⟨hC1, hF1⟩ := bcell hB2)
    clear h
    go_loopw [6] (fun v wr => ∃ n : Nat, n ≤ 400 ∧ v = .int .i64 n ∧ Hid (legD (fun n => decide (sortie s m a n c 1 ≤ f)) n = legP s f m a c) ∧ Below ((w.alloc (.cells #[.int .i64 i, .int .i64 l, .int .i64 s, .int .i64 f, .int .i64 m] 31)).alloc (.cells #[.int .i64 a, .int .i64 b, .int .i64 c] 25)).heap.size ((w.alloc (.cells #[.int .i64 i, .int .i64 l, .int .i64 s, .int .i64 f, .int .i64 m] 31)).alloc (.cells #[.int .i64 a, .int .i64 b, .int .i64 c] 25)) wr) (fun v _ => (intOf v).toNat)
    case atStart => exact ⟨400, by omega, rfl, rfl, hB2⟩
    case round =>
      obtain ⟨n, hn, rfl, hH, hB2⟩ := hrel
      obtain ⟨hC1, hF1⟩ := bcell hB2
      rcases n with _ | n
      · go_wp2
        go_ret2
        refine ⟨?_, by (repeat (first | exact bel_refl _ | assumption | refine bel_drew ?_ | refine bel_drewN ?_ | refine bel_alloc ?_ | refine bel_set ?_ (by first | (simp; done) | (simp; omega) | omega) | refine bel_trans ?_ (by assumption)))⟩
        simp [hR.out, ← hH.out, legD]
      · have hp0 : ((n + 1 : Nat) : Int) = (n : Int) + 1 := by omega
        rw [hp0]
        have hn1 : (n : Int) + 1 ≤ 400 := by omega
        clear hp0
        go_wp2_with fail
        (refine wp_region_bel (by kernel_rfl) (by kernel_rfl) ?_; have hD := bel_cells hB2; (repeat (go_big_quiet_step (((go_at_call 27; exact calls_bel (sortieI _ _ _ _ _ _ _ _ _ _ (flight_leg hfl.out (by omega) (by omega)) (by omega) (by omega))))))); refine wpQuiet_nil ?_; intro w1 hB1; replace hB2 := bel_trans hB2 hB1; obtain ⟨hC1, hF1⟩ := bcell hB2; clear hD)
        by_cases hp : sortie s m a (n + 1) c 1 ≤ f
        · go_wp2
          go_ret2
          refine ⟨?_, by (repeat (first | exact bel_refl _ | assumption | refine bel_drew ?_ | refine bel_drewN ?_ | refine bel_alloc ?_ | refine bel_set ?_ (by first | (simp; done) | (simp; omega) | omega) | refine bel_trans ?_ (by assumption)))⟩
          simp [hR.out, legD_yes _ _ _ (by simpa using hp) hH]
        · go_wp2
          go_roundw
          case rel => exact ⟨n, by omega, by go_num, legD_no _ _ _ (by simpa using hp) hH, by (repeat (first | exact bel_refl _ | assumption | refine bel_drew ?_ | refine bel_drewN ?_ | refine bel_alloc ?_ | refine bel_set ?_ (by first | (simp; done) | (simp; omega) | omega) | refine bel_trans ?_ (by assumption)))⟩
          case measure => simp [intOf]
  · have hR : Hid (legR i l s f m a b c = (0, false)) := by show _ = _; simp [legR, h]
    go_enter Try.func17, Try.ntmps17
    go_wp2_with (go_at_call 26; refine (isFlight _ _ _ _ _ _ _ _ _).mono ?_; rintro _ w1 ⟨rfl, hB1⟩; replace hB2 := bel_trans hB2 hB1; obtain ⟨hC1, hF1⟩ := bcell hB2)
    go_ret2
    refine ⟨?_, by (repeat (first | exact bel_refl _ | assumption | refine bel_drew ?_ | refine bel_drewN ?_ | refine bel_alloc ?_ | refine bel_set ?_ (by first | (simp; done) | (simp; omega) | omega) | refine bel_trans ?_ (by assumption)))⟩
    simp [hR.out]

theorem lawSortie (i l s f m a b c n : Int) (w : World) :
    Calls Try.prog 5 #[.agg #[.int .i64 i, .int .i64 l, .int .i64 s, .int .i64 f, .int .i64 m], .agg #[.int .i64 a, .int .i64 b, .int .i64 c], .int .i64 n] w fun e w' => e = .returned (.bool true) ∧ Below w.heap.size w w' := by
  have hB2 := bel_refl ((w.alloc (.cells #[.int .i64 i, .int .i64 l, .int .i64 s, .int .i64 f, .int .i64 m] 29)).alloc (.cells #[.int .i64 a, .int .i64 b, .int .i64 c] 23))
  go_enter Try.func5, Try.ntmps5
  go_wp2_with fail
  (refine wp_region_bel (by kernel_rfl) (by kernel_rfl) ?_; have hD := bel_cells hB2; (repeat (go_big_quiet_step ((first | (go_at_call 12; exact calls_bel (toAircraft _ _ _ _ _ _)) | (go_at_call 9; exact calls_bel (toTarget _ _ _ _)) | (go_at_call 14; exact calls_bel (xsortS _ _ _ _ _ _ _ _ _ _)))))); refine wpQuiet_nil ?_; intro w1 hB1; replace hB2 := bel_trans hB2 hB1; obtain ⟨hC1, hF1⟩ := bcell hB2; clear hD)
  go_wp2_with fail
  (refine wp_region_bel (by kernel_rfl) (by kernel_rfl) ?_; have hD := bel_cells hB2; (repeat (go_big_quiet_step ((first | (go_at_call 12; exact calls_bel (toAircraft _ _ _ _ _ _)) | (go_at_call 9; exact calls_bel (toTarget _ _ _ _)) | (go_at_call 15; exact calls_bel (xsortI _ _ _ _ _ _ _ _ _ _)))))); refine wpQuiet_nil ?_; intro w1 hB1; replace hB2 := bel_trans hB2 hB1; obtain ⟨hC1, hF1⟩ := bcell hB2; clear hD)
  go_wp2
  all_goals go_ret
  all_goals exact ⟨rfl, by (repeat (first | exact bel_refl _ | assumption | refine bel_drew ?_ | refine bel_drewN ?_ | refine bel_alloc ?_ | refine bel_set ?_ (by first | (simp; done) | (simp; omega) | omega) | refine bel_trans ?_ (by assumption)))⟩

theorem lawMost (i l s f m a b c : Int) (w : World) :
    Calls Try.prog 7 #[.agg #[.int .i64 i, .int .i64 l, .int .i64 s, .int .i64 f, .int .i64 m], .agg #[.int .i64 a, .int .i64 b, .int .i64 c]] w fun e w' => e = .returned (.bool true) ∧ Below w.heap.size w w' := by
  have hB2 := bel_refl ((w.alloc (.cells #[.int .i64 i, .int .i64 l, .int .i64 s, .int .i64 f, .int .i64 m] 29)).alloc (.cells #[.int .i64 a, .int .i64 b, .int .i64 c] 23))
  go_enter Try.func7, Try.ntmps7
  go_wp2_with fail
  (refine wp_region_bel (by kernel_rfl) (by kernel_rfl) ?_; have hD := bel_cells hB2; (repeat (go_big_quiet_step ((first | (go_at_call 12; exact calls_bel (toAircraft _ _ _ _ _ _)) | (go_at_call 9; exact calls_bel (toTarget _ _ _ _)) | (go_at_call 18; exact calls_bel (xmostS _ _ _ _ _ _ _ _ _)))))); refine wpQuiet_nil ?_; intro w1 hB1; replace hB2 := bel_trans hB2 hB1; obtain ⟨hC1, hF1⟩ := bcell hB2; clear hD)
  go_wp2_with fail
  (refine wp_region_bel (by kernel_rfl) (by kernel_rfl) ?_; have hD := bel_cells hB2; (repeat (go_big_quiet_step ((first | (go_at_call 12; exact calls_bel (toAircraft _ _ _ _ _ _)) | (go_at_call 9; exact calls_bel (toTarget _ _ _ _)) | (go_at_call 19; exact calls_bel (xmostI _ _ _ _ _ _ _ _ _)))))); refine wpQuiet_nil ?_; intro w1 hB1; replace hB2 := bel_trans hB2 hB1; obtain ⟨hC1, hF1⟩ := bcell hB2; clear hD)
  go_wp2
  all_goals go_ret
  all_goals exact ⟨rfl, by (repeat (first | exact bel_refl _ | assumption | refine bel_drew ?_ | refine bel_drewN ?_ | refine bel_alloc ?_ | refine bel_set ?_ (by first | (simp; done) | (simp; omega) | omega) | refine bel_trans ?_ (by assumption)))⟩

theorem lawLeg (i l s f m a b c : Int) (w : World) :
    Calls Try.prog 6 #[.agg #[.int .i64 i, .int .i64 l, .int .i64 s, .int .i64 f, .int .i64 m], .agg #[.int .i64 a, .int .i64 b, .int .i64 c]] w fun e w' => e = .returned (.bool true) ∧ Below w.heap.size w w' := by
  have hB2 := bel_refl ((w.alloc (.cells #[.int .i64 i, .int .i64 l, .int .i64 s, .int .i64 f, .int .i64 m] 29)).alloc (.cells #[.int .i64 a, .int .i64 b, .int .i64 c] 23))
  go_enter Try.func6, Try.ntmps6
  go_wp2_with fail
  (refine wp_region_bel (by kernel_rfl) (by kernel_rfl) ?_; have hD := bel_cells hB2; (repeat (go_big_quiet_step ((first | (go_at_call 12; exact calls_bel (toAircraft _ _ _ _ _ _)) | (go_at_call 9; exact calls_bel (toTarget _ _ _ _)) | (go_at_call 16; exact calls_bel (xlegS _ _ _ _ _ _ _ _ _)))))); refine wpQuiet_nil ?_; intro w1 hB1; replace hB2 := bel_trans hB2 hB1; obtain ⟨hC1, hF1⟩ := bcell hB2; clear hD)
  go_wp2_with fail
  (refine wp_region_bel (by kernel_rfl) (by kernel_rfl) ?_; have hD := bel_cells hB2; (repeat (go_big_quiet_step ((first | (go_at_call 12; exact calls_bel (toAircraft _ _ _ _ _ _)) | (go_at_call 9; exact calls_bel (toTarget _ _ _ _)) | (go_at_call 17; exact calls_bel (xlegI _ _ _ _ _ _ _ _ _)))))); refine wpQuiet_nil ?_; intro w1 hB1; replace hB2 := bel_trans hB2 hB1; obtain ⟨hC1, hF1⟩ := bcell hB2; clear hD)
  go_wp2
  all_goals go_ret
  all_goals exact ⟨rfl, by (repeat (first | exact bel_refl _ | assumption | refine bel_drew ?_ | refine bel_drewN ?_ | refine bel_alloc ?_ | refine bel_set ?_ (by first | (simp; done) | (simp; omega) | omega) | refine bel_trans ?_ (by assumption)))⟩

theorem lawTarget (a b c : Int) (w : World) :
    Calls Try.prog 3 #[.agg #[.int .i64 a, .int .i64 b, .int .i64 c]] w fun e w' => e = .returned (.bool true) ∧ Below w.heap.size w w' := by
  have hB2 := bel_refl (w.alloc (.cells #[.int .i64 a, .int .i64 b, .int .i64 c] 23))
  go_enter Try.func3, Try.ntmps3
  go_wp2_with (first
    | (go_at_call 9; refine (toTarget _ _ _ _).mono ?_; rintro _ w1 ⟨rfl, hB1⟩; replace hB2 := bel_trans hB2 hB1; obtain ⟨hC1, hF1⟩ := bcell hB2)
    | (go_at_call 8; refine (isTargetS _ _ _ _).mono ?_; rintro _ w1 ⟨rfl, hB1⟩; replace hB2 := bel_trans hB2 hB1; obtain ⟨hC1, hF1⟩ := bcell hB2)
    | (go_at_call 10; refine (isTargetI _ _ _ _).mono ?_; rintro _ w1 ⟨rfl, hB1⟩; replace hB2 := bel_trans hB2 hB1; obtain ⟨hC1, hF1⟩ := bcell hB2))
  all_goals go_ret
  all_goals exact ⟨rfl, by (repeat (first | exact bel_refl _ | assumption | refine bel_drew ?_ | refine bel_drewN ?_ | refine bel_alloc ?_ | refine bel_set ?_ (by first | (simp; done) | (simp; omega) | omega) | refine bel_trans ?_ (by assumption)))⟩

theorem lawAircraft (i l s f m : Int) (w : World) :
    Calls Try.prog 4 #[.agg #[.int .i64 i, .int .i64 l, .int .i64 s, .int .i64 f, .int .i64 m]] w fun e w' => e = .returned (.bool true) ∧ Below w.heap.size w w' := by
  have hB2 := bel_refl (w.alloc (.cells #[.int .i64 i, .int .i64 l, .int .i64 s, .int .i64 f, .int .i64 m] 29))
  go_enter Try.func4, Try.ntmps4
  go_wp2_with (first
    | (go_at_call 12; refine (toAircraft _ _ _ _ _ _).mono ?_; rintro _ w1 ⟨rfl, hB1⟩; replace hB2 := bel_trans hB2 hB1; obtain ⟨hC1, hF1⟩ := bcell hB2)
    | (go_at_call 11; refine (isAircraftS _ _ _ _ _ _).mono ?_; rintro _ w1 ⟨rfl, hB1⟩; replace hB2 := bel_trans hB2 hB1; obtain ⟨hC1, hF1⟩ := bcell hB2)
    | (go_at_call 13; refine (isAircraftI _ _ _ _ _ _).mono ?_; rintro _ w1 ⟨rfl, hB1⟩; replace hB2 := bel_trans hB2 hB1; obtain ⟨hC1, hF1⟩ := bcell hB2))
  all_goals go_ret
  all_goals exact ⟨rfl, by (repeat (first | exact bel_refl _ | assumption | refine bel_drew ?_ | refine bel_drewN ?_ | refine bel_alloc ?_ | refine bel_set ?_ (by first | (simp; done) | (simp; omega) | omega) | refine bel_trans ?_ (by assumption)))⟩
end Go.Proofs.Ytlglmkbnbpfpfaa
