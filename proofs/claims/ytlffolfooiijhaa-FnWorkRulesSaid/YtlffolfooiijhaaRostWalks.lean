/-
  Rosters: whether a list is one, hours, crews that work: the functions of the program and of the reference, walked.
-/
import Derived.Test.YtlffolfooiijhaaIn
import Derived.Test.YtlffolfooiijhaaListMath
import Derived.Test.YtlffolfooiijhaaRostData
namespace Go.Proofs.Ytlffolfooiijhaa
open Go.RowKit

def goodD (x : Duty) : Bool := inB x.crew 1 20 && inB x.fr 0 499 && inB x.til (x.fr + 1) 500
theorem goodD_bd {x : Duty} (h : goodD x = true) : 1 ≤ x.crew ∧ x.crew ≤ 20 ∧ 0 ≤ x.fr ∧ x.fr < x.til ∧ x.til ≤ 500 := by
  simp only [goodD, Bool.and_eq_true, inB_iff] at h
  omega
def clashD (y x : Duty) : Bool := decide (x.crew < y.crew) || (decide (x.crew = y.crew) && decide (x.fr < y.til))
def rosterB (xs : List Duty) : Bool := noneBad (badAt goodD clashD xs) xs.length && decide (xs.length ≤ 12)
def allD (xs : List Duty) : Prop := ∀ (i : Nat) (x : Duty), xs[i]? = some x → goodD x = true
theorem rosterB_all {xs : List Duty} (h : rosterB xs = true) : allD xs := fun i x hx => by
  rw [rosterB, Bool.and_eq_true] at h
  exact good_of h.1 hx
theorem rosterB_len {xs : List Duty} (h : rosterB xs = true) : xs.length ≤ 12 := by
  rw [rosterB, Bool.and_eq_true] at h
  exact of_decide_eq_true h.2

theorem isWorker (n : Int) (w : World) :
    Calls Try.prog 51 #[.int .i64 n] w fun e w' => e = .returned (.bool (inB n 1 20)) ∧ w = w' := by
  go_enter Try.func51, Try.ntmps51
  go_wp2_with (go_at_call 59; refine (isIn _ _ _ _).mono ?_; rintro _ w1 ⟨rfl, rfl⟩)
  go_ret
  exact ⟨rfl, rfl⟩

theorem l11Crew (n : Int) (w : World) :
    Calls Try.prog 82 #[.int .i64 n] w fun e w' => e = .returned (.bool (inB n 1 20)) ∧ w = w' := by
  go_enter Try.func82, Try.ntmps82
  go_wp2_with (go_at_call 73; refine (l1In _ _ _ _).mono ?_; rintro _ w1 ⟨rfl, rfl⟩)
  go_ret
  exact ⟨rfl, rfl⟩

theorem l11Span (n : Int) (w : World) :
    Calls Try.prog 61 #[.int .i64 n] w fun e w' => e = .returned (.bool (inB n 1 200)) ∧ w = w' := by
  go_enter Try.func61, Try.ntmps61
  go_wp2_with (go_at_call 73; refine (l1In _ _ _ _).mono ?_; rintro _ w1 ⟨rfl, rfl⟩)
  go_ret
  exact ⟨rfl, rfl⟩

theorem isDuty (x : Duty) (w : World) :
    Calls Try.prog 63 #[.agg #[.int .i64 x.crew, .int .i64 x.fr, .int .i64 x.til]] w fun e w' => e = .returned (.bool (goodD x)) ∧ Below w.heap.size w w' := by
  go_enter Try.func63, Try.ntmps63
  go_wp2_with (go_at_call 51; refine (isWorker _ _).mono ?_; rintro _ w1 ⟨rfl, rfl⟩)
  all_goals go_ret
  all_goals (refine ⟨?_, by (repeat' (first | (with_reducible exact bel_refl _) | (with_reducible assumption) | (with_reducible refine bel_drew ?_) | (with_reducible refine bel_drewN ?_) | (with_reducible refine bel_alloc ?_) | (with_reducible refine bel_set ?_ ?_) | (with_reducible refine bel_trans ?_ (by with_reducible assumption)) | omega | (simp; done) | (simp; omega)))⟩; refine ret_bool (Bool.eq_iff_iff.2 ?_); simp only [inB_iff, goodD, Bool.and_eq_true, decide_eq_true_eq, Bool.false_eq_true, false_iff] at *; omega)

theorem l11One (x : Duty) (w : World) :
    Calls Try.prog 68 #[.agg #[.int .i64 x.crew, .int .i64 x.fr, .int .i64 x.til]] w fun e w' => e = .returned (.bool (goodD x)) ∧ Below w.heap.size w w' := by
  by_cases hs : inB x.fr 0 499 = true
  · have hs1 := inB_iff.1 hs
    have hs2 := hid hs
    clear hs
    go_enter Try.func68, Try.ntmps68
    go_wp2_with (first | (go_at_call 82; refine (l11Crew _ _).mono ?_; rintro _ w1 ⟨rfl, rfl⟩) | (go_at_call 73; refine (l1In _ _ _ _).mono ?_; rintro _ w1 ⟨rfl, rfl⟩))
    all_goals go_ret
    all_goals (refine ⟨?_, by (repeat' (first | (with_reducible exact bel_refl _) | (with_reducible assumption) | (with_reducible refine bel_drew ?_) | (with_reducible refine bel_drewN ?_) | (with_reducible refine bel_alloc ?_) | (with_reducible refine bel_set ?_ ?_) | (with_reducible refine bel_trans ?_ (by with_reducible assumption)) | omega | (simp; done) | (simp; omega)))⟩; have hs := hs2.out; simp [goodD, *])
  · go_enter Try.func68, Try.ntmps68
    go_wp2_with (first | (go_at_call 82; refine (l11Crew _ _).mono ?_; rintro _ w1 ⟨rfl, rfl⟩) | (go_at_call 73; refine (l1In _ _ _ _).mono ?_; rintro _ w1 ⟨rfl, rfl⟩))
    all_goals go_ret
    all_goals (refine ⟨?_, by (repeat' (first | (with_reducible exact bel_refl _) | (with_reducible assumption) | (with_reducible refine bel_drew ?_) | (with_reducible refine bel_drewN ?_) | (with_reducible refine bel_alloc ?_) | (with_reducible refine bel_set ?_ ?_) | (with_reducible refine bel_trans ?_ (by with_reducible assumption)) | omega | (simp; done) | (simp; omega)))⟩; simp [goodD, *])

set_option maxHeartbeats 4000000 in
set_option maxRecDepth 100000 in
theorem isRosterI (A : Option Addr) (n c : Nat) (xs : List Duty) (w : World) (hS : Sl w 3 A n c (xs.flatMap Duty.row)) (hn : n ≤ 1048577) :
    Calls Try.prog 26 #[.slice A n c] w fun e w' => e = .returned (.bool (rosterB xs)) ∧ Below w.heap.size w w' := by
  have hlh := hid (hS.xs_len Duty.row_len (by omega))
  go_enter Try.func26, Try.ntmps26
  go_wp2_with fail
  go_loopw [7] (fun v wr => ∃ i : Nat, i ≤ n ∧ v = .int .i64 i ∧ (Hid (∀ r, r < i → badAt goodD clashD xs r = false)) ∧ Below w.heap.size w wr) (fun v _ => n - (intOf v).toNat)
  case atStart => exact ⟨0, by omega, rfl, fun r hr => absurd hr (by omega), by (repeat' (first | (with_reducible exact bel_refl _) | (with_reducible assumption) | (with_reducible refine bel_drew ?_) | (with_reducible refine bel_drewN ?_) | (with_reducible refine bel_alloc ?_) | (with_reducible refine bel_set ?_ ?_) | (with_reducible refine bel_trans ?_ (by with_reducible assumption)) | omega | (simp; done) | (simp; omega)))⟩
  case round =>
    obtain ⟨i, hi', rfl, hno, hB⟩ := hrel
    by_cases hlt : i < n
    · obtain ⟨x, hx⟩ : ∃ x, xs[i]? = some x := get_of_lt (by rw [hlh.out]; exact hlt)
      obtain ⟨b, o, rfl, hb, c0, c1, c2⟩ := (hS.bel hB).duty hx
      have hX := hid hx
      clear hx
      have hB2 := bel_refl (wr.alloc (.cells #[.int .i64 x.crew, .int .i64 x.fr, .int .i64 x.til] 30))
      have hi0 : (0 : Int) ≤ (i : Int) := by omega
      have hi1 : (i : Int) < (n : Int) := by omega
      rcases hg : goodD x with _ | _
      · go_wp2_with (go_at_call 63; refine (isDuty _ _).mono ?_; rintro _ w1 ⟨rfl, hB1⟩; (first | (with_reducible replace hB2 := bel_trans hB2 hB1) | (with_reducible replace hB2 := bel_trans (bel_alloc hB2) hB1)); obtain ⟨hC1, hF1⟩ := bcell hB2; replace hB1 := hB1)
        go_ret
        refine ⟨?_, by (repeat' (first | (with_reducible exact bel_refl _) | (with_reducible assumption) | (with_reducible refine bel_drew ?_) | (with_reducible refine bel_drewN ?_) | (with_reducible refine bel_alloc ?_) | (with_reducible refine bel_set ?_ ?_) | (with_reducible refine bel_trans ?_ (by with_reducible assumption)) | omega | (simp; done) | (simp; omega)))⟩
        rw [rosterB, noneBad_no (by rw [hlh.out]; exact hlt) (badAt_ill hX.out hg)]
        rfl
      · rcases i with _ | j
        · simp only [Nat.zero_mul, Nat.add_zero] at c0 c1 c2
          go_wp2_with (go_at_call 63; refine (isDuty _ _).mono ?_; rintro _ w1 ⟨rfl, hB1⟩; (first | (with_reducible replace hB2 := bel_trans hB2 hB1) | (with_reducible replace hB2 := bel_trans (bel_alloc hB2) hB1)); obtain ⟨hC1, hF1⟩ := bcell hB2; replace hB1 := hB1)
          (refine wp_region_bel (by kernel_rfl) (by kernel_rfl) ?_; have hD := bel_cells hB2; (repeat (go_big_quiet_step ((fail)))); refine wpQuiet_nil ?_; intro w1 hB1; replace hB2 := bel_trans hB2 hB1; obtain ⟨hC1, hF1⟩ := bcell hB2; clear hD; replace hB1 := hB1)
          go_wp2
          go_roundw
          case rel => exact ⟨1, by omega, by go_num, noBad_snoc hno (badAt_first hX.out hg), by (repeat' (first | (with_reducible exact bel_refl _) | (with_reducible assumption) | (with_reducible refine bel_drew ?_) | (with_reducible refine bel_drewN ?_) | (with_reducible refine bel_alloc ?_) | (with_reducible refine bel_set ?_ ?_) | (with_reducible refine bel_trans ?_ (by with_reducible assumption)) | omega | (simp; done) | (simp; omega)))⟩
          case measure => simp [intOf]; omega
        · obtain ⟨y, hy⟩ : ∃ y, xs[j]? = some y := get_of_lt (by rw [hlh.out]; omega)
          obtain ⟨b', o', hbo, _, e0, e1, e2⟩ := (hS.bel hB).duty hy
          simp only [Option.some.injEq, Addr.mk.injEq, and_true] at hbo
          obtain ⟨rfl, rfl⟩ := hbo
          have hY := hid hy
          clear hy
          have hp0 : ((j + 1 : Nat) : Int) = (j : Int) + 1 := by omega
          rw [hp0] at hi0 hi1 ⊢
          clear hp0
          have hj0 : (0 : Int) ≤ (j : Int) := by omega
          have hj1 : (j : Int) < (n : Int) := by omega
          have hbad := hid (badAt_next (clash := clashD) hX.out hY.out hg)
          by_cases hc1 : x.crew < y.crew
          · have hcl := hid (show clashD y x = true by simp [clashD, hc1])
            go_wp2_with (go_at_call 63; refine (isDuty _ _).mono ?_; rintro _ w1 ⟨rfl, hB1⟩; (first | (with_reducible replace hB2 := bel_trans hB2 hB1) | (with_reducible replace hB2 := bel_trans (bel_alloc hB2) hB1)); obtain ⟨hC1, hF1⟩ := bcell hB2; replace hB1 := hB1)
            (refine wp_region_bel (by kernel_rfl) (by kernel_rfl) ?_; have hD := bel_cells hB2; (repeat (go_big_quiet_step ((fail)))); refine wpQuiet_nil ?_; intro w1 hB1; replace hB2 := bel_trans hB2 hB1; obtain ⟨hC1, hF1⟩ := bcell hB2; clear hD; replace hB1 := hB1)
            go_wp2
            go_ret
            refine ⟨?_, by (repeat' (first | (with_reducible exact bel_refl _) | (with_reducible assumption) | (with_reducible refine bel_drew ?_) | (with_reducible refine bel_drewN ?_) | (with_reducible refine bel_alloc ?_) | (with_reducible refine bel_set ?_ ?_) | (with_reducible refine bel_trans ?_ (by with_reducible assumption)) | omega | (simp; done) | (simp; omega)))⟩
            rw [rosterB, noneBad_no (by rw [hlh.out]; exact hlt) (hbad.out.trans hcl.out)]
            rfl
          · have hb1 : decide (x.crew < y.crew) = false := decide_eq_false hc1
            by_cases hc2 : x.crew = y.crew
            · have hq : (x.crew == y.crew) = true := by simpa using hc2
              have hq2 : (y.crew == x.crew) = true := by simpa using hc2.symm
              by_cases hc3 : x.fr < y.til
              · have hcl := hid (show clashD y x = true by simp [clashD, hc2, hc3])
                clear hc2 hc1
                go_wp2_with (go_at_call 63; refine (isDuty _ _).mono ?_; rintro _ w1 ⟨rfl, hB1⟩; (first | (with_reducible replace hB2 := bel_trans hB2 hB1) | (with_reducible replace hB2 := bel_trans (bel_alloc hB2) hB1)); obtain ⟨hC1, hF1⟩ := bcell hB2; replace hB1 := hB1)
                (refine wp_region_bel (by kernel_rfl) (by kernel_rfl) ?_; have hD := bel_cells hB2; (repeat (go_big_quiet_step ((fail)))); refine wpQuiet_nil ?_; intro w1 hB1; replace hB2 := bel_trans hB2 hB1; obtain ⟨hC1, hF1⟩ := bcell hB2; clear hD; replace hB1 := hB1)
                go_wp2
                go_ret
                refine ⟨?_, by (repeat' (first | (with_reducible exact bel_refl _) | (with_reducible assumption) | (with_reducible refine bel_drew ?_) | (with_reducible refine bel_drewN ?_) | (with_reducible refine bel_alloc ?_) | (with_reducible refine bel_set ?_ ?_) | (with_reducible refine bel_trans ?_ (by with_reducible assumption)) | omega | (simp; done) | (simp; omega)))⟩
                rw [rosterB, noneBad_no (by rw [hlh.out]; exact hlt) (hbad.out.trans hcl.out)]
                rfl
              · have hcl := hid (show clashD y x = false by simp [clashD, hc2, hc3])
                have hb3 : decide (x.fr < y.til) = false := decide_eq_false hc3
                clear hc2 hc1 hc3
                go_wp2_with (go_at_call 63; refine (isDuty _ _).mono ?_; rintro _ w1 ⟨rfl, hB1⟩; (first | (with_reducible replace hB2 := bel_trans hB2 hB1) | (with_reducible replace hB2 := bel_trans (bel_alloc hB2) hB1)); obtain ⟨hC1, hF1⟩ := bcell hB2; replace hB1 := hB1)
                (refine wp_region_bel (by kernel_rfl) (by kernel_rfl) ?_; have hD := bel_cells hB2; (repeat (go_big_quiet_step ((fail)))); refine wpQuiet_nil ?_; intro w1 hB1; replace hB2 := bel_trans hB2 hB1; obtain ⟨hC1, hF1⟩ := bcell hB2; clear hD; replace hB1 := hB1)
                go_wp2
                go_roundw
                case rel => exact ⟨j + 1 + 1, by omega, by go_num, noBad_snoc hno (hbad.out.trans hcl.out), by (repeat' (first | (with_reducible exact bel_refl _) | (with_reducible assumption) | (with_reducible refine bel_drew ?_) | (with_reducible refine bel_drewN ?_) | (with_reducible refine bel_alloc ?_) | (with_reducible refine bel_set ?_ ?_) | (with_reducible refine bel_trans ?_ (by with_reducible assumption)) | omega | (simp; done) | (simp; omega)))⟩
                case measure => simp [intOf]; omega
            · have hq : (x.crew == y.crew) = false := by simpa using hc2
              have hq2 : (y.crew == x.crew) = false := by simpa using fun h => hc2 h.symm
              have hcl := hid (show clashD y x = false by simp [clashD, hc1, hc2])
              clear hc2 hc1
              go_wp2_with (go_at_call 63; refine (isDuty _ _).mono ?_; rintro _ w1 ⟨rfl, hB1⟩; (first | (with_reducible replace hB2 := bel_trans hB2 hB1) | (with_reducible replace hB2 := bel_trans (bel_alloc hB2) hB1)); obtain ⟨hC1, hF1⟩ := bcell hB2; replace hB1 := hB1)
              (refine wp_region_bel (by kernel_rfl) (by kernel_rfl) ?_; have hD := bel_cells hB2; (repeat (go_big_quiet_step ((fail)))); refine wpQuiet_nil ?_; intro w1 hB1; replace hB2 := bel_trans hB2 hB1; obtain ⟨hC1, hF1⟩ := bcell hB2; clear hD; replace hB1 := hB1)
              go_wp2
              go_roundw
              case rel => exact ⟨j + 1 + 1, by omega, by go_num, noBad_snoc hno (hbad.out.trans hcl.out), by (repeat' (first | (with_reducible exact bel_refl _) | (with_reducible assumption) | (with_reducible refine bel_drew ?_) | (with_reducible refine bel_drewN ?_) | (with_reducible refine bel_alloc ?_) | (with_reducible refine bel_set ?_ ?_) | (with_reducible refine bel_trans ?_ (by with_reducible assumption)) | omega | (simp; done) | (simp; omega)))⟩
              case measure => simp [intOf]; omega
    · go_wp2
      go_ret
      have e : i = n := by omega
      subst e
      refine ⟨?_, by (repeat' (first | (with_reducible exact bel_refl _) | (with_reducible assumption) | (with_reducible refine bel_drew ?_) | (with_reducible refine bel_drewN ?_) | (with_reducible refine bel_alloc ?_) | (with_reducible refine bel_set ?_ ?_) | (with_reducible refine bel_trans ?_ (by with_reducible assumption)) | omega | (simp; done) | (simp; omega)))⟩
      rw [rosterB, noneBad_yes (by rw [hlh.out]; exact hno.out), hlh.out]
      simp
      omega

set_option maxHeartbeats 4000000 in
set_option maxRecDepth 100000 in
theorem l11Good (A : Option Addr) (n c : Nat) (xs : List Duty) (w : World) (hS : Sl w 3 A n c (xs.flatMap Duty.row)) (hn : n ≤ 1048577) :
    Calls Try.prog 45 #[.slice A n c] w fun e w' => e = .returned (.bool (rosterB xs)) ∧ Below w.heap.size w w' := by
  have hlh := hid (hS.xs_len Duty.row_len (by omega))
  go_enter Try.func45, Try.ntmps45
  go_wp2_with fail
  go_loopw [3] (fun v wr => ∃ i : Nat, i ≤ n ∧ v = .int .i64 i ∧ (Hid (∀ r, r < i → badAt goodD clashD xs r = false)) ∧ Below w.heap.size w wr) (fun v _ => n - (intOf v).toNat)
  case atStart => exact ⟨0, by omega, rfl, fun r hr => absurd hr (by omega), by (repeat' (first | (with_reducible exact bel_refl _) | (with_reducible assumption) | (with_reducible refine bel_drew ?_) | (with_reducible refine bel_drewN ?_) | (with_reducible refine bel_alloc ?_) | (with_reducible refine bel_set ?_ ?_) | (with_reducible refine bel_trans ?_ (by with_reducible assumption)) | omega | (simp; done) | (simp; omega)))⟩
  case round =>
    obtain ⟨i, hi', rfl, hno, hB⟩ := hrel
    by_cases hlt : i < n
    · obtain ⟨x, hx⟩ : ∃ x, xs[i]? = some x := get_of_lt (by rw [hlh.out]; exact hlt)
      obtain ⟨b, o, rfl, hb, c0, c1, c2⟩ := (hS.bel hB).duty hx
      have hX := hid hx
      clear hx
      have hB2 := bel_refl (wr.alloc (.cells #[.int .i64 x.crew, .int .i64 x.fr, .int .i64 x.til] 30))
      have hi0 : (0 : Int) ≤ (i : Int) := by omega
      have hi1 : (i : Int) < (n : Int) := by omega
      rcases hg : goodD x with _ | _
      · go_wp2_with (go_at_call 68; refine (l11One _ _).mono ?_; rintro _ w1 ⟨rfl, hB1⟩; (first | (with_reducible replace hB2 := bel_trans hB2 hB1) | (with_reducible replace hB2 := bel_trans (bel_alloc hB2) hB1)); obtain ⟨hC1, hF1⟩ := bcell hB2; replace hB1 := hB1)
        go_ret
        refine ⟨?_, by (repeat' (first | (with_reducible exact bel_refl _) | (with_reducible assumption) | (with_reducible refine bel_drew ?_) | (with_reducible refine bel_drewN ?_) | (with_reducible refine bel_alloc ?_) | (with_reducible refine bel_set ?_ ?_) | (with_reducible refine bel_trans ?_ (by with_reducible assumption)) | omega | (simp; done) | (simp; omega)))⟩
        rw [rosterB, noneBad_no (by rw [hlh.out]; exact hlt) (badAt_ill hX.out hg)]
        rfl
      · rcases i with _ | j
        · simp only [Nat.zero_mul, Nat.add_zero] at c0 c1 c2
          go_wp2_with (go_at_call 68; refine (l11One _ _).mono ?_; rintro _ w1 ⟨rfl, hB1⟩; (first | (with_reducible replace hB2 := bel_trans hB2 hB1) | (with_reducible replace hB2 := bel_trans (bel_alloc hB2) hB1)); obtain ⟨hC1, hF1⟩ := bcell hB2; replace hB1 := hB1)
          (refine wp_region_bel (by kernel_rfl) (by kernel_rfl) ?_; have hD := bel_cells hB2; (repeat (go_big_quiet_step ((fail)))); refine wpQuiet_nil ?_; intro w1 hB1; replace hB2 := bel_trans hB2 hB1; obtain ⟨hC1, hF1⟩ := bcell hB2; clear hD; replace hB1 := hB1)
          go_wp2
          go_roundw
          case rel => exact ⟨1, by omega, by go_num, noBad_snoc hno (badAt_first hX.out hg), by (repeat' (first | (with_reducible exact bel_refl _) | (with_reducible assumption) | (with_reducible refine bel_drew ?_) | (with_reducible refine bel_drewN ?_) | (with_reducible refine bel_alloc ?_) | (with_reducible refine bel_set ?_ ?_) | (with_reducible refine bel_trans ?_ (by with_reducible assumption)) | omega | (simp; done) | (simp; omega)))⟩
          case measure => simp [intOf]; omega
        · obtain ⟨y, hy⟩ : ∃ y, xs[j]? = some y := get_of_lt (by rw [hlh.out]; omega)
          obtain ⟨b', o', hbo, _, e0, e1, e2⟩ := (hS.bel hB).duty hy
          simp only [Option.some.injEq, Addr.mk.injEq, and_true] at hbo
          obtain ⟨rfl, rfl⟩ := hbo
          have hY := hid hy
          clear hy
          have hp0 : ((j + 1 : Nat) : Int) = (j : Int) + 1 := by omega
          rw [hp0] at hi0 hi1 ⊢
          clear hp0
          have hj0 : (0 : Int) ≤ (j : Int) := by omega
          have hj1 : (j : Int) < (n : Int) := by omega
          have hbad := hid (badAt_next (clash := clashD) hX.out hY.out hg)
          by_cases hc1 : x.crew < y.crew
          · have hcl := hid (show clashD y x = true by simp [clashD, hc1])
            go_wp2_with (go_at_call 68; refine (l11One _ _).mono ?_; rintro _ w1 ⟨rfl, hB1⟩; (first | (with_reducible replace hB2 := bel_trans hB2 hB1) | (with_reducible replace hB2 := bel_trans (bel_alloc hB2) hB1)); obtain ⟨hC1, hF1⟩ := bcell hB2; replace hB1 := hB1)
            (refine wp_region_bel (by kernel_rfl) (by kernel_rfl) ?_; have hD := bel_cells hB2; (repeat (go_big_quiet_step ((fail)))); refine wpQuiet_nil ?_; intro w1 hB1; replace hB2 := bel_trans hB2 hB1; obtain ⟨hC1, hF1⟩ := bcell hB2; clear hD; replace hB1 := hB1)
            go_wp2
            go_ret
            refine ⟨?_, by (repeat' (first | (with_reducible exact bel_refl _) | (with_reducible assumption) | (with_reducible refine bel_drew ?_) | (with_reducible refine bel_drewN ?_) | (with_reducible refine bel_alloc ?_) | (with_reducible refine bel_set ?_ ?_) | (with_reducible refine bel_trans ?_ (by with_reducible assumption)) | omega | (simp; done) | (simp; omega)))⟩
            rw [rosterB, noneBad_no (by rw [hlh.out]; exact hlt) (hbad.out.trans hcl.out)]
            rfl
          · have hb1 : decide (x.crew < y.crew) = false := decide_eq_false hc1
            by_cases hc2 : x.crew = y.crew
            · have hq : (x.crew == y.crew) = true := by simpa using hc2
              have hq2 : (y.crew == x.crew) = true := by simpa using hc2.symm
              by_cases hc3 : x.fr < y.til
              · have hcl := hid (show clashD y x = true by simp [clashD, hc2, hc3])
                clear hc2 hc1
                go_wp2_with (go_at_call 68; refine (l11One _ _).mono ?_; rintro _ w1 ⟨rfl, hB1⟩; (first | (with_reducible replace hB2 := bel_trans hB2 hB1) | (with_reducible replace hB2 := bel_trans (bel_alloc hB2) hB1)); obtain ⟨hC1, hF1⟩ := bcell hB2; replace hB1 := hB1)
                (refine wp_region_bel (by kernel_rfl) (by kernel_rfl) ?_; have hD := bel_cells hB2; (repeat (go_big_quiet_step ((fail)))); refine wpQuiet_nil ?_; intro w1 hB1; replace hB2 := bel_trans hB2 hB1; obtain ⟨hC1, hF1⟩ := bcell hB2; clear hD; replace hB1 := hB1)
                go_wp2
                go_ret
                refine ⟨?_, by (repeat' (first | (with_reducible exact bel_refl _) | (with_reducible assumption) | (with_reducible refine bel_drew ?_) | (with_reducible refine bel_drewN ?_) | (with_reducible refine bel_alloc ?_) | (with_reducible refine bel_set ?_ ?_) | (with_reducible refine bel_trans ?_ (by with_reducible assumption)) | omega | (simp; done) | (simp; omega)))⟩
                rw [rosterB, noneBad_no (by rw [hlh.out]; exact hlt) (hbad.out.trans hcl.out)]
                rfl
              · have hcl := hid (show clashD y x = false by simp [clashD, hc2, hc3])
                have hb3 : decide (x.fr < y.til) = false := decide_eq_false hc3
                clear hc2 hc1 hc3
                go_wp2_with (go_at_call 68; refine (l11One _ _).mono ?_; rintro _ w1 ⟨rfl, hB1⟩; (first | (with_reducible replace hB2 := bel_trans hB2 hB1) | (with_reducible replace hB2 := bel_trans (bel_alloc hB2) hB1)); obtain ⟨hC1, hF1⟩ := bcell hB2; replace hB1 := hB1)
                (refine wp_region_bel (by kernel_rfl) (by kernel_rfl) ?_; have hD := bel_cells hB2; (repeat (go_big_quiet_step ((fail)))); refine wpQuiet_nil ?_; intro w1 hB1; replace hB2 := bel_trans hB2 hB1; obtain ⟨hC1, hF1⟩ := bcell hB2; clear hD; replace hB1 := hB1)
                go_wp2
                go_roundw
                case rel => exact ⟨j + 1 + 1, by omega, by go_num, noBad_snoc hno (hbad.out.trans hcl.out), by (repeat' (first | (with_reducible exact bel_refl _) | (with_reducible assumption) | (with_reducible refine bel_drew ?_) | (with_reducible refine bel_drewN ?_) | (with_reducible refine bel_alloc ?_) | (with_reducible refine bel_set ?_ ?_) | (with_reducible refine bel_trans ?_ (by with_reducible assumption)) | omega | (simp; done) | (simp; omega)))⟩
                case measure => simp [intOf]; omega
            · have hq : (x.crew == y.crew) = false := by simpa using hc2
              have hq2 : (y.crew == x.crew) = false := by simpa using fun h => hc2 h.symm
              have hcl := hid (show clashD y x = false by simp [clashD, hc1, hc2])
              clear hc2 hc1
              go_wp2_with (go_at_call 68; refine (l11One _ _).mono ?_; rintro _ w1 ⟨rfl, hB1⟩; (first | (with_reducible replace hB2 := bel_trans hB2 hB1) | (with_reducible replace hB2 := bel_trans (bel_alloc hB2) hB1)); obtain ⟨hC1, hF1⟩ := bcell hB2; replace hB1 := hB1)
              (refine wp_region_bel (by kernel_rfl) (by kernel_rfl) ?_; have hD := bel_cells hB2; (repeat (go_big_quiet_step ((fail)))); refine wpQuiet_nil ?_; intro w1 hB1; replace hB2 := bel_trans hB2 hB1; obtain ⟨hC1, hF1⟩ := bcell hB2; clear hD; replace hB1 := hB1)
              go_wp2
              go_roundw
              case rel => exact ⟨j + 1 + 1, by omega, by go_num, noBad_snoc hno (hbad.out.trans hcl.out), by (repeat' (first | (with_reducible exact bel_refl _) | (with_reducible assumption) | (with_reducible refine bel_drew ?_) | (with_reducible refine bel_drewN ?_) | (with_reducible refine bel_alloc ?_) | (with_reducible refine bel_set ?_ ?_) | (with_reducible refine bel_trans ?_ (by with_reducible assumption)) | omega | (simp; done) | (simp; omega)))⟩
              case measure => simp [intOf]; omega
    · go_wp2
      go_ret
      have e : i = n := by omega
      subst e
      refine ⟨?_, by (repeat' (first | (with_reducible exact bel_refl _) | (with_reducible assumption) | (with_reducible refine bel_drew ?_) | (with_reducible refine bel_drewN ?_) | (with_reducible refine bel_alloc ?_) | (with_reducible refine bel_set ?_ ?_) | (with_reducible refine bel_trans ?_ (by with_reducible assumption)) | omega | (simp; done) | (simp; omega)))⟩
      rw [rosterB, noneBad_yes (by rw [hlh.out]; exact hno.out), hlh.out]
      simp
      omega

end Go.Proofs.Ytlffolfooiijhaa
