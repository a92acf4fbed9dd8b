/-
  Phases: whether a list are phases: of the program and of the reference, walked.
-/
import Derived.Test.YtdfjfopbhlbmkaaIn
import Derived.Test.YtdfjfopbhlbmkaaListMath
import Derived.Test.YtdfjfopbhlbmkaaEnsData
namespace Go.Proofs.Ytdfjfopbhlbmkaa
open Go.RowKit

def goodP (x : Phase) : Bool := inB x.start 0 9999 && inB x.speed 1 9
def clashP (y x : Phase) : Bool := decide (x.start ≤ y.start)
def firstZ (ps : List Phase) : Bool := match ps[0]? with
  | some x => decide (x.start = 0)
  | none => true
def phasesB (ps : List Phase) : Bool := inB ps.length 1 6 && firstZ ps && noneBad (badAt goodP clashP ps) ps.length
theorem goodP_bd {x : Phase} (h : goodP x = true) : 0 ≤ x.start ∧ x.start ≤ 9999 ∧ 1 ≤ x.speed ∧ x.speed ≤ 9 := by
  simp only [goodP, Bool.and_eq_true, inB_iff] at h
  omega
theorem phases_bad {ps : List Phase} {i : Nat} (hi : i < ps.length) (h : badAt goodP clashP ps i = true) : phasesB ps = false := by
  rw [phasesB, noneBad_no hi h, Bool.and_false]
theorem phases_first {ps : List Phase} {x : Phase} (hx : ps[0]? = some x) (h : x.start ≠ 0) : phasesB ps = false := by
  simp [phasesB, firstZ, hx, h]
theorem phases_len {ps : List Phase} (h : inB ps.length 1 6 = false) : phasesB ps = false := by simp [phasesB, h]
theorem phases_yes {ps : List Phase} {x : Phase} (h0 : inB ps.length 1 6 = true) (hx : ps[0]? = some x) (hz : x.start = 0) (h : ∀ r, r < ps.length → badAt goodP clashP ps r = false) : phasesB ps = true := by
  simp [phasesB, h0, firstZ, hx, hz, noneBad_yes h]

theorem isTick (n : Int) (w : World) :
    Calls Try.prog 46 #[.int .i64 n] w fun e w' => e = .returned (.bool (inB n 0 9999)) ∧ w = w' := by
  go_enter Try.func46, Try.ntmps46
  go_wp2_with (go_at_call 79; refine (isIn _ _ _ _).mono ?_; rintro _ w1 ⟨rfl, rfl⟩)
  go_ret
  exact ⟨rfl, rfl⟩

theorem l4Tick (n : Int) (w : World) :
    Calls Try.prog 42 #[.int .i64 n] w fun e w' => e = .returned (.bool (inB n 0 9999)) ∧ w = w' := by
  go_enter Try.func42, Try.ntmps42
  go_wp2_with (go_at_call 72; refine (l1In _ _ _ _).mono ?_; rintro _ w1 ⟨rfl, rfl⟩)
  go_ret
  exact ⟨rfl, rfl⟩

set_option maxHeartbeats 2000000 in
set_option maxRecDepth 100000 in
theorem arePhases (A : Option Addr) (n c : Nat) (xs : List Phase) (w : World) (hS : Sl w 2 A n c (xs.flatMap Phase.row)) (hn : n ≤ 1048576) :
    Calls Try.prog 98 #[.slice A n c] w fun e w' => e = .returned (.bool (phasesB xs)) ∧ Below w.heap.size w w' := by
  have hlh := hid (hS.xs_len Phase.row_len (by omega))
  go_enter Try.func98, Try.ntmps98
  go_wp2_with fail
  go_loopw [7] (fun v wr => ∃ i : Nat, i ≤ n ∧ v = .int .i64 i ∧ (Hid (∀ r, r < i → badAt goodP clashP xs r = false)) ∧ (Hid (0 < i → firstZ xs = true)) ∧ Below w.heap.size w wr) (fun v _ => n - (intOf v).toNat)
  case atStart => exact ⟨0, by omega, rfl, fun r hr => absurd hr (by omega), fun h => absurd h (by omega), by (repeat' (first | (with_reducible exact bel_refl _) | (with_reducible assumption) | (with_reducible refine bel_drew ?_) | (with_reducible refine bel_drewN ?_) | (with_reducible refine bel_alloc ?_) | (with_reducible refine bel_set ?_ ?_) | (with_reducible refine bel_trans ?_ (by with_reducible assumption)) | omega | (simp; done) | (simp; omega)))⟩
  case round =>
    obtain ⟨i, hi', rfl, hno, hfz, hB⟩ := hrel
    by_cases hlt : i < n
    · obtain ⟨x, hx⟩ : ∃ x, xs[i]? = some x := get_of_lt (by rw [hlh.out]; exact hlt)
      obtain ⟨b, o, rfl, hb, c0, c1⟩ := (hS.bel hB).phase hx
      have hX := hid hx
      clear hx
      have hB2 := bel_refl (wr.alloc (.cells #[.int .i64 x.start, .int .i64 x.speed] 88))
      have hi0 : (0 : Int) ≤ (i : Int) := by omega
      have hi1 : (i : Int) < (n : Int) := by omega
      rcases h1 : inB x.start 0 9999 with _ | _
      · have hR := hid (phases_bad (by rw [hlh.out]; exact hlt) (badAt_ill (clash := clashP) hX.out (show goodP x = false by simp [goodP, h1])))
        go_wp2_with fail
        (refine wp_region_bel (by kernel_rfl) (by kernel_rfl) ?_; have hD := bel_cells hB2; (repeat (go_big_quiet_step (((first | (go_at_call 79; exact calls_bel_same (isIn _ _ _ _)) | (go_at_call 46; exact calls_bel_same (isTick _ _))))))); refine wpQuiet_nil ?_; intro w1 hB1; replace hB2 := bel_trans hB2 hB1; obtain ⟨hC1, hF1⟩ := bcell hB2; clear hD; replace hB1 := hB1)
        go_wp2
        go_ret; exact ⟨ret_bool hR.out.symm, by (repeat' (first | (with_reducible exact bel_refl _) | (with_reducible assumption) | (with_reducible refine bel_drew ?_) | (with_reducible refine bel_drewN ?_) | (with_reducible refine bel_alloc ?_) | (with_reducible refine bel_set ?_ ?_) | (with_reducible refine bel_trans ?_ (by with_reducible assumption)) | omega | (simp; done) | (simp; omega)))⟩
      rcases h2 : inB x.speed 1 9 with _ | _
      · have hR := hid (phases_bad (by rw [hlh.out]; exact hlt) (badAt_ill (clash := clashP) hX.out (show goodP x = false by simp [goodP, h2])))
        go_wp2_with fail
        (refine wp_region_bel (by kernel_rfl) (by kernel_rfl) ?_; have hD := bel_cells hB2; (repeat (go_big_quiet_step (((first | (go_at_call 79; exact calls_bel_same (isIn _ _ _ _)) | (go_at_call 46; exact calls_bel_same (isTick _ _))))))); refine wpQuiet_nil ?_; intro w1 hB1; replace hB2 := bel_trans hB2 hB1; obtain ⟨hC1, hF1⟩ := bcell hB2; clear hD; replace hB1 := hB1)
        go_wp2
        go_ret; exact ⟨ret_bool hR.out.symm, by (repeat' (first | (with_reducible exact bel_refl _) | (with_reducible assumption) | (with_reducible refine bel_drew ?_) | (with_reducible refine bel_drewN ?_) | (with_reducible refine bel_alloc ?_) | (with_reducible refine bel_set ?_ ?_) | (with_reducible refine bel_trans ?_ (by with_reducible assumption)) | omega | (simp; done) | (simp; omega)))⟩
      have hgs := hid (show goodP x = true by simp [goodP, h1, h2])
      rcases i with _ | j
      · simp only [Nat.zero_mul, Nat.add_zero] at c0 c1
        by_cases hz : x.start = 0
        · have hq : (x.start == 0) = true := by simpa using hz
          have hq2 : (x.start != 0) = false := by simpa using hz
          have hzz := hid hz
          clear hz
          go_wp2_with fail
          (refine wp_region_bel (by kernel_rfl) (by kernel_rfl) ?_; have hD := bel_cells hB2; (repeat (go_big_quiet_step (((first | (go_at_call 79; exact calls_bel_same (isIn _ _ _ _)) | (go_at_call 46; exact calls_bel_same (isTick _ _))))))); refine wpQuiet_nil ?_; intro w1 hB1; replace hB2 := bel_trans hB2 hB1; obtain ⟨hC1, hF1⟩ := bcell hB2; clear hD; replace hB1 := hB1)
          go_wp2
          go_roundw
          case rel => exact ⟨1, by omega, by go_num, noBad_snoc hno (badAt_first hX.out hgs.out), fun _ => (by simp [firstZ, hX.out, hzz.out]), by (repeat' (first | (with_reducible exact bel_refl _) | (with_reducible assumption) | (with_reducible refine bel_drew ?_) | (with_reducible refine bel_drewN ?_) | (with_reducible refine bel_alloc ?_) | (with_reducible refine bel_set ?_ ?_) | (with_reducible refine bel_trans ?_ (by with_reducible assumption)) | omega | (simp; done) | (simp; omega)))⟩
          case measure => simp [intOf]; omega
        · have hq : (x.start == 0) = false := by simpa using hz
          have hq2 : (x.start != 0) = true := by simpa using hz
          have hR := hid (phases_first hX.out hz)
          go_wp2_with fail
          (refine wp_region_bel (by kernel_rfl) (by kernel_rfl) ?_; have hD := bel_cells hB2; (repeat (go_big_quiet_step (((first | (go_at_call 79; exact calls_bel_same (isIn _ _ _ _)) | (go_at_call 46; exact calls_bel_same (isTick _ _))))))); refine wpQuiet_nil ?_; intro w1 hB1; replace hB2 := bel_trans hB2 hB1; obtain ⟨hC1, hF1⟩ := bcell hB2; clear hD; replace hB1 := hB1)
          go_wp2
          go_ret; exact ⟨ret_bool hR.out.symm, by (repeat' (first | (with_reducible exact bel_refl _) | (with_reducible assumption) | (with_reducible refine bel_drew ?_) | (with_reducible refine bel_drewN ?_) | (with_reducible refine bel_alloc ?_) | (with_reducible refine bel_set ?_ ?_) | (with_reducible refine bel_trans ?_ (by with_reducible assumption)) | omega | (simp; done) | (simp; omega)))⟩
      · obtain ⟨y, hy⟩ : ∃ y, xs[j]? = some y := get_of_lt (by rw [hlh.out]; omega)
        obtain ⟨b', o', hbo, _, e0, e1⟩ := (hS.bel hB).phase hy
        simp only [Option.some.injEq, Addr.mk.injEq, and_true] at hbo
        obtain ⟨rfl, rfl⟩ := hbo
        have hY := hid hy
        clear hy
        have hp0 : ((j + 1 : Nat) : Int) = (j : Int) + 1 := by omega
        rw [hp0] at hi0 hi1 ⊢
        clear hp0
        have hj0 : (0 : Int) ≤ (j : Int) := by omega
        have hj1 : (j : Int) < (n : Int) := by omega
        have hjq : ((j : Int) + 1 == 0) = false := by rw [beq_eq_false_iff_ne]; omega
        by_cases hle : x.start ≤ y.start
        · have hR := hid (phases_bad (by rw [hlh.out]; exact hlt) (show badAt goodP clashP xs (j + 1) = true by rw [badAt_next hX.out hY.out hgs.out]; simpa [clashP] using hle))
          go_wp2_with fail
          (refine wp_region_bel (by kernel_rfl) (by kernel_rfl) ?_; have hD := bel_cells hB2; (repeat (go_big_quiet_step (((first | (go_at_call 79; exact calls_bel_same (isIn _ _ _ _)) | (go_at_call 46; exact calls_bel_same (isTick _ _))))))); refine wpQuiet_nil ?_; intro w1 hB1; replace hB2 := bel_trans hB2 hB1; obtain ⟨hC1, hF1⟩ := bcell hB2; clear hD; replace hB1 := hB1)
          go_wp2
          go_ret; exact ⟨ret_bool hR.out.symm, by (repeat' (first | (with_reducible exact bel_refl _) | (with_reducible assumption) | (with_reducible refine bel_drew ?_) | (with_reducible refine bel_drewN ?_) | (with_reducible refine bel_alloc ?_) | (with_reducible refine bel_set ?_ ?_) | (with_reducible refine bel_trans ?_ (by with_reducible assumption)) | omega | (simp; done) | (simp; omega)))⟩
        · go_wp2_with fail
          (refine wp_region_bel (by kernel_rfl) (by kernel_rfl) ?_; have hD := bel_cells hB2; (repeat (go_big_quiet_step (((first | (go_at_call 79; exact calls_bel_same (isIn _ _ _ _)) | (go_at_call 46; exact calls_bel_same (isTick _ _))))))); refine wpQuiet_nil ?_; intro w1 hB1; replace hB2 := bel_trans hB2 hB1; obtain ⟨hC1, hF1⟩ := bcell hB2; clear hD; replace hB1 := hB1)
          go_wp2
          go_roundw
          case rel => exact ⟨j + 1 + 1, by omega, by go_num, noBad_snoc hno (by rw [badAt_next hX.out hY.out hgs.out]; simpa [clashP] using hle), fun _ => hfz.out (by omega), by (repeat' (first | (with_reducible exact bel_refl _) | (with_reducible assumption) | (with_reducible refine bel_drew ?_) | (with_reducible refine bel_drewN ?_) | (with_reducible refine bel_alloc ?_) | (with_reducible refine bel_set ?_ ?_) | (with_reducible refine bel_trans ?_ (by with_reducible assumption)) | omega | (simp; done) | (simp; omega)))⟩
          case measure => simp [intOf]; omega
    · have e : i = n := by omega
      subst e
      have hR : Hid (phasesB xs = inB (i : Int) 1 6) := by
        show _ = _
        rw [phasesB, hlh.out, noneBad_yes hno.out, Bool.and_true]
        rcases h : inB (i : Int) 1 6 with _ | _
        · rfl
        · have h2 := inB_iff.1 h
          rw [hfz.out (by omega)]; rfl
      go_wp2_with (go_at_call 79; refine (isIn _ _ _ _).mono ?_; rintro _ w1 ⟨rfl, rfl⟩)
      go_ret
      exact ⟨ret_bool hR.out.symm, by (repeat' (first | (with_reducible exact bel_refl _) | (with_reducible assumption) | (with_reducible refine bel_drew ?_) | (with_reducible refine bel_drewN ?_) | (with_reducible refine bel_alloc ?_) | (with_reducible refine bel_set ?_ ?_) | (with_reducible refine bel_trans ?_ (by with_reducible assumption)) | omega | (simp; done) | (simp; omega)))⟩
set_option maxHeartbeats 2000000 in
set_option maxRecDepth 100000 in
theorem l4Phases (A : Option Addr) (n c : Nat) (xs : List Phase) (w : World) (hS : Sl w 2 A n c (xs.flatMap Phase.row)) (hn : n ≤ 1048576) :
    Calls Try.prog 89 #[.slice A n c] w fun e w' => e = .returned (.bool (phasesB xs)) ∧ Below w.heap.size w w' := by
  have hlh := hid (hS.xs_len Phase.row_len (by omega))
  have hB2 := bel_refl w
  rcases hl : inB (n : Int) 1 6 with _ | _
  · have hR := hid (phases_len (ps := xs) (by rw [hlh.out]; exact hl))
    go_enter Try.func89, Try.ntmps89
    go_wp2_with (go_at_call 72; refine (l1In _ _ _ _).mono ?_; rintro _ w1 ⟨rfl, rfl⟩)
    go_ret; exact ⟨ret_bool hR.out.symm, by (repeat' (first | (with_reducible exact bel_refl _) | (with_reducible assumption) | (with_reducible refine bel_drew ?_) | (with_reducible refine bel_drewN ?_) | (with_reducible refine bel_alloc ?_) | (with_reducible refine bel_set ?_ ?_) | (with_reducible refine bel_trans ?_ (by with_reducible assumption)) | omega | (simp; done) | (simp; omega)))⟩
  have hl2 := inB_iff.1 hl
  have hlb := hid hl
  obtain ⟨x0, hx0⟩ : ∃ x, xs[0]? = some x := get_of_lt (by rw [hlh.out]; omega)
  obtain ⟨b, o, rfl, hb, d0, d1⟩ := hS.phase hx0
  simp only [Nat.zero_mul, Nat.add_zero] at d0 d1
  have hX0 := hid hx0
  clear hx0
  have hn0 : (0 : Int) < (n : Int) := by omega
  by_cases hz : x0.start = 0
  · have hq : (x0.start != 0) = false := by simpa using hz
    have hzz := hid hz
    clear hz
    go_enter Try.func89, Try.ntmps89
    go_wp2_with (go_at_call 72; refine (l1In _ _ _ _).mono ?_; rintro _ w1 ⟨rfl, rfl⟩)
    go_loopw [3] (fun v wr => ∃ i : Nat, i ≤ n ∧ v = .int .i64 i ∧ (Hid (∀ r, r < i → badAt goodP clashP xs r = false)) ∧ Below w.heap.size w wr) (fun v _ => n - (intOf v).toNat)
    case atStart => exact ⟨0, by omega, rfl, fun r hr => absurd hr (by omega), by (repeat' (first | (with_reducible exact bel_refl _) | (with_reducible assumption) | (with_reducible refine bel_drew ?_) | (with_reducible refine bel_drewN ?_) | (with_reducible refine bel_alloc ?_) | (with_reducible refine bel_set ?_ ?_) | (with_reducible refine bel_trans ?_ (by with_reducible assumption)) | omega | (simp; done) | (simp; omega)))⟩
    case round =>
      clear d0 d1 hq
      obtain ⟨i, hi', rfl, hno, hB⟩ := hrel
      by_cases hlt : i < n
      · obtain ⟨x, hx⟩ : ∃ x, xs[i]? = some x := get_of_lt (by rw [hlh.out]; exact hlt)
        obtain ⟨b', o', hbo, hb', c0, c1⟩ := (hS.bel hB).phase hx
        simp only [Option.some.injEq, Addr.mk.injEq, and_true] at hbo
        obtain ⟨rfl, rfl⟩ := hbo
        have hX := hid hx
        clear hx
        have hB2 := bel_refl wr
        have hi0 : (0 : Int) ≤ (i : Int) := by omega
        have hi1 : (i : Int) < (n : Int) := by omega
        rcases h1 : inB x.start 0 9999 with _ | _
        · have hR := hid (phases_bad (by rw [hlh.out]; exact hlt) (badAt_ill (clash := clashP) hX.out (show goodP x = false by simp [goodP, h1])))
          go_wp2_with fail
          (refine wp_region_bel (by kernel_rfl) (by kernel_rfl) ?_; have hD := bel_cells hB2; (repeat (go_big_quiet_step (((first | (go_at_call 72; exact calls_bel_same (l1In _ _ _ _)) | (go_at_call 42; exact calls_bel_same (l4Tick _ _))))))); refine wpQuiet_nil ?_; intro w1 hB1; replace hB2 := bel_trans hB2 hB1; obtain ⟨hC1, hF1⟩ := bcell hB2; clear hD; replace hB1 := hB1)
          go_wp2
          go_ret; exact ⟨ret_bool hR.out.symm, by (repeat' (first | (with_reducible exact bel_refl _) | (with_reducible assumption) | (with_reducible refine bel_drew ?_) | (with_reducible refine bel_drewN ?_) | (with_reducible refine bel_alloc ?_) | (with_reducible refine bel_set ?_ ?_) | (with_reducible refine bel_trans ?_ (by with_reducible assumption)) | omega | (simp; done) | (simp; omega)))⟩
        rcases h2 : inB x.speed 1 9 with _ | _
        · have hR := hid (phases_bad (by rw [hlh.out]; exact hlt) (badAt_ill (clash := clashP) hX.out (show goodP x = false by simp [goodP, h2])))
          go_wp2_with fail
          (refine wp_region_bel (by kernel_rfl) (by kernel_rfl) ?_; have hD := bel_cells hB2; (repeat (go_big_quiet_step (((first | (go_at_call 72; exact calls_bel_same (l1In _ _ _ _)) | (go_at_call 42; exact calls_bel_same (l4Tick _ _))))))); refine wpQuiet_nil ?_; intro w1 hB1; replace hB2 := bel_trans hB2 hB1; obtain ⟨hC1, hF1⟩ := bcell hB2; clear hD; replace hB1 := hB1)
          go_wp2
          go_ret; exact ⟨ret_bool hR.out.symm, by (repeat' (first | (with_reducible exact bel_refl _) | (with_reducible assumption) | (with_reducible refine bel_drew ?_) | (with_reducible refine bel_drewN ?_) | (with_reducible refine bel_alloc ?_) | (with_reducible refine bel_set ?_ ?_) | (with_reducible refine bel_trans ?_ (by with_reducible assumption)) | omega | (simp; done) | (simp; omega)))⟩
        have hgs := hid (show goodP x = true by simp [goodP, h1, h2])
        rcases i with _ | j
        · simp only [Nat.zero_mul, Nat.add_zero] at c0 c1
          go_wp2_with fail
          (refine wp_region_bel (by kernel_rfl) (by kernel_rfl) ?_; have hD := bel_cells hB2; (repeat (go_big_quiet_step (((first | (go_at_call 72; exact calls_bel_same (l1In _ _ _ _)) | (go_at_call 42; exact calls_bel_same (l4Tick _ _))))))); refine wpQuiet_nil ?_; intro w1 hB1; replace hB2 := bel_trans hB2 hB1; obtain ⟨hC1, hF1⟩ := bcell hB2; clear hD; replace hB1 := hB1)
          go_wp2
          go_roundw
          case rel => exact ⟨1, by omega, by go_num, noBad_snoc hno (badAt_first hX.out hgs.out), by (repeat' (first | (with_reducible exact bel_refl _) | (with_reducible assumption) | (with_reducible refine bel_drew ?_) | (with_reducible refine bel_drewN ?_) | (with_reducible refine bel_alloc ?_) | (with_reducible refine bel_set ?_ ?_) | (with_reducible refine bel_trans ?_ (by with_reducible assumption)) | omega | (simp; done) | (simp; omega)))⟩
          case measure => simp [intOf]; omega
        · obtain ⟨y, hy⟩ : ∃ y, xs[j]? = some y := get_of_lt (by rw [hlh.out]; omega)
          obtain ⟨b', o', hbo, _, e0, e1⟩ := (hS.bel hB).phase hy
          simp only [Option.some.injEq, Addr.mk.injEq, and_true] at hbo
          obtain ⟨rfl, rfl⟩ := hbo
          have hY := hid hy
          clear hy
          have hp0 : ((j + 1 : Nat) : Int) = (j : Int) + 1 := by omega
          rw [hp0] at hi0 hi1 ⊢
          clear hp0
          have hj0 : (0 : Int) ≤ (j : Int) := by omega
          have hj1 : (j : Int) < (n : Int) := by omega
          by_cases hle : x.start ≤ y.start
          · have hR := hid (phases_bad (by rw [hlh.out]; exact hlt) (show badAt goodP clashP xs (j + 1) = true by rw [badAt_next hX.out hY.out hgs.out]; simpa [clashP] using hle))
            go_wp2_with fail
            (refine wp_region_bel (by kernel_rfl) (by kernel_rfl) ?_; have hD := bel_cells hB2; (repeat (go_big_quiet_step (((first | (go_at_call 72; exact calls_bel_same (l1In _ _ _ _)) | (go_at_call 42; exact calls_bel_same (l4Tick _ _))))))); refine wpQuiet_nil ?_; intro w1 hB1; replace hB2 := bel_trans hB2 hB1; obtain ⟨hC1, hF1⟩ := bcell hB2; clear hD; replace hB1 := hB1)
            go_wp2
            go_ret; exact ⟨ret_bool hR.out.symm, by (repeat' (first | (with_reducible exact bel_refl _) | (with_reducible assumption) | (with_reducible refine bel_drew ?_) | (with_reducible refine bel_drewN ?_) | (with_reducible refine bel_alloc ?_) | (with_reducible refine bel_set ?_ ?_) | (with_reducible refine bel_trans ?_ (by with_reducible assumption)) | omega | (simp; done) | (simp; omega)))⟩
          · go_wp2_with fail
            (refine wp_region_bel (by kernel_rfl) (by kernel_rfl) ?_; have hD := bel_cells hB2; (repeat (go_big_quiet_step (((first | (go_at_call 72; exact calls_bel_same (l1In _ _ _ _)) | (go_at_call 42; exact calls_bel_same (l4Tick _ _))))))); refine wpQuiet_nil ?_; intro w1 hB1; replace hB2 := bel_trans hB2 hB1; obtain ⟨hC1, hF1⟩ := bcell hB2; clear hD; replace hB1 := hB1)
            go_wp2
            go_roundw
            case rel => exact ⟨j + 1 + 1, by omega, by go_num, noBad_snoc hno (by rw [badAt_next hX.out hY.out hgs.out]; simpa [clashP] using hle), by (repeat' (first | (with_reducible exact bel_refl _) | (with_reducible assumption) | (with_reducible refine bel_drew ?_) | (with_reducible refine bel_drewN ?_) | (with_reducible refine bel_alloc ?_) | (with_reducible refine bel_set ?_ ?_) | (with_reducible refine bel_trans ?_ (by with_reducible assumption)) | omega | (simp; done) | (simp; omega)))⟩
            case measure => simp [intOf]; omega
      · have e : i = n := by omega
        subst e
        have hR := hid (phases_yes (by rw [hlh.out]; exact hlb.out) hX0.out hzz.out (by rw [hlh.out]; exact hno.out))
        go_wp2
        go_ret; exact ⟨ret_bool hR.out.symm, by (repeat' (first | (with_reducible exact bel_refl _) | (with_reducible assumption) | (with_reducible refine bel_drew ?_) | (with_reducible refine bel_drewN ?_) | (with_reducible refine bel_alloc ?_) | (with_reducible refine bel_set ?_ ?_) | (with_reducible refine bel_trans ?_ (by with_reducible assumption)) | omega | (simp; done) | (simp; omega)))⟩
  · have hq : (x0.start != 0) = true := by simpa using hz
    have hR := hid (phases_first hX0.out hz)
    clear hz
    go_enter Try.func89, Try.ntmps89
    go_wp2_with (go_at_call 72; refine (l1In _ _ _ _).mono ?_; rintro _ w1 ⟨rfl, rfl⟩)
    go_ret; exact ⟨ret_bool hR.out.symm, by (repeat' (first | (with_reducible exact bel_refl _) | (with_reducible assumption) | (with_reducible refine bel_drew ?_) | (with_reducible refine bel_drewN ?_) | (with_reducible refine bel_alloc ?_) | (with_reducible refine bel_set ?_ ?_) | (with_reducible refine bel_trans ?_ (by with_reducible assumption)) | omega | (simp; done) | (simp; omega)))⟩
end Go.Proofs.Ytdfjfopbhlbmkaa
