/-
  Roads: whether places and roads are a network: of the program and of the reference, walked.
-/
import Derived.Test.YtfimchbjpambfaaIn
import Derived.Test.YtfimchbjpambfaaListMath
import Derived.Test.YtfimchbjpambfaaRoadData
namespace Go.Proofs.Ytfimchbjpambfaa
open Go.RowKit

def goodR (p : Int) (x : Road) : Bool := decide (0 ≤ x.a) && decide (x.a < x.b) && decide (x.b < p) && inB x.minutes 1 100 && inB x.closes 0 999
theorem goodR_bd {p : Int} {x : Road} (h : goodR p x = true) : 0 ≤ x.a ∧ x.a < x.b ∧ x.b < p ∧ 1 ≤ x.minutes ∧ x.minutes ≤ 100 ∧ 0 ≤ x.closes ∧ x.closes ≤ 999 := by
  simp only [goodR, Bool.and_eq_true, decide_eq_true_eq, inB_iff] at h
  omega
def clashR (y x : Road) : Bool := decide (x.a < y.a) || (decide (x.a = y.a) && decide (x.b ≤ y.b))
def netB (p : Int) (xs : List Road) : Bool := inB p 2 7 && decide (xs.length ≤ 12) && noneBad (badAt (goodR p) clashR xs) xs.length
def allR (p : Int) (xs : List Road) : Prop := ∀ (i : Nat) (x : Road), xs[i]? = some x → goodR p x = true
theorem netB_all {p : Int} {xs : List Road} (h : netB p xs = true) : allR p xs := fun i x hx => by
  rw [netB, Bool.and_eq_true] at h
  exact good_of h.2 hx
theorem netB_bd {p : Int} {xs : List Road} (h : netB p xs = true) : 2 ≤ p ∧ p ≤ 7 ∧ xs.length ≤ 12 := by
  simp only [netB, Bool.and_eq_true, decide_eq_true_eq, inB_iff] at h
  omega

theorem isMinute (n : Int) (w : World) :
    Calls Try.prog 36 #[.int .i64 n] w fun e w' => e = .returned (.bool (inB n 0 999)) ∧ w = w' := by
  go_enter Try.func36, Try.ntmps36
  go_wp2_with (go_at_call 41; refine (isIn _ _ _ _).mono ?_; rintro _ w1 ⟨rfl, rfl⟩)
  go_ret
  exact ⟨rfl, rfl⟩

theorem l12Minute (n : Int) (w : World) :
    Calls Try.prog 39 #[.int .i64 n] w fun e w' => e = .returned (.bool (inB n 0 999)) ∧ w = w' := by
  go_enter Try.func39, Try.ntmps39
  go_wp2_with (go_at_call 65; refine (l1In _ _ _ _).mono ?_; rintro _ w1 ⟨rfl, rfl⟩)
  go_ret
  exact ⟨rfl, rfl⟩

theorem goodR_no {p : Int} {x : Road} (h : goodR p x = false) : x.a < 0 ∨ (0 ≤ x.a ∧ x.b ≤ x.a) ∨ (0 ≤ x.a ∧ x.a < x.b ∧ p ≤ x.b) ∨ (0 ≤ x.a ∧ x.a < x.b ∧ x.b < p ∧ inB x.minutes 1 100 = false) ∨ (0 ≤ x.a ∧ x.a < x.b ∧ x.b < p ∧ inB x.minutes 1 100 = true ∧ inB x.closes 0 999 = false) := by
  rw [Bool.eq_false_iff, Ne] at h
  simp only [goodR, Bool.and_eq_true, decide_eq_true_eq, not_and] at h
  by_cases h1 : x.a < 0
  · exact Or.inl h1
  by_cases h2 : x.b ≤ x.a
  · exact Or.inr (Or.inl ⟨by omega, h2⟩)
  by_cases h3 : p ≤ x.b
  · exact Or.inr (Or.inr (Or.inl ⟨by omega, by omega, h3⟩))
  rcases h4 : inB x.minutes 1 100 with _ | _
  · exact Or.inr (Or.inr (Or.inr (Or.inl ⟨by omega, by omega, by omega, rfl⟩)))
  · exact Or.inr (Or.inr (Or.inr (Or.inr ⟨by omega, by omega, by omega, rfl, by simpa using h ⟨⟨⟨by omega, by omega⟩, by omega⟩, h4⟩⟩)))
theorem goodR_yes {p : Int} {x : Road} (h : goodR p x = true) : inB x.minutes 1 100 = true ∧ inB x.closes 0 999 = true := by
  simp only [goodR, Bool.and_eq_true] at h
  exact ⟨h.1.2, h.2⟩

set_option maxHeartbeats 4000000 in
set_option maxRecDepth 100000 in
theorem netI_go (p : Int) (A : Option Addr) (n c : Nat) (xs : List Road) (w : World) (hS : Sl w 4 A n c (xs.flatMap Road.row)) (hn : n ≤ 1048577) (_hok : True) :
    Calls Try.prog 10 #[.int .i64 p, .slice A n c] w fun e w' => e = .returned (.bool (netB p xs)) ∧ Below w.heap.size w w' := by
  have hlh := hid (hS.xs_len Road.row_len (by omega))
  go_enter Try.func10, Try.ntmps10
  go_wp2_with (first | (go_at_call 41; refine (isIn _ _ _ _).mono ?_; rintro _ w1 ⟨rfl, rfl⟩) | (go_at_call 36; refine (isMinute _ _).mono ?_; rintro _ w1 ⟨rfl, rfl⟩))
  go_loopw [9] (fun v wr => ∃ i : Nat, i ≤ n ∧ v = .int .i64 i ∧ (Hid (∀ r, r < i → badAt (goodR p) clashR xs r = false)) ∧ Below w.heap.size w wr) (fun v _ => n - (intOf v).toNat)
  case atStart => exact ⟨0, by omega, rfl, fun r hr => absurd hr (by omega), by (repeat' (first | (with_reducible exact bel_refl _) | (with_reducible assumption) | (with_reducible refine bel_drew ?_) | (with_reducible refine bel_drewN ?_) | (with_reducible refine bel_alloc ?_) | (with_reducible refine bel_set ?_ ?_) | (with_reducible refine bel_trans ?_ (by with_reducible assumption)) | omega | (simp; done) | (simp; omega)))⟩
  case round =>
    obtain ⟨i, hi', rfl, hno, hB⟩ := hrel
    by_cases hlt : i < n
    · obtain ⟨x, hx⟩ : ∃ x, xs[i]? = some x := get_of_lt (by rw [hlh.out]; exact hlt)
      obtain ⟨b, o, rfl, hb, c0, c1, c2, c3⟩ := (hS.bel hB).road hx
      have hX := hid hx
      clear hx
      have hB2 := bel_refl (wr.alloc (.cells #[.int .i64 x.a, .int .i64 x.b, .int .i64 x.minutes, .int .i64 x.closes] 39))
      have hi0 : (0 : Int) ≤ (i : Int) := by omega
      have hi1 : (i : Int) < (n : Int) := by omega
      rcases hg : goodR p x with _ | _
      · have hbad := hid (badAt_ill (clash := clashR) hX.out hg)
        rcases goodR_no hg with g1 | ⟨g1, g2⟩ | ⟨g1, g2, g3⟩ | ⟨g1, g2, g3, g4⟩ | ⟨g1, g2, g3, g4, g5⟩
        all_goals (clear hg)
        all_goals (go_wp2_with (first | (go_at_call 41; refine (isIn _ _ _ _).mono ?_; rintro _ w1 ⟨rfl, rfl⟩) | (go_at_call 36; refine (isMinute _ _).mono ?_; rintro _ w1 ⟨rfl, rfl⟩)))
        all_goals go_ret
        all_goals (refine ⟨?_, by (repeat' (first | (with_reducible exact bel_refl _) | (with_reducible assumption) | (with_reducible refine bel_drew ?_) | (with_reducible refine bel_drewN ?_) | (with_reducible refine bel_alloc ?_) | (with_reducible refine bel_set ?_ ?_) | (with_reducible refine bel_trans ?_ (by with_reducible assumption)) | omega | (simp; done) | (simp; omega)))⟩; rw [netB, noneBad_no (by rw [hlh.out]; exact hlt) hbad.out, Bool.and_false]; rfl)
      · have hgb := goodR_bd hg
        obtain ⟨g4, g5⟩ := goodR_yes hg
        rcases i with _ | j
        · have hfst := hid (badAt_first (clash := clashR) hX.out hg)
          simp only [Nat.zero_mul, Nat.add_zero] at c0 c1 c2 c3
          clear hg
          go_wp2_with (first | (go_at_call 41; refine (isIn _ _ _ _).mono ?_; rintro _ w1 ⟨rfl, rfl⟩) | (go_at_call 36; refine (isMinute _ _).mono ?_; rintro _ w1 ⟨rfl, rfl⟩))
          (refine wp_region_bel (by kernel_rfl) (by kernel_rfl) ?_; have hD := bel_cells hB2; (repeat (go_big_quiet_step ((fail)))); refine wpQuiet_nil ?_; intro w1 hB1; replace hB2 := bel_trans hB2 hB1; obtain ⟨hC1, hF1⟩ := bcell hB2; clear hD; replace hB1 := hB1)
          go_wp2
          go_roundw
          case rel => exact ⟨1, by omega, by go_num, noBad_snoc hno hfst.out, by (repeat' (first | (with_reducible exact bel_refl _) | (with_reducible assumption) | (with_reducible refine bel_drew ?_) | (with_reducible refine bel_drewN ?_) | (with_reducible refine bel_alloc ?_) | (with_reducible refine bel_set ?_ ?_) | (with_reducible refine bel_trans ?_ (by with_reducible assumption)) | omega | (simp; done) | (simp; omega)))⟩
          case measure => simp [intOf]; omega
        · obtain ⟨y, hy⟩ : ∃ y, xs[j]? = some y := get_of_lt (by rw [hlh.out]; omega)
          obtain ⟨b', o', hbo, _, e0, e1, e2, e3⟩ := (hS.bel hB).road hy
          simp only [Option.some.injEq, Addr.mk.injEq, and_true] at hbo
          obtain ⟨rfl, rfl⟩ := hbo
          have hY := hid hy
          clear hy
          have hp0 : ((j + 1 : Nat) : Int) = (j : Int) + 1 := by omega
          rw [hp0] at hi0 hi1 ⊢
          clear hp0
          have hj0 : (0 : Int) ≤ (j : Int) := by omega
          have hj1 : (j : Int) < (n : Int) := by omega
          have hbad := hid (badAt_next (clash := clashR) hX.out hY.out hg)
          clear hg
          by_cases hc1 : x.a < y.a
          · have hcl := hid (show clashR y x = true by simp [clashR, hc1])
            go_wp2_with (first | (go_at_call 41; refine (isIn _ _ _ _).mono ?_; rintro _ w1 ⟨rfl, rfl⟩) | (go_at_call 36; refine (isMinute _ _).mono ?_; rintro _ w1 ⟨rfl, rfl⟩))
            (refine wp_region_bel (by kernel_rfl) (by kernel_rfl) ?_; have hD := bel_cells hB2; (repeat (go_big_quiet_step ((fail)))); refine wpQuiet_nil ?_; intro w1 hB1; replace hB2 := bel_trans hB2 hB1; obtain ⟨hC1, hF1⟩ := bcell hB2; clear hD; replace hB1 := hB1)
            go_wp2
            go_ret
            refine ⟨?_, by (repeat' (first | (with_reducible exact bel_refl _) | (with_reducible assumption) | (with_reducible refine bel_drew ?_) | (with_reducible refine bel_drewN ?_) | (with_reducible refine bel_alloc ?_) | (with_reducible refine bel_set ?_ ?_) | (with_reducible refine bel_trans ?_ (by with_reducible assumption)) | omega | (simp; done) | (simp; omega)))⟩
            rw [netB, noneBad_no (by rw [hlh.out]; exact hlt) (hbad.out.trans hcl.out), Bool.and_false]; rfl
          · have hb1 : decide (x.a < y.a) = false := decide_eq_false hc1
            by_cases hc2 : x.a = y.a
            · have hq : (x.a == y.a) = true := by simpa using hc2
              have hq2 : (y.a == x.a) = true := by simpa using hc2.symm
              by_cases hc3 : x.b ≤ y.b
              · have hcl := hid (show clashR y x = true by simp [clashR, hc2, hc3])
                clear hc2 hc1
                go_wp2_with (first | (go_at_call 41; refine (isIn _ _ _ _).mono ?_; rintro _ w1 ⟨rfl, rfl⟩) | (go_at_call 36; refine (isMinute _ _).mono ?_; rintro _ w1 ⟨rfl, rfl⟩))
                (refine wp_region_bel (by kernel_rfl) (by kernel_rfl) ?_; have hD := bel_cells hB2; (repeat (go_big_quiet_step ((fail)))); refine wpQuiet_nil ?_; intro w1 hB1; replace hB2 := bel_trans hB2 hB1; obtain ⟨hC1, hF1⟩ := bcell hB2; clear hD; replace hB1 := hB1)
                go_wp2
                go_ret
                refine ⟨?_, by (repeat' (first | (with_reducible exact bel_refl _) | (with_reducible assumption) | (with_reducible refine bel_drew ?_) | (with_reducible refine bel_drewN ?_) | (with_reducible refine bel_alloc ?_) | (with_reducible refine bel_set ?_ ?_) | (with_reducible refine bel_trans ?_ (by with_reducible assumption)) | omega | (simp; done) | (simp; omega)))⟩
                rw [netB, noneBad_no (by rw [hlh.out]; exact hlt) (hbad.out.trans hcl.out), Bool.and_false]; rfl
              · have hcl := hid (show clashR y x = false by simp [clashR, hc2, hc3])
                have hb3 : decide (x.b ≤ y.b) = false := decide_eq_false hc3
                clear hc2 hc1 hc3
                go_wp2_with (first | (go_at_call 41; refine (isIn _ _ _ _).mono ?_; rintro _ w1 ⟨rfl, rfl⟩) | (go_at_call 36; refine (isMinute _ _).mono ?_; rintro _ w1 ⟨rfl, rfl⟩))
                (refine wp_region_bel (by kernel_rfl) (by kernel_rfl) ?_; have hD := bel_cells hB2; (repeat (go_big_quiet_step ((fail)))); refine wpQuiet_nil ?_; intro w1 hB1; replace hB2 := bel_trans hB2 hB1; obtain ⟨hC1, hF1⟩ := bcell hB2; clear hD; replace hB1 := hB1)
                go_wp2
                go_roundw
                case rel => exact ⟨j + 1 + 1, by omega, by go_num, noBad_snoc hno (hbad.out.trans hcl.out), by (repeat' (first | (with_reducible exact bel_refl _) | (with_reducible assumption) | (with_reducible refine bel_drew ?_) | (with_reducible refine bel_drewN ?_) | (with_reducible refine bel_alloc ?_) | (with_reducible refine bel_set ?_ ?_) | (with_reducible refine bel_trans ?_ (by with_reducible assumption)) | omega | (simp; done) | (simp; omega)))⟩
                case measure => simp [intOf]; omega
            · have hq : (x.a == y.a) = false := by simpa using hc2
              have hq2 : (y.a == x.a) = false := by simpa using fun h => hc2 h.symm
              have hcl := hid (show clashR y x = false by simp [clashR, hc1, hc2])
              clear hc2 hc1
              go_wp2_with (first | (go_at_call 41; refine (isIn _ _ _ _).mono ?_; rintro _ w1 ⟨rfl, rfl⟩) | (go_at_call 36; refine (isMinute _ _).mono ?_; rintro _ w1 ⟨rfl, rfl⟩))
              (refine wp_region_bel (by kernel_rfl) (by kernel_rfl) ?_; have hD := bel_cells hB2; (repeat (go_big_quiet_step ((fail)))); refine wpQuiet_nil ?_; intro w1 hB1; replace hB2 := bel_trans hB2 hB1; obtain ⟨hC1, hF1⟩ := bcell hB2; clear hD; replace hB1 := hB1)
              go_wp2
              go_roundw
              case rel => exact ⟨j + 1 + 1, by omega, by go_num, noBad_snoc hno (hbad.out.trans hcl.out), by (repeat' (first | (with_reducible exact bel_refl _) | (with_reducible assumption) | (with_reducible refine bel_drew ?_) | (with_reducible refine bel_drewN ?_) | (with_reducible refine bel_alloc ?_) | (with_reducible refine bel_set ?_ ?_) | (with_reducible refine bel_trans ?_ (by with_reducible assumption)) | omega | (simp; done) | (simp; omega)))⟩
              case measure => simp [intOf]; omega
    · have hB2 := hB
      have e : i = n := by omega
      subst e
      have hall := hid (noneBad_yes (bad := badAt (goodR p) clashR xs) (n := xs.length) (by rw [hlh.out]; exact hno.out))
      have hn2 : noneBad (badAt (goodR p) clashR xs) i = true := by have := hall.out; rwa [hlh.out] at this
      (rcases hp : inB p 2 7 with _ | _); all_goals (by_cases hl : i ≤ 12); all_goals (go_wp2_with (first | (go_at_call 41; refine (isIn _ _ _ _).mono ?_; rintro _ w1 ⟨rfl, rfl⟩) | (go_at_call 36; refine (isMinute _ _).mono ?_; rintro _ w1 ⟨rfl, rfl⟩))); all_goals go_ret; all_goals (refine ⟨?_, by (repeat' (first | (with_reducible exact bel_refl _) | (with_reducible assumption) | (with_reducible refine bel_drew ?_) | (with_reducible refine bel_drewN ?_) | (with_reducible refine bel_alloc ?_) | (with_reducible refine bel_set ?_ ?_) | (with_reducible refine bel_trans ?_ (by with_reducible assumption)) | omega | (simp; done) | (simp; omega)))⟩; refine ret_bool ?_; simp only [netB, hlh.out, hn2, hp]; simp; try omega)

set_option maxHeartbeats 4000000 in
set_option maxRecDepth 100000 in
theorem netS_go (p : Int) (A : Option Addr) (n c : Nat) (xs : List Road) (w : World) (hS : Sl w 4 A n c (xs.flatMap Road.row)) (hn : n ≤ 1048577) (_hok : inB p 2 7 = true ∧ n ≤ 12) :
    Calls Try.prog 42 #[.int .i64 p, .slice A n c] w fun e w' => e = .returned (.bool (netB p xs)) ∧ Below w.heap.size w w' := by
  have hlh := hid (hS.xs_len Road.row_len (by omega))
  go_enter Try.func42, Try.ntmps42
  go_wp2_with (first | (go_at_call 65; refine (l1In _ _ _ _).mono ?_; rintro _ w1 ⟨rfl, rfl⟩) | (go_at_call 39; refine (l12Minute _ _).mono ?_; rintro _ w1 ⟨rfl, rfl⟩))
  go_loopw [5] (fun v wr => ∃ i : Nat, i ≤ n ∧ v = .int .i64 i ∧ (Hid (∀ r, r < i → badAt (goodR p) clashR xs r = false)) ∧ Below w.heap.size w wr) (fun v _ => n - (intOf v).toNat)
  case atStart => exact ⟨0, by omega, rfl, fun r hr => absurd hr (by omega), by (repeat' (first | (with_reducible exact bel_refl _) | (with_reducible assumption) | (with_reducible refine bel_drew ?_) | (with_reducible refine bel_drewN ?_) | (with_reducible refine bel_alloc ?_) | (with_reducible refine bel_set ?_ ?_) | (with_reducible refine bel_trans ?_ (by with_reducible assumption)) | omega | (simp; done) | (simp; omega)))⟩
  case round =>
    obtain ⟨i, hi', rfl, hno, hB⟩ := hrel
    by_cases hlt : i < n
    · obtain ⟨x, hx⟩ : ∃ x, xs[i]? = some x := get_of_lt (by rw [hlh.out]; exact hlt)
      obtain ⟨b, o, rfl, hb, c0, c1, c2, c3⟩ := (hS.bel hB).road hx
      have hX := hid hx
      clear hx
      have hB2 := bel_refl (wr.alloc (.cells #[.int .i64 x.a, .int .i64 x.b, .int .i64 x.minutes, .int .i64 x.closes] 39))
      have hi0 : (0 : Int) ≤ (i : Int) := by omega
      have hi1 : (i : Int) < (n : Int) := by omega
      rcases hg : goodR p x with _ | _
      · have hbad := hid (badAt_ill (clash := clashR) hX.out hg)
        rcases goodR_no hg with g1 | ⟨g1, g2⟩ | ⟨g1, g2, g3⟩ | ⟨g1, g2, g3, g4⟩ | ⟨g1, g2, g3, g4, g5⟩
        all_goals (clear hg)
        all_goals (go_wp2_with (first | (go_at_call 65; refine (l1In _ _ _ _).mono ?_; rintro _ w1 ⟨rfl, rfl⟩) | (go_at_call 39; refine (l12Minute _ _).mono ?_; rintro _ w1 ⟨rfl, rfl⟩)))
        all_goals go_ret
        all_goals (refine ⟨?_, by (repeat' (first | (with_reducible exact bel_refl _) | (with_reducible assumption) | (with_reducible refine bel_drew ?_) | (with_reducible refine bel_drewN ?_) | (with_reducible refine bel_alloc ?_) | (with_reducible refine bel_set ?_ ?_) | (with_reducible refine bel_trans ?_ (by with_reducible assumption)) | omega | (simp; done) | (simp; omega)))⟩; rw [netB, noneBad_no (by rw [hlh.out]; exact hlt) hbad.out, Bool.and_false]; rfl)
      · have hgb := goodR_bd hg
        obtain ⟨g4, g5⟩ := goodR_yes hg
        rcases i with _ | j
        · have hfst := hid (badAt_first (clash := clashR) hX.out hg)
          simp only [Nat.zero_mul, Nat.add_zero] at c0 c1 c2 c3
          clear hg
          go_wp2_with (first | (go_at_call 65; refine (l1In _ _ _ _).mono ?_; rintro _ w1 ⟨rfl, rfl⟩) | (go_at_call 39; refine (l12Minute _ _).mono ?_; rintro _ w1 ⟨rfl, rfl⟩))
          (refine wp_region_bel (by kernel_rfl) (by kernel_rfl) ?_; have hD := bel_cells hB2; (repeat (go_big_quiet_step ((fail)))); refine wpQuiet_nil ?_; intro w1 hB1; replace hB2 := bel_trans hB2 hB1; obtain ⟨hC1, hF1⟩ := bcell hB2; clear hD; replace hB1 := hB1)
          go_wp2
          go_roundw
          case rel => exact ⟨1, by omega, by go_num, noBad_snoc hno hfst.out, by (repeat' (first | (with_reducible exact bel_refl _) | (with_reducible assumption) | (with_reducible refine bel_drew ?_) | (with_reducible refine bel_drewN ?_) | (with_reducible refine bel_alloc ?_) | (with_reducible refine bel_set ?_ ?_) | (with_reducible refine bel_trans ?_ (by with_reducible assumption)) | omega | (simp; done) | (simp; omega)))⟩
          case measure => simp [intOf]; omega
        · obtain ⟨y, hy⟩ : ∃ y, xs[j]? = some y := get_of_lt (by rw [hlh.out]; omega)
          obtain ⟨b', o', hbo, _, e0, e1, e2, e3⟩ := (hS.bel hB).road hy
          simp only [Option.some.injEq, Addr.mk.injEq, and_true] at hbo
          obtain ⟨rfl, rfl⟩ := hbo
          have hY := hid hy
          clear hy
          have hp0 : ((j + 1 : Nat) : Int) = (j : Int) + 1 := by omega
          rw [hp0] at hi0 hi1 ⊢
          clear hp0
          have hj0 : (0 : Int) ≤ (j : Int) := by omega
          have hj1 : (j : Int) < (n : Int) := by omega
          have hbad := hid (badAt_next (clash := clashR) hX.out hY.out hg)
          clear hg
          by_cases hc1 : x.a < y.a
          · have hcl := hid (show clashR y x = true by simp [clashR, hc1])
            go_wp2_with (first | (go_at_call 65; refine (l1In _ _ _ _).mono ?_; rintro _ w1 ⟨rfl, rfl⟩) | (go_at_call 39; refine (l12Minute _ _).mono ?_; rintro _ w1 ⟨rfl, rfl⟩))
            (refine wp_region_bel (by kernel_rfl) (by kernel_rfl) ?_; have hD := bel_cells hB2; (repeat (go_big_quiet_step ((fail)))); refine wpQuiet_nil ?_; intro w1 hB1; replace hB2 := bel_trans hB2 hB1; obtain ⟨hC1, hF1⟩ := bcell hB2; clear hD; replace hB1 := hB1)
            go_wp2
            go_ret
            refine ⟨?_, by (repeat' (first | (with_reducible exact bel_refl _) | (with_reducible assumption) | (with_reducible refine bel_drew ?_) | (with_reducible refine bel_drewN ?_) | (with_reducible refine bel_alloc ?_) | (with_reducible refine bel_set ?_ ?_) | (with_reducible refine bel_trans ?_ (by with_reducible assumption)) | omega | (simp; done) | (simp; omega)))⟩
            rw [netB, noneBad_no (by rw [hlh.out]; exact hlt) (hbad.out.trans hcl.out), Bool.and_false]; rfl
          · have hb1 : decide (x.a < y.a) = false := decide_eq_false hc1
            by_cases hc2 : x.a = y.a
            · have hq : (x.a == y.a) = true := by simpa using hc2
              have hq2 : (y.a == x.a) = true := by simpa using hc2.symm
              by_cases hc3 : x.b ≤ y.b
              · have hcl := hid (show clashR y x = true by simp [clashR, hc2, hc3])
                clear hc2 hc1
                go_wp2_with (first | (go_at_call 65; refine (l1In _ _ _ _).mono ?_; rintro _ w1 ⟨rfl, rfl⟩) | (go_at_call 39; refine (l12Minute _ _).mono ?_; rintro _ w1 ⟨rfl, rfl⟩))
                (refine wp_region_bel (by kernel_rfl) (by kernel_rfl) ?_; have hD := bel_cells hB2; (repeat (go_big_quiet_step ((fail)))); refine wpQuiet_nil ?_; intro w1 hB1; replace hB2 := bel_trans hB2 hB1; obtain ⟨hC1, hF1⟩ := bcell hB2; clear hD; replace hB1 := hB1)
                go_wp2
                go_ret
                refine ⟨?_, by (repeat' (first | (with_reducible exact bel_refl _) | (with_reducible assumption) | (with_reducible refine bel_drew ?_) | (with_reducible refine bel_drewN ?_) | (with_reducible refine bel_alloc ?_) | (with_reducible refine bel_set ?_ ?_) | (with_reducible refine bel_trans ?_ (by with_reducible assumption)) | omega | (simp; done) | (simp; omega)))⟩
                rw [netB, noneBad_no (by rw [hlh.out]; exact hlt) (hbad.out.trans hcl.out), Bool.and_false]; rfl
              · have hcl := hid (show clashR y x = false by simp [clashR, hc2, hc3])
                have hb3 : decide (x.b ≤ y.b) = false := decide_eq_false hc3
                clear hc2 hc1 hc3
                go_wp2_with (first | (go_at_call 65; refine (l1In _ _ _ _).mono ?_; rintro _ w1 ⟨rfl, rfl⟩) | (go_at_call 39; refine (l12Minute _ _).mono ?_; rintro _ w1 ⟨rfl, rfl⟩))
                (refine wp_region_bel (by kernel_rfl) (by kernel_rfl) ?_; have hD := bel_cells hB2; (repeat (go_big_quiet_step ((fail)))); refine wpQuiet_nil ?_; intro w1 hB1; replace hB2 := bel_trans hB2 hB1; obtain ⟨hC1, hF1⟩ := bcell hB2; clear hD; replace hB1 := hB1)
                go_wp2
                go_roundw
                case rel => exact ⟨j + 1 + 1, by omega, by go_num, noBad_snoc hno (hbad.out.trans hcl.out), by (repeat' (first | (with_reducible exact bel_refl _) | (with_reducible assumption) | (with_reducible refine bel_drew ?_) | (with_reducible refine bel_drewN ?_) | (with_reducible refine bel_alloc ?_) | (with_reducible refine bel_set ?_ ?_) | (with_reducible refine bel_trans ?_ (by with_reducible assumption)) | omega | (simp; done) | (simp; omega)))⟩
                case measure => simp [intOf]; omega
            · have hq : (x.a == y.a) = false := by simpa using hc2
              have hq2 : (y.a == x.a) = false := by simpa using fun h => hc2 h.symm
              have hcl := hid (show clashR y x = false by simp [clashR, hc1, hc2])
              clear hc2 hc1
              go_wp2_with (first | (go_at_call 65; refine (l1In _ _ _ _).mono ?_; rintro _ w1 ⟨rfl, rfl⟩) | (go_at_call 39; refine (l12Minute _ _).mono ?_; rintro _ w1 ⟨rfl, rfl⟩))
              (refine wp_region_bel (by kernel_rfl) (by kernel_rfl) ?_; have hD := bel_cells hB2; (repeat (go_big_quiet_step ((fail)))); refine wpQuiet_nil ?_; intro w1 hB1; replace hB2 := bel_trans hB2 hB1; obtain ⟨hC1, hF1⟩ := bcell hB2; clear hD; replace hB1 := hB1)
              go_wp2
              go_roundw
              case rel => exact ⟨j + 1 + 1, by omega, by go_num, noBad_snoc hno (hbad.out.trans hcl.out), by (repeat' (first | (with_reducible exact bel_refl _) | (with_reducible assumption) | (with_reducible refine bel_drew ?_) | (with_reducible refine bel_drewN ?_) | (with_reducible refine bel_alloc ?_) | (with_reducible refine bel_set ?_ ?_) | (with_reducible refine bel_trans ?_ (by with_reducible assumption)) | omega | (simp; done) | (simp; omega)))⟩
              case measure => simp [intOf]; omega
    · have hB2 := hB
      have e : i = n := by omega
      subst e
      have hall := hid (noneBad_yes (bad := badAt (goodR p) clashR xs) (n := xs.length) (by rw [hlh.out]; exact hno.out))
      have hn2 : noneBad (badAt (goodR p) clashR xs) i = true := by have := hall.out; rwa [hlh.out] at this
      go_wp2; go_ret; refine ⟨?_, by (repeat' (first | (with_reducible exact bel_refl _) | (with_reducible assumption) | (with_reducible refine bel_drew ?_) | (with_reducible refine bel_drewN ?_) | (with_reducible refine bel_alloc ?_) | (with_reducible refine bel_set ?_ ?_) | (with_reducible refine bel_trans ?_ (by with_reducible assumption)) | omega | (simp; done) | (simp; omega)))⟩; refine ret_bool ?_; simp only [netB, hlh.out, hn2, _hok.1]; simp; omega

end Go.Proofs.Ytfimchbjpambfaa
