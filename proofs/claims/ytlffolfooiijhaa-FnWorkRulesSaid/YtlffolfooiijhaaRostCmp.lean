/-
  The order of duties: the library's Compare and Or, and the program's order of two duties, walked.
-/
import Derived.Test.YtlffolfooiijhaaRostWalks
import Derived.Test.YtlffolfooiijhaaAppend
namespace Go.Proofs.Ytlffolfooiijhaa
open Go.RowKit

def cmpI (a b : Int) : Int := if a < b then -1 else if b < a then 1 else 0
def orI (a b : Int) : Int := if a = 0 then b else a
def cmpD (x y : Duty) : Int := orI (cmpI x.crew y.crew) (cmpI x.fr y.fr)
def ltD (x y : Duty) : Bool := decide (cmpD x y < 0)
theorem cmpI_lt {a b : Int} (h : a < b) : cmpI a b = -1 := by rw [cmpI, if_pos h]
theorem cmpI_gt {a b : Int} (h : b < a) : cmpI a b = 1 := by rw [cmpI, if_neg (by omega), if_pos h]
theorem cmpI_eq (a : Int) : cmpI a a = 0 := by rw [cmpI, if_neg (by omega), if_neg (by omega)]
theorem ltD_iff {x y : Duty} : ltD x y = true ↔ x.crew < y.crew ∨ (x.crew = y.crew ∧ x.fr < y.fr) := by
  rw [ltD, decide_eq_true_eq, cmpD]
  rcases Int.lt_trichotomy x.crew y.crew with h | h | h
  · rw [cmpI_lt h]
    simp [orI, h]
  · rw [h, cmpI_eq]
    simp only [orI, if_true, Int.lt_irrefl, false_or, true_and]
    rcases Int.lt_trichotomy x.fr y.fr with h | h | h
    · rw [cmpI_lt h]; simp [h]
    · rw [h, cmpI_eq]; simp
    · rw [cmpI_gt h]; simp; omega
  · rw [cmpI_gt h]
    simp only [orI]
    constructor
    · intro h1; simp at h1
    · intro h1; omega
theorem isNaN (a : Int) (w : World) : Calls Try.prog 87 #[.int .i64 a] w fun e w' => e = .returned (.bool false) ∧ w = w' := by
  go_enter Try.func87, Try.ntmps87
  go_wp2
  go_ret
  exact ⟨ret_bool (by simp), rfl⟩
theorem compareI (a b : Int) (w : World) : Calls Try.prog 81 #[.int .i64 a, .int .i64 b] w fun e w' => e = .returned (.int .i64 (cmpI a b)) ∧ w = w' := by
  go_enter Try.func81, Try.ntmps81
  go_wp2_with (go_at_call 87; refine (isNaN _ _).mono ?_; rintro _ w1 ⟨rfl, rfl⟩)
  all_goals go_ret
  all_goals (refine ⟨ret_int ?_, rfl⟩; simp [cmpI, *]; try omega)
theorem orTwo (A : Option Addr) (c : Nat) (a b : Int) (w : World) (h : Sl w 1 A 2 c [.int .i64 a, .int .i64 b]) :
    Calls Try.prog 80 #[.slice A 2 c] w fun e w' => e = .returned (.int .i64 (orI a b)) ∧ w = w' := by
  obtain ⟨g, q, rfl, hg, hc⟩ := h.at_ (by omega)
  have c0 := hc 0 _ rfl
  have c1 := hc 1 _ rfl
  clear hc
  simp only [Nat.add_zero] at c0
  go_enter Try.func80, Try.ntmps80
  go_wp2
  go_loopw [8] (fun v wr => ∃ i : Nat, i ≤ 2 ∧ v = .int .i64 i ∧ (0 < i → a = 0) ∧ (1 < i → b = 0) ∧ w = wr) (fun v _ => 2 - (intOf v).toNat)
  case atStart => exact ⟨0, by omega, rfl, fun h => absurd h (by omega), fun h => absurd h (by omega), rfl⟩
  case round =>
    obtain ⟨i, hi', rfl, ha, hb, rfl⟩ := hrel
    rcases i with _ | _ | _ | i
    · by_cases h0 : a = 0
      · subst h0
        go_wp2
        go_roundw
        case rel => exact ⟨1, by omega, by go_num, fun _ => by simp, fun h => absurd h (by omega), by simp⟩
        case measure => simp [intOf]
      · go_wp2
        go_ret
        exact ⟨ret_int (by simp [orI, h0]), rfl⟩
    · obtain rfl := ha (by omega)
      by_cases h0 : b = 0
      · subst h0
        go_wp2
        go_roundw
        case rel => exact ⟨2, by omega, by go_num, fun _ => by simp, fun _ => by simp, by simp⟩
        case measure => simp [intOf]
      · go_wp2
        go_ret
        exact ⟨ret_int (by simp [orI]), rfl⟩
    · obtain rfl := ha (by omega)
      obtain rfl := hb (by omega)
      go_wp2
      go_ret
      exact ⟨ret_int (by simp [orI]), rfl⟩
    · omega
set_option maxHeartbeats 1000000 in
theorem cmpDuty (x y : Duty) (w : World) : Calls Try.prog 79 #[.agg #[.int .i64 x.crew, .int .i64 x.fr, .int .i64 x.til], .agg #[.int .i64 y.crew, .int .i64 y.fr, .int .i64 y.til]] w fun e w' => e = .returned (.int .i64 (cmpD x y)) ∧ Below w.heap.size w w' := by
  have hB2 := bel_refl ((w.alloc (.cells #[.int .i64 x.crew, .int .i64 x.fr, .int .i64 x.til] 30)).alloc (.cells #[.int .i64 y.crew, .int .i64 y.fr, .int .i64 y.til] 30))
  go_enter Try.func79, Try.ntmps79
  go_wp2_with fail
  (refine wp_region_planB (.free 0 (.free 1 (.free 2 (.free 3 (.free 5 (.free 6 (.free 7 (.free 8 (.one 4 (.one 9 (.one 10 (.one 11 (.free 12 (.stop)))))))))))))) (by kernel_rfl) (by kernel_rfl) ?_; have hD := bel_cells hB2; simp only [Plan.ops, List.getElem?_cons_zero, List.getElem?_cons_succ, Option.getD_some])
  (iterate 8 (refine p_free rfl (by rintro w' ⟨d, rfl⟩; obtain ⟨hDc, hDf⟩ := hD d; (go_simp; first | done | rfl)) ?_; (try simp only [Act.put, List.setIfInBounds_toArray, List.set_cons_zero, List.set_cons_succ])))
  refine p_call rfl (by (go_simp; first | done | exact ⟨rfl, rfl⟩ | rfl)) ?_
  refine (compareI _ _ _).mono ?_
  rintro _ w1 ⟨rfl, rfl⟩
  refine ⟨_, rfl, ⟨⟨_, bel_drew (bel_refl _)⟩, rfl⟩, ?_⟩
  (try simp only [Act.put, List.setIfInBounds_toArray, List.set_cons_zero, List.set_cons_succ])
  refine p_call rfl (by (go_simp; first | done | exact ⟨rfl, rfl⟩ | rfl)) ?_
  refine (compareI _ _ _).mono ?_
  rintro _ w1 ⟨rfl, rfl⟩
  refine ⟨_, rfl, ⟨⟨_, bel_drew (bel_refl _)⟩, rfl⟩, ?_⟩
  (try simp only [Act.put, List.setIfInBounds_toArray, List.set_cons_zero, List.set_cons_succ])
  refine p_val rfl (by (go_simp; first | done | rfl | exact ⟨rfl, rfl⟩)) ⟨⟨_, ?_⟩, rfl⟩ ?_
  · exact bel_alloc (bel_drew (bel_refl _))
  (try simp only [Act.put, List.setIfInBounds_toArray, List.set_cons_zero, List.set_cons_succ])
  refine p_call rfl (by (go_simp; first | done | exact ⟨rfl, rfl⟩ | rfl)) ?_
  refine (orTwo _ _ (cmpI x.crew y.crew) (cmpI x.fr y.fr) _ ?_).mono ?_
  · refine Sl.drew (sl_lit (k := 1) (n := 2) (L := [.int .i64 (cmpI x.crew y.crew), .int .i64 (cmpI x.fr y.fr)]) ?_ rfl ?_)
    · simp
    · simp [maxLen]
  rintro _ w1 ⟨rfl, rfl⟩
  refine ⟨_, rfl, ⟨⟨_, bel_alloc (bel_drew (bel_refl _))⟩, rfl⟩, ?_⟩
  (try simp only [Act.put, List.setIfInBounds_toArray, List.set_cons_zero, List.set_cons_succ])
  (iterate 1 (refine p_free rfl (by rintro w' ⟨d, rfl⟩; obtain ⟨hDc, hDf⟩ := hD d; (go_simp; first | done | rfl)) ?_; (try simp only [Act.put, List.setIfInBounds_toArray, List.set_cons_zero, List.set_cons_succ])))
  refine p_stop ?_
  (try simp only [Act.put, List.setIfInBounds_toArray, List.set_cons_zero, List.set_cons_succ])
  go_wp2
  go_ret
  exact ⟨rfl, by (repeat' (first | (with_reducible exact bel_refl _) | (with_reducible assumption) | (with_reducible refine bel_drew ?_) | (with_reducible refine bel_drewN ?_) | (with_reducible refine bel_alloc ?_) | (with_reducible refine bel_set ?_ ?_) | (with_reducible refine bel_trans ?_ (by with_reducible assumption)) | omega | (simp; done) | (simp; omega)))⟩
end Go.Proofs.Ytlffolfooiijhaa
