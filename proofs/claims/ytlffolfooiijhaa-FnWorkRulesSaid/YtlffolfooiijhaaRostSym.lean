/-
  The library's stable sort of many duties: it ends, and writes into its own memory alone: walked.
-/
import Derived.Test.YtlffolfooiijhaaRostAdd
import Derived.Deep.DeepCutAuto
namespace Go.Proofs.Ytlffolfooiijhaa
open Go.RowKit

/-- The slice holds duties, whichever. -/
def DO (lo g n c : Nat) (w : World) : Prop := ∃ ys : List Duty, w.ownsRow lo 30 3 (.slice (some ⟨g, 0, none⟩) n c) n (ys.flatMap Duty.row)
section
variable {lo g n c j : Nat} {w w' : World}
theorem DO.bel (h : DO lo g n c w) (hb : Below w.heap.size w w') : DO lo g n c w' := by
  obtain ⟨ys, h⟩ := h
  exact ⟨ys, own_bel h hb⟩
theorem DO.lt (h : DO lo g n c w) : lo ≤ g ∧ g < w.heap.size := by
  obtain ⟨ys, h⟩ := h
  exact h.lt g rfl
theorem DO.fz (h : DO lo g n c w) (o : Nat) : w.frozen? ⟨g, o, none⟩ = false := by
  obtain ⟨ys, h⟩ := h
  exact own_fz h o
theorem DO.at_ (h : DO lo g n c w) (hj : j < n) : ∃ y : Duty, w.cell? ⟨g, j * 3, none⟩ = some (.int .i64 y.crew) ∧ w.cell? ⟨g, j * 3 + 1, none⟩ = some (.int .i64 y.fr) ∧ w.cell? ⟨g, j * 3 + 2, none⟩ = some (.int .i64 y.til) := by
  obtain ⟨ys, h⟩ := h
  have hl := h.1
  rw [flat_len Duty.row_len] at hl
  obtain ⟨y, hy⟩ : ∃ y, ys[j]? = some y := get_of_lt (by omega)
  obtain ⟨e0, e1, e2⟩ := Duty.flat hy
  exact ⟨y, (h.cellAt (j * 3) (by omega)).trans e0, (h.cellAt (j * 3 + 1) (by omega)).trans e1, (h.cellAt (j * 3 + 2) (by omega)).trans e2⟩
theorem DO.set (h : DO lo g n c w) (y : Duty) (hj : j < n) : DO lo g n c (((w.setCell ⟨g, j * 3, none⟩ (.int .i64 y.crew)).setCell ⟨g, j * 3 + 1, none⟩ (.int .i64 y.fr)).setCell ⟨g, j * 3 + 2, none⟩ (.int .i64 y.til)) := by
  obtain ⟨ys, h⟩ := h
  have hl := h.1
  rw [flat_len Duty.row_len] at hl
  exact ⟨_, own_set3 y h (by omega)⟩
theorem grown_set3 {a : World} {u : Nat} {x y z : Value} (h : a.grownBy w (some g)) : a.grownBy (((w.setCell ⟨g, u, none⟩ x).setCell ⟨g, u + 1, none⟩ y).setCell ⟨g, u + 2, none⟩ z) (some g) := grown_set (grown_set (grown_set h _) _) _
theorem gro_tr {a b c : World} {r : Option Nat} (h : a.grownBy b r) (k : b.grownBy c r) : a.grownBy c r :=
  ⟨k.os.trans h.os, k.tape.trans h.tape, k.output.trans h.output, Nat.le_trans h.size k.size, fun i hi hr => (k.block i (Nat.lt_of_lt_of_le hi h.size) hr).trans (h.block i hi hr)⟩
end
/-- Cells of two places of a list of duties are apart. -/
theorem apart3 {u v : Nat} (h : u ≠ v) : (¬ u * 3 = v * 3 ∧ ¬ u * 3 = v * 3 + 1 ∧ ¬ u * 3 = v * 3 + 2) ∧ (¬ u * 3 + 1 = v * 3 ∧ ¬ u * 3 + 1 = v * 3 + 1 ∧ ¬ u * 3 + 1 = v * 3 + 2) ∧ (¬ u * 3 + 2 = v * 3 ∧ ¬ u * 3 + 2 = v * 3 + 1 ∧ ¬ u * 3 + 2 = v * 3 + 2) := by omega
set_option maxHeartbeats 4000000 in
set_option maxRecDepth 100000 in
theorem swapR (g n c lo a b m : Nat) (w : World) (h : DO lo g n c w) (hn : n ≤ 1048577) (ha : a + m ≤ n) (hb : b + m ≤ n) (hab : a ≠ b) :
    Calls Try.prog 91 #[.slice (some ⟨g, 0, none⟩) n c, .int .i64 a, .int .i64 b, .int .i64 m, .func (.func 79) #[] #[]] w fun e w' => (∃ v, e = .returned v) ∧ DO lo g n c w' ∧ w.grownBy w' (some g) := by
  go_enter Try.func91, Try.ntmps91
  go_wp2_with fail
  go_loopw [10] (fun v wr => ∃ i : Nat, i ≤ m ∧ v = .int .i64 i ∧ DO lo g n c wr ∧ w.grownBy wr (some g)) (fun v _ => m - (intOf v).toNat)
  case atStart => exact ⟨0, by omega, rfl, h, World.grownBy.refl _ _⟩
  case round =>
    clear h
    obtain ⟨i, hi, rfl, h, hg⟩ := hrel
    by_cases hlt : i < m
    · have hlt1 : (i : Int) < (m : Int) := by omega
      obtain ⟨u, hu⟩ : ∃ u : Nat, a + i = u := ⟨_, rfl⟩
      obtain ⟨v, hv⟩ : ∃ v : Nat, b + i = v := ⟨_, rfl⟩
      have hun : u < n := by omega
      have hvn : v < n := by omega
      have hw1 : IntKind.i64.wrap ((a : Int) + (i : Int)) = (u : Int) := by rw [show (a : Int) + (i : Int) = (u : Int) by omega]; exact IntWalk.i64_in _ (by omega)
      have hw2 : IntKind.i64.wrap ((b : Int) + (i : Int)) = (v : Int) := by rw [show (b : Int) + (i : Int) = (v : Int) by omega]; exact IntWalk.i64_in _ (by omega)
      obtain ⟨⟨n00, n01, n02⟩, ⟨n10, n11, n12⟩, n20, n21, n22⟩ := apart3 (u := v) (v := u) (by omega)
      have hu0 : (0 : Int) ≤ (u : Int) := by omega
      have hu1 : (u : Int) < (n : Int) := by omega
      have hv0 : (0 : Int) ≤ (v : Int) := by omega
      have hv1 : (v : Int) < (n : Int) := by omega
      clear hu hv
      obtain ⟨p, c0, c1, c2⟩ := h.at_ hun
      obtain ⟨q, d0, d1, d2⟩ := h.at_ hvn
      have hfz := h.fz
      go_wp2_with fail
      (refine wp_region_plan (fun _ => True) (.free 0 (.free 1 (.free 2 (.free 3 (.free 4 (.free 5 (.free 6 (.free 7 (.free 8 (.free 9 (.free 10 (.free 11 (.free 12 (.here 13 (.free 14 (.free 15 (.free 16 (.free 17 (.free 18 (.here 19 (.free 20 (.one 21 (.free 22 (.one 23 (.stop))))))))))))))))))))))))) (by kernel_rfl) (by kernel_rfl) trivial ?_; simp only [Plan.ops, List.getElem?_cons_zero, List.getElem?_cons_succ, Option.getD_some])
      (iterate 13 (refine p_free rfl (by intro w' _; (go_simp; first | done | rfl)) ?_; (try simp only [Act.put, List.setIfInBounds_toArray, List.set_cons_zero, List.set_cons_succ])))
      (iterate 1 (refine p_here rfl (by (go_simp; first | done | rfl)) ?_; (try simp only [Act.put, List.setIfInBounds_toArray, List.set_cons_zero, List.set_cons_succ])))
      (iterate 5 (refine p_free rfl (by intro w' _; (go_simp; first | done | rfl)) ?_; (try simp only [Act.put, List.setIfInBounds_toArray, List.set_cons_zero, List.set_cons_succ])))
      (iterate 1 (refine p_here rfl (by (go_simp; first | done | rfl)) ?_; (try simp only [Act.put, List.setIfInBounds_toArray, List.set_cons_zero, List.set_cons_succ])))
      (iterate 1 (refine p_free rfl (by intro w' _; (go_simp; first | done | rfl)) ?_; (try simp only [Act.put, List.setIfInBounds_toArray, List.set_cons_zero, List.set_cons_succ])))
      refine p_store rfl (by (go_simp; first | done | rfl)) trivial ?_
      (try simp only [Act.put])
      (iterate 1 (refine p_free rfl (by intro w' _; (go_simp; first | done | rfl)) ?_; (try simp only [Act.put, List.setIfInBounds_toArray, List.set_cons_zero, List.set_cons_succ])))
      refine p_store rfl (by (go_simp; first | done | rfl)) trivial ?_
      (try simp only [Act.put])
      refine p_stop ?_
      (try simp only [Act.put, List.setIfInBounds_toArray, List.set_cons_zero, List.set_cons_succ])
      go_wp2
      clear hw1 hw2 n00 n01 n02 n10 n11 n12 n20 n21 n22 c0 c1 c2 d0 d1 d2
      go_roundw
      case rel => exact ⟨i + 1, by omega, by go_num, ((h.set q hun).set p hvn).bel (bel_drew (bel_refl _)), grown_bel (grown_set3 (grown_set3 hg)) (bel_drew (bel_refl _))⟩
      case measure => simp [intOf]; omega
    · have hlt1 : ¬ (i : Int) < (m : Int) := by omega
      go_wp2
      exact body_none (by simp [results, Try.results91, go_sem]; rfl) rfl ⟨⟨_, rfl⟩, h, hg⟩
set_option maxHeartbeats 4000000 in
set_option maxRecDepth 100000 in
theorem rotateC (g n c lo a m b : Nat) (w : World) (h : DO lo g n c w) (hn : n ≤ 1048577) (ham : a < m) (hmb : m < b) (hb : b ≤ n) :
    Calls Try.prog 90 #[.slice (some ⟨g, 0, none⟩) n c, .int .i64 a, .int .i64 m, .int .i64 b, .func (.func 79) #[] #[]] w fun e w' => (∃ v, e = .returned v) ∧ DO lo g n c w' ∧ w.grownBy w' (some g) := by
  go_enter Try.func90, Try.ntmps90
  have e1 : (m : Int) - (a : Int) = ((m - a : Nat) : Int) := by omega
  have e2 : (b : Int) - (m : Int) = ((b - m : Nat) : Int) := by omega
  have hw1 : IntKind.i64.wrap ((m : Int) - (a : Int)) = ((m - a : Nat) : Int) := by rw [e1]; exact IntWalk.i64_in _ (by omega)
  have hw2 : IntKind.i64.wrap ((b : Int) - (m : Int)) = ((b - m : Nat) : Int) := by rw [e2]; exact IntWalk.i64_in _ (by omega)
  go_wp2_with fail
  clear hw1 hw2 e1 e2
  go_loopw [10, 11] (fun u v wr => ∃ i j : Nat, 1 ≤ i ∧ i ≤ m - a ∧ 1 ≤ j ∧ j ≤ b - m ∧ u = .int .i64 i ∧ v = .int .i64 j ∧ DO lo g n c wr ∧ w.grownBy wr (some g)) (fun u v _ => (intOf u).toNat + (intOf v).toNat)
  case atStart => exact ⟨m - a, b - m, by omega, by omega, by omega, by omega, by go_num, by go_num, h, World.grownBy.refl _ _⟩
  case round =>
    clear h
    obtain ⟨i, j, hi0, hi1, hj0, hj1, rfl, rfl, h, hg⟩ := hrel
    have f1 : (m : Int) - (i : Int) = ((m - i : Nat) : Int) := by omega
    have hv1 : IntKind.i64.wrap ((m : Int) - (i : Int)) = ((m - i : Nat) : Int) := by rw [f1]; exact IntWalk.i64_in _ (by omega)
    by_cases hij : i = j
    · subst hij
      go_wp2_with fail
      clear hv1
      refine (swapR g n c lo (m - i) m i _ h hn (by omega) (by omega) (by omega)).mono ?_
      rintro _ w1 ⟨⟨v, rfl⟩, h1, hg1⟩
      go_wp2_with fail
      exact body_none (by simp [results, Try.results90, go_sem]; rfl) rfl ⟨⟨_, rfl⟩, h1, gro_tr hg hg1⟩
    · have hne : ((i : Int) == (j : Int)) = false := by simp; omega
      by_cases hlt : j < i
      · have hlt1 : (j : Int) < (i : Int) := by omega
        have f2 : (i : Int) - (j : Int) = ((i - j : Nat) : Int) := by omega
        go_wp2_with fail
        clear hv1
        refine (swapR g n c lo (m - i) m j _ h hn (by omega) (by omega) (by omega)).mono ?_
        rintro _ w1 ⟨⟨v, rfl⟩, h1, hg1⟩
        go_wp2_with fail
        go_roundw
        case rel => exact ⟨i - j, j, by omega, by omega, by omega, by omega, by (congr 1), rfl, h1, gro_tr hg hg1⟩
        case measure => simp [intOf]; omega
      · have hlt1 : ¬ (j : Int) < (i : Int) := by omega
        have f2 : (j : Int) - (i : Int) = ((j - i : Nat) : Int) := by omega
        have f3 : (m : Int) + (j : Int) - (i : Int) = ((m + j - i : Nat) : Int) := by omega
        go_wp2_with fail
        clear hv1
        refine (swapR g n c lo (m - i) (m + j - i) i _ h hn (by omega) (by omega) (by omega)).mono ?_
        rintro _ w1 ⟨⟨v, rfl⟩, h1, hg1⟩
        go_wp2_with fail
        go_roundw
        case rel => exact ⟨i, j - i, by omega, by omega, by omega, by omega, rfl, by (congr 1), h1, gro_tr hg hg1⟩
        case measure => simp [intOf]; omega
end Go.Proofs.Ytlffolfooiijhaa
