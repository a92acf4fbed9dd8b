/-
  The library's insertion sort on duties, walked.
-/
import Derived.Test.YtlffolfooiijhaaRostCmp
namespace Go.Proofs.Ytlffolfooiijhaa
open Go.RowKit

def sinkJ (a : Nat) : Nat → List Duty → List Duty
  | 0, xs => xs
  | j + 1, xs => if a ≤ j then (match xs[j]?, xs[j + 1]? with
    | some p, some q => if ltD q p then sinkJ a j ((xs.set (j + 1) p).set j q) else xs
    | _, _ => xs) else xs
def insU (a : Nat) (xs : List Duty) : Nat → List Duty
  | 0 => xs
  | i + 1 => if a < i then sinkJ a i (insU a xs i) else xs
theorem sinkJ_len (a : Nat) : ∀ (j : Nat) (xs : List Duty), (sinkJ a j xs).length = xs.length
  | 0, xs => rfl
  | j + 1, xs => by
    rw [sinkJ]
    split
    · split
      · split
        · rw [sinkJ_len a j]; simp
        · rfl
      · rfl
    · rfl
theorem insU_len (a : Nat) (xs : List Duty) : ∀ i, (insU a xs i).length = xs.length
  | 0 => rfl
  | i + 1 => by
    rw [insU]
    split
    · rw [sinkJ_len, insU_len a xs i]
    · rfl
theorem insU_low {a : Nat} {xs : List Duty} : ∀ {i : Nat}, i ≤ a + 1 → insU a xs i = xs
  | 0, _ => rfl
  | i + 1, h => by rw [insU, if_neg (by omega)]
theorem sink_go {a j : Nat} {xs : List Duty} {p q : Duty} (h : a ≤ j) (hp : xs[j]? = some p) (hq : xs[j + 1]? = some q) (hl : ltD q p = true) : sinkJ a (j + 1) xs = sinkJ a j ((xs.set (j + 1) p).set j q) := by
  rw [sinkJ, if_pos h, hp, hq]
  simp only [hl, if_true]
theorem sink_stay {a j : Nat} {xs : List Duty} {p q : Duty} (h : a ≤ j) (hp : xs[j]? = some p) (hq : xs[j + 1]? = some q) (hl : ltD q p = false) : sinkJ a (j + 1) xs = xs := by
  rw [sinkJ, if_pos h, hp, hq]
  simp [hl]
theorem sink_end {a j : Nat} {xs : List Duty} (h : j ≤ a) : sinkJ a j xs = xs := by
  rcases j with _ | j
  · rfl
  · rw [sinkJ, if_neg (by omega)]
theorem flat_set3 : ∀ {xs : List Duty} {i : Nat} (y : Duty), i < xs.length → (((xs.flatMap Duty.row).set (i * 3) (.int .i64 y.crew)).set (i * 3 + 1) (.int .i64 y.fr)).set (i * 3 + 2) (.int .i64 y.til) = (xs.set i y).flatMap Duty.row
  | [], i, y, h => by simp at h
  | x :: xs, 0, y, _ => by simp [Duty.row]
  | x :: xs, i + 1, y, h => by
    have ih := flat_set3 (xs := xs) (i := i) y (by simpa using h)
    have hl : (Duty.row x).length = 3 := rfl
    rw [List.flatMap_cons, List.set_append_right _ _ (by omega), List.set_append_right _ _ (by omega), List.set_append_right _ _ (by omega), List.set_cons_succ, List.flatMap_cons, ← ih, hl,
      show (i + 1) * 3 - 3 = i * 3 by omega, show (i + 1) * 3 + 1 - 3 = i * 3 + 1 by omega, show (i + 1) * 3 + 2 - 3 = i * 3 + 2 by omega]
theorem body_none {P : Program} {fn : Func} {R : Ending → World → Prop} {a : Act} {w : World} {v : Value} (hr : (results fn a.tmps).run P w = .ok v w) (hd : a.defers = []) (h : R (.returned v) w) : bodyPost P fn R .normal a w := ⟨hd, v, hr, h⟩
theorem grown_bel {w w1 w2 : World} {r : Option Nat} (h : w.grownBy w1 r) (hb : Below w1.heap.size w1 w2) : w.grownBy w2 r :=
  ⟨hb.os.trans h.os, hb.tape.trans h.tape, hb.output.trans h.output, Nat.le_trans h.size hb.size, fun i hi hne => (hb.block i (Nat.lt_of_lt_of_le hi h.size)).trans (h.block i hi hne)⟩
theorem own_set3 {w : World} {lo g n c : Nat} {e : TypeId} {xs : List Duty} {i : Nat} (y : Duty) (h : w.ownsRow lo e 3 (.slice (some ⟨g, 0, none⟩) n c) n (xs.flatMap Duty.row)) (hi : i < xs.length) :
    (((w.setCell ⟨g, i * 3, none⟩ (.int .i64 y.crew)).setCell ⟨g, i * 3 + 1, none⟩ (.int .i64 y.fr)).setCell ⟨g, i * 3 + 2, none⟩ (.int .i64 y.til)).ownsRow lo e 3 (.slice (some ⟨g, 0, none⟩) n c) n ((xs.set i y).flatMap Duty.row) := by
  rw [← flat_set3 y hi]
  exact (((h.stored _ _).1.stored _ _).1.stored _ _).1
set_option maxHeartbeats 4000000 in
set_option maxRecDepth 100000 in
theorem insSort (g n c lo a b : Nat) (xs : List Duty) (w : World) (h : w.ownsRow lo 30 3 (.slice (some ⟨g, 0, none⟩) n c) n (xs.flatMap Duty.row)) (hn : n ≤ 1048577) (hb : b ≤ n) (ha : a ≤ 2097152) :
    Calls Try.prog 88 #[.slice (some ⟨g, 0, none⟩) n c, .int .i64 a, .int .i64 b, .func (.func 79) #[] #[]] w fun e w' => (∃ v, e = .returned v) ∧ w'.ownsRow lo 30 3 (.slice (some ⟨g, 0, none⟩) n c) n ((insU a xs b).flatMap Duty.row) ∧ w.grownBy w' (some g) := by
  have hlx : Hid (xs.length = n) := by
    have h1 := h.1
    rw [flat_len Duty.row_len] at h1
    show _ = _
    omega
  replace hn := hid hn
  have hnb : (n : Int) ≤ 1048577 := by have := hn.out; omega
  have hab : (a : Int) ≤ 2097152 := by omega
  replace ha := hid ha
  have hbn : (b : Int) ≤ (n : Int) := by omega
  go_enter Try.func88, Try.ntmps88
  go_wp2_with fail
  go_loopw [8] (fun v wr => ∃ i : Nat, a < i ∧ (i ≤ b ∨ i = a + 1) ∧ v = .int .i64 i ∧ wr.ownsRow lo 30 3 (.slice (some ⟨g, 0, none⟩) n c) n ((insU a xs i).flatMap Duty.row) ∧ w.grownBy wr (some g)) (fun v _ => (b + a + 1) - (intOf v).toNat)
  case atStart => exact ⟨a + 1, by omega, Or.inr rfl, by go_num, by rw [insU_low (by omega)]; exact h, World.grownBy.refl _ _⟩
  case round =>
    obtain ⟨i, hai, hib, rfl, hown, hg⟩ := hrel
    by_cases hlt : i < b
    · have hlt2 : (i : Int) < (b : Int) := by omega
      have hlt3 : (i : Int) < (n : Int) := by omega
      have hai2 : (a : Int) < (i : Int) := by omega
      have hil : Hid (i < n) := by show _ < _; omega
      obtain ⟨T, hT⟩ : ∃ T, T = insU a xs (i + 1) := ⟨_, rfl⟩
      have hTs : Hid (sinkJ a i (insU a xs i) = T) := by show _ = _; rw [hT, insU, if_pos hai]
      have hTl : Hid (T.length = n) := by show _ = _; rw [hT, insU_len]; exact hlx.out
      replace hT := hid hT
      obtain ⟨Y, hY⟩ : ∃ Y, Y = insU a xs i := ⟨_, rfl⟩
      rw [← hY] at hown hTs
      clear hY
      go_wp2_with fail
      go_loopw [9] (fun v wr => ∃ (j : Nat) (ys : List Duty), a ≤ j ∧ j < n ∧ v = .int .i64 j ∧ Hid (sinkJ a j ys = T) ∧ wr.ownsRow lo 30 3 (.slice (some ⟨g, 0, none⟩) n c) n (ys.flatMap Duty.row) ∧ w.grownBy wr (some g)) (fun v _ => (intOf v).toNat)
      case atStart => exact ⟨i, _, by omega, hil.out, rfl, hTs, hown, hg⟩
      case round =>
        clear hown hg
        obtain ⟨j, ys, haj, hjn, rfl, hTy, hown, hg⟩ := hrel
        have hyl : ys.length = n := by
          have h1 := hown.1
          rw [flat_len Duty.row_len] at h1
          omega
        have hgz := (hown.lt g rfl).2
        by_cases hja : a < j
        · rcases j with _ | j
          · omega
          obtain ⟨p, hp⟩ : ∃ p, ys[j]? = some p := get_of_lt (by omega)
          obtain ⟨q, hq⟩ : ∃ q, ys[j + 1]? = some q := get_of_lt (by omega)
          have hP := hid hp
          have hQ := hid hq
          obtain ⟨e0, e1, e2⟩ := Duty.flat hp
          obtain ⟨f0, f1, f2⟩ := Duty.flat hq
          have c0 := (hown.cellAt (j * 3) (by omega)).trans e0
          have c1 := (hown.cellAt (j * 3 + 1) (by omega)).trans e1
          have c2 := (hown.cellAt (j * 3 + 2) (by omega)).trans e2
          have d0 := (hown.cellAt ((j + 1) * 3) (by omega)).trans f0
          have d1 := (hown.cellAt ((j + 1) * 3 + 1) (by omega)).trans f1
          have d2 := (hown.cellAt ((j + 1) * 3 + 2) (by omega)).trans f2
          clear e0 e1 e2 f0 f1 f2 hp hq
          have hfz := own_fz hown
          have hp0 : ((j + 1 : Nat) : Int) = (j : Int) + 1 := by omega
          rw [hp0]
          have hja2 : (a : Int) < (j : Int) + 1 := by omega
          have hj0 : (0 : Int) ≤ (j : Int) := by omega
          have hj1 : (j : Int) < (n : Int) := by omega
          have hj2 : (j : Int) + 1 < (n : Int) := by omega
          have hj3 : (0 : Int) ≤ (j : Int) + 1 := by omega
          clear hp0
          have hwj : IntKind.i64.wrap (j : Int) = j := IntWalk.i64_in _ (by omega)
          have hB2 := bel_refl wr
          rcases hl : ltD q p with _ | _
          · have hl2 : ¬ cmpD q p < 0 := by simpa [ltD] using hl
            have hs : Hid (ys = T) := by show _ = _; rw [← hTy.out, sink_stay (by omega) hP.out hQ.out hl]
            go_wp2_with fail
            (refine wp_region_bel (by kernel_rfl) (by kernel_rfl) ?_; have hD := bel_cells hB2; (repeat (go_big_quiet_step (((go_at_call 79; exact calls_bel (cmpDuty q p _)))))); refine wpQuiet_nil ?_; intro w1 hB1; replace hB2 := bel_trans hB2 hB1; obtain ⟨hC1, hF1⟩ := bcell hB2; clear hD; replace hB1 := hB1)
            go_wp2
            go_roundw
            case rel => exact ⟨i + 1, by omega, Or.inl (by omega), by go_num, by rw [← hT.out, ← hs.out]; exact own_bel hown (by (repeat' (first | (with_reducible exact bel_refl _) | (with_reducible assumption) | (with_reducible refine bel_drew ?_) | (with_reducible refine bel_drewN ?_) | (with_reducible refine bel_alloc ?_) | (with_reducible refine bel_set ?_ ?_) | (with_reducible refine bel_trans ?_ (by with_reducible assumption)) | omega | (simp; done) | (simp; omega)))), grown_bel hg (by (repeat' (first | (with_reducible exact bel_refl _) | (with_reducible assumption) | (with_reducible refine bel_drew ?_) | (with_reducible refine bel_drewN ?_) | (with_reducible refine bel_alloc ?_) | (with_reducible refine bel_set ?_ ?_) | (with_reducible refine bel_trans ?_ (by with_reducible assumption)) | omega | (simp; done) | (simp; omega))))⟩
            case measure => simp [intOf]; omega
          · have hl2 : cmpD q p < 0 := by simpa [ltD] using hl
            have hs : Hid (sinkJ a j ((ys.set (j + 1) p).set j q) = T) := by show _ = _; rw [← hTy.out, sink_go (by omega) hP.out hQ.out hl]
            go_wp2_with fail
            (refine wp_region_bel (by kernel_rfl) (by kernel_rfl) ?_; have hD := bel_cells hB2; (repeat (go_big_quiet_step (((go_at_call 79; exact calls_bel (cmpDuty q p _)))))); refine wpQuiet_nil ?_; intro w1 hB1; replace hB2 := bel_trans hB2 hB1; obtain ⟨hC1, hF1⟩ := bcell hB2; clear hD; replace hB1 := hB1)
            have hb1 := hB2
            have k0 := (hC1 _ _ hgz).trans c0
            have k1 := (hC1 _ _ hgz).trans c1
            have k2 := (hC1 _ _ hgz).trans c2
            have m0 := (hC1 _ _ hgz).trans d0
            have m1 := (hC1 _ _ hgz).trans d1
            have m2 := (hC1 _ _ hgz).trans d2
            have z0 := fun o => (hF1 g o hgz).trans (hfz o)
            go_wp2_with fail
            (refine wp_region_plan (fun _ => True) (.free 0 (.free 1 (.free 2 (.free 3 (.free 4 (.free 5 (.free 6 (.free 7 (.free 8 (.here 9 (.free 10 (.free 11 (.free 12 (.here 13 (.free 14 (.one 15 (.free 16 (.one 17 (.stop))))))))))))))))))) (by kernel_rfl) (by kernel_rfl) trivial ?_; simp only [Plan.ops, List.getElem?_cons_zero, List.getElem?_cons_succ, Option.getD_some])
            (iterate 9 (refine p_free rfl (by intro w' _; (go_simp; first | done | rfl)) ?_; (try simp only [Act.put, List.setIfInBounds_toArray, List.set_cons_zero, List.set_cons_succ])))
            (iterate 1 (refine p_here rfl (by (go_simp; first | done | rfl)) ?_; (try simp only [Act.put, List.setIfInBounds_toArray, List.set_cons_zero, List.set_cons_succ])))
            (iterate 3 (refine p_free rfl (by intro w' _; (go_simp; first | done | rfl)) ?_; (try simp only [Act.put, List.setIfInBounds_toArray, List.set_cons_zero, List.set_cons_succ])))
            (iterate 1 (refine p_here rfl (by (go_simp; first | done | rfl)) ?_; (try simp only [Act.put, List.setIfInBounds_toArray, List.set_cons_zero, List.set_cons_succ])))
            (iterate 1 (refine p_free rfl (by intro w' _; (go_simp; first | done | rfl)) ?_; (try simp only [Act.put, List.setIfInBounds_toArray, List.set_cons_zero, List.set_cons_succ])))
            refine p_store rfl (by (go_simp; first | done | rfl)) trivial ?_
            (try simp only [Act.put])
            (iterate 1 (refine p_free rfl (by intro w' _; (go_simp; first | done | rfl)) ?_; (try simp only [Act.put, List.setIfInBounds_toArray, List.set_cons_zero, List.set_cons_succ])))
            refine p_store rfl (by (go_simp; first | done | rfl)) trivial ?_
            (try simp only [Act.put])
            refine p_stop ?_
            (try simp only [Act.put, List.setIfInBounds_toArray, List.set_cons_zero, List.set_cons_succ])
            go_wp2
            refine ⟨⟨j, _, by omega, by omega, rfl, hs, ?_, ?_⟩, by simp [intOf]⟩
            · exact own_bel (own_set3 q (own_set3 p (own_bel hown hb1) (by omega)) (by rw [List.length_set]; omega)) (bel_drew (bel_refl _))
            · exact grown_bel (grown_set (grown_set (grown_set (grown_set (grown_set (grown_set (grown_bel hg hb1) _) _) _) _) _) _) (bel_drew (bel_refl _))
        · have hja2 : ¬ (a : Int) < (j : Int) := by omega
          have hB2 := bel_refl wr
          have hs : Hid (ys = T) := by show _ = _; rw [← hTy.out, sink_end (by omega)]
          go_wp2_with fail
          (refine wp_region_bel (by kernel_rfl) (by kernel_rfl) ?_; have hD := bel_cells hB2; (repeat (go_big_quiet_step ((fail)))); refine wpQuiet_nil ?_; intro w1 hB1; replace hB2 := bel_trans hB2 hB1; obtain ⟨hC1, hF1⟩ := bcell hB2; clear hD; replace hB1 := hB1)
          go_wp2
          go_roundw
          case rel => exact ⟨i + 1, by omega, Or.inl (by omega), by go_num, by rw [← hT.out, ← hs.out]; exact own_bel hown (by (repeat' (first | (with_reducible exact bel_refl _) | (with_reducible assumption) | (with_reducible refine bel_drew ?_) | (with_reducible refine bel_drewN ?_) | (with_reducible refine bel_alloc ?_) | (with_reducible refine bel_set ?_ ?_) | (with_reducible refine bel_trans ?_ (by with_reducible assumption)) | omega | (simp; done) | (simp; omega)))), grown_bel hg (by (repeat' (first | (with_reducible exact bel_refl _) | (with_reducible assumption) | (with_reducible refine bel_drew ?_) | (with_reducible refine bel_drewN ?_) | (with_reducible refine bel_alloc ?_) | (with_reducible refine bel_set ?_ ?_) | (with_reducible refine bel_trans ?_ (by with_reducible assumption)) | omega | (simp; done) | (simp; omega))))⟩
          case measure => simp [intOf]; omega
    · have hlt2 : ¬ (i : Int) < (b : Int) := by omega
      go_wp2
      have e : insU a xs i = insU a xs b := by
        rcases hib with h1 | h1
        · rw [show i = b by omega]
        · rw [insU_low (by omega), insU_low (by omega)]
      rw [← e]
      exact body_none (by simp [results, Try.results88, go_sem]; rfl) rfl ⟨⟨_, rfl⟩, hown, hg⟩
end Go.Proofs.Ytlffolfooiijhaa
