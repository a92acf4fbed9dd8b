/-
  The place before another one on a trip, of the reference, walked.
-/
import Derived.Test.YtfimchbjpambfaaRoadTripMath
import Derived.Test.YtfimchbjpambfaaRoadTrips
namespace Go.Proofs.Ytfimchbjpambfaa
open Go.RowKit

theorem befS_hit {P a : Nat} {xs : List Road} {s : List Int} {v : Int} (ha : a < P) (hc : canAny s v xs a = true) (hno : ∀ r, r < a → canAny s v xs r = false) : befS P xs s v = a := by
  have h : (List.range P).find? (canAny s v xs) = some a := by
    rw [List.find?_eq_some_iff_getElem]
    exact ⟨hc, a, by simpa using ha, by simp, fun j hj => by simp [hno j hj]⟩
  unfold befS
  rw [h]
theorem befS_none {P : Nat} {xs : List Road} {s : List Int} {v : Int} (hno : ∀ r, r < P → canAny s v xs r = false) : befS P xs s v = -1 := by
  have h : (List.range P).find? (canAny s v xs) = none := by
    rw [List.find?_eq_none]
    intro a ha
    simp [hno a (List.mem_range.1 ha)]
  unfold befS
  rw [h]
theorem any_hit {xs : List Road} {s : List Int} {v : Int} {a i : Nat} {x : Road} (hx : xs[i]? = some x) (h : canB s v x a = true) : canAny s v xs a = true := by
  unfold canAny
  rw [List.any_eq_true]
  exact ⟨x, List.mem_of_getElem? hx, h⟩
theorem any_none {xs : List Road} {s : List Int} {v : Int} {a : Nat} (h : ∀ (i : Nat) (x : Road), xs[i]? = some x → canB s v x a = false) : canAny s v xs a = false := by
  unfold canAny
  rw [List.any_eq_false]
  intro x hx
  obtain ⟨i, hi⟩ := List.getElem?_of_mem hx
  simp [h i x hi]
theorem can_snoc {xs : List Road} {s : List Int} {v : Int} {a : Int} {j : Nat} {x : Road} (h : Hid (∀ r, r < j → ∀ u, xs[r]? = some u → canB s v u a = false)) (hx : xs[j]? = some x) (hc : canB s v x a = false) : Hid (∀ r, r < j + 1 → ∀ u, xs[r]? = some u → canB s v u a = false) := fun r hr u hu => by
  rcases Nat.lt_or_ge r j with h1 | h1
  · exact h.out r h1 u hu
  · rw [show r = j by omega, hx] at hu
    simp only [Option.some.injEq] at hu
    rw [← hu]; exact hc
set_option maxRecDepth 100000 in
set_option maxHeartbeats 4000000 in
theorem l12Before (A : Option Addr) (n c0 P g d v : Nat) (xs : List Road) (s : List Int) (w : World) (hS : Sl w 4 A n c0 (xs.flatMap Road.row)) (hP2 : 2 ≤ P ∧ P ≤ 7) (hn12 : n ≤ 12) (hG : allR P xs) (hA : Arr P s) (hgl : g < w.heap.size) (hTm : ∀ u : Nat, u < P → w.cell? ⟨g, u, none⟩ = some (.int .i64 (gi s u))) (hv : v < P) :
    Calls Try.prog 47 #[.int .i64 P, .slice A n c0, .slice (some ⟨g, 0, none⟩) P d, .int .i64 v] w fun e w' => e = .returned (.int .i64 (befS P xs s v)) ∧ Below w.heap.size w w' := by
  have hlh := hid (hS.xs_len Road.row_len (by omega))
  have hv0 : (0 : Int) ≤ (v : Int) := by omega
  have hv1 : (v : Int) < (P : Int) := by omega
  have hTh := hid hTm
  clear hTm
  go_enter Try.func47, Try.ntmps47
  go_wp2_with fail
  go_loopw [9] (fun q wr => ∃ a : Nat, a ≤ P ∧ q = .int .i64 a ∧ (Hid (∀ r, r < a → canAny s v xs r = false)) ∧ Below w.heap.size w wr) (fun q _ => P - (intOf q).toNat)
  case atStart => exact ⟨0, by omega, rfl, fun r hr => absurd hr (by omega), by (repeat' (first | (with_reducible exact bel_refl _) | (with_reducible assumption) | (with_reducible refine bel_drew ?_) | (with_reducible refine bel_drewN ?_) | (with_reducible refine bel_alloc ?_) | (with_reducible refine bel_set ?_ ?_) | (with_reducible refine bel_trans ?_ (by with_reducible assumption)) | omega | (simp; done) | (simp; omega)))⟩
  case round =>
    obtain ⟨a, ha', rfl, hna, hB⟩ := hrel
    have ha0 : (0 : Int) ≤ (a : Int) := by omega
    by_cases hlt : a < P
    · have ha1 : (a : Int) < (P : Int) := by omega
      go_wp2_with fail
      go_loopw [10] (fun q wr => ∃ j : Nat, j ≤ n ∧ q = .int .i64 j ∧ (Hid (∀ r, r < j → ∀ u, xs[r]? = some u → canB s v u a = false)) ∧ Below w.heap.size w wr) (fun q _ => n - (intOf q).toNat)
      case atStart => exact ⟨0, by omega, rfl, fun r hr => absurd hr (by omega), by (repeat' (first | (with_reducible exact bel_refl _) | (with_reducible assumption) | (with_reducible refine bel_drew ?_) | (with_reducible refine bel_drewN ?_) | (with_reducible refine bel_alloc ?_) | (with_reducible refine bel_set ?_ ?_) | (with_reducible refine bel_trans ?_ (by with_reducible assumption)) | omega | (simp; done) | (simp; omega)))⟩
      case round =>
        clear hB
        obtain ⟨j, hj', rfl, hnj, hB⟩ := hrel
        have hj0 : (0 : Int) ≤ (j : Int) := by omega
        by_cases hlj : j < n
        · obtain ⟨x, hx⟩ : ∃ x, xs[j]? = some x := get_of_lt (by rw [hlh.out]; exact hlj)
          obtain ⟨b, o, rfl, hb, e0, e1, e2, e3⟩ := (hS.bel hB).road hx
          have hgx := hid (hG j x hx)
          have hX := hid hx
          clear hx
          have hgb := goodR_bd hgx.out
          have hj1 : (j : Int) < (n : Int) := by omega
          have hgl2 : g < wr.heap.size := Nat.lt_of_lt_of_le hgl hB.size
          have c1 := ((bcell hB).1 g a hgl).trans (hTh.out a hlt)
          have c2 := ((bcell hB).1 g v hgl).trans (hTh.out v hv)
          have b1 := hA.bd a
          have b2 := hA.bd v
          have hB2 := bel_refl wr
          have hcan0 : Hid (∀ q : Bool, canB s v x a = q → canB s v x a = q) := fun _ h => h
          obtain ⟨ya, hya⟩ : ∃ y, gi s a = y := ⟨_, rfl⟩
          obtain ⟨yv, hyv⟩ : ∃ y, gi s v = y := ⟨_, rfl⟩
          rw [hya] at c1 b1
          rw [hyv] at c2 b2
          by_cases h1 : otherI x a = v
          · have hq1 : (otherI x a == (v : Int)) = true := by simpa using h1
            by_cases h2 : ya < 0
            · have hcan := hid (show canB s v x a = false by simp [canB, hya]; intro _ h3; omega)
              have hn1 : decide (0 ≤ ya) = false := decide_eq_false (by omega)
              clear h1
              go_wp2_with fail
              (refine wp_region_bel (by kernel_rfl) (by kernel_rfl) ?_; have hD := bel_cells hB2; (repeat (go_big_quiet_step (((first | (go_at_call 66; exact calls_bel (l12Other x _ _)) | (go_at_call 50; exact calls_bel (l12Ride x _ P _ hgx.out (by omega)))))))); refine wpQuiet_nil ?_; intro w1 hB1; replace hB2 := bel_trans hB2 hB1; obtain ⟨hC1, hF1⟩ := bcell hB2; clear hD; replace hB1 := hB1)
              go_wp2
              go_roundw; case rel => exact ⟨j + 1, by omega, by go_num, can_snoc hnj hX.out hcan.out, by (repeat' (first | (with_reducible exact bel_refl _) | (with_reducible assumption) | (with_reducible refine bel_drew ?_) | (with_reducible refine bel_drewN ?_) | (with_reducible refine bel_alloc ?_) | (with_reducible refine bel_set ?_ ?_) | (with_reducible refine bel_trans ?_ (by with_reducible assumption)) | omega | (simp; done) | (simp; omega)))⟩
              case measure => simp [intOf]; omega
            · by_cases h3 : rideA x ya = yv
              · have hcan := hid (show canB s v x a = true by simp [canB, hya, hyv, h1, h3]; omega)
                have hq3 : (rideA x ya == yv) = true := by simpa using h3
                have hR := hid (befS_hit hlt (any_hit hX.out hcan.out) hna.out)
                clear h1 h3
                go_wp2_with fail
                (refine wp_region_bel (by kernel_rfl) (by kernel_rfl) ?_; have hD := bel_cells hB2; (repeat (go_big_quiet_step (((first | (go_at_call 66; exact calls_bel (l12Other x _ _)) | (go_at_call 50; exact calls_bel (l12Ride x _ P _ hgx.out (by omega)))))))); refine wpQuiet_nil ?_; intro w1 hB1; replace hB2 := bel_trans hB2 hB1; obtain ⟨hC1, hF1⟩ := bcell hB2; clear hD; replace hB1 := hB1)
                go_wp2
                go_ret
                exact ⟨ret_int hR.out.symm, by (repeat' (first | (with_reducible exact bel_refl _) | (with_reducible assumption) | (with_reducible refine bel_drew ?_) | (with_reducible refine bel_drewN ?_) | (with_reducible refine bel_alloc ?_) | (with_reducible refine bel_set ?_ ?_) | (with_reducible refine bel_trans ?_ (by with_reducible assumption)) | omega | (simp; done) | (simp; omega)))⟩
              · have hcan := hid (show canB s v x a = false by simp [canB, hya, hyv, h3])
                have hq3 : (rideA x ya == yv) = false := by simpa using h3
                clear h1 h3
                go_wp2_with fail
                (refine wp_region_bel (by kernel_rfl) (by kernel_rfl) ?_; have hD := bel_cells hB2; (repeat (go_big_quiet_step (((first | (go_at_call 66; exact calls_bel (l12Other x _ _)) | (go_at_call 50; exact calls_bel (l12Ride x _ P _ hgx.out (by omega)))))))); refine wpQuiet_nil ?_; intro w1 hB1; replace hB2 := bel_trans hB2 hB1; obtain ⟨hC1, hF1⟩ := bcell hB2; clear hD; replace hB1 := hB1)
                go_wp2
                go_roundw; case rel => exact ⟨j + 1, by omega, by go_num, can_snoc hnj hX.out hcan.out, by (repeat' (first | (with_reducible exact bel_refl _) | (with_reducible assumption) | (with_reducible refine bel_drew ?_) | (with_reducible refine bel_drewN ?_) | (with_reducible refine bel_alloc ?_) | (with_reducible refine bel_set ?_ ?_) | (with_reducible refine bel_trans ?_ (by with_reducible assumption)) | omega | (simp; done) | (simp; omega)))⟩
                case measure => simp [intOf]; omega
          · have hq1 : (otherI x a == (v : Int)) = false := by simpa using h1
            have hcan := hid (show canB s v x a = false by simp [canB, h1])
            clear h1
            go_wp2_with fail
            (refine wp_region_bel (by kernel_rfl) (by kernel_rfl) ?_; have hD := bel_cells hB2; (repeat (go_big_quiet_step (((first | (go_at_call 66; exact calls_bel (l12Other x _ _)) | (go_at_call 50; exact calls_bel (l12Ride x _ P _ hgx.out (by omega)))))))); refine wpQuiet_nil ?_; intro w1 hB1; replace hB2 := bel_trans hB2 hB1; obtain ⟨hC1, hF1⟩ := bcell hB2; clear hD; replace hB1 := hB1)
            go_wp2
            go_roundw; case rel => exact ⟨j + 1, by omega, by go_num, can_snoc hnj hX.out hcan.out, by (repeat' (first | (with_reducible exact bel_refl _) | (with_reducible assumption) | (with_reducible refine bel_drew ?_) | (with_reducible refine bel_drewN ?_) | (with_reducible refine bel_alloc ?_) | (with_reducible refine bel_set ?_ ?_) | (with_reducible refine bel_trans ?_ (by with_reducible assumption)) | omega | (simp; done) | (simp; omega)))⟩
            case measure => simp [intOf]; omega
        · have e : j = n := by omega
          subst e
          have hcn := hid (any_none (xs := xs) (s := s) (v := v) (a := a) (fun r u hu => hnj.out r (by have h1 := (List.getElem?_eq_some_iff.1 hu).1; rw [hlh.out] at h1; omega) u hu))
          go_wp2
          go_roundw
          case rel => exact ⟨a + 1, by omega, by go_num, fun r hr => (by
            rcases Nat.lt_or_ge r a with h1 | h1
            · exact hna.out r h1
            · rw [show r = a by omega]; exact hcn.out), by (repeat' (first | (with_reducible exact bel_refl _) | (with_reducible assumption) | (with_reducible refine bel_drew ?_) | (with_reducible refine bel_drewN ?_) | (with_reducible refine bel_alloc ?_) | (with_reducible refine bel_set ?_ ?_) | (with_reducible refine bel_trans ?_ (by with_reducible assumption)) | omega | (simp; done) | (simp; omega)))⟩
          case measure => simp [intOf]; omega
    · have e : a = P := by omega
      subst e
      have hR := hid (befS_none hna.out)
      go_wp2
      go_ret
      exact ⟨ret_int hR.out.symm, by (repeat' (first | (with_reducible exact bel_refl _) | (with_reducible assumption) | (with_reducible refine bel_drew ?_) | (with_reducible refine bel_drewN ?_) | (with_reducible refine bel_alloc ?_) | (with_reducible refine bel_set ?_ ?_) | (with_reducible refine bel_trans ?_ (by with_reducible assumption)) | omega | (simp; done) | (simp; omega)))⟩
end Go.Proofs.Ytfimchbjpambfaa
