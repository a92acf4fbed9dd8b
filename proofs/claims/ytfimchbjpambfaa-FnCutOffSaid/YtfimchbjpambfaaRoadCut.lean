/-
  The places that are cut off: of the program and of the reference, walked.
-/
import Derived.Test.YtfimchbjpambfaaRoadLastTop
namespace Go.Proofs.Ytfimchbjpambfaa
open Go.RowKit

def hasB (vs : List Int) (v : Int) : Bool := vs.any fun x => x == v
theorem hasB_yes {vs : List Int} {v x : Int} {i : Nat} (hx : vs[i]? = some x) (h : x = v) : hasB vs v = true := by
  rw [hasB, List.any_eq_true]
  exact ⟨x, List.mem_of_getElem? hx, by simpa using h⟩
theorem hasB_no {vs : List Int} {v : Int} (h : ∀ (i : Nat) (x : Int), vs[i]? = some x → ¬ x = v) : hasB vs v = false := by
  rw [hasB, List.any_eq_false]
  intro x hx
  obtain ⟨i, hi⟩ := List.getElem?_of_mem hx
  simpa using h i x hi
theorem indexI (A : Option Addr) (n c : Nat) (vs : List Int) (v : Int) (w : World) (hS : Sl w 1 A n c (ints vs)) (hn : n ≤ 1048576) :
    Calls Try.prog 76 #[.slice A n c, .int .i64 v] w fun e w' => ∃ k : Int, e = .returned (.int .i64 k) ∧ decide (0 ≤ k) = hasB vs v ∧ w = w' := by
  have hlh := hid hS.int_len
  go_enter Try.func76, Try.ntmps76
  go_wp2_with fail
  go_loopw [5, 8] (fun _ u wr => ∃ i : Nat, i ≤ n ∧ u = .int .i64 i ∧ (Hid (∀ r, r < i → ∀ x, vs[r]? = some x → ¬ x = v)) ∧ w = wr) (fun _ u _ => n - (intOf u).toNat)
  case atStart => exact ⟨0, by omega, rfl, fun r hr => absurd hr (by omega), rfl⟩
  case round =>
    obtain ⟨i, hi', rfl, hall, rfl⟩ := hrel
    by_cases hlt : i < n
    · obtain ⟨x, hx⟩ : ∃ x, vs[i]? = some x := get_of_lt (by rw [hlh.out]; exact hlt)
      obtain ⟨b, o, rfl, hb', c0⟩ := hS.int_at hx
      have hX := hid hx
      clear hx
      have hi0 : (0 : Int) ≤ (i : Int) := by omega
      have hi1 : (i : Int) < (n : Int) := by omega
      by_cases he : x = v
      · have hq : (v == x) = true := by simpa using he.symm
        have hh := hid (hasB_yes hX.out he)
        clear he
        go_wp2
        go_ret
        exact ⟨i, rfl, by rw [hh.out]; simp, rfl⟩
      · have hq : (v == x) = false := by simpa using fun h : v = x => he h.symm
        have heh := hid he
        clear he
        go_wp2
        go_roundw
        case rel => exact ⟨i + 1, by omega, by go_num, fun r hr u hu => (by
          rcases Nat.lt_or_ge r i with h1 | h1
          · exact hall.out r h1 u hu
          · rw [show r = i by omega, hX.out] at hu
            simp only [Option.some.injEq] at hu
            rw [← hu]; exact heh.out), by first | trivial | rfl⟩
        case measure => simp [intOf]; omega
    · go_wp2
      go_ret
      refine ⟨-1, rfl, ?_, rfl⟩
      rw [hasB_no (fun r u hu => hall.out r (by have h1 := (List.getElem?_eq_some_iff.1 hu).1; rw [hlh.out] at h1; omega) u hu)]
      simp
theorem containsI (A : Option Addr) (n c : Nat) (vs : List Int) (v : Int) (w : World) (hS : Sl w 1 A n c (ints vs)) (hn : n ≤ 1048576) :
    Calls Try.prog 70 #[.slice A n c, .int .i64 v] w fun e w' => e = .returned (.bool (hasB vs v)) ∧ w = w' := by
  go_enter Try.func70, Try.ntmps70
  go_wp2_with (go_at_call 76; refine (indexI _ _ _ vs v _ hS hn).mono ?_; rintro _ w1 ⟨k, rfl, hk, rfl⟩)
  go_ret
  exact ⟨ret_bool (by first | rfl | exact hk), rfl⟩
theorem hasI (A : Option Addr) (n c : Nat) (vs : List Int) (v : Int) (w : World) (hS : Sl w 1 A n c (ints vs)) (hn : n ≤ 1048576) :
    Calls Try.prog 53 #[.slice A n c, .int .i64 v] w fun e w' => e = .returned (.bool (hasB vs v)) ∧ w = w' := by
  go_enter Try.func53, Try.ntmps53
  go_wp2_with (go_at_call 70; refine (containsI _ _ _ vs v _ hS hn).mono ?_; rintro _ w1 ⟨rfl, rfl⟩)
  go_ret
  exact ⟨rfl, rfl⟩
theorem l1Has (A : Option Addr) (n c : Nat) (vs : List Int) (v : Int) (w : World) (hS : Sl w 1 A n c (ints vs)) (hn : n ≤ 1048576) :
    Calls Try.prog 56 #[.slice A n c, .int .i64 v] w fun e w' => e = .returned (.bool (hasB vs v)) ∧ w = w' := by
  have hlh := hid hS.int_len
  go_enter Try.func56, Try.ntmps56
  go_wp2_with fail
  go_loopw [5] (fun u wr => ∃ i : Nat, i ≤ n ∧ u = .int .i64 i ∧ (Hid (∀ r, r < i → ∀ x, vs[r]? = some x → ¬ x = v)) ∧ w = wr) (fun u _ => n - (intOf u).toNat)
  case atStart => exact ⟨0, by omega, rfl, fun r hr => absurd hr (by omega), rfl⟩
  case round =>
    obtain ⟨i, hi', rfl, hall, rfl⟩ := hrel
    by_cases hlt : i < n
    · obtain ⟨x, hx⟩ : ∃ x, vs[i]? = some x := get_of_lt (by rw [hlh.out]; exact hlt)
      obtain ⟨b, o, rfl, hb', c0⟩ := hS.int_at hx
      have hX := hid hx
      clear hx
      have hi0 : (0 : Int) ≤ (i : Int) := by omega
      have hi1 : (i : Int) < (n : Int) := by omega
      by_cases he : x = v
      · have hq : (x == v) = true := by simpa using he
        have hh := hid (hasB_yes hX.out he)
        clear he
        go_wp2
        go_ret
        exact ⟨by rw [hh.out]; rfl, rfl⟩
      · have hq : (x == v) = false := by simpa using he
        have heh := hid he
        clear he
        go_wp2
        go_roundw
        case rel => exact ⟨i + 1, by omega, by go_num, fun r hr u hu => (by
          rcases Nat.lt_or_ge r i with h1 | h1
          · exact hall.out r h1 u hu
          · rw [show r = i by omega, hX.out] at hu
            simp only [Option.some.injEq] at hu
            rw [← hu]; exact heh.out), by first | trivial | rfl⟩
        case measure => simp [intOf]; omega
    · go_wp2
      go_ret
      refine ⟨?_, rfl⟩
      rw [hasB_no (fun r u hu => hall.out r (by have h1 := (List.getElem?_eq_some_iff.1 hu).1; rw [hlh.out] at h1; omega) u hu)]
      rfl

def cutB (P : Nat) (xs : List Road) (vs : List Int) (m : Int) (a : Nat) : Bool := !hasB vs a && decide (lastL P xs a vs < m)
def cutL (P : Nat) (xs : List Road) (vs : List Int) (m : Int) (k : Nat) : List Int := ((List.range k).filter (cutB P xs vs m)).map Int.ofNat
theorem cut_yes {P : Nat} {xs : List Road} {vs : List Int} {m : Int} {k : Nat} (h : cutB P xs vs m k = true) : cutL P xs vs m k ++ [(k : Int)] = cutL P xs vs m (k + 1) := by
  unfold cutL
  rw [List.range_succ, List.filter_append]
  simp [h]
theorem cut_no {P : Nat} {xs : List Road} {vs : List Int} {m : Int} {k : Nat} (h : cutB P xs vs m k = false) : cutL P xs vs m k = cutL P xs vs m (k + 1) := by
  unfold cutL
  rw [List.range_succ, List.filter_append]
  simp [h]
theorem cut_len (P : Nat) (xs : List Road) (vs : List Int) (m : Int) (k : Nat) : (cutL P xs vs m k).length ≤ k := by
  unfold cutL
  rw [List.length_map]
  have := List.length_filter_le (cutB P xs vs m) (List.range k)
  rwa [List.length_range] at this
def cutR (p : Int) (xs : List Road) (vs : List Int) (m : Int) : List Int × Bool := if netB p xs && placesB p vs && risesB vs && inB m 0 999 then (cutL p.toNat xs vs m p.toNat, true) else ([], false)
theorem cutR_len (p : Int) (xs : List Road) (vs : List Int) (m : Int) : (cutR p xs vs m).1.length ≤ 1048576 := by
  unfold cutR
  split
  · rename_i hc
    simp only [Bool.and_eq_true] at hc
    have hb := netB_bd hc.1.1.1
    have := cut_len p.toNat xs vs m p.toNat
    exact Nat.le_trans this (by omega)
  · simp

set_option maxHeartbeats 1000000 in
theorem cutS (p : Int) (A : Option Addr) (n c : Nat) (xs : List Road) (B : Option Addr) (q d : Nat) (vs : List Int) (m : Int) (w : World) (hS : Sl w 4 A n c (xs.flatMap Road.row)) (hn : n ≤ 1048576) (hV : Sl w 1 B q d (ints vs)) (hq : q ≤ 1048576) :
    Calls Try.prog 24 #[.int .i64 p, .slice A n c, .slice B q d, .int .i64 m] w fun e w' => ∃ A' n' c', e = .returned (.tuple #[.slice A' n' c', .bool (cutR p xs vs m).2]) ∧ Own w.heap.size w'.heap.size w' 3 1 A' n' c' (ints (cutR p xs vs m).1) ∧ Below w.heap.size w w' := by
  have hB2 := bel_refl w
  rcases hg : netB p xs with _ | _
  · have hR : Hid (cutR p xs vs m = ([], false)) := by show _ = _; simp [cutR, hg]
    go_enter Try.func24, Try.ntmps24
    go_wp2_with (first | (go_at_call 55; refine (l12Targets _ _ _ _ _ _ _ xs vs _ (hS.bel (by (repeat' (first | (with_reducible exact bel_refl _) | (with_reducible assumption) | (with_reducible refine bel_drew ?_) | (with_reducible refine bel_drewN ?_) | (with_reducible refine bel_alloc ?_) | (with_reducible refine bel_set ?_ ?_) | (with_reducible refine bel_trans ?_ (by with_reducible assumption)) | omega | (simp; done) | (simp; omega))))) hn (hV.bel (by (repeat' (first | (with_reducible exact bel_refl _) | (with_reducible assumption) | (with_reducible refine bel_drew ?_) | (with_reducible refine bel_drewN ?_) | (with_reducible refine bel_alloc ?_) | (with_reducible refine bel_set ?_ ?_) | (with_reducible refine bel_trans ?_ (by with_reducible assumption)) | omega | (simp; done) | (simp; omega))))) hq).mono ?_; rintro _ w1 ⟨rfl, hB1⟩; rw [risesIn_eq]; (first | (with_reducible replace hB2 := bel_trans hB2 hB1) | (with_reducible replace hB2 := bel_trans (bel_alloc hB2) hB1)); obtain ⟨hC1, hF1⟩ := bcell hB2; replace hB1 := hB1) | (go_at_call 39; refine (l12Minute _ _).mono ?_; rintro _ w1 ⟨rfl, rfl⟩))
    go_ret2; exact ⟨some ⟨w.heap.size, 0, none⟩, 0, 0, by rw [hR.out]; rfl, by rw [hR.out]; exact Own.mk_ (own_bel (own_empty (Nat.le_refl _)) hB1), by (repeat' (first | (with_reducible exact bel_refl _) | (with_reducible assumption) | (with_reducible refine bel_drew ?_) | (with_reducible refine bel_drewN ?_) | (with_reducible refine bel_alloc ?_) | (with_reducible refine bel_set ?_ ?_) | (with_reducible refine bel_trans ?_ (by with_reducible assumption)) | omega | (simp; done) | (simp; omega)))⟩
  · rcases h1 : placesB p vs with _ | _
    · have hR : Hid (cutR p xs vs m = ([], false)) := by show _ = _; simp [cutR, h1]
      go_enter Try.func24, Try.ntmps24
      go_wp2_with (first | (go_at_call 55; refine (l12Targets _ _ _ _ _ _ _ xs vs _ (hS.bel (by (repeat' (first | (with_reducible exact bel_refl _) | (with_reducible assumption) | (with_reducible refine bel_drew ?_) | (with_reducible refine bel_drewN ?_) | (with_reducible refine bel_alloc ?_) | (with_reducible refine bel_set ?_ ?_) | (with_reducible refine bel_trans ?_ (by with_reducible assumption)) | omega | (simp; done) | (simp; omega))))) hn (hV.bel (by (repeat' (first | (with_reducible exact bel_refl _) | (with_reducible assumption) | (with_reducible refine bel_drew ?_) | (with_reducible refine bel_drewN ?_) | (with_reducible refine bel_alloc ?_) | (with_reducible refine bel_set ?_ ?_) | (with_reducible refine bel_trans ?_ (by with_reducible assumption)) | omega | (simp; done) | (simp; omega))))) hq).mono ?_; rintro _ w1 ⟨rfl, hB1⟩; rw [risesIn_eq]; (first | (with_reducible replace hB2 := bel_trans hB2 hB1) | (with_reducible replace hB2 := bel_trans (bel_alloc hB2) hB1)); obtain ⟨hC1, hF1⟩ := bcell hB2; replace hB1 := hB1) | (go_at_call 39; refine (l12Minute _ _).mono ?_; rintro _ w1 ⟨rfl, rfl⟩))
      go_ret2; exact ⟨some ⟨w.heap.size, 0, none⟩, 0, 0, by rw [hR.out]; rfl, by rw [hR.out]; exact Own.mk_ (own_bel (own_empty (Nat.le_refl _)) hB1), by (repeat' (first | (with_reducible exact bel_refl _) | (with_reducible assumption) | (with_reducible refine bel_drew ?_) | (with_reducible refine bel_drewN ?_) | (with_reducible refine bel_alloc ?_) | (with_reducible refine bel_set ?_ ?_) | (with_reducible refine bel_trans ?_ (by with_reducible assumption)) | omega | (simp; done) | (simp; omega)))⟩
    · rcases h2 : risesB vs with _ | _
      · have hR : Hid (cutR p xs vs m = ([], false)) := by show _ = _; simp [cutR, h2]
        go_enter Try.func24, Try.ntmps24
        go_wp2_with (first | (go_at_call 55; refine (l12Targets _ _ _ _ _ _ _ xs vs _ (hS.bel (by (repeat' (first | (with_reducible exact bel_refl _) | (with_reducible assumption) | (with_reducible refine bel_drew ?_) | (with_reducible refine bel_drewN ?_) | (with_reducible refine bel_alloc ?_) | (with_reducible refine bel_set ?_ ?_) | (with_reducible refine bel_trans ?_ (by with_reducible assumption)) | omega | (simp; done) | (simp; omega))))) hn (hV.bel (by (repeat' (first | (with_reducible exact bel_refl _) | (with_reducible assumption) | (with_reducible refine bel_drew ?_) | (with_reducible refine bel_drewN ?_) | (with_reducible refine bel_alloc ?_) | (with_reducible refine bel_set ?_ ?_) | (with_reducible refine bel_trans ?_ (by with_reducible assumption)) | omega | (simp; done) | (simp; omega))))) hq).mono ?_; rintro _ w1 ⟨rfl, hB1⟩; rw [risesIn_eq]; (first | (with_reducible replace hB2 := bel_trans hB2 hB1) | (with_reducible replace hB2 := bel_trans (bel_alloc hB2) hB1)); obtain ⟨hC1, hF1⟩ := bcell hB2; replace hB1 := hB1) | (go_at_call 39; refine (l12Minute _ _).mono ?_; rintro _ w1 ⟨rfl, rfl⟩))
        go_ret2; exact ⟨some ⟨w.heap.size, 0, none⟩, 0, 0, by rw [hR.out]; rfl, by rw [hR.out]; exact Own.mk_ (own_bel (own_empty (Nat.le_refl _)) hB1), by (repeat' (first | (with_reducible exact bel_refl _) | (with_reducible assumption) | (with_reducible refine bel_drew ?_) | (with_reducible refine bel_drewN ?_) | (with_reducible refine bel_alloc ?_) | (with_reducible refine bel_set ?_ ?_) | (with_reducible refine bel_trans ?_ (by with_reducible assumption)) | omega | (simp; done) | (simp; omega)))⟩
      · rcases h3 : inB m 0 999 with _ | _
        · have hR : Hid (cutR p xs vs m = ([], false)) := by show _ = _; simp [cutR, h3]
          go_enter Try.func24, Try.ntmps24
          go_wp2_with (first | (go_at_call 55; refine (l12Targets _ _ _ _ _ _ _ xs vs _ (hS.bel (by (repeat' (first | (with_reducible exact bel_refl _) | (with_reducible assumption) | (with_reducible refine bel_drew ?_) | (with_reducible refine bel_drewN ?_) | (with_reducible refine bel_alloc ?_) | (with_reducible refine bel_set ?_ ?_) | (with_reducible refine bel_trans ?_ (by with_reducible assumption)) | omega | (simp; done) | (simp; omega))))) hn (hV.bel (by (repeat' (first | (with_reducible exact bel_refl _) | (with_reducible assumption) | (with_reducible refine bel_drew ?_) | (with_reducible refine bel_drewN ?_) | (with_reducible refine bel_alloc ?_) | (with_reducible refine bel_set ?_ ?_) | (with_reducible refine bel_trans ?_ (by with_reducible assumption)) | omega | (simp; done) | (simp; omega))))) hq).mono ?_; rintro _ w1 ⟨rfl, hB1⟩; rw [risesIn_eq]; (first | (with_reducible replace hB2 := bel_trans hB2 hB1) | (with_reducible replace hB2 := bel_trans (bel_alloc hB2) hB1)); obtain ⟨hC1, hF1⟩ := bcell hB2; replace hB1 := hB1) | (go_at_call 39; refine (l12Minute _ _).mono ?_; rintro _ w1 ⟨rfl, rfl⟩))
          go_ret2; exact ⟨some ⟨w.heap.size, 0, none⟩, 0, 0, by rw [hR.out]; rfl, by rw [hR.out]; exact Own.mk_ (own_bel (own_empty (Nat.le_refl _)) hB1), by (repeat' (first | (with_reducible exact bel_refl _) | (with_reducible assumption) | (with_reducible refine bel_drew ?_) | (with_reducible refine bel_drewN ?_) | (with_reducible refine bel_alloc ?_) | (with_reducible refine bel_set ?_ ?_) | (with_reducible refine bel_trans ?_ (by with_reducible assumption)) | omega | (simp; done) | (simp; omega)))⟩
        · have hb := netB_bd hg
          obtain ⟨P, rfl⟩ := Int.eq_ofNat_of_zero_le (show 0 ≤ p by omega)
          have hR : Hid (cutR P xs vs m = (cutL P xs vs m P, true)) := by show _ = _; unfold cutR; rw [hg, h1, h2, h3]; simp
          have hg9 := hid hg
          have h19 := hid h1
          go_enter Try.func24, Try.ntmps24
          go_wp2_with (first | (go_at_call 55; refine (l12Targets _ _ _ _ _ _ _ xs vs _ (hS.bel (by (repeat' (first | (with_reducible exact bel_refl _) | (with_reducible assumption) | (with_reducible refine bel_drew ?_) | (with_reducible refine bel_drewN ?_) | (with_reducible refine bel_alloc ?_) | (with_reducible refine bel_set ?_ ?_) | (with_reducible refine bel_trans ?_ (by with_reducible assumption)) | omega | (simp; done) | (simp; omega))))) hn (hV.bel (by (repeat' (first | (with_reducible exact bel_refl _) | (with_reducible assumption) | (with_reducible refine bel_drew ?_) | (with_reducible refine bel_drewN ?_) | (with_reducible refine bel_alloc ?_) | (with_reducible refine bel_set ?_ ?_) | (with_reducible refine bel_trans ?_ (by with_reducible assumption)) | omega | (simp; done) | (simp; omega))))) hq).mono ?_; rintro _ w1 ⟨rfl, hB1⟩; rw [risesIn_eq]; (first | (with_reducible replace hB2 := bel_trans hB2 hB1) | (with_reducible replace hB2 := bel_trans (bel_alloc hB2) hB1)); obtain ⟨hC1, hF1⟩ := bcell hB2; replace hB1 := hB1) | (go_at_call 39; refine (l12Minute _ _).mono ?_; rintro _ w1 ⟨rfl, rfl⟩))
          clear hg h1 h2 h3
          go_loopw [10, 11] (fun o v wr => ∃ a : Nat, a ≤ P ∧ v = .int .i64 a ∧ (∃ A' k c', o = .slice A' k c' ∧ wr.ownsRow w.heap.size 3 1 (.slice A' k c') k (ints (cutL P xs vs m a))) ∧ Below w.heap.size w wr) (fun _ v _ => P - (intOf v).toNat)
          case atStart => exact ⟨0, by omega, rfl, ⟨_, _, _, rfl, by first | (simpa [cutL, ints] using own_bel (own_empty (w := w) (size := 1) (e := 3) (Nat.le_refl _)) hB1) | (simpa [cutL, ints] using own_low (own_empty (w := w1) (size := 1) (e := 3) (Nat.le_refl _)) hB2.size)⟩, by (repeat' (first | (with_reducible exact bel_refl _) | (with_reducible assumption) | (with_reducible refine bel_drew ?_) | (with_reducible refine bel_drewN ?_) | (with_reducible refine bel_alloc ?_) | (with_reducible refine bel_set ?_ ?_) | (with_reducible refine bel_trans ?_ (by with_reducible assumption)) | omega | (simp; done) | (simp; omega)))⟩
          case round =>
            clear hB1 hB2
            obtain ⟨a, ha', rfl, ⟨A', k, c', rfl, hown⟩, hB2⟩ := hrel
            by_cases hlt : a < P
            · have hk : k ≤ a := by
                have h2 := hown.1
                rw [ints_len] at h2
                have h3 := cut_len P xs vs m a
                omega
              obtain ⟨L, hL⟩ : ∃ L, lastL P xs a vs = L := ⟨_, rfl⟩
              rcases hh : hasB vs a with _ | _
              · by_cases hl : L < m
                · have hcb := hid (show cutB P xs vs m a = true by simp [cutB, hh, hL, hl])
                  go_wp2_with (first | (go_at_call 56; refine (l1Has _ _ _ vs _ _ (hV.bel (by (repeat' (first | (with_reducible exact bel_refl _) | (with_reducible assumption) | (with_reducible refine bel_drew ?_) | (with_reducible refine bel_drewN ?_) | (with_reducible refine bel_alloc ?_) | (with_reducible refine bel_set ?_ ?_) | (with_reducible refine bel_trans ?_ (by with_reducible assumption)) | omega | (simp; done) | (simp; omega))))) hq).mono ?_; rintro _ w1 ⟨rfl, rfl⟩) | (go_at_call 57; refine (l12Last _ _ _ _ _ _ P a xs vs _ (hS.bel (by (repeat' (first | (with_reducible exact bel_refl _) | (with_reducible assumption) | (with_reducible refine bel_drew ?_) | (with_reducible refine bel_drewN ?_) | (with_reducible refine bel_alloc ?_) | (with_reducible refine bel_set ?_ ?_) | (with_reducible refine bel_trans ?_ (by with_reducible assumption)) | omega | (simp; done) | (simp; omega))))) (hV.bel (by (repeat' (first | (with_reducible exact bel_refl _) | (with_reducible assumption) | (with_reducible refine bel_drew ?_) | (with_reducible refine bel_drewN ?_) | (with_reducible refine bel_alloc ?_) | (with_reducible refine bel_set ?_ ?_) | (with_reducible refine bel_trans ?_ (by with_reducible assumption)) | omega | (simp; done) | (simp; omega))))) hq hg9.out h19.out hlt).mono ?_; rw [hL]; rintro _ w2 ⟨rfl, hB1⟩; replace hB2 := bel_trans hB2 hB1; replace hown := own_bel hown hB1) | (at_builtin; refine wpList_push rfl (.tmp 42) (.tmp 44) 27 rfl w.heap.size 3 (.int .i64 0) 1 8 Try.underlying27 info_int rfl (by omega) A' k c' _ [.int .i64 (a : Int)] 3 rfl hown rfl rfl (oneCell_int _) (by omega) (by omega) hB2.size ?_; intro A'' c'' w3 hown2 hb3 hg3))
                  go_roundw
                  case rel => exact ⟨a + 1, by omega, by go_num, ⟨_, _, _, rfl, by rw [← cut_yes hcb.out, ← ints_snoc]; exact hown2⟩, hB2.trans hb3⟩
                  case measure => simp [intOf]; omega
                · have hcb := hid (show cutB P xs vs m a = false by simp [cutB, hL, hl])
                  go_wp2_with (first | (go_at_call 56; refine (l1Has _ _ _ vs _ _ (hV.bel (by (repeat' (first | (with_reducible exact bel_refl _) | (with_reducible assumption) | (with_reducible refine bel_drew ?_) | (with_reducible refine bel_drewN ?_) | (with_reducible refine bel_alloc ?_) | (with_reducible refine bel_set ?_ ?_) | (with_reducible refine bel_trans ?_ (by with_reducible assumption)) | omega | (simp; done) | (simp; omega))))) hq).mono ?_; rintro _ w1 ⟨rfl, rfl⟩) | (go_at_call 57; refine (l12Last _ _ _ _ _ _ P a xs vs _ (hS.bel (by (repeat' (first | (with_reducible exact bel_refl _) | (with_reducible assumption) | (with_reducible refine bel_drew ?_) | (with_reducible refine bel_drewN ?_) | (with_reducible refine bel_alloc ?_) | (with_reducible refine bel_set ?_ ?_) | (with_reducible refine bel_trans ?_ (by with_reducible assumption)) | omega | (simp; done) | (simp; omega))))) (hV.bel (by (repeat' (first | (with_reducible exact bel_refl _) | (with_reducible assumption) | (with_reducible refine bel_drew ?_) | (with_reducible refine bel_drewN ?_) | (with_reducible refine bel_alloc ?_) | (with_reducible refine bel_set ?_ ?_) | (with_reducible refine bel_trans ?_ (by with_reducible assumption)) | omega | (simp; done) | (simp; omega))))) hq hg9.out h19.out hlt).mono ?_; rw [hL]; rintro _ w2 ⟨rfl, hB1⟩; replace hB2 := bel_trans hB2 hB1; replace hown := own_bel hown hB1))
                  go_roundw
                  case rel => exact ⟨a + 1, by omega, by go_num, ⟨_, _, _, rfl, by rw [← cut_no hcb.out]; exact hown⟩, hB2⟩
                  case measure => simp [intOf]; omega
              · have hcb := hid (show cutB P xs vs m a = false by simp [cutB, hh])
                go_wp2_with (go_at_call 56; refine (l1Has _ _ _ vs _ _ (hV.bel (by (repeat' (first | (with_reducible exact bel_refl _) | (with_reducible assumption) | (with_reducible refine bel_drew ?_) | (with_reducible refine bel_drewN ?_) | (with_reducible refine bel_alloc ?_) | (with_reducible refine bel_set ?_ ?_) | (with_reducible refine bel_trans ?_ (by with_reducible assumption)) | omega | (simp; done) | (simp; omega))))) hq).mono ?_; rintro _ w1 ⟨rfl, rfl⟩)
                go_roundw
                case rel => exact ⟨a + 1, by omega, by go_num, ⟨_, _, _, rfl, by rw [← cut_no hcb.out]; exact hown⟩, hB2⟩
                case measure => simp [intOf]; omega
            · go_wp2
              go_ret2
              have e : a = P := by omega
              subst e
              exact ⟨A', k, c', by rw [hR.out]; rfl, by rw [hR.out]; exact Own.mk_ hown, hB2⟩

set_option maxHeartbeats 1000000 in
theorem cutI (p : Int) (A : Option Addr) (n c : Nat) (xs : List Road) (B : Option Addr) (q d : Nat) (vs : List Int) (m : Int) (w : World) (hS : Sl w 4 A n c (xs.flatMap Road.row)) (hn : n ≤ 1048576) (hV : Sl w 1 B q d (ints vs)) (hq : q ≤ 1048576) :
    Calls Try.prog 23 #[.int .i64 p, .slice A n c, .slice B q d, .int .i64 m] w fun e w' => ∃ A' n' c', e = .returned (.tuple #[.slice A' n' c', .bool (cutR p xs vs m).2]) ∧ Own w.heap.size w'.heap.size w' 3 1 A' n' c' (ints (cutR p xs vs m).1) ∧ Below w.heap.size w w' := by
  have hB2 := bel_refl w
  rcases hg : netB p xs with _ | _
  · have hR : Hid (cutR p xs vs m = ([], false)) := by show _ = _; simp [cutR, hg]
    go_enter Try.func23, Try.ntmps23
    go_wp2_with (first | (go_at_call 35; with_reducible refine (isPlace _ A B n c q d xs vs _ (hS.bel (by (repeat' (first | (with_reducible exact bel_refl _) | (with_reducible assumption) | (with_reducible refine bel_drew ?_) | (with_reducible refine bel_drewN ?_) | (with_reducible refine bel_alloc ?_) | (with_reducible refine bel_set ?_ ?_) | (with_reducible refine bel_trans ?_ (by with_reducible assumption)) | omega | (simp; done) | (simp; omega))))) hn (hV.bel (by (repeat' (first | (with_reducible exact bel_refl _) | (with_reducible assumption) | (with_reducible refine bel_drew ?_) | (with_reducible refine bel_drewN ?_) | (with_reducible refine bel_alloc ?_) | (with_reducible refine bel_set ?_ ?_) | (with_reducible refine bel_trans ?_ (by with_reducible assumption)) | omega | (simp; done) | (simp; omega))))) hq).mono ?_; rintro _ w1 ⟨rfl, hB1⟩; replace hB2 := bel_trans hB2 hB1; obtain ⟨hC1, hF1⟩ := bcell hB2; replace hB1 := hB1) | (go_at_call 52; refine (isRising _ _ _ vs _ (hV.bel (by (repeat' (first | (with_reducible exact bel_refl _) | (with_reducible assumption) | (with_reducible refine bel_drew ?_) | (with_reducible refine bel_drewN ?_) | (with_reducible refine bel_alloc ?_) | (with_reducible refine bel_set ?_ ?_) | (with_reducible refine bel_trans ?_ (by with_reducible assumption)) | omega | (simp; done) | (simp; omega))))) hq).mono ?_; rintro _ w1 ⟨rfl, hB1⟩; (first | (with_reducible replace hB2 := bel_trans hB2 hB1) | (with_reducible replace hB2 := bel_trans (bel_alloc hB2) hB1)); obtain ⟨hC1, hF1⟩ := bcell hB2; replace hB1 := hB1) | (go_at_call 36; refine (isMinute _ _).mono ?_; rintro _ w1 ⟨rfl, rfl⟩))
    go_ret2; exact ⟨none, 0, 0, by rw [hR.out]; rfl, by rw [hR.out]; exact Own.mk_ (World.ownsRow_nil _ _ _ _), by (repeat' (first | (with_reducible exact bel_refl _) | (with_reducible assumption) | (with_reducible refine bel_drew ?_) | (with_reducible refine bel_drewN ?_) | (with_reducible refine bel_alloc ?_) | (with_reducible refine bel_set ?_ ?_) | (with_reducible refine bel_trans ?_ (by with_reducible assumption)) | omega | (simp; done) | (simp; omega)))⟩
  · rcases h1 : placesB p vs with _ | _
    · have hR : Hid (cutR p xs vs m = ([], false)) := by show _ = _; simp [cutR, h1]
      go_enter Try.func23, Try.ntmps23
      go_wp2_with (first | (go_at_call 35; with_reducible refine (isPlace _ A B n c q d xs vs _ (hS.bel (by (repeat' (first | (with_reducible exact bel_refl _) | (with_reducible assumption) | (with_reducible refine bel_drew ?_) | (with_reducible refine bel_drewN ?_) | (with_reducible refine bel_alloc ?_) | (with_reducible refine bel_set ?_ ?_) | (with_reducible refine bel_trans ?_ (by with_reducible assumption)) | omega | (simp; done) | (simp; omega))))) hn (hV.bel (by (repeat' (first | (with_reducible exact bel_refl _) | (with_reducible assumption) | (with_reducible refine bel_drew ?_) | (with_reducible refine bel_drewN ?_) | (with_reducible refine bel_alloc ?_) | (with_reducible refine bel_set ?_ ?_) | (with_reducible refine bel_trans ?_ (by with_reducible assumption)) | omega | (simp; done) | (simp; omega))))) hq).mono ?_; rintro _ w1 ⟨rfl, hB1⟩; replace hB2 := bel_trans hB2 hB1; obtain ⟨hC1, hF1⟩ := bcell hB2; replace hB1 := hB1) | (go_at_call 52; refine (isRising _ _ _ vs _ (hV.bel (by (repeat' (first | (with_reducible exact bel_refl _) | (with_reducible assumption) | (with_reducible refine bel_drew ?_) | (with_reducible refine bel_drewN ?_) | (with_reducible refine bel_alloc ?_) | (with_reducible refine bel_set ?_ ?_) | (with_reducible refine bel_trans ?_ (by with_reducible assumption)) | omega | (simp; done) | (simp; omega))))) hq).mono ?_; rintro _ w1 ⟨rfl, hB1⟩; (first | (with_reducible replace hB2 := bel_trans hB2 hB1) | (with_reducible replace hB2 := bel_trans (bel_alloc hB2) hB1)); obtain ⟨hC1, hF1⟩ := bcell hB2; replace hB1 := hB1) | (go_at_call 36; refine (isMinute _ _).mono ?_; rintro _ w1 ⟨rfl, rfl⟩))
      go_ret2; exact ⟨none, 0, 0, by rw [hR.out]; rfl, by rw [hR.out]; exact Own.mk_ (World.ownsRow_nil _ _ _ _), by (repeat' (first | (with_reducible exact bel_refl _) | (with_reducible assumption) | (with_reducible refine bel_drew ?_) | (with_reducible refine bel_drewN ?_) | (with_reducible refine bel_alloc ?_) | (with_reducible refine bel_set ?_ ?_) | (with_reducible refine bel_trans ?_ (by with_reducible assumption)) | omega | (simp; done) | (simp; omega)))⟩
    · rcases h2 : risesB vs with _ | _
      · have hR : Hid (cutR p xs vs m = ([], false)) := by show _ = _; simp [cutR, h2]
        go_enter Try.func23, Try.ntmps23
        go_wp2_with (first | (go_at_call 35; with_reducible refine (isPlace _ A B n c q d xs vs _ (hS.bel (by (repeat' (first | (with_reducible exact bel_refl _) | (with_reducible assumption) | (with_reducible refine bel_drew ?_) | (with_reducible refine bel_drewN ?_) | (with_reducible refine bel_alloc ?_) | (with_reducible refine bel_set ?_ ?_) | (with_reducible refine bel_trans ?_ (by with_reducible assumption)) | omega | (simp; done) | (simp; omega))))) hn (hV.bel (by (repeat' (first | (with_reducible exact bel_refl _) | (with_reducible assumption) | (with_reducible refine bel_drew ?_) | (with_reducible refine bel_drewN ?_) | (with_reducible refine bel_alloc ?_) | (with_reducible refine bel_set ?_ ?_) | (with_reducible refine bel_trans ?_ (by with_reducible assumption)) | omega | (simp; done) | (simp; omega))))) hq).mono ?_; rintro _ w1 ⟨rfl, hB1⟩; replace hB2 := bel_trans hB2 hB1; obtain ⟨hC1, hF1⟩ := bcell hB2; replace hB1 := hB1) | (go_at_call 52; refine (isRising _ _ _ vs _ (hV.bel (by (repeat' (first | (with_reducible exact bel_refl _) | (with_reducible assumption) | (with_reducible refine bel_drew ?_) | (with_reducible refine bel_drewN ?_) | (with_reducible refine bel_alloc ?_) | (with_reducible refine bel_set ?_ ?_) | (with_reducible refine bel_trans ?_ (by with_reducible assumption)) | omega | (simp; done) | (simp; omega))))) hq).mono ?_; rintro _ w1 ⟨rfl, hB1⟩; (first | (with_reducible replace hB2 := bel_trans hB2 hB1) | (with_reducible replace hB2 := bel_trans (bel_alloc hB2) hB1)); obtain ⟨hC1, hF1⟩ := bcell hB2; replace hB1 := hB1) | (go_at_call 36; refine (isMinute _ _).mono ?_; rintro _ w1 ⟨rfl, rfl⟩))
        go_ret2; exact ⟨none, 0, 0, by rw [hR.out]; rfl, by rw [hR.out]; exact Own.mk_ (World.ownsRow_nil _ _ _ _), by (repeat' (first | (with_reducible exact bel_refl _) | (with_reducible assumption) | (with_reducible refine bel_drew ?_) | (with_reducible refine bel_drewN ?_) | (with_reducible refine bel_alloc ?_) | (with_reducible refine bel_set ?_ ?_) | (with_reducible refine bel_trans ?_ (by with_reducible assumption)) | omega | (simp; done) | (simp; omega)))⟩
      · rcases h3 : inB m 0 999 with _ | _
        · have hR : Hid (cutR p xs vs m = ([], false)) := by show _ = _; simp [cutR, h3]
          go_enter Try.func23, Try.ntmps23
          go_wp2_with (first | (go_at_call 35; with_reducible refine (isPlace _ A B n c q d xs vs _ (hS.bel (by (repeat' (first | (with_reducible exact bel_refl _) | (with_reducible assumption) | (with_reducible refine bel_drew ?_) | (with_reducible refine bel_drewN ?_) | (with_reducible refine bel_alloc ?_) | (with_reducible refine bel_set ?_ ?_) | (with_reducible refine bel_trans ?_ (by with_reducible assumption)) | omega | (simp; done) | (simp; omega))))) hn (hV.bel (by (repeat' (first | (with_reducible exact bel_refl _) | (with_reducible assumption) | (with_reducible refine bel_drew ?_) | (with_reducible refine bel_drewN ?_) | (with_reducible refine bel_alloc ?_) | (with_reducible refine bel_set ?_ ?_) | (with_reducible refine bel_trans ?_ (by with_reducible assumption)) | omega | (simp; done) | (simp; omega))))) hq).mono ?_; rintro _ w1 ⟨rfl, hB1⟩; replace hB2 := bel_trans hB2 hB1; obtain ⟨hC1, hF1⟩ := bcell hB2; replace hB1 := hB1) | (go_at_call 52; refine (isRising _ _ _ vs _ (hV.bel (by (repeat' (first | (with_reducible exact bel_refl _) | (with_reducible assumption) | (with_reducible refine bel_drew ?_) | (with_reducible refine bel_drewN ?_) | (with_reducible refine bel_alloc ?_) | (with_reducible refine bel_set ?_ ?_) | (with_reducible refine bel_trans ?_ (by with_reducible assumption)) | omega | (simp; done) | (simp; omega))))) hq).mono ?_; rintro _ w1 ⟨rfl, hB1⟩; (first | (with_reducible replace hB2 := bel_trans hB2 hB1) | (with_reducible replace hB2 := bel_trans (bel_alloc hB2) hB1)); obtain ⟨hC1, hF1⟩ := bcell hB2; replace hB1 := hB1) | (go_at_call 36; refine (isMinute _ _).mono ?_; rintro _ w1 ⟨rfl, rfl⟩))
          go_ret2; exact ⟨none, 0, 0, by rw [hR.out]; rfl, by rw [hR.out]; exact Own.mk_ (World.ownsRow_nil _ _ _ _), by (repeat' (first | (with_reducible exact bel_refl _) | (with_reducible assumption) | (with_reducible refine bel_drew ?_) | (with_reducible refine bel_drewN ?_) | (with_reducible refine bel_alloc ?_) | (with_reducible refine bel_set ?_ ?_) | (with_reducible refine bel_trans ?_ (by with_reducible assumption)) | omega | (simp; done) | (simp; omega)))⟩
        · have hb := netB_bd hg
          obtain ⟨P, rfl⟩ := Int.eq_ofNat_of_zero_le (show 0 ≤ p by omega)
          have hR : Hid (cutR P xs vs m = (cutL P xs vs m P, true)) := by show _ = _; unfold cutR; rw [hg, h1, h2, h3]; simp
          have hg9 := hid hg
          have h19 := hid h1
          go_enter Try.func23, Try.ntmps23
          go_wp2_with (first | (go_at_call 35; with_reducible refine (isPlace _ A B n c q d xs vs _ (hS.bel (by (repeat' (first | (with_reducible exact bel_refl _) | (with_reducible assumption) | (with_reducible refine bel_drew ?_) | (with_reducible refine bel_drewN ?_) | (with_reducible refine bel_alloc ?_) | (with_reducible refine bel_set ?_ ?_) | (with_reducible refine bel_trans ?_ (by with_reducible assumption)) | omega | (simp; done) | (simp; omega))))) hn (hV.bel (by (repeat' (first | (with_reducible exact bel_refl _) | (with_reducible assumption) | (with_reducible refine bel_drew ?_) | (with_reducible refine bel_drewN ?_) | (with_reducible refine bel_alloc ?_) | (with_reducible refine bel_set ?_ ?_) | (with_reducible refine bel_trans ?_ (by with_reducible assumption)) | omega | (simp; done) | (simp; omega))))) hq).mono ?_; rintro _ w1 ⟨rfl, hB1⟩; replace hB2 := bel_trans hB2 hB1; obtain ⟨hC1, hF1⟩ := bcell hB2; replace hB1 := hB1) | (go_at_call 52; refine (isRising _ _ _ vs _ (hV.bel (by (repeat' (first | (with_reducible exact bel_refl _) | (with_reducible assumption) | (with_reducible refine bel_drew ?_) | (with_reducible refine bel_drewN ?_) | (with_reducible refine bel_alloc ?_) | (with_reducible refine bel_set ?_ ?_) | (with_reducible refine bel_trans ?_ (by with_reducible assumption)) | omega | (simp; done) | (simp; omega))))) hq).mono ?_; rintro _ w1 ⟨rfl, hB1⟩; (first | (with_reducible replace hB2 := bel_trans hB2 hB1) | (with_reducible replace hB2 := bel_trans (bel_alloc hB2) hB1)); obtain ⟨hC1, hF1⟩ := bcell hB2; replace hB1 := hB1) | (go_at_call 36; refine (isMinute _ _).mono ?_; rintro _ w1 ⟨rfl, rfl⟩))
          clear hg h1 h2 h3
          go_loopw [10, 11, 29] (fun o _ v wr => ∃ a : Nat, a ≤ P ∧ v = .int .i64 a ∧ (∃ A' k c', o = .slice A' k c' ∧ wr.ownsRow w.heap.size 3 1 (.slice A' k c') k (ints (cutL P xs vs m a))) ∧ Below w.heap.size w wr) (fun _ _ v _ => P - (intOf v).toNat)
          case atStart => exact ⟨0, by omega, rfl, ⟨_, _, _, rfl, by first | (simpa [cutL, ints] using own_bel (own_empty (w := w) (size := 1) (e := 3) (Nat.le_refl _)) hB1) | (simpa [cutL, ints] using own_low (own_empty (w := w1) (size := 1) (e := 3) (Nat.le_refl _)) hB2.size)⟩, by (repeat' (first | (with_reducible exact bel_refl _) | (with_reducible assumption) | (with_reducible refine bel_drew ?_) | (with_reducible refine bel_drewN ?_) | (with_reducible refine bel_alloc ?_) | (with_reducible refine bel_set ?_ ?_) | (with_reducible refine bel_trans ?_ (by with_reducible assumption)) | omega | (simp; done) | (simp; omega)))⟩
          case round =>
            clear hB1 hB2
            obtain ⟨a, ha', rfl, ⟨A', k, c', rfl, hown⟩, hB2⟩ := hrel
            by_cases hlt : a < P
            · have hk : k ≤ a := by
                have h2 := hown.1
                rw [ints_len] at h2
                have h3 := cut_len P xs vs m a
                omega
              obtain ⟨L, hL⟩ : ∃ L, lastL P xs a vs = L := ⟨_, rfl⟩
              rcases hh : hasB vs a with _ | _
              · by_cases hl : L < m
                · have hcb := hid (show cutB P xs vs m a = true by simp [cutB, hh, hL, hl])
                  go_wp2_with (first | (go_at_call 53; refine (hasI _ _ _ vs _ _ (hV.bel (by (repeat' (first | (with_reducible exact bel_refl _) | (with_reducible assumption) | (with_reducible refine bel_drew ?_) | (with_reducible refine bel_drewN ?_) | (with_reducible refine bel_alloc ?_) | (with_reducible refine bel_set ?_ ?_) | (with_reducible refine bel_trans ?_ (by with_reducible assumption)) | omega | (simp; done) | (simp; omega))))) hq).mono ?_; rintro _ w1 ⟨rfl, rfl⟩) | (go_at_call 54; refine (lastMinuteI _ _ _ _ _ _ P a xs vs _ (hS.bel (by (repeat' (first | (with_reducible exact bel_refl _) | (with_reducible assumption) | (with_reducible refine bel_drew ?_) | (with_reducible refine bel_drewN ?_) | (with_reducible refine bel_alloc ?_) | (with_reducible refine bel_set ?_ ?_) | (with_reducible refine bel_trans ?_ (by with_reducible assumption)) | omega | (simp; done) | (simp; omega))))) (hV.bel (by (repeat' (first | (with_reducible exact bel_refl _) | (with_reducible assumption) | (with_reducible refine bel_drew ?_) | (with_reducible refine bel_drewN ?_) | (with_reducible refine bel_alloc ?_) | (with_reducible refine bel_set ?_ ?_) | (with_reducible refine bel_trans ?_ (by with_reducible assumption)) | omega | (simp; done) | (simp; omega))))) hq hg9.out h19.out hlt).mono ?_; rw [hL]; rintro _ w2 ⟨rfl, hB1⟩; replace hB2 := bel_trans hB2 hB1; replace hown := own_bel hown hB1) | (at_builtin; refine wpList_push rfl (.tmp 45) (.tmp 47) 27 rfl w.heap.size 3 (.int .i64 0) 1 8 Try.underlying27 info_int rfl (by omega) A' k c' _ [.int .i64 (a : Int)] 3 rfl hown rfl rfl (oneCell_int _) (by omega) (by omega) hB2.size ?_; intro A'' c'' w3 hown2 hb3 hg3))
                  go_roundw
                  case rel => exact ⟨a + 1, by omega, by go_num, ⟨_, _, _, rfl, by rw [← cut_yes hcb.out, ← ints_snoc]; exact hown2⟩, hB2.trans hb3⟩
                  case measure => simp [intOf]; omega
                · have hcb := hid (show cutB P xs vs m a = false by simp [cutB, hL, hl])
                  go_wp2_with (first | (go_at_call 53; refine (hasI _ _ _ vs _ _ (hV.bel (by (repeat' (first | (with_reducible exact bel_refl _) | (with_reducible assumption) | (with_reducible refine bel_drew ?_) | (with_reducible refine bel_drewN ?_) | (with_reducible refine bel_alloc ?_) | (with_reducible refine bel_set ?_ ?_) | (with_reducible refine bel_trans ?_ (by with_reducible assumption)) | omega | (simp; done) | (simp; omega))))) hq).mono ?_; rintro _ w1 ⟨rfl, rfl⟩) | (go_at_call 54; refine (lastMinuteI _ _ _ _ _ _ P a xs vs _ (hS.bel (by (repeat' (first | (with_reducible exact bel_refl _) | (with_reducible assumption) | (with_reducible refine bel_drew ?_) | (with_reducible refine bel_drewN ?_) | (with_reducible refine bel_alloc ?_) | (with_reducible refine bel_set ?_ ?_) | (with_reducible refine bel_trans ?_ (by with_reducible assumption)) | omega | (simp; done) | (simp; omega))))) (hV.bel (by (repeat' (first | (with_reducible exact bel_refl _) | (with_reducible assumption) | (with_reducible refine bel_drew ?_) | (with_reducible refine bel_drewN ?_) | (with_reducible refine bel_alloc ?_) | (with_reducible refine bel_set ?_ ?_) | (with_reducible refine bel_trans ?_ (by with_reducible assumption)) | omega | (simp; done) | (simp; omega))))) hq hg9.out h19.out hlt).mono ?_; rw [hL]; rintro _ w2 ⟨rfl, hB1⟩; replace hB2 := bel_trans hB2 hB1; replace hown := own_bel hown hB1))
                  go_roundw
                  case rel => exact ⟨a + 1, by omega, by go_num, ⟨_, _, _, rfl, by rw [← cut_no hcb.out]; exact hown⟩, hB2⟩
                  case measure => simp [intOf]; omega
              · have hcb := hid (show cutB P xs vs m a = false by simp [cutB, hh])
                go_wp2_with (go_at_call 53; refine (hasI _ _ _ vs _ _ (hV.bel (by (repeat' (first | (with_reducible exact bel_refl _) | (with_reducible assumption) | (with_reducible refine bel_drew ?_) | (with_reducible refine bel_drewN ?_) | (with_reducible refine bel_alloc ?_) | (with_reducible refine bel_set ?_ ?_) | (with_reducible refine bel_trans ?_ (by with_reducible assumption)) | omega | (simp; done) | (simp; omega))))) hq).mono ?_; rintro _ w1 ⟨rfl, rfl⟩)
                go_roundw
                case rel => exact ⟨a + 1, by omega, by go_num, ⟨_, _, _, rfl, by rw [← cut_no hcb.out]; exact hown⟩, hB2⟩
                case measure => simp [intOf]; omega
            · go_wp2
              go_ret2
              have e : a = P := by omega
              subst e
              exact ⟨A', k, c', by rw [hR.out]; rfl, by rw [hR.out]; exact Own.mk_ hown, hB2⟩

end Go.Proofs.Ytfimchbjpambfaa
