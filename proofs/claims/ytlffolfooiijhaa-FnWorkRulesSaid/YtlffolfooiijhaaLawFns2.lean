/-
  More of the small functions that the drawn laws are made of: tables, lists of duties, lists of words: walked.
-/
import Derived.Test.YtlffolfooiijhaaLawFns
import Derived.Test.YtlffolfooiijhaaRostStable
import Derived.Test.YtlffolfooiijhaaRostBrTop
namespace Go.Proofs.Ytlffolfooiijhaa
open Go.RowKit

theorem rTable (A B : Option Addr) (n c d : Nat) (LL : List (List Int)) (w : World) (h : SS w A n c (rows LL)) (h2 : SS w B n d (rows LL)) (hn : n ≤ 1048576) (hm : ∀ l ∈ LL, l.length ≤ 1048576) :
    Calls Try.prog 18 #[.slice A n c, .slice B n d] w fun e w' => e = .returned (.bool true) ∧ Below w.heap.size w w' := by
  have hlh := hid (rows_len LL ▸ h.len)
  go_enter Try.func18, Try.ntmps18
  go_wp2
  go_loopw [5] (fun v wr => ∃ i : Nat, i ≤ n ∧ v = .int .i64 i ∧ Below w.heap.size w wr) (fun v _ => n - (intOf v).toNat)
  case atStart => exact ⟨0, Nat.zero_le _, rfl, by (repeat' (first | (with_reducible exact bel_refl _) | (with_reducible assumption) | (with_reducible refine bel_drew ?_) | (with_reducible refine bel_drewN ?_) | (with_reducible refine bel_alloc ?_) | (with_reducible refine bel_set ?_ ?_) | (with_reducible refine bel_trans ?_ (by with_reducible assumption)) | omega | (simp; done) | (simp; omega)))⟩
  case round =>
    obtain ⟨i, hi', rfl, hB⟩ := hrel
    by_cases hlt : i < n
    · obtain ⟨x, hx⟩ : ∃ x, LL[i]? = some x := get_of_lt (by rw [hlh.out]; exact hlt)
      have hxm := hm x (List.mem_of_getElem? hx)
      obtain ⟨b, o, rfl, hb, a, m, e, c0, hs⟩ := (h.bel hB).at_ (rows_get hx)
      obtain ⟨b', o', rfl, hb', a', m', e', e0, hs'⟩ := (h2.bel hB).at_ (rows_get hx)
      obtain rfl : m = m' := hs.int_len.symm.trans hs'.int_len
      have hml := hs.int_len
      clear hx
      have hB2 := bel_refl wr
      have hc0 : (0 : Int) ≤ (i : Int) := by omega
      have hc1 : (i : Int) < (n : Int) := by omega
      go_wp2_with fail
      (refine wp_region_bel (by kernel_rfl) (by kernel_rfl) ?_; have hD := bel_cells hB2; (repeat (go_big_quiet_step (((go_at_call 44; exact calls_bel (rInts _ _ _ _ _ _ _ (hs.bel (Bel.prop _)) (hs'.bel (Bel.prop _)) (by omega))))))); refine wpQuiet_nil ?_; intro w1 hB1; replace hB2 := bel_trans hB2 hB1; obtain ⟨hC1, hF1⟩ := bcell hB2; clear hD; replace hB1 := hB1)
      go_wp2
      go_roundw
      case rel => exact ⟨i + 1, by omega, by go_num, by (repeat' (first | (with_reducible exact bel_refl _) | (with_reducible assumption) | (with_reducible refine bel_drew ?_) | (with_reducible refine bel_drewN ?_) | (with_reducible refine bel_alloc ?_) | (with_reducible refine bel_set ?_ ?_) | (with_reducible refine bel_trans ?_ (by with_reducible assumption)) | omega | (simp; done) | (simp; omega)))⟩
      case measure => simp [intOf]; omega
    · go_wp2
      go_ret
      exact ⟨rfl, by (repeat' (first | (with_reducible exact bel_refl _) | (with_reducible assumption) | (with_reducible refine bel_drew ?_) | (with_reducible refine bel_drewN ?_) | (with_reducible refine bel_alloc ?_) | (with_reducible refine bel_set ?_ ?_) | (with_reducible refine bel_trans ?_ (by with_reducible assumption)) | omega | (simp; done) | (simp; omega)))⟩
set_option maxRecDepth 100000 in
theorem rDuties (A B : Option Addr) (n c d : Nat) (xs : List Duty) (w : World) (h : Sl w 3 A n c (xs.flatMap Duty.row)) (h2 : Sl w 3 B n d (xs.flatMap Duty.row)) (hn : n ≤ 1048577) :
    Calls Try.prog 25 #[.slice A n c, .slice B n d] w fun e w' => e = .returned (.bool true) ∧ Below w.heap.size w w' := by
  go_enter Try.func25, Try.ntmps25
  go_wp2
  go_loopw [5] (fun v wr => ∃ i : Nat, i ≤ n ∧ v = .int .i64 i ∧ Below w.heap.size w wr) (fun v _ => n - (intOf v).toNat)
  case atStart => exact ⟨0, Nat.zero_le _, rfl, by (repeat' (first | (with_reducible exact bel_refl _) | (with_reducible assumption) | (with_reducible refine bel_drew ?_) | (with_reducible refine bel_drewN ?_) | (with_reducible refine bel_alloc ?_) | (with_reducible refine bel_set ?_ ?_) | (with_reducible refine bel_trans ?_ (by with_reducible assumption)) | omega | (simp; done) | (simp; omega)))⟩
  case round =>
    obtain ⟨i, hi', rfl, hB⟩ := hrel
    by_cases hlt : i < n
    · obtain ⟨x, hx⟩ : ∃ x, xs[i]? = some x := get_of_lt (by rw [h.xs_len Duty.row_len (by omega)]; exact hlt)
      obtain ⟨b, o, rfl, hb, c0, c1, c2⟩ := (h.bel hB).duty hx
      obtain ⟨b', o', rfl, hb', e0, e1, e2⟩ := (h2.bel hB).duty hx
      clear hx
      have hB2 := bel_refl wr
      have hc0 : (0 : Int) ≤ (i : Int) := by omega
      have hc1 : (i : Int) < (n : Int) := by omega
      go_wp2_with fail
      (refine wp_region_bel (by kernel_rfl) (by kernel_rfl) ?_; have hD := bel_cells hB2; (repeat (go_big_quiet_step ((fail)))); refine wpQuiet_nil ?_; intro w1 hB1; replace hB2 := bel_trans hB2 hB1; obtain ⟨hC1, hF1⟩ := bcell hB2; clear hD; replace hB1 := hB1)
      go_wp2
      go_roundw
      case rel => exact ⟨i + 1, by omega, by go_num, by (repeat' (first | (with_reducible exact bel_refl _) | (with_reducible assumption) | (with_reducible refine bel_drew ?_) | (with_reducible refine bel_drewN ?_) | (with_reducible refine bel_alloc ?_) | (with_reducible refine bel_set ?_ ?_) | (with_reducible refine bel_trans ?_ (by with_reducible assumption)) | omega | (simp; done) | (simp; omega)))⟩
      case measure => simp [intOf]; omega
    · go_wp2
      go_ret
      exact ⟨rfl, by (repeat' (first | (with_reducible exact bel_refl _) | (with_reducible assumption) | (with_reducible refine bel_drew ?_) | (with_reducible refine bel_drewN ?_) | (with_reducible refine bel_alloc ?_) | (with_reducible refine bel_set ?_ ?_) | (with_reducible refine bel_trans ?_ (by with_reducible assumption)) | omega | (simp; done) | (simp; omega)))⟩
theorem rTexts (A B : Option Addr) (n c d : Nat) (xs : List ByteArray) (w : World) (h : Sl w 1 A n c (strs xs)) (h2 : Sl w 1 B n d (strs xs)) (hn : n ≤ 1048576) :
    Calls Try.prog 33 #[.slice A n c, .slice B n d] w fun e w' => e = .returned (.bool true) ∧ Below w.heap.size w w' := by
  go_enter Try.func33, Try.ntmps33
  go_wp2
  go_loopw [5] (fun v wr => ∃ i : Nat, i ≤ n ∧ v = .int .i64 i ∧ Below w.heap.size w wr) (fun v _ => n - (intOf v).toNat)
  case atStart => exact ⟨0, Nat.zero_le _, rfl, by (repeat' (first | (with_reducible exact bel_refl _) | (with_reducible assumption) | (with_reducible refine bel_drew ?_) | (with_reducible refine bel_drewN ?_) | (with_reducible refine bel_alloc ?_) | (with_reducible refine bel_set ?_ ?_) | (with_reducible refine bel_trans ?_ (by with_reducible assumption)) | omega | (simp; done) | (simp; omega)))⟩
  case round =>
    obtain ⟨i, hi', rfl, hB⟩ := hrel
    by_cases hlt : i < n
    · obtain ⟨x, hx⟩ : ∃ x, xs[i]? = some x := get_of_lt (by rw [h.str_len]; exact hlt)
      obtain ⟨b, o, rfl, hb, c0⟩ := (h.bel hB).str_at hx
      obtain ⟨b', o', rfl, hb', e0⟩ := (h2.bel hB).str_at hx
      clear hx
      have hB2 := bel_refl wr
      have hc0 : (0 : Int) ≤ (i : Int) := by omega
      have hc1 : (i : Int) < (n : Int) := by omega
      go_wp2_with fail
      (refine wp_region_bel (by kernel_rfl) (by kernel_rfl) ?_; have hD := bel_cells hB2; (repeat (go_big_quiet_step ((fail)))); refine wpQuiet_nil ?_; intro w1 hB1; replace hB2 := bel_trans hB2 hB1; obtain ⟨hC1, hF1⟩ := bcell hB2; clear hD; replace hB1 := hB1)
      go_wp2
      go_roundw
      case rel => exact ⟨i + 1, by omega, by go_num, by (repeat' (first | (with_reducible exact bel_refl _) | (with_reducible assumption) | (with_reducible refine bel_drew ?_) | (with_reducible refine bel_drewN ?_) | (with_reducible refine bel_alloc ?_) | (with_reducible refine bel_set ?_ ?_) | (with_reducible refine bel_trans ?_ (by with_reducible assumption)) | omega | (simp; done) | (simp; omega)))⟩
      case measure => simp [intOf]; omega
    · go_wp2
      go_ret
      exact ⟨rfl, by (repeat' (first | (with_reducible exact bel_refl _) | (with_reducible assumption) | (with_reducible refine bel_drew ?_) | (with_reducible refine bel_drewN ?_) | (with_reducible refine bel_alloc ?_) | (with_reducible refine bel_set ?_ ?_) | (with_reducible refine bel_trans ?_ (by with_reducible assumption)) | omega | (simp; done) | (simp; omega)))⟩
theorem bl_beq (x y : ByteArray) : (x.toList == y.toList) = decide (x = y) := by
  rw [ByteArray.toList_eq, ByteArray.toList_eq, Bool.eq_iff_iff, beq_iff_eq, decide_eq_true_iff]
  constructor
  · intro h; exact ByteArray.ext (Array.ext' h)
  · intro h; rw [h]
theorem rHasText (A : Option Addr) (n c : Nat) (xs : List ByteArray) (v : ByteArray) (w : World) (hS : Sl w 1 A n c (strs xs)) (hn : n ≤ 1048576) :
    Calls Try.prog 34 #[.slice A n c, .string v] w fun e w' => e = .returned (.bool (xs.any fun x => decide (x = v))) ∧ w = w' := by
  have hlh := hid hS.str_len
  go_enter Try.func34, Try.ntmps34
  go_wp2
  go_loopw [5] (fun u wr => ∃ i : Nat, i ≤ n ∧ u = .int .i64 i ∧ (Hid (∀ r, r < i → ∀ u, xs[r]? = some u → decide (u = v) = false)) ∧ w = wr) (fun v _ => n - (intOf v).toNat)
  case atStart => exact ⟨0, by omega, rfl, fun r hr => absurd hr (by omega), rfl⟩
  case round =>
    obtain ⟨i, hi', rfl, hall, rfl⟩ := hrel
    by_cases hlt : i < n
    · obtain ⟨x, hx⟩ : ∃ x, xs[i]? = some x := get_of_lt (by rw [hlh.out]; exact hlt)
      obtain ⟨b, o, rfl, hb, c0⟩ := hS.str_at hx
      have hX := hid hx
      clear hx
      have hi1 : (i : Int) < (n : Int) := by omega
      have hT := bl_beq x v
      rcases hq : decide (x = v) with _ | _ <;> rw [hq] at hT
      · replace hq := hid hq
        go_wp2
        go_roundw
        case rel => exact ⟨i + 1, by omega, by go_num, fun r hr u hu => (by
          rcases Nat.lt_or_ge r i with h1 | h1
          · exact hall.out r h1 u hu
          · rw [show r = i by omega, hX.out] at hu
            simp only [Option.some.injEq] at hu
            rw [← hu]; exact hq.out), by simp⟩
        case measure => simp [intOf]; omega
      · have hR := hid (show (xs.any fun x => decide (x = v)) = true from List.any_eq_true.2 ⟨x, List.mem_of_getElem? hX.out, hq⟩)
        clear hq
        go_wp2
        go_ret
        exact ⟨ret_bool hR.out.symm, rfl⟩
    · have hi1 : ¬ (i : Int) < (n : Int) := by omega
      have hR := hid (show (xs.any fun x => decide (x = v)) = false from by
        rw [List.any_eq_false]
        intro x hx
        obtain ⟨r, hr⟩ := List.getElem?_of_mem hx
        have := hall.out r (by have h1 := (List.getElem?_eq_some_iff.1 hr).1; rw [hlh.out] at h1; omega) x hr
        simp [this])
      go_wp2
      go_ret
      exact ⟨ret_bool hR.out.symm, rfl⟩
end Go.Proofs.Ytlffolfooiijhaa
