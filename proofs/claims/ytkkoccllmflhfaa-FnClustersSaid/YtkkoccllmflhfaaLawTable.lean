/-
  Equal tables of numbers: walked.
-/
import Derived.Test.YtkkoccllmflhfaaLawFns
import Derived.Test.YtkkoccllmflhfaaSSDataH
namespace Go.Proofs.Ytkkoccllmflhfaa
open Go.RowKit

theorem rTable (A B : Option Addr) (n c d : Nat) (LL : List (List Int)) (w : World) (h : SS w A n c (rows LL)) (h2 : SS w B n d (rows LL)) (hn : n ≤ 1048576) (hm : ∀ l ∈ LL, l.length ≤ 1048576) :
    Calls Try.prog 22 #[.slice A n c, .slice B n d] w fun e w' => e = .returned (.bool true) ∧ Below w.heap.size w w' := by
  have hlh := hid (rows_len LL ▸ h.len)
  go_enter Try.func22, Try.ntmps22
  go_wp2
  go_loopw [5] (fun v wr => ∃ i : Nat, i ≤ n ∧ v = .int .i64 i ∧ Below w.heap.size w wr) (fun v _ => n - (intOf v).toNat)
  case atStart => exact ⟨0, Nat.zero_le _, rfl, by (repeat' (first | (with_reducible exact bel_refl _) | (with_reducible assumption) | (with_reducible refine bel_drew ?_) | (with_reducible refine bel_drewN ?_) | (with_reducible refine bel_alloc ?_) | (with_reducible refine bel_set ?_ ?_) | (with_reducible refine bel_trans ?_ (by with_reducible assumption)) | omega | (simp; done) | (simp; omega)))⟩
  case round =>
    obtain ⟨i, hi', rfl, hB⟩ := hrel
    by_cases hlt : i < n
    · obtain ⟨x, hx⟩ : ∃ x, LL[i]? = some x := get_of_lt (by rw [hlh.out]; exact hlt)
      have hxm := hm x (List.mem_of_getElem? hx)
      obtain ⟨b, o, rfl, hb, a, m, e, c0, hs⟩ := (h.bel hB).at_ (rows_get hx)
      obtain ⟨b', o', rfl, hb', a', m', e', e0, hs'⟩ := (h2.bel hB).at_ (rows_get hx)
      obtain rfl : m = m' := hs.int_len.symm.trans hs'.int_len
      have hml := hs.int_len
      clear hx
      have hB2 := bel_refl wr
      have hc0 : (0 : Int) ≤ (i : Int) := by omega
      have hc1 : (i : Int) < (n : Int) := by omega
      go_wp2_with fail
      (refine wp_region_bel (by kernel_rfl) (by kernel_rfl) ?_; have hD := bel_cells hB2; (repeat (go_big_quiet_step (((go_at_call 26; exact calls_bel (rInts _ _ _ _ _ _ _ (hs.bel (Bel.prop _)) (hs'.bel (Bel.prop _)) (by omega))))))); refine wpQuiet_nil ?_; intro w1 hB1; replace hB2 := bel_trans hB2 hB1; obtain ⟨hC1, hF1⟩ := bcell hB2; clear hD; replace hB1 := hB1)
      go_wp2
      go_roundw
      case rel => exact ⟨i + 1, by omega, by go_num, by (repeat' (first | (with_reducible exact bel_refl _) | (with_reducible assumption) | (with_reducible refine bel_drew ?_) | (with_reducible refine bel_drewN ?_) | (with_reducible refine bel_alloc ?_) | (with_reducible refine bel_set ?_ ?_) | (with_reducible refine bel_trans ?_ (by with_reducible assumption)) | omega | (simp; done) | (simp; omega)))⟩
      case measure => simp [intOf]; omega
    · go_wp2
      go_ret
      exact ⟨rfl, by (repeat' (first | (with_reducible exact bel_refl _) | (with_reducible assumption) | (with_reducible refine bel_drew ?_) | (with_reducible refine bel_drewN ?_) | (with_reducible refine bel_alloc ?_) | (with_reducible refine bel_set ?_ ?_) | (with_reducible refine bel_trans ?_ (by with_reducible assumption)) | omega | (simp; done) | (simp; omega)))⟩
end Go.Proofs.Ytkkoccllmflhfaa
