/-
  The laws' own function that copies a slice of numbers, walked.
-/
import Derived.Test.YtodmkiikcfdklaaRoadData
namespace Go.Proofs.Ytodmkiikcfdklaa
open Go.RowKit

theorem toIntS (A : Option Addr) (n c : Nat) (xs : List Int) (w : World) (h : Sl w 1 A n c (ints xs)) (hn : n ≤ 1048576) :
    Calls Try.prog 41 #[.slice A n c] w fun e w' => ∃ g, e = .returned (.slice (some ⟨g, 0, none⟩) n n) ∧ Own w.heap.size w'.heap.size w' 3 1 (some ⟨g, 0, none⟩) n n (ints xs) ∧ Below w.heap.size w w' := by
  obtain ⟨i0, hi, hz0, hz1, hz2⟩ := info_parts info_int
  go_enter Try.func41, Try.ntmps41
  go_wp2_with (at_make; refine wpList_make_full _ rfl _ _ 27 rfl w.heap.size 3 i0 _ 1 Try.underlying27 hi hz0 hz1 _ _ _ _ n rfl rfl rfl rfl (by rw [hz2]; omega) (by simp [maxLen]; omega) (Nat.le_refl _) ?_; intro w1 hown hg)
  have hb1 : Below w.heap.size w w1 := (Below.refl _ _).grown hg (Nat.le_refl _) (by simp)
  generalize hZ : (madeCells (Value.int .i64 0).cells (n * 1)).toList = Z at hown
  have hZl : Hid ((ints xs).length = Z.length) := by
    show _ = _
    rw [← hZ, h.len]
    simp [madeCells]
  clear hZ
  go_loopw [4] (fun v wr => ∃ i : Nat, i ≤ n ∧ v = .int .i64 i ∧ wr.ownsRow w.heap.size 3 1 (.slice (some ⟨w.heap.size, 0, none⟩) n n) n ((ints xs).take i ++ Z.drop i) ∧ Below w.heap.size w wr) (fun v _ => n - (intOf v).toNat)
  case atStart => exact ⟨0, Nat.zero_le _, rfl, by simpa using hown, hb1⟩
  case round =>
    obtain ⟨i, hi', rfl, hown, hB⟩ := hrel
    by_cases hlt : i < n
    · obtain ⟨x, hx⟩ : ∃ x, xs[i]? = some x := get_of_lt (by rw [h.int_len]; exact hlt)
      obtain ⟨b, o, rfl, hb, c0⟩ := (h.bel hB).int_at hx
      have hX := hid hx
      clear hx
      have hfz := own_fz hown
      obtain ⟨u0, d0⟩ := own_at hown (j := i) (by omega)
      have hsz : w.heap.size < wr.heap.size := (hown.lt _ rfl).2
      go_wp2
      have f0 := ints_get hX.out
      go_roundw
      case rel => exact ⟨i + 1, by omega, by go_num, own_store hown hZl.out f0, by (repeat' (first | (with_reducible exact bel_refl _) | (with_reducible assumption) | (with_reducible refine bel_drew ?_) | (with_reducible refine bel_drewN ?_) | (with_reducible refine bel_alloc ?_) | (with_reducible refine bel_set ?_ ?_) | (with_reducible refine bel_trans ?_ (by with_reducible assumption)) | omega | (simp; done) | (simp; omega)))⟩
      case measure => simp [intOf]; omega
    · go_wp2
      go_ret
      refine ⟨w.heap.size, rfl, ?_, by (repeat' (first | (with_reducible exact bel_refl _) | (with_reducible assumption) | (with_reducible refine bel_drew ?_) | (with_reducible refine bel_drewN ?_) | (with_reducible refine bel_alloc ?_) | (with_reducible refine bel_set ?_ ?_) | (with_reducible refine bel_trans ?_ (by with_reducible assumption)) | omega | (simp; done) | (simp; omega)))⟩
      have e : i = n := by omega
      subst e
      have hl := h.len
      rw [List.take_of_length_le (by omega), List.drop_of_length_le (by rw [← hZl.out]; omega), List.append_nil] at hown
      exact Own.mk_ hown
end Go.Proofs.Ytodmkiikcfdklaa
