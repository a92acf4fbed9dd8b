/-
  Roads: whether places and roads are a network, in every case; the roads that are open: walked.
-/
import Derived.Test.YtfimchbjpambfaaRoadWalks
namespace Go.Proofs.Ytfimchbjpambfaa
open Go.RowKit

theorem l12Good (p : Int) (A : Option Addr) (n c : Nat) (xs : List Road) (w : World) (hS : Sl w 4 A n c (xs.flatMap Road.row)) (hn : n ≤ 1048577) :
    Calls Try.prog 42 #[.int .i64 p, .slice A n c] w fun e w' => e = .returned (.bool (netB p xs)) ∧ Below w.heap.size w w' := by
  have hl := hS.xs_len Road.row_len (by omega)
  rcases hp : inB p 2 7 with _ | _
  · have hR : Hid (netB p xs = false) := by show _ = _; simp [netB, hp]
    go_enter Try.func42, Try.ntmps42
    go_wp2_with (go_at_call 65; refine (l1In _ _ _ _).mono ?_; rintro _ w1 ⟨rfl, rfl⟩)
    go_ret
    exact ⟨by rw [hR.out]; rfl, by (repeat' (first | (with_reducible exact bel_refl _) | (with_reducible assumption) | (with_reducible refine bel_drew ?_) | (with_reducible refine bel_drewN ?_) | (with_reducible refine bel_alloc ?_) | (with_reducible refine bel_set ?_ ?_) | (with_reducible refine bel_trans ?_ (by with_reducible assumption)) | omega | (simp; done) | (simp; omega)))⟩
  · by_cases hn2 : n ≤ 12
    · exact netS_go p A n c xs w hS hn ⟨hp, hn2⟩
    · have hR : Hid (netB p xs = false) := by show _ = _; simp [netB, hl]; omega
      go_enter Try.func42, Try.ntmps42
      go_wp2_with (go_at_call 65; refine (l1In _ _ _ _).mono ?_; rintro _ w1 ⟨rfl, rfl⟩)
      go_ret
      exact ⟨by rw [hR.out]; rfl, by (repeat' (first | (with_reducible exact bel_refl _) | (with_reducible assumption) | (with_reducible refine bel_drew ?_) | (with_reducible refine bel_drewN ?_) | (with_reducible refine bel_alloc ?_) | (with_reducible refine bel_set ?_ ?_) | (with_reducible refine bel_trans ?_ (by with_reducible assumption)) | omega | (simp; done) | (simp; omega)))⟩
theorem isNetworkI (p : Int) (A : Option Addr) (n c : Nat) (xs : List Road) (w : World) (hS : Sl w 4 A n c (xs.flatMap Road.row)) (hn : n ≤ 1048576) :
    Calls Try.prog 10 #[.int .i64 p, .slice A n c] w fun e w' => e = .returned (.bool (netB p xs)) ∧ Below w.heap.size w w' := netI_go p A n c xs w hS (by omega) trivial
theorem isNetworkS (p : Int) (A : Option Addr) (n c : Nat) (xs : List Road) (w : World) (hS : Sl w 4 A n c (xs.flatMap Road.row)) (hn : n ≤ 1048576) :
    Calls Try.prog 11 #[.int .i64 p, .slice A n c] w fun e w' => e = .returned (.bool (netB p xs)) ∧ Below w.heap.size w w' := by
  have hB2 := bel_refl w
  go_enter Try.func11, Try.ntmps11
  go_wp2_with (go_at_call 42; refine (l12Good _ _ _ _ _ _ hS (by omega)).mono ?_; rintro _ w1 ⟨rfl, hB1⟩; (first | (with_reducible replace hB2 := bel_trans hB2 hB1) | (with_reducible replace hB2 := bel_trans (bel_alloc hB2) hB1)); obtain ⟨hC1, hF1⟩ := bcell hB2; replace hB1 := hB1)
  go_ret
  exact ⟨rfl, by (repeat' (first | (with_reducible exact bel_refl _) | (with_reducible assumption) | (with_reducible refine bel_drew ?_) | (with_reducible refine bel_drewN ?_) | (with_reducible refine bel_alloc ?_) | (with_reducible refine bel_set ?_ ?_) | (with_reducible refine bel_trans ?_ (by with_reducible assumption)) | omega | (simp; done) | (simp; omega)))⟩
end Go.Proofs.Ytfimchbjpambfaa
