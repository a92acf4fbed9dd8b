/-
  Roads: whether places and roads are a network, in every case; the roads that are open: walked.
-/
import Derived.Test.YtcgjdkkfecbgkaaRoadWalks
namespace Go.Proofs.Ytcgjdkkfecbgkaa
open Go.RowKit

theorem l12Good (p : Int) (A : Option Addr) (n c : Nat) (xs : List Road) (w : World) (hS : Sl w 4 A n c (xs.flatMap Road.row)) (hn : n ≤ 1048577) :
    Calls Try.prog 30 #[.int .i64 p, .slice A n c] w fun e w' => e = .returned (.bool (netB p xs)) ∧ Below w.heap.size w w' := by
  have hl := hS.xs_len Road.row_len (by omega)
  rcases hp : inB p 2 7 with _ | _
  · have hR : Hid (netB p xs = false) := by show _ = _; simp [netB, hp]
    go_enter Try.func30, Try.ntmps30
    go_wp2_with (go_at_call 31; refine (l1In _ _ _ _).mono ?_; rintro _ w1 ⟨rfl, rfl⟩)
    go_ret
    exact ⟨by rw [hR.out]; rfl, by (repeat' (first | (with_reducible exact bel_refl _) | (with_reducible assumption) | (with_reducible refine bel_drew ?_) | (with_reducible refine bel_drewN ?_) | (with_reducible refine bel_alloc ?_) | (with_reducible refine bel_set ?_ ?_) | (with_reducible refine bel_trans ?_ (by with_reducible assumption)) | omega | (simp; done) | (simp; omega)))⟩
  · by_cases hn2 : n ≤ 12
    · exact netS_go p A n c xs w hS hn ⟨hp, hn2⟩
    · have hR : Hid (netB p xs = false) := by show _ = _; simp [netB, hl]; omega
      go_enter Try.func30, Try.ntmps30
      go_wp2_with (go_at_call 31; refine (l1In _ _ _ _).mono ?_; rintro _ w1 ⟨rfl, rfl⟩)
      go_ret
      exact ⟨by rw [hR.out]; rfl, by (repeat' (first | (with_reducible exact bel_refl _) | (with_reducible assumption) | (with_reducible refine bel_drew ?_) | (with_reducible refine bel_drewN ?_) | (with_reducible refine bel_alloc ?_) | (with_reducible refine bel_set ?_ ?_) | (with_reducible refine bel_trans ?_ (by with_reducible assumption)) | omega | (simp; done) | (simp; omega)))⟩
theorem isNetworkI (p : Int) (A : Option Addr) (n c : Nat) (xs : List Road) (w : World) (hS : Sl w 4 A n c (xs.flatMap Road.row)) (hn : n ≤ 1048576) :
    Calls Try.prog 24 #[.int .i64 p, .slice A n c] w fun e w' => e = .returned (.bool (netB p xs)) ∧ Below w.heap.size w w' := netI_go p A n c xs w hS (by omega) trivial
end Go.Proofs.Ytcgjdkkfecbgkaa
