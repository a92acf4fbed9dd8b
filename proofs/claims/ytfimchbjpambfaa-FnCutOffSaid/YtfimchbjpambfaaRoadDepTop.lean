/-
  The exported function on departures, of the program and of the reference, walked.
-/
import Derived.Test.YtfimchbjpambfaaRoadLast
namespace Go.Proofs.Ytfimchbjpambfaa
open Go.RowKit

theorem arrD_len {P : Nat} {xs : List Road} {F : Nat} (hg : ∀ r ∈ xs, goodR P r = true) (hF : F < P) : (arrD P xs F 999).length = P := (arrD_arr hg hF).len
def depR (p : Int) (xs : List Road) (f : Int) : List Int × Bool := if netB p xs && inB f 0 (p - 1) then (arrD p.toNat xs f.toNat 999, true) else ([], false)
theorem depR_len (p : Int) (xs : List Road) (f : Int) : (depR p xs f).1.length ≤ 1048576 := by
  unfold depR
  split
  · rename_i hc
    simp only [Bool.and_eq_true, inB_iff] at hc
    have hb := netB_bd hc.1
    have hg := netB_all hc.1
    have e : ((p.toNat : Nat) : Int) = p := by omega
    have := arrD_len (P := p.toNat) (xs := xs) (F := f.toNat) (by rw [e]; exact good_mem hg) (by omega)
    simp only [this]
    omega
  · simp

theorem departuresS (p : Int) (A : Option Addr) (n c : Nat) (xs : List Road) (f : Int) (w : World) (hS : Sl w 4 A n c (xs.flatMap Road.row)) (hn : n ≤ 1048576) :
    Calls Try.prog 14 #[.int .i64 p, .slice A n c, .int .i64 f] w fun e w' => ∃ A' n' c', e = .returned (.tuple #[.slice A' n' c', .bool (depR p xs f).2]) ∧ Own w.heap.size w'.heap.size w' 3 1 A' n' c' (ints (depR p xs f).1) ∧ Below w.heap.size w w' := by
  have hB2 := bel_refl w
  rcases hg : netB p xs with _ | _
  · have hR : Hid (depR p xs f = ([], false)) := by show _ = _; simp [depR, hg]
    go_enter Try.func14, Try.ntmps14
    go_wp2_with (first | (go_at_call 38; refine (l12Place _ _ _ _ _ _ _ (hS.bel (by (repeat' (first | (with_reducible exact bel_refl _) | (with_reducible assumption) | (with_reducible refine bel_drew ?_) | (with_reducible refine bel_drewN ?_) | (with_reducible refine bel_alloc ?_) | (with_reducible refine bel_set ?_ ?_) | (with_reducible refine bel_trans ?_ (by with_reducible assumption)) | omega | (simp; done) | (simp; omega))))) hn).mono ?_; rintro _ w1 ⟨rfl, hB1⟩; (first | (with_reducible replace hB2 := bel_trans hB2 hB1) | (with_reducible replace hB2 := bel_trans (bel_alloc hB2) hB1)); obtain ⟨hC1, hF1⟩ := bcell hB2; replace hB1 := hB1) | (go_at_call 39; refine (l12Minute _ _).mono ?_; rintro _ w1 ⟨rfl, rfl⟩))
    go_ret2; exact ⟨some ⟨w1.heap.size, 0, none⟩, 0, 0, by rw [hR.out]; rfl, by rw [hR.out]; exact (Own.mk_ (own_empty (Nat.le_refl _))).low hB2.size, by (repeat' (first | (with_reducible exact bel_refl _) | (with_reducible assumption) | (with_reducible refine bel_drew ?_) | (with_reducible refine bel_drewN ?_) | (with_reducible refine bel_alloc ?_) | (with_reducible refine bel_set ?_ ?_) | (with_reducible refine bel_trans ?_ (by with_reducible assumption)) | omega | (simp; done) | (simp; omega)))⟩
  · rcases hf : inB f 0 (p - 1) with _ | _
    · have hR : Hid (depR p xs f = ([], false)) := by show _ = _; simp [depR, hf]
      go_enter Try.func14, Try.ntmps14
      go_wp2_with (first | (go_at_call 38; refine (l12Place _ _ _ _ _ _ _ (hS.bel (by (repeat' (first | (with_reducible exact bel_refl _) | (with_reducible assumption) | (with_reducible refine bel_drew ?_) | (with_reducible refine bel_drewN ?_) | (with_reducible refine bel_alloc ?_) | (with_reducible refine bel_set ?_ ?_) | (with_reducible refine bel_trans ?_ (by with_reducible assumption)) | omega | (simp; done) | (simp; omega))))) hn).mono ?_; rintro _ w1 ⟨rfl, hB1⟩; (first | (with_reducible replace hB2 := bel_trans hB2 hB1) | (with_reducible replace hB2 := bel_trans (bel_alloc hB2) hB1)); obtain ⟨hC1, hF1⟩ := bcell hB2; replace hB1 := hB1) | (go_at_call 39; refine (l12Minute _ _).mono ?_; rintro _ w1 ⟨rfl, rfl⟩))
      go_ret2; exact ⟨some ⟨w1.heap.size, 0, none⟩, 0, 0, by rw [hR.out]; rfl, by rw [hR.out]; exact (Own.mk_ (own_empty (Nat.le_refl _))).low hB2.size, by (repeat' (first | (with_reducible exact bel_refl _) | (with_reducible assumption) | (with_reducible refine bel_drew ?_) | (with_reducible refine bel_drewN ?_) | (with_reducible refine bel_alloc ?_) | (with_reducible refine bel_set ?_ ?_) | (with_reducible refine bel_trans ?_ (by with_reducible assumption)) | omega | (simp; done) | (simp; omega)))⟩
    · have hb := netB_bd hg
      obtain ⟨f0, f1⟩ := inB_iff.1 hf
      obtain ⟨P, rfl⟩ := Int.eq_ofNat_of_zero_le (show 0 ≤ p by omega)
      obtain ⟨F, rfl⟩ := Int.eq_ofNat_of_zero_le f0
      have hR : Hid (depR P xs F = (arrD P xs F 999, true)) := by show _ = _; unfold depR; rw [hg, hf]; simp
      have hlen := arrD_len (good_mem (netB_all hg)) (F := F) (by omega)
      have hg9 := hid hg
      go_enter Try.func14, Try.ntmps14
      go_wp2_with (first | (first | (go_at_call 38; refine (l12Place _ _ _ _ _ _ _ (hS.bel (by (repeat' (first | (with_reducible exact bel_refl _) | (with_reducible assumption) | (with_reducible refine bel_drew ?_) | (with_reducible refine bel_drewN ?_) | (with_reducible refine bel_alloc ?_) | (with_reducible refine bel_set ?_ ?_) | (with_reducible refine bel_trans ?_ (by with_reducible assumption)) | omega | (simp; done) | (simp; omega))))) hn).mono ?_; rintro _ w1 ⟨rfl, hB1⟩; (first | (with_reducible replace hB2 := bel_trans hB2 hB1) | (with_reducible replace hB2 := bel_trans (bel_alloc hB2) hB1)); obtain ⟨hC1, hF1⟩ := bcell hB2; replace hB1 := hB1) | (go_at_call 39; refine (l12Minute _ _).mono ?_; rintro _ w1 ⟨rfl, rfl⟩)) | (go_at_call 44; refine (depS _ _ _ P F xs _ (hS.bel hB2) hg9.out (by omega)).mono ?_; rintro _ w2 ⟨A', c', rfl, hO, hb2⟩))
      go_ret2
      refine ⟨A', P, c', by rw [hR.out]; rfl, ?_, by (repeat' (first | (with_reducible exact bel_refl _) | (with_reducible assumption) | (with_reducible refine bel_drew ?_) | (with_reducible refine bel_drewN ?_) | (with_reducible refine bel_alloc ?_) | (with_reducible refine bel_set ?_ ?_) | (with_reducible refine bel_trans ?_ (by with_reducible assumption)) | omega | (simp; done) | (simp; omega)))⟩
      rw [hR.out]
      exact hO.low hB2.size

theorem departuresI (p : Int) (A : Option Addr) (n c : Nat) (xs : List Road) (f : Int) (w : World) (hS : Sl w 4 A n c (xs.flatMap Road.row)) (hn : n ≤ 1048576) :
    Calls Try.prog 12 #[.int .i64 p, .slice A n c, .int .i64 f] w fun e w' => ∃ A' n' c', e = .returned (.tuple #[.slice A' n' c', .bool (depR p xs f).2]) ∧ Own w.heap.size w'.heap.size w' 3 1 A' n' c' (ints (depR p xs f).1) ∧ Below w.heap.size w w' := by
  have hB2 := bel_refl w
  rcases hg : netB p xs with _ | _
  · have hR : Hid (depR p xs f = ([], false)) := by show _ = _; simp [depR, hg]
    go_enter Try.func12, Try.ntmps12
    go_wp2_with (first | (go_at_call 35; refine (isPlace _ A _ n c 1 1 xs [_] _ (hS.bel (by (repeat' (first | (with_reducible exact bel_refl _) | (with_reducible assumption) | (with_reducible refine bel_drew ?_) | (with_reducible refine bel_drewN ?_) | (with_reducible refine bel_alloc ?_) | (with_reducible refine bel_set ?_ ?_) | (with_reducible refine bel_trans ?_ (by with_reducible assumption)) | omega | (simp; done) | (simp; omega))))) hn (one_ints (by first | rfl | simp)) (by omega)).mono ?_; rintro _ w1 ⟨rfl, hB1⟩; (try rw [placesB_one]); (first | (with_reducible replace hB2 := bel_trans hB2 hB1) | (with_reducible replace hB2 := bel_trans (bel_alloc hB2) hB1)); obtain ⟨hC1, hF1⟩ := bcell hB2; replace hB1 := hB1) | (go_at_call 36; refine (isMinute _ _).mono ?_; rintro _ w1 ⟨rfl, rfl⟩))
    go_ret2; exact ⟨none, 0, 0, by rw [hR.out]; rfl, by rw [hR.out]; exact Own.mk_ (World.ownsRow_nil _ _ _ _), by (repeat' (first | (with_reducible exact bel_refl _) | (with_reducible assumption) | (with_reducible refine bel_drew ?_) | (with_reducible refine bel_drewN ?_) | (with_reducible refine bel_alloc ?_) | (with_reducible refine bel_set ?_ ?_) | (with_reducible refine bel_trans ?_ (by with_reducible assumption)) | omega | (simp; done) | (simp; omega)))⟩
  · rcases hf : inB f 0 (p - 1) with _ | _
    · have hR : Hid (depR p xs f = ([], false)) := by show _ = _; simp [depR, hf]
      go_enter Try.func12, Try.ntmps12
      go_wp2_with (first | (go_at_call 35; refine (isPlace _ A _ n c 1 1 xs [_] _ (hS.bel (by (repeat' (first | (with_reducible exact bel_refl _) | (with_reducible assumption) | (with_reducible refine bel_drew ?_) | (with_reducible refine bel_drewN ?_) | (with_reducible refine bel_alloc ?_) | (with_reducible refine bel_set ?_ ?_) | (with_reducible refine bel_trans ?_ (by with_reducible assumption)) | omega | (simp; done) | (simp; omega))))) hn (one_ints (by first | rfl | simp)) (by omega)).mono ?_; rintro _ w1 ⟨rfl, hB1⟩; (try rw [placesB_one]); (first | (with_reducible replace hB2 := bel_trans hB2 hB1) | (with_reducible replace hB2 := bel_trans (bel_alloc hB2) hB1)); obtain ⟨hC1, hF1⟩ := bcell hB2; replace hB1 := hB1) | (go_at_call 36; refine (isMinute _ _).mono ?_; rintro _ w1 ⟨rfl, rfl⟩))
      go_ret2; exact ⟨none, 0, 0, by rw [hR.out]; rfl, by rw [hR.out]; exact Own.mk_ (World.ownsRow_nil _ _ _ _), by (repeat' (first | (with_reducible exact bel_refl _) | (with_reducible assumption) | (with_reducible refine bel_drew ?_) | (with_reducible refine bel_drewN ?_) | (with_reducible refine bel_alloc ?_) | (with_reducible refine bel_set ?_ ?_) | (with_reducible refine bel_trans ?_ (by with_reducible assumption)) | omega | (simp; done) | (simp; omega)))⟩
    · have hb := netB_bd hg
      obtain ⟨f0, f1⟩ := inB_iff.1 hf
      obtain ⟨P, rfl⟩ := Int.eq_ofNat_of_zero_le (show 0 ≤ p by omega)
      obtain ⟨F, rfl⟩ := Int.eq_ofNat_of_zero_le f0
      have hR : Hid (depR P xs F = (arrD P xs F 999, true)) := by show _ = _; unfold depR; rw [hg, hf]; simp
      have hlen := arrD_len (good_mem (netB_all hg)) (F := F) (by omega)
      have hg9 := hid hg
      go_enter Try.func12, Try.ntmps12
      go_wp2_with (first | (first | (go_at_call 35; refine (isPlace _ A _ n c 1 1 xs [_] _ (hS.bel (by (repeat' (first | (with_reducible exact bel_refl _) | (with_reducible assumption) | (with_reducible refine bel_drew ?_) | (with_reducible refine bel_drewN ?_) | (with_reducible refine bel_alloc ?_) | (with_reducible refine bel_set ?_ ?_) | (with_reducible refine bel_trans ?_ (by with_reducible assumption)) | omega | (simp; done) | (simp; omega))))) hn (one_ints (by first | rfl | simp)) (by omega)).mono ?_; rintro _ w1 ⟨rfl, hB1⟩; (try rw [placesB_one]); (first | (with_reducible replace hB2 := bel_trans hB2 hB1) | (with_reducible replace hB2 := bel_trans (bel_alloc hB2) hB1)); obtain ⟨hC1, hF1⟩ := bcell hB2; replace hB1 := hB1) | (go_at_call 36; refine (isMinute _ _).mono ?_; rintro _ w1 ⟨rfl, rfl⟩)) | (go_at_call 43; refine (depI _ _ _ P F xs _ (hS.bel hB2) hg9.out (by omega)).mono ?_; rintro _ w2 ⟨A', c', rfl, hO, hb2⟩))
      go_ret2
      refine ⟨A', P, c', by rw [hR.out]; rfl, ?_, by (repeat' (first | (with_reducible exact bel_refl _) | (with_reducible assumption) | (with_reducible refine bel_drew ?_) | (with_reducible refine bel_drewN ?_) | (with_reducible refine bel_alloc ?_) | (with_reducible refine bel_set ?_ ?_) | (with_reducible refine bel_trans ?_ (by with_reducible assumption)) | omega | (simp; done) | (simp; omega)))⟩
      rw [hR.out]
      exact hO.low hB2.size

end Go.Proofs.Ytfimchbjpambfaa
