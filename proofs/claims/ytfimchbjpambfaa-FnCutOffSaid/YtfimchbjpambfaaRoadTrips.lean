/-
  The exported functions on arrivals, of the program and of the reference, walked.
-/
import Derived.Test.YtfimchbjpambfaaRoadArrS
import Derived.Test.YtfimchbjpambfaaRoadPlace
namespace Go.Proofs.Ytfimchbjpambfaa
open Go.RowKit

theorem one_ints {w : World} {v : Int} {g : Nat} (hg : g = w.heap.size) : Sl (w.alloc (.cells #[.int .i64 v] 3)) 1 (some ⟨g, 0, none⟩) 1 1 (ints [v]) :=
  hg ▸ ⟨by simp [ints], by omega, by simp [maxLen], fun _ => ⟨_, _, rfl, by simp, fun j u hu => by
    rw [Nat.zero_add, cell_of_row _ _ j _ _ (0, 0) (heap_alloc_new w _)]
    simpa [ints] using hu⟩⟩
theorem placesB_one (p v : Int) : placesB p [v] = inB v 0 (p - 1) := by simp [placesB]
theorem arrA_len {P : Nat} {xs : List Road} {F : Nat} {m : Int} (hg : ∀ r ∈ xs, goodR P r = true) (hF : F < P) (hm : 0 ≤ m ∧ m ≤ 999) : (arrA P xs F m).length = P := ((arr_start hF hm).runA hg P).len
def arrR (p : Int) (xs : List Road) (f m : Int) : List Int × Bool := if netB p xs && inB f 0 (p - 1) && inB m 0 999 then (arrA p.toNat xs f.toNat m, true) else ([], false)
theorem arrR_len (p : Int) (xs : List Road) (f m : Int) : (arrR p xs f m).1.length ≤ 1048576 := by
  unfold arrR
  split
  · rename_i hc
    simp only [Bool.and_eq_true, inB_iff] at hc
    have hb := netB_bd hc.1.1
    have hg := netB_all hc.1.1
    have e : ((p.toNat : Nat) : Int) = p := by omega
    have := arrA_len (P := p.toNat) (xs := xs) (F := f.toNat) (m := m) (by rw [e]; exact good_mem hg) (by omega) hc.2
    simp only [this]
    omega
  · simp

theorem arrivalsS (p : Int) (A : Option Addr) (n c : Nat) (xs : List Road) (f m : Int) (w : World) (hS : Sl w 4 A n c (xs.flatMap Road.row)) (hn : n ≤ 1048576) :
    Calls Try.prog 8 #[.int .i64 p, .slice A n c, .int .i64 f, .int .i64 m] w fun e w' => ∃ A' n' c', e = .returned (.tuple #[.slice A' n' c', .bool (arrR p xs f m).2]) ∧ Own w.heap.size w'.heap.size w' 3 1 A' n' c' (ints (arrR p xs f m).1) ∧ Below w.heap.size w w' := by
  have hB2 := bel_refl w
  rcases hg : netB p xs with _ | _
  · have hR : Hid (arrR p xs f m = ([], false)) := by show _ = _; simp [arrR, hg]
    have hgf : (netB p xs && inB f 0 (p - 1)) = false := by simp [hg]
    go_enter Try.func8, Try.ntmps8
    go_wp2_with (first | (go_at_call 38; refine (l12Place _ _ _ _ _ _ _ (hS.bel (by (repeat' (first | (with_reducible exact bel_refl _) | (with_reducible assumption) | (with_reducible refine bel_drew ?_) | (with_reducible refine bel_drewN ?_) | (with_reducible refine bel_alloc ?_) | (with_reducible refine bel_set ?_ ?_) | (with_reducible refine bel_trans ?_ (by with_reducible assumption)) | omega | (simp; done) | (simp; omega))))) hn).mono ?_; rintro _ w1 ⟨rfl, hB1⟩; (first | (with_reducible replace hB2 := bel_trans hB2 hB1) | (with_reducible replace hB2 := bel_trans (bel_alloc hB2) hB1)); obtain ⟨hC1, hF1⟩ := bcell hB2; replace hB1 := hB1) | (go_at_call 39; refine (l12Minute _ _).mono ?_; rintro _ w1 ⟨rfl, rfl⟩))
    go_ret2; exact ⟨some ⟨w1.heap.size, 0, none⟩, 0, 0, by rw [hR.out]; rfl, by rw [hR.out]; exact (Own.mk_ (own_empty (Nat.le_refl _))).low hB2.size, by (repeat' (first | (with_reducible exact bel_refl _) | (with_reducible assumption) | (with_reducible refine bel_drew ?_) | (with_reducible refine bel_drewN ?_) | (with_reducible refine bel_alloc ?_) | (with_reducible refine bel_set ?_ ?_) | (with_reducible refine bel_trans ?_ (by with_reducible assumption)) | omega | (simp; done) | (simp; omega)))⟩
  · rcases hf : inB f 0 (p - 1) with _ | _
    · have hR : Hid (arrR p xs f m = ([], false)) := by show _ = _; simp [arrR, hf]
      go_enter Try.func8, Try.ntmps8
      go_wp2_with (first | (go_at_call 38; refine (l12Place _ _ _ _ _ _ _ (hS.bel (by (repeat' (first | (with_reducible exact bel_refl _) | (with_reducible assumption) | (with_reducible refine bel_drew ?_) | (with_reducible refine bel_drewN ?_) | (with_reducible refine bel_alloc ?_) | (with_reducible refine bel_set ?_ ?_) | (with_reducible refine bel_trans ?_ (by with_reducible assumption)) | omega | (simp; done) | (simp; omega))))) hn).mono ?_; rintro _ w1 ⟨rfl, hB1⟩; (first | (with_reducible replace hB2 := bel_trans hB2 hB1) | (with_reducible replace hB2 := bel_trans (bel_alloc hB2) hB1)); obtain ⟨hC1, hF1⟩ := bcell hB2; replace hB1 := hB1) | (go_at_call 39; refine (l12Minute _ _).mono ?_; rintro _ w1 ⟨rfl, rfl⟩))
      go_ret2; exact ⟨some ⟨w1.heap.size, 0, none⟩, 0, 0, by rw [hR.out]; rfl, by rw [hR.out]; exact (Own.mk_ (own_empty (Nat.le_refl _))).low hB2.size, by (repeat' (first | (with_reducible exact bel_refl _) | (with_reducible assumption) | (with_reducible refine bel_drew ?_) | (with_reducible refine bel_drewN ?_) | (with_reducible refine bel_alloc ?_) | (with_reducible refine bel_set ?_ ?_) | (with_reducible refine bel_trans ?_ (by with_reducible assumption)) | omega | (simp; done) | (simp; omega)))⟩
    · rcases hm : inB m 0 999 with _ | _
      · have hR : Hid (arrR p xs f m = ([], false)) := by show _ = _; simp [arrR, hm]
        go_enter Try.func8, Try.ntmps8
        go_wp2_with (first | (go_at_call 38; refine (l12Place _ _ _ _ _ _ _ (hS.bel (by (repeat' (first | (with_reducible exact bel_refl _) | (with_reducible assumption) | (with_reducible refine bel_drew ?_) | (with_reducible refine bel_drewN ?_) | (with_reducible refine bel_alloc ?_) | (with_reducible refine bel_set ?_ ?_) | (with_reducible refine bel_trans ?_ (by with_reducible assumption)) | omega | (simp; done) | (simp; omega))))) hn).mono ?_; rintro _ w1 ⟨rfl, hB1⟩; (first | (with_reducible replace hB2 := bel_trans hB2 hB1) | (with_reducible replace hB2 := bel_trans (bel_alloc hB2) hB1)); obtain ⟨hC1, hF1⟩ := bcell hB2; replace hB1 := hB1) | (go_at_call 39; refine (l12Minute _ _).mono ?_; rintro _ w1 ⟨rfl, rfl⟩))
        go_ret2; exact ⟨some ⟨w1.heap.size, 0, none⟩, 0, 0, by rw [hR.out]; rfl, by rw [hR.out]; exact (Own.mk_ (own_empty (Nat.le_refl _))).low hB2.size, by (repeat' (first | (with_reducible exact bel_refl _) | (with_reducible assumption) | (with_reducible refine bel_drew ?_) | (with_reducible refine bel_drewN ?_) | (with_reducible refine bel_alloc ?_) | (with_reducible refine bel_set ?_ ?_) | (with_reducible refine bel_trans ?_ (by with_reducible assumption)) | omega | (simp; done) | (simp; omega)))⟩
      · have hb := netB_bd hg
        obtain ⟨f0, f1⟩ := inB_iff.1 hf
        obtain ⟨P, rfl⟩ := Int.eq_ofNat_of_zero_le (show 0 ≤ p by omega)
        obtain ⟨F, rfl⟩ := Int.eq_ofNat_of_zero_le f0
        have hR : Hid (arrR P xs F m = (arrA P xs F m, true)) := by show _ = _; unfold arrR; rw [hg, hf, hm]; simp
        have hm2 := inB_iff.1 hm
        have hlen := arrA_len (good_mem (netB_all hg)) (F := F) (by omega) hm2
        have hg9 := hid hg
        go_enter Try.func8, Try.ntmps8
        go_wp2_with (first | (first | (go_at_call 38; refine (l12Place _ _ _ _ _ _ _ (hS.bel (by (repeat' (first | (with_reducible exact bel_refl _) | (with_reducible assumption) | (with_reducible refine bel_drew ?_) | (with_reducible refine bel_drewN ?_) | (with_reducible refine bel_alloc ?_) | (with_reducible refine bel_set ?_ ?_) | (with_reducible refine bel_trans ?_ (by with_reducible assumption)) | omega | (simp; done) | (simp; omega))))) hn).mono ?_; rintro _ w1 ⟨rfl, hB1⟩; (first | (with_reducible replace hB2 := bel_trans hB2 hB1) | (with_reducible replace hB2 := bel_trans (bel_alloc hB2) hB1)); obtain ⟨hC1, hF1⟩ := bcell hB2; replace hB1 := hB1) | (go_at_call 39; refine (l12Minute _ _).mono ?_; rintro _ w1 ⟨rfl, rfl⟩)) | (go_at_call 40; refine (arrS _ _ _ P F xs m _ (hS.bel hB2) hg9.out (by omega) hm2).mono ?_; rintro _ w2 ⟨A', c', rfl, hO, hb2⟩))
        go_ret2
        refine ⟨A', P, c', by rw [hR.out]; rfl, ?_, by (repeat' (first | (with_reducible exact bel_refl _) | (with_reducible assumption) | (with_reducible refine bel_drew ?_) | (with_reducible refine bel_drewN ?_) | (with_reducible refine bel_alloc ?_) | (with_reducible refine bel_set ?_ ?_) | (with_reducible refine bel_trans ?_ (by with_reducible assumption)) | omega | (simp; done) | (simp; omega)))⟩
        rw [hR.out]
        exact hO.low hB2.size

theorem arrivalsI (p : Int) (A : Option Addr) (n c : Nat) (xs : List Road) (f m : Int) (w : World) (hS : Sl w 4 A n c (xs.flatMap Road.row)) (hn : n ≤ 1048576) :
    Calls Try.prog 7 #[.int .i64 p, .slice A n c, .int .i64 f, .int .i64 m] w fun e w' => ∃ A' n' c', e = .returned (.tuple #[.slice A' n' c', .bool (arrR p xs f m).2]) ∧ Own w.heap.size w'.heap.size w' 3 1 A' n' c' (ints (arrR p xs f m).1) ∧ Below w.heap.size w w' := by
  have hB2 := bel_refl w
  rcases hg : netB p xs with _ | _
  · have hR : Hid (arrR p xs f m = ([], false)) := by show _ = _; simp [arrR, hg]
    have hgf : (netB p xs && inB f 0 (p - 1)) = false := by simp [hg]
    go_enter Try.func7, Try.ntmps7
    go_wp2_with (first | (go_at_call 35; refine (isPlace _ A _ n c 1 1 xs [_] _ (hS.bel (by (repeat' (first | (with_reducible exact bel_refl _) | (with_reducible assumption) | (with_reducible refine bel_drew ?_) | (with_reducible refine bel_drewN ?_) | (with_reducible refine bel_alloc ?_) | (with_reducible refine bel_set ?_ ?_) | (with_reducible refine bel_trans ?_ (by with_reducible assumption)) | omega | (simp; done) | (simp; omega))))) hn (one_ints (by first | rfl | simp)) (by omega)).mono ?_; rintro _ w1 ⟨rfl, hB1⟩; (try rw [placesB_one]); (first | (with_reducible replace hB2 := bel_trans hB2 hB1) | (with_reducible replace hB2 := bel_trans (bel_alloc hB2) hB1)); obtain ⟨hC1, hF1⟩ := bcell hB2; replace hB1 := hB1) | (go_at_call 36; refine (isMinute _ _).mono ?_; rintro _ w1 ⟨rfl, rfl⟩))
    go_ret2; exact ⟨none, 0, 0, by rw [hR.out]; rfl, by rw [hR.out]; exact Own.mk_ (World.ownsRow_nil _ _ _ _), by (repeat' (first | (with_reducible exact bel_refl _) | (with_reducible assumption) | (with_reducible refine bel_drew ?_) | (with_reducible refine bel_drewN ?_) | (with_reducible refine bel_alloc ?_) | (with_reducible refine bel_set ?_ ?_) | (with_reducible refine bel_trans ?_ (by with_reducible assumption)) | omega | (simp; done) | (simp; omega)))⟩
  · rcases hf : inB f 0 (p - 1) with _ | _
    · have hR : Hid (arrR p xs f m = ([], false)) := by show _ = _; simp [arrR, hf]
      go_enter Try.func7, Try.ntmps7
      go_wp2_with (first | (go_at_call 35; refine (isPlace _ A _ n c 1 1 xs [_] _ (hS.bel (by (repeat' (first | (with_reducible exact bel_refl _) | (with_reducible assumption) | (with_reducible refine bel_drew ?_) | (with_reducible refine bel_drewN ?_) | (with_reducible refine bel_alloc ?_) | (with_reducible refine bel_set ?_ ?_) | (with_reducible refine bel_trans ?_ (by with_reducible assumption)) | omega | (simp; done) | (simp; omega))))) hn (one_ints (by first | rfl | simp)) (by omega)).mono ?_; rintro _ w1 ⟨rfl, hB1⟩; (try rw [placesB_one]); (first | (with_reducible replace hB2 := bel_trans hB2 hB1) | (with_reducible replace hB2 := bel_trans (bel_alloc hB2) hB1)); obtain ⟨hC1, hF1⟩ := bcell hB2; replace hB1 := hB1) | (go_at_call 36; refine (isMinute _ _).mono ?_; rintro _ w1 ⟨rfl, rfl⟩))
      go_ret2; exact ⟨none, 0, 0, by rw [hR.out]; rfl, by rw [hR.out]; exact Own.mk_ (World.ownsRow_nil _ _ _ _), by (repeat' (first | (with_reducible exact bel_refl _) | (with_reducible assumption) | (with_reducible refine bel_drew ?_) | (with_reducible refine bel_drewN ?_) | (with_reducible refine bel_alloc ?_) | (with_reducible refine bel_set ?_ ?_) | (with_reducible refine bel_trans ?_ (by with_reducible assumption)) | omega | (simp; done) | (simp; omega)))⟩
    · rcases hm : inB m 0 999 with _ | _
      · have hR : Hid (arrR p xs f m = ([], false)) := by show _ = _; simp [arrR, hm]
        go_enter Try.func7, Try.ntmps7
        go_wp2_with (first | (go_at_call 35; refine (isPlace _ A _ n c 1 1 xs [_] _ (hS.bel (by (repeat' (first | (with_reducible exact bel_refl _) | (with_reducible assumption) | (with_reducible refine bel_drew ?_) | (with_reducible refine bel_drewN ?_) | (with_reducible refine bel_alloc ?_) | (with_reducible refine bel_set ?_ ?_) | (with_reducible refine bel_trans ?_ (by with_reducible assumption)) | omega | (simp; done) | (simp; omega))))) hn (one_ints (by first | rfl | simp)) (by omega)).mono ?_; rintro _ w1 ⟨rfl, hB1⟩; (try rw [placesB_one]); (first | (with_reducible replace hB2 := bel_trans hB2 hB1) | (with_reducible replace hB2 := bel_trans (bel_alloc hB2) hB1)); obtain ⟨hC1, hF1⟩ := bcell hB2; replace hB1 := hB1) | (go_at_call 36; refine (isMinute _ _).mono ?_; rintro _ w1 ⟨rfl, rfl⟩))
        go_ret2; exact ⟨none, 0, 0, by rw [hR.out]; rfl, by rw [hR.out]; exact Own.mk_ (World.ownsRow_nil _ _ _ _), by (repeat' (first | (with_reducible exact bel_refl _) | (with_reducible assumption) | (with_reducible refine bel_drew ?_) | (with_reducible refine bel_drewN ?_) | (with_reducible refine bel_alloc ?_) | (with_reducible refine bel_set ?_ ?_) | (with_reducible refine bel_trans ?_ (by with_reducible assumption)) | omega | (simp; done) | (simp; omega)))⟩
      · have hb := netB_bd hg
        obtain ⟨f0, f1⟩ := inB_iff.1 hf
        obtain ⟨P, rfl⟩ := Int.eq_ofNat_of_zero_le (show 0 ≤ p by omega)
        obtain ⟨F, rfl⟩ := Int.eq_ofNat_of_zero_le f0
        have hR : Hid (arrR P xs F m = (arrA P xs F m, true)) := by show _ = _; unfold arrR; rw [hg, hf, hm]; simp
        have hm2 := inB_iff.1 hm
        have hlen := arrA_len (good_mem (netB_all hg)) (F := F) (by omega) hm2
        have hg9 := hid hg
        go_enter Try.func7, Try.ntmps7
        go_wp2_with (first | (first | (go_at_call 35; refine (isPlace _ A _ n c 1 1 xs [_] _ (hS.bel (by (repeat' (first | (with_reducible exact bel_refl _) | (with_reducible assumption) | (with_reducible refine bel_drew ?_) | (with_reducible refine bel_drewN ?_) | (with_reducible refine bel_alloc ?_) | (with_reducible refine bel_set ?_ ?_) | (with_reducible refine bel_trans ?_ (by with_reducible assumption)) | omega | (simp; done) | (simp; omega))))) hn (one_ints (by first | rfl | simp)) (by omega)).mono ?_; rintro _ w1 ⟨rfl, hB1⟩; (try rw [placesB_one]); (first | (with_reducible replace hB2 := bel_trans hB2 hB1) | (with_reducible replace hB2 := bel_trans (bel_alloc hB2) hB1)); obtain ⟨hC1, hF1⟩ := bcell hB2; replace hB1 := hB1) | (go_at_call 36; refine (isMinute _ _).mono ?_; rintro _ w1 ⟨rfl, rfl⟩)) | (go_at_call 37; refine (arrI _ _ _ P F xs m _ (hS.bel hB2) hg9.out (by omega) hm2).mono ?_; rintro _ w2 ⟨A', c', rfl, hO, hb2⟩))
        go_ret2
        refine ⟨A', P, c', by rw [hR.out]; rfl, ?_, by (repeat' (first | (with_reducible exact bel_refl _) | (with_reducible assumption) | (with_reducible refine bel_drew ?_) | (with_reducible refine bel_drewN ?_) | (with_reducible refine bel_alloc ?_) | (with_reducible refine bel_set ?_ ?_) | (with_reducible refine bel_trans ?_ (by with_reducible assumption)) | omega | (simp; done) | (simp; omega)))⟩
        rw [hR.out]
        exact hO.low hB2.size

end Go.Proofs.Ytfimchbjpambfaa
