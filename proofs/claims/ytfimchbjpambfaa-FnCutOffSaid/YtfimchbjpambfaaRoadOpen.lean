/-
  The roads on which one can begin at a minute: of the program and of the reference, walked.
-/
import Derived.Test.YtfimchbjpambfaaRoadTop
import Derived.Test.YtfimchbjpambfaaRoadArr
namespace Go.Proofs.Ytfimchbjpambfaa
open Go.RowKit

def openB (m : Int) (x : Road) : Bool := decide (m + x.minutes ≤ x.closes)
def openL (xs : List Road) (m : Int) : List Road := xs.filter (openB m)
def openR (p : Int) (xs : List Road) (m : Int) : List Road × Bool := if netB p xs && inB m 0 999 then (openL xs m, true) else ([], false)
theorem openL_yes {xs : List Road} {m : Int} {i : Nat} {x : Road} (hx : xs[i]? = some x) (h : openB m x = true) : (openL (xs.take i) m).flatMap Road.row ++ x.row = (openL (xs.take (i + 1)) m).flatMap Road.row := by
  rw [List.take_add_one, hx]
  simp [openL, h]
theorem openL_no {xs : List Road} {m : Int} {i : Nat} {x : Road} (hx : xs[i]? = some x) (h : openB m x = false) : openL (xs.take i) m = openL (xs.take (i + 1)) m := by
  rw [List.take_add_one, hx]
  simp [openL, h]
theorem openL_len (xs : List Road) (m : Int) (i : Nat) : (openL (xs.take i) m).length ≤ i :=
  Nat.le_trans (List.length_filter_le _ _) (List.length_take_le _ _)
theorem openR_len (p : Int) (xs : List Road) (m : Int) : (openR p xs m).1.length ≤ 1048576 := by
  unfold openR
  split
  · rename_i hc
    rw [Bool.and_eq_true] at hc
    have h1 := (netB_bd hc.1).2.2
    have h2 := openL_len xs m xs.length
    rw [List.take_length] at h2
    exact Nat.le_trans h2 (by omega)
  · simp
theorem oneCell_road (x : Road) : ∀ u ∈ x.row, u.oneCell' = true := by
  intro u hu
  simp only [Road.row, List.mem_cons, List.not_mem_nil, or_false] at hu
  rcases hu with rfl | rfl | rfl | rfl <;> rfl

theorem l12Ride (x : Road) (t p : Int) (w : World) (hg : goodR p x = true) (ht : -1 ≤ t ∧ t ≤ 999) :
    Calls Try.prog 50 #[.agg #[.int .i64 x.a, .int .i64 x.b, .int .i64 x.minutes, .int .i64 x.closes], .int .i64 t] w fun e w' => e = .returned (.int .i64 (rideA x t)) ∧ Below w.heap.size w w' := by
  have hb := goodR_bd hg
  clear hg
  by_cases h0 : t < 0
  · have hR := hid (show rideA x t = -1 by unfold rideA; rw [if_pos (by omega)])
    go_enter Try.func50, Try.ntmps50
    go_wp2
    go_ret
    exact ⟨by rw [hR.out]; rfl, by (repeat' (first | (with_reducible exact bel_refl _) | (with_reducible assumption) | (with_reducible refine bel_drew ?_) | (with_reducible refine bel_drewN ?_) | (with_reducible refine bel_alloc ?_) | (with_reducible refine bel_set ?_ ?_) | (with_reducible refine bel_trans ?_ (by with_reducible assumption)) | omega | (simp; done) | (simp; omega)))⟩
  · by_cases h1 : x.closes < t + x.minutes
    · have hR := hid (show rideA x t = -1 by unfold rideA; rw [if_pos (by omega)])
      go_enter Try.func50, Try.ntmps50
      go_wp2
      go_ret
      exact ⟨by rw [hR.out]; rfl, by (repeat' (first | (with_reducible exact bel_refl _) | (with_reducible assumption) | (with_reducible refine bel_drew ?_) | (with_reducible refine bel_drewN ?_) | (with_reducible refine bel_alloc ?_) | (with_reducible refine bel_set ?_ ?_) | (with_reducible refine bel_trans ?_ (by with_reducible assumption)) | omega | (simp; done) | (simp; omega)))⟩
    · have hR := hid (show rideA x t = t + x.minutes by unfold rideA; rw [if_neg (by omega)])
      go_enter Try.func50, Try.ntmps50
      go_wp2
      go_ret
      exact ⟨by rw [hR.out]; rfl, by (repeat' (first | (with_reducible exact bel_refl _) | (with_reducible assumption) | (with_reducible refine bel_drew ?_) | (with_reducible refine bel_drewN ?_) | (with_reducible refine bel_alloc ?_) | (with_reducible refine bel_set ?_ ?_) | (with_reducible refine bel_trans ?_ (by with_reducible assumption)) | omega | (simp; done) | (simp; omega)))⟩
theorem openClo (x : Road) (m p : Int) (pb : Nat) (w : World) (hg : goodR p x = true) (hm : 0 ≤ m ∧ m ≤ 999) (hc : w.cell? ⟨pb, 0, none⟩ = some (.int .i64 m)) (hp : pb < w.heap.size) :
    Calls Try.prog 49 #[.agg #[.int .i64 x.a, .int .i64 x.b, .int .i64 x.minutes, .int .i64 x.closes], .pointer (some ⟨pb, 0, none⟩)] w fun e w' => e = .returned (.bool (openB m x)) ∧ Below w.heap.size w w' := by
  have hb := goodR_bd hg
  clear hg
  go_enter Try.func49, Try.ntmps49
  go_wp2
  go_ret
  exact ⟨ret_bool (by simp [openB]), by (repeat' (first | (with_reducible exact bel_refl _) | (with_reducible assumption) | (with_reducible refine bel_drew ?_) | (with_reducible refine bel_drewN ?_) | (with_reducible refine bel_alloc ?_) | (with_reducible refine bel_set ?_ ?_) | (with_reducible refine bel_trans ?_ (by with_reducible assumption)) | omega | (simp; done) | (simp; omega)))⟩

set_option maxHeartbeats 1000000 in
theorem filterOpen (A : Option Addr) (n c : Nat) (xs : List Road) (m p : Int) (pb : Nat) (w : World) (hS : Sl w 4 A n c (xs.flatMap Road.row)) (hn : n ≤ 12) (hG : allR p xs) (hm : 0 ≤ m ∧ m ≤ 999) (hc : w.cell? ⟨pb, 0, none⟩ = some (.int .i64 m)) (hp : pb < w.heap.size) :
    Calls Try.prog 48 #[.slice A n c, .func (.func 49) #[] #[.pointer (some ⟨pb, 0, none⟩)]] w fun e w' => ∃ A' n' c', e = .returned (.slice A' n' c') ∧ Own w.heap.size w'.heap.size w' 39 4 A' n' c' ((openL xs m).flatMap Road.row) ∧ Below w.heap.size w w' := by
  have hlh := hid (hS.xs_len Road.row_len (by omega))
  go_enter Try.func48, Try.ntmps48
  go_wp2_with fail
  go_loopw [5, 11] (fun q v wr => ∃ i : Nat, i ≤ n ∧ v = .int .i64 i ∧ (∃ A' k c', q = .slice A' k c' ∧ wr.ownsRow w.heap.size 39 4 (.slice A' k c') k ((openL (xs.take i) m).flatMap Road.row)) ∧ Below w.heap.size w wr) (fun _ v _ => n - (intOf v).toNat)
  case atStart => exact ⟨0, by omega, rfl, ⟨_, _, _, rfl, own_empty (w := w) (size := 4) (e := 39) (Nat.le_refl _)⟩, by (repeat' (first | (with_reducible exact bel_refl _) | (with_reducible assumption) | (with_reducible refine bel_drew ?_) | (with_reducible refine bel_drewN ?_) | (with_reducible refine bel_alloc ?_) | (with_reducible refine bel_set ?_ ?_) | (with_reducible refine bel_trans ?_ (by with_reducible assumption)) | omega | (simp; done) | (simp; omega)))⟩
  case round =>
    obtain ⟨i, hi', rfl, ⟨A', k, c', rfl, hown⟩, hB2⟩ := hrel
    by_cases hlt : i < n
    · obtain ⟨x, hx⟩ : ∃ x, xs[i]? = some x := get_of_lt (by rw [hlh.out]; exact hlt)
      obtain ⟨b, o, rfl, hb, c0, c1, c2, c3⟩ := (hS.bel hB2).road hx
      have hX := hid hx
      have hgx := hid (hG i x hx)
      clear hx
      have hcr := (hB2.cell (p := ⟨pb, 0, none⟩) hp).trans hc
      have hps : pb < wr.heap.size := Nat.lt_of_lt_of_le hp hB2.size
      have hk : k ≤ i := by
        have h2 := hown.1
        rw [flat_len Road.row_len] at h2
        have h3 := openL_len xs m i
        omega
      rcases hw : openB m x with _ | _
      · go_wp2_with (go_at_call 49; refine (openClo x m p pb _ hgx.out hm (by first | exact hcr | (rw [World.cell?_alloc_past _ _ _ hps]; exact hcr)) (by simp; omega)).mono ?_; rintro _ w2 ⟨rfl, hB1⟩; (first | (with_reducible replace hB2 := bel_trans hB2 hB1) | (with_reducible replace hB2 := bel_trans (bel_alloc hB2) hB1)); (first | (with_reducible replace hown := own_bel hown hB1) | (with_reducible replace hown := own_bel (hown.alloc _) hB1)); obtain ⟨hC1, hF1⟩ := bcell hB1)
        go_roundw
        case rel => exact ⟨i + 1, by omega, by go_num, ⟨_, _, _, rfl, by rw [← openL_no hX.out hw]; exact hown⟩, hB2⟩
        case measure => simp [intOf]; omega
      · go_wp2_with (first | (go_at_call 49; refine (openClo x m p pb _ hgx.out hm (by first | exact hcr | (rw [World.cell?_alloc_past _ _ _ hps]; exact hcr)) (by simp; omega)).mono ?_; rintro _ w2 ⟨rfl, hB1⟩; (first | (with_reducible replace hB2 := bel_trans hB2 hB1) | (with_reducible replace hB2 := bel_trans (bel_alloc hB2) hB1)); (first | (with_reducible replace hown := own_bel hown hB1) | (with_reducible replace hown := own_bel (hown.alloc _) hB1)); obtain ⟨hC1, hF1⟩ := bcell hB1) | (at_builtin; refine wpList_push rfl (.tmp 18) (.tmp 20) 24 rfl w.heap.size 39 (.agg #[.int .i64 0, .int .i64 0, .int .i64 0, .int .i64 0]) 4 32 Try.underlying24 info_Road rfl (by omega) A' k c' _ [.int .i64 x.a, .int .i64 x.b, .int .i64 x.minutes, .int .i64 x.closes] 39 rfl hown rfl rfl (oneCell_road x) (by omega) (by omega) hB2.size ?_; intro A'' c'' w3 hown2 hb3 hg3))
        go_roundw
        case rel => exact ⟨i + 1, by omega, by go_num, ⟨_, _, _, rfl, by rw [← openL_yes hX.out hw]; exact hown2⟩, hB2.trans hb3⟩
        case measure => simp [intOf]; omega
    · go_wp2
      go_ret
      have e : i = n := by omega
      subst e
      rw [List.take_of_length_le (by rw [hlh.out]; omega)] at hown
      exact ⟨A', k, c', rfl, Own.mk_ hown, hB2⟩
theorem openRoadsI (p : Int) (A : Option Addr) (n c : Nat) (xs : List Road) (m : Int) (w : World) (hS : Sl w 4 A n c (xs.flatMap Road.row)) (hn : n ≤ 1048576) :
    Calls Try.prog 19 #[.int .i64 p, .slice A n c, .int .i64 m] w fun e w' => ∃ A' n' c', e = .returned (.tuple #[.slice A' n' c', .bool (openR p xs m).2]) ∧ Own w.heap.size w'.heap.size w' 39 4 A' n' c' ((openR p xs m).1.flatMap Road.row) ∧ Below w.heap.size w w' := by
  have hB2 := bel_refl (w.alloc (.cells #[.int .i64 m] 3))
  rcases hg : netB p xs with _ | _
  · have hR : Hid (openR p xs m = ([], false)) := by show _ = _; simp [openR, hg]
    go_enter Try.func19, Try.ntmps19
    go_wp2_with (first | (go_at_call 10; refine (isNetworkI _ _ _ _ _ _ (hS.bel (by (repeat' (first | (with_reducible exact bel_refl _) | (with_reducible assumption) | (with_reducible refine bel_drew ?_) | (with_reducible refine bel_drewN ?_) | (with_reducible refine bel_alloc ?_) | (with_reducible refine bel_set ?_ ?_) | (with_reducible refine bel_trans ?_ (by with_reducible assumption)) | omega | (simp; done) | (simp; omega))))) hn).mono ?_; rintro _ w1 ⟨rfl, hB1⟩; (first | (with_reducible replace hB2 := bel_trans hB2 hB1) | (with_reducible replace hB2 := bel_trans (bel_alloc hB2) hB1)); obtain ⟨hC1, hF1⟩ := bcell hB2; replace hB1 := hB1) | (go_at_call 36; refine (isMinute _ _).mono ?_; rintro _ w1 ⟨rfl, rfl⟩))
    go_ret2; exact ⟨none, 0, 0, by rw [hR.out]; rfl, by rw [hR.out]; exact Own.mk_ (World.ownsRow_nil _ _ _ _), by (repeat' (first | (with_reducible exact bel_refl _) | (with_reducible assumption) | (with_reducible refine bel_drew ?_) | (with_reducible refine bel_drewN ?_) | (with_reducible refine bel_alloc ?_) | (with_reducible refine bel_set ?_ ?_) | (with_reducible refine bel_trans ?_ (by with_reducible assumption)) | omega | (simp; done) | (simp; omega)))⟩
  · have hG := netB_all hg
    have hn12 : n ≤ 12 := by have := (netB_bd hg).2.2; rwa [hS.xs_len Road.row_len (by omega)] at this
    rcases hh : inB m 0 999 with _ | _
    · have hR : Hid (openR p xs m = ([], false)) := by show _ = _; simp [openR, hh]
      go_enter Try.func19, Try.ntmps19
      go_wp2_with (first | (go_at_call 10; refine (isNetworkI _ _ _ _ _ _ (hS.bel (by (repeat' (first | (with_reducible exact bel_refl _) | (with_reducible assumption) | (with_reducible refine bel_drew ?_) | (with_reducible refine bel_drewN ?_) | (with_reducible refine bel_alloc ?_) | (with_reducible refine bel_set ?_ ?_) | (with_reducible refine bel_trans ?_ (by with_reducible assumption)) | omega | (simp; done) | (simp; omega))))) hn).mono ?_; rintro _ w1 ⟨rfl, hB1⟩; (first | (with_reducible replace hB2 := bel_trans hB2 hB1) | (with_reducible replace hB2 := bel_trans (bel_alloc hB2) hB1)); obtain ⟨hC1, hF1⟩ := bcell hB2; replace hB1 := hB1) | (go_at_call 36; refine (isMinute _ _).mono ?_; rintro _ w1 ⟨rfl, rfl⟩))
      go_ret2; exact ⟨none, 0, 0, by rw [hR.out]; rfl, by rw [hR.out]; exact Own.mk_ (World.ownsRow_nil _ _ _ _), by (repeat' (first | (with_reducible exact bel_refl _) | (with_reducible assumption) | (with_reducible refine bel_drew ?_) | (with_reducible refine bel_drewN ?_) | (with_reducible refine bel_alloc ?_) | (with_reducible refine bel_set ?_ ?_) | (with_reducible refine bel_trans ?_ (by with_reducible assumption)) | omega | (simp; done) | (simp; omega)))⟩
    · have hR : Hid (openR p xs m = (openL xs m, true)) := by show _ = _; simp [openR, hg, hh]
      have hm := inB_iff.1 hh
      have hcm : ((w.alloc (.cells #[.int .i64 m] 3))).cell? ⟨w.heap.size, 0, none⟩ = some (.int .i64 m) := by rw [cell_of_row _ _ 0 _ _ (0, 0) (heap_alloc_new w _)]; rfl
      have hps : w.heap.size < ((w.alloc (.cells #[.int .i64 m] 3))).heap.size := by simp
      go_enter Try.func19, Try.ntmps19
      go_wp2_with (first | (first | (go_at_call 10; refine (isNetworkI _ _ _ _ _ _ (hS.bel (by (repeat' (first | (with_reducible exact bel_refl _) | (with_reducible assumption) | (with_reducible refine bel_drew ?_) | (with_reducible refine bel_drewN ?_) | (with_reducible refine bel_alloc ?_) | (with_reducible refine bel_set ?_ ?_) | (with_reducible refine bel_trans ?_ (by with_reducible assumption)) | omega | (simp; done) | (simp; omega))))) hn).mono ?_; rintro _ w1 ⟨rfl, hB1⟩; (first | (with_reducible replace hB2 := bel_trans hB2 hB1) | (with_reducible replace hB2 := bel_trans (bel_alloc hB2) hB1)); obtain ⟨hC1, hF1⟩ := bcell hB2; replace hB1 := hB1) | (go_at_call 36; refine (isMinute _ _).mono ?_; rintro _ w1 ⟨rfl, rfl⟩)) | (go_at_call 48; refine (filterOpen _ _ _ _ m p w.heap.size _ (hS.bel (by (repeat' (first | (with_reducible exact bel_refl _) | (with_reducible assumption) | (with_reducible refine bel_drew ?_) | (with_reducible refine bel_drewN ?_) | (with_reducible refine bel_alloc ?_) | (with_reducible refine bel_set ?_ ?_) | (with_reducible refine bel_trans ?_ (by with_reducible assumption)) | omega | (simp; done) | (simp; omega))))) hn12 hG hm (by first | exact hcm | exact (hC1 _ _ hps).trans hcm) (by first | exact hps | exact Nat.lt_of_lt_of_le hps hB2.size)).mono ?_; rintro _ w2 ⟨A', n', c', rfl, hO, hB1⟩))
      go_ret2
      refine ⟨A', n', c', by rw [hR.out]; rfl, ?_, by (repeat' (first | (with_reducible exact bel_refl _) | (with_reducible assumption) | (with_reducible refine bel_drew ?_) | (with_reducible refine bel_drewN ?_) | (with_reducible refine bel_alloc ?_) | (with_reducible refine bel_set ?_ ?_) | (with_reducible refine bel_trans ?_ (by with_reducible assumption)) | omega | (simp; done) | (simp; omega)))⟩
      rw [hR.out]
      exact hO.low (by have := hB2.size; simp at this; omega)
set_option maxHeartbeats 1000000 in
theorem openRoadsS (p : Int) (A : Option Addr) (n c : Nat) (xs : List Road) (m : Int) (w : World) (hS : Sl w 4 A n c (xs.flatMap Road.row)) (hn : n ≤ 1048576) :
    Calls Try.prog 20 #[.int .i64 p, .slice A n c, .int .i64 m] w fun e w' => ∃ A' n' c', e = .returned (.tuple #[.slice A' n' c', .bool (openR p xs m).2]) ∧ Own w.heap.size w'.heap.size w' 39 4 A' n' c' ((openR p xs m).1.flatMap Road.row) ∧ Below w.heap.size w w' := by
  have hB2 := bel_refl w
  rcases hg : netB p xs with _ | _
  · have hR : Hid (openR p xs m = ([], false)) := by show _ = _; simp [openR, hg]
    go_enter Try.func20, Try.ntmps20
    go_wp2_with (first | (go_at_call 42; refine (l12Good _ _ _ _ _ _ (hS.bel (by (repeat' (first | (with_reducible exact bel_refl _) | (with_reducible assumption) | (with_reducible refine bel_drew ?_) | (with_reducible refine bel_drewN ?_) | (with_reducible refine bel_alloc ?_) | (with_reducible refine bel_set ?_ ?_) | (with_reducible refine bel_trans ?_ (by with_reducible assumption)) | omega | (simp; done) | (simp; omega))))) (by omega)).mono ?_; rintro _ w1 ⟨rfl, hB1⟩; (first | (with_reducible replace hB2 := bel_trans hB2 hB1) | (with_reducible replace hB2 := bel_trans (bel_alloc hB2) hB1)); obtain ⟨hC1, hF1⟩ := bcell hB2; replace hB1 := hB1) | (go_at_call 39; refine (l12Minute _ _).mono ?_; rintro _ w1 ⟨rfl, rfl⟩))
    go_ret2; exact ⟨some ⟨w.heap.size, 0, none⟩, 0, 0, by rw [hR.out]; rfl, by rw [hR.out]; exact Own.mk_ (own_bel (own_empty (Nat.le_refl _)) hB1), by (repeat' (first | (with_reducible exact bel_refl _) | (with_reducible assumption) | (with_reducible refine bel_drew ?_) | (with_reducible refine bel_drewN ?_) | (with_reducible refine bel_alloc ?_) | (with_reducible refine bel_set ?_ ?_) | (with_reducible refine bel_trans ?_ (by with_reducible assumption)) | omega | (simp; done) | (simp; omega)))⟩
  · have hG := netB_all hg
    have hn12 : n ≤ 12 := by have := (netB_bd hg).2.2; rwa [hS.xs_len Road.row_len (by omega)] at this
    have hlh := hid (hS.xs_len Road.row_len (by omega))
    rcases hh : inB m 0 999 with _ | _
    · have hR : Hid (openR p xs m = ([], false)) := by show _ = _; simp [openR, hh]
      go_enter Try.func20, Try.ntmps20
      go_wp2_with (first | (go_at_call 42; refine (l12Good _ _ _ _ _ _ (hS.bel (by (repeat' (first | (with_reducible exact bel_refl _) | (with_reducible assumption) | (with_reducible refine bel_drew ?_) | (with_reducible refine bel_drewN ?_) | (with_reducible refine bel_alloc ?_) | (with_reducible refine bel_set ?_ ?_) | (with_reducible refine bel_trans ?_ (by with_reducible assumption)) | omega | (simp; done) | (simp; omega))))) (by omega)).mono ?_; rintro _ w1 ⟨rfl, hB1⟩; (first | (with_reducible replace hB2 := bel_trans hB2 hB1) | (with_reducible replace hB2 := bel_trans (bel_alloc hB2) hB1)); obtain ⟨hC1, hF1⟩ := bcell hB2; replace hB1 := hB1) | (go_at_call 39; refine (l12Minute _ _).mono ?_; rintro _ w1 ⟨rfl, rfl⟩))
      go_ret2; exact ⟨some ⟨w.heap.size, 0, none⟩, 0, 0, by rw [hR.out]; rfl, by rw [hR.out]; exact Own.mk_ (own_bel (own_empty (Nat.le_refl _)) hB1), by (repeat' (first | (with_reducible exact bel_refl _) | (with_reducible assumption) | (with_reducible refine bel_drew ?_) | (with_reducible refine bel_drewN ?_) | (with_reducible refine bel_alloc ?_) | (with_reducible refine bel_set ?_ ?_) | (with_reducible refine bel_trans ?_ (by with_reducible assumption)) | omega | (simp; done) | (simp; omega)))⟩
    · have hR : Hid (openR p xs m = (openL xs m, true)) := by show _ = _; simp [openR, hg, hh]
      have hm := inB_iff.1 hh
      go_enter Try.func20, Try.ntmps20
      go_wp2_with (first | (go_at_call 42; refine (l12Good _ _ _ _ _ _ (hS.bel (by (repeat' (first | (with_reducible exact bel_refl _) | (with_reducible assumption) | (with_reducible refine bel_drew ?_) | (with_reducible refine bel_drewN ?_) | (with_reducible refine bel_alloc ?_) | (with_reducible refine bel_set ?_ ?_) | (with_reducible refine bel_trans ?_ (by with_reducible assumption)) | omega | (simp; done) | (simp; omega))))) (by omega)).mono ?_; rintro _ w1 ⟨rfl, hB1⟩; (first | (with_reducible replace hB2 := bel_trans hB2 hB1) | (with_reducible replace hB2 := bel_trans (bel_alloc hB2) hB1)); obtain ⟨hC1, hF1⟩ := bcell hB2; replace hB1 := hB1) | (go_at_call 39; refine (l12Minute _ _).mono ?_; rintro _ w1 ⟨rfl, rfl⟩))
      clear hh hg
      go_loopw [8, 9] (fun q v wr => ∃ i : Nat, i ≤ n ∧ v = .int .i64 i ∧ (∃ A' k c', q = .slice A' k c' ∧ wr.ownsRow w.heap.size 39 4 (.slice A' k c') k ((openL (xs.take i) m).flatMap Road.row)) ∧ Below w.heap.size w wr) (fun _ v _ => n - (intOf v).toNat)
      case atStart => exact ⟨0, by omega, rfl, ⟨_, _, _, rfl, by simpa [openL] using own_bel (own_empty (w := w) (size := 4) (e := 39) (Nat.le_refl _)) hB1⟩, by (repeat' (first | (with_reducible exact bel_refl _) | (with_reducible assumption) | (with_reducible refine bel_drew ?_) | (with_reducible refine bel_drewN ?_) | (with_reducible refine bel_alloc ?_) | (with_reducible refine bel_set ?_ ?_) | (with_reducible refine bel_trans ?_ (by with_reducible assumption)) | omega | (simp; done) | (simp; omega)))⟩
      case round =>
        clear hB1 hB2
        obtain ⟨i, hi', rfl, ⟨A', k, c', rfl, hown⟩, hB2⟩ := hrel
        by_cases hlt : i < n
        · obtain ⟨x, hx⟩ : ∃ x, xs[i]? = some x := get_of_lt (by rw [hlh.out]; exact hlt)
          obtain ⟨b, o, rfl, hb, c0, c1, c2, c3⟩ := (hS.bel hB2).road hx
          have hX := hid hx
          have hgx := hid (hG i x hx)
          clear hx
          have hk : k ≤ i := by
            have h2 := hown.1
            rw [flat_len Road.row_len] at h2
            have h3 := openL_len xs m i
            omega
          have hrd : 0 ≤ rideA x m ↔ openB m x = true := by
            have hb := goodR_bd hgx.out
            simp only [openB, decide_eq_true_eq, rideA]
            split <;> omega
          rcases hw : openB m x with _ | _
          · have hr0 : ¬ 0 ≤ rideA x m := fun h => by rw [hrd.1 h] at hw; cases hw
            clear hrd
            go_wp2_with (go_at_call 50; refine (l12Ride x m p _ hgx.out (by omega)).mono ?_; rintro _ w2 ⟨rfl, hB1⟩; (first | (with_reducible replace hB2 := bel_trans hB2 hB1) | (with_reducible replace hB2 := bel_trans (bel_alloc hB2) hB1)); (first | (with_reducible replace hown := own_bel hown hB1) | (with_reducible replace hown := own_bel (hown.alloc _) hB1)); obtain ⟨hC1, hF1⟩ := bcell hB1)
            go_roundw
            case rel => exact ⟨i + 1, by omega, by go_num, ⟨_, _, _, rfl, by rw [← openL_no hX.out hw]; exact hown⟩, hB2⟩
            case measure => simp [intOf]; omega
          · have hr0 := hrd.2 hw
            clear hrd
            go_wp2_with (first | (go_at_call 50; refine (l12Ride x m p _ hgx.out (by omega)).mono ?_; rintro _ w2 ⟨rfl, hB1⟩; (first | (with_reducible replace hB2 := bel_trans hB2 hB1) | (with_reducible replace hB2 := bel_trans (bel_alloc hB2) hB1)); (first | (with_reducible replace hown := own_bel hown hB1) | (with_reducible replace hown := own_bel (hown.alloc _) hB1)); obtain ⟨hC1, hF1⟩ := bcell hB1) | (at_builtin; refine wpList_push rfl (.tmp 34) (.tmp 39) 24 rfl w.heap.size 39 (.agg #[.int .i64 0, .int .i64 0, .int .i64 0, .int .i64 0]) 4 32 Try.underlying24 info_Road rfl (by omega) A' k c' _ [.int .i64 x.a, .int .i64 x.b, .int .i64 x.minutes, .int .i64 x.closes] 39 rfl hown rfl rfl (oneCell_road x) (by omega) (by omega) hB2.size ?_; intro A'' c'' w3 hown2 hb3 hg3))
            go_roundw
            case rel => exact ⟨i + 1, by omega, by go_num, ⟨_, _, _, rfl, by rw [← openL_yes hX.out hw]; exact hown2⟩, hB2.trans hb3⟩
            case measure => simp [intOf]; omega
        · go_wp2
          go_ret2
          have e : i = n := by omega
          subst e
          rw [List.take_of_length_le (by rw [hlh.out]; omega)] at hown
          exact ⟨A', k, c', by rw [hR.out]; rfl, by rw [hR.out]; exact Own.mk_ hown, hB2⟩
end Go.Proofs.Ytfimchbjpambfaa
