/-
  The cells that a condition holds for, the numbers that it holds for, the neighbors of a cell: of the program and of the reference, walked.
-/
import Derived.Test.YtdfjfopbhlbmkaaTerrOk
namespace Go.Proofs.Ytdfjfopbhlbmkaa
open Go.RowKit

def cellsL (n : Nat) (p : Nat → Bool) : List Int := ((List.range n).filter p).map fun (x : Nat) => (x : Int)
theorem cellsL_yes {i : Nat} {p : Nat → Bool} (h : p i = true) : cellsL i p ++ [(i : Int)] = cellsL (i + 1) p := by
  simp [cellsL, List.range_succ, List.filter_append, h]
theorem cellsL_no {i : Nat} {p : Nat → Bool} (h : p i = false) : cellsL (i + 1) p = cellsL i p := by
  simp [cellsL, List.range_succ, List.filter_append, h]
theorem cellsL_len (n : Nat) (p : Nat → Bool) : (cellsL n p).length ≤ n := by
  rw [cellsL, List.length_map]
  exact Nat.le_trans (List.length_filter_le _ _) (by simp)
theorem cellsL_mem {n : Nat} {p : Nat → Bool} {x : Int} : x ∈ cellsL n p ↔ ∃ i : Nat, x = i ∧ i < n ∧ p i = true := by
  simp only [cellsL, List.mem_map, List.mem_filter, List.mem_range]
  constructor
  · rintro ⟨i, ⟨h1, h2⟩, rfl⟩
    exact ⟨i, rfl, h1, h2⟩
  · rintro ⟨i, rfl, h1, h2⟩
    exact ⟨i, ⟨h1, h2⟩, rfl⟩
theorem info_int' : (Try.prog.info? 3).map (fun i => (i.zero, i.size, i.bytes)) = some (some (.int .i64 0), 1, 8) := by kernel_rfl
theorem slice_at {g g' n : Nat} (h : g = g') : Value.slice (some ⟨g, 0, none⟩) n n = .slice (some ⟨g', 0, none⟩) n n := by rw [h]
set_option maxHeartbeats 2000000 in
theorem cellsNear (t : Terr) (v1 v2 : Value) (p : Nat → Bool) (w : World) (hn : t.n ≤ 25) (hF : ∀ (x : Nat) (w' : World), x < t.n → Below w.heap.size w w' → Calls Try.prog 113 #[.int .i64 (x : Int), v1, v2] w' fun e w'' => e = .returned (.bool (p x)) ∧ Below w'.heap.size w' w'') :
    Calls Try.prog 66 #[.agg #[.int .i64 t.W, .int .i64 t.H, .slice t.A t.n t.c], .func (.func 113) #[] #[v1, v2]] w fun e w' => ∃ A' m c', e = .returned (.slice A' m c') ∧ Own w.heap.size w'.heap.size w' 3 1 A' m c' (ints (cellsL t.n p)) ∧ Below w.heap.size w w' := by
  replace hF := hid hF
  go_enter Try.func66, Try.ntmps66
  go_wp2_with fail
  go_loopw [5, 11] (fun q v wr => ∃ i : Nat, i ≤ t.n ∧ v = .int .i64 i ∧ (∃ A' k c', q = .slice A' k c' ∧ wr.ownsRow w.heap.size 3 1 (.slice A' k c') k (ints (cellsL i p))) ∧ Below w.heap.size w wr) (fun _ v _ => t.n - (intOf v).toNat)
  case atStart => exact ⟨0, by omega, rfl, ⟨_, _, _, rfl, by simpa [cellsL, ints] using own_low (own_empty (w := (w.alloc (.cells #[.int .i64 t.W, .int .i64 t.H, .slice t.A t.n t.c] 30))) (size := 1) (e := 3) (Nat.le_refl _)) (by simp)⟩, by (repeat' (first | (with_reducible exact bel_refl _) | (with_reducible assumption) | (with_reducible refine bel_drew ?_) | (with_reducible refine bel_drewN ?_) | (with_reducible refine bel_alloc ?_) | (with_reducible refine bel_set ?_ ?_) | (with_reducible refine bel_trans ?_ (by with_reducible assumption)) | omega | (simp; done) | (simp; omega)))⟩
  case round =>
    obtain ⟨i, hi', rfl, ⟨A', k, c', rfl, hown⟩, hB2⟩ := hrel
    by_cases hlt : i < t.n
    · have hkl : k ≤ 25 := by
        have h1 := hown.1
        have h2 := cellsL_len i p
        rw [ints_len] at h1
        omega
      have hi0 : (0 : Int) ≤ (i : Int) := by omega
      have hi1 : (i : Int) < (t.n : Int) := by omega
      have hc := hid (fun w' hb => hF.out i w' hlt hb)
      rcases hp : p i with _ | _
      · go_wp2_with (go_at_call 113; refine (hc.out _ hB2).mono ?_; rw [hp]; rintro _ w1 ⟨rfl, hB1⟩; replace hB2 := bel_trans hB2 hB1)
        go_roundw
        case rel => exact ⟨i + 1, by omega, by go_num, ⟨_, _, _, rfl, by rw [cellsL_no hp]; exact own_bel hown hB1⟩, hB2⟩
        case measure => simp [intOf]; omega
      · go_wp2_with (first | (go_at_call 113; refine (hc.out _ hB2).mono ?_; rw [hp]; rintro _ w1 ⟨rfl, hB1⟩; replace hB2 := bel_trans hB2 hB1; replace hown := own_bel hown hB1) | (at_builtin; refine wpList_push rfl (.tmp 17) (.tmp 19) 22 rfl w.heap.size 3 (.int .i64 0) 1 8 Try.underlying22 info_int' rfl (by omega) A' k c' _ [.int .i64 i] 3 rfl (own_bel hown (by (repeat' (first | (with_reducible exact bel_refl _) | (with_reducible assumption) | (with_reducible refine bel_drew ?_) | (with_reducible refine bel_drewN ?_) | (with_reducible refine bel_alloc ?_) | (with_reducible refine bel_set ?_ ?_) | (with_reducible refine bel_trans ?_ (by with_reducible assumption)) | omega | (simp; done) | (simp; omega))))) (by first | rfl | exact slice_at (by simp)) rfl (oneCell_int _) (by omega) (by omega) (by have := hB2.size; simp; omega) ?_; intro A'' c'' w3 hown2 hb3 hg3))
        go_roundw
        case rel => exact ⟨i + 1, by omega, by go_num, ⟨_, _, _, rfl, by rw [← cellsL_yes hp, ← ints_snoc]; exact hown2⟩, Below.trans hB2 hb3⟩
        case measure => simp [intOf]; omega
    · have hi1 : ¬ (i : Int) < (t.n : Int) := by omega
      go_wp2
      go_ret
      have e : i = t.n := by omega
      rw [e] at hown
      exact ⟨A', k, c', rfl, Own.mk_ hown, hB2⟩

set_option maxHeartbeats 2000000 in
theorem cellsBurn (t : Terr) (v1 v2 : Value) (p : Nat → Bool) (w : World) (hn : t.n ≤ 25) (hF : ∀ (x : Nat) (w' : World), x < t.n → Below w.heap.size w w' → Calls Try.prog 81 #[.int .i64 (x : Int), v1, v2] w' fun e w'' => e = .returned (.bool (p x)) ∧ Below w'.heap.size w' w'') :
    Calls Try.prog 66 #[.agg #[.int .i64 t.W, .int .i64 t.H, .slice t.A t.n t.c], .func (.func 81) #[] #[v1, v2]] w fun e w' => ∃ A' m c', e = .returned (.slice A' m c') ∧ Own w.heap.size w'.heap.size w' 3 1 A' m c' (ints (cellsL t.n p)) ∧ Below w.heap.size w w' := by
  replace hF := hid hF
  go_enter Try.func66, Try.ntmps66
  go_wp2_with fail
  go_loopw [5, 11] (fun q v wr => ∃ i : Nat, i ≤ t.n ∧ v = .int .i64 i ∧ (∃ A' k c', q = .slice A' k c' ∧ wr.ownsRow w.heap.size 3 1 (.slice A' k c') k (ints (cellsL i p))) ∧ Below w.heap.size w wr) (fun _ v _ => t.n - (intOf v).toNat)
  case atStart => exact ⟨0, by omega, rfl, ⟨_, _, _, rfl, by simpa [cellsL, ints] using own_low (own_empty (w := (w.alloc (.cells #[.int .i64 t.W, .int .i64 t.H, .slice t.A t.n t.c] 30))) (size := 1) (e := 3) (Nat.le_refl _)) (by simp)⟩, by (repeat' (first | (with_reducible exact bel_refl _) | (with_reducible assumption) | (with_reducible refine bel_drew ?_) | (with_reducible refine bel_drewN ?_) | (with_reducible refine bel_alloc ?_) | (with_reducible refine bel_set ?_ ?_) | (with_reducible refine bel_trans ?_ (by with_reducible assumption)) | omega | (simp; done) | (simp; omega)))⟩
  case round =>
    obtain ⟨i, hi', rfl, ⟨A', k, c', rfl, hown⟩, hB2⟩ := hrel
    by_cases hlt : i < t.n
    · have hkl : k ≤ 25 := by
        have h1 := hown.1
        have h2 := cellsL_len i p
        rw [ints_len] at h1
        omega
      have hi0 : (0 : Int) ≤ (i : Int) := by omega
      have hi1 : (i : Int) < (t.n : Int) := by omega
      have hc := hid (fun w' hb => hF.out i w' hlt hb)
      rcases hp : p i with _ | _
      · go_wp2_with (go_at_call 81; refine (hc.out _ hB2).mono ?_; rw [hp]; rintro _ w1 ⟨rfl, hB1⟩; replace hB2 := bel_trans hB2 hB1)
        go_roundw
        case rel => exact ⟨i + 1, by omega, by go_num, ⟨_, _, _, rfl, by rw [cellsL_no hp]; exact own_bel hown hB1⟩, hB2⟩
        case measure => simp [intOf]; omega
      · go_wp2_with (first | (go_at_call 81; refine (hc.out _ hB2).mono ?_; rw [hp]; rintro _ w1 ⟨rfl, hB1⟩; replace hB2 := bel_trans hB2 hB1; replace hown := own_bel hown hB1) | (at_builtin; refine wpList_push rfl (.tmp 17) (.tmp 19) 22 rfl w.heap.size 3 (.int .i64 0) 1 8 Try.underlying22 info_int' rfl (by omega) A' k c' _ [.int .i64 i] 3 rfl (own_bel hown (by (repeat' (first | (with_reducible exact bel_refl _) | (with_reducible assumption) | (with_reducible refine bel_drew ?_) | (with_reducible refine bel_drewN ?_) | (with_reducible refine bel_alloc ?_) | (with_reducible refine bel_set ?_ ?_) | (with_reducible refine bel_trans ?_ (by with_reducible assumption)) | omega | (simp; done) | (simp; omega))))) (by first | rfl | exact slice_at (by simp)) rfl (oneCell_int _) (by omega) (by omega) (by have := hB2.size; simp; omega) ?_; intro A'' c'' w3 hown2 hb3 hg3))
        go_roundw
        case rel => exact ⟨i + 1, by omega, by go_num, ⟨_, _, _, rfl, by rw [← cellsL_yes hp, ← ints_snoc]; exact hown2⟩, Below.trans hB2 hb3⟩
        case measure => simp [intOf]; omega
    · have hi1 : ¬ (i : Int) < (t.n : Int) := by omega
      go_wp2
      go_ret
      have e : i = t.n := by omega
      rw [e] at hown
      exact ⟨A', k, c', rfl, Own.mk_ hown, hB2⟩

set_option maxHeartbeats 2000000 in
theorem cellsMay (t : Terr) (v1 : Value) (p : Nat → Bool) (w : World) (hn : t.n ≤ 25) (hF : ∀ (x : Nat) (w' : World), x < t.n → Below w.heap.size w w' → Calls Try.prog 67 #[.int .i64 (x : Int), v1] w' fun e w'' => e = .returned (.bool (p x)) ∧ Below w'.heap.size w' w'') :
    Calls Try.prog 66 #[.agg #[.int .i64 t.W, .int .i64 t.H, .slice t.A t.n t.c], .func (.func 67) #[] #[v1]] w fun e w' => ∃ A' m c', e = .returned (.slice A' m c') ∧ Own w.heap.size w'.heap.size w' 3 1 A' m c' (ints (cellsL t.n p)) ∧ Below w.heap.size w w' := by
  replace hF := hid hF
  go_enter Try.func66, Try.ntmps66
  go_wp2_with fail
  go_loopw [5, 11] (fun q v wr => ∃ i : Nat, i ≤ t.n ∧ v = .int .i64 i ∧ (∃ A' k c', q = .slice A' k c' ∧ wr.ownsRow w.heap.size 3 1 (.slice A' k c') k (ints (cellsL i p))) ∧ Below w.heap.size w wr) (fun _ v _ => t.n - (intOf v).toNat)
  case atStart => exact ⟨0, by omega, rfl, ⟨_, _, _, rfl, by simpa [cellsL, ints] using own_low (own_empty (w := (w.alloc (.cells #[.int .i64 t.W, .int .i64 t.H, .slice t.A t.n t.c] 30))) (size := 1) (e := 3) (Nat.le_refl _)) (by simp)⟩, by (repeat' (first | (with_reducible exact bel_refl _) | (with_reducible assumption) | (with_reducible refine bel_drew ?_) | (with_reducible refine bel_drewN ?_) | (with_reducible refine bel_alloc ?_) | (with_reducible refine bel_set ?_ ?_) | (with_reducible refine bel_trans ?_ (by with_reducible assumption)) | omega | (simp; done) | (simp; omega)))⟩
  case round =>
    obtain ⟨i, hi', rfl, ⟨A', k, c', rfl, hown⟩, hB2⟩ := hrel
    by_cases hlt : i < t.n
    · have hkl : k ≤ 25 := by
        have h1 := hown.1
        have h2 := cellsL_len i p
        rw [ints_len] at h1
        omega
      have hi0 : (0 : Int) ≤ (i : Int) := by omega
      have hi1 : (i : Int) < (t.n : Int) := by omega
      have hc := hid (fun w' hb => hF.out i w' hlt hb)
      rcases hp : p i with _ | _
      · go_wp2_with (go_at_call 67; refine (hc.out _ hB2).mono ?_; rw [hp]; rintro _ w1 ⟨rfl, hB1⟩; replace hB2 := bel_trans hB2 hB1)
        go_roundw
        case rel => exact ⟨i + 1, by omega, by go_num, ⟨_, _, _, rfl, by rw [cellsL_no hp]; exact own_bel hown hB1⟩, hB2⟩
        case measure => simp [intOf]; omega
      · go_wp2_with (first | (go_at_call 67; refine (hc.out _ hB2).mono ?_; rw [hp]; rintro _ w1 ⟨rfl, hB1⟩; replace hB2 := bel_trans hB2 hB1; replace hown := own_bel hown hB1) | (at_builtin; refine wpList_push rfl (.tmp 17) (.tmp 19) 22 rfl w.heap.size 3 (.int .i64 0) 1 8 Try.underlying22 info_int' rfl (by omega) A' k c' _ [.int .i64 i] 3 rfl (own_bel hown (by (repeat' (first | (with_reducible exact bel_refl _) | (with_reducible assumption) | (with_reducible refine bel_drew ?_) | (with_reducible refine bel_drewN ?_) | (with_reducible refine bel_alloc ?_) | (with_reducible refine bel_set ?_ ?_) | (with_reducible refine bel_trans ?_ (by with_reducible assumption)) | omega | (simp; done) | (simp; omega))))) (by first | rfl | exact slice_at (by simp)) rfl (oneCell_int _) (by omega) (by omega) (by have := hB2.size; simp; omega) ?_; intro A'' c'' w3 hown2 hb3 hg3))
        go_roundw
        case rel => exact ⟨i + 1, by omega, by go_num, ⟨_, _, _, rfl, by rw [← cellsL_yes hp, ← ints_snoc]; exact hown2⟩, Below.trans hB2 hb3⟩
        case measure => simp [intOf]; omega
    · have hi1 : ¬ (i : Int) < (t.n : Int) := by omega
      go_wp2
      go_ret
      have e : i = t.n := by omega
      rw [e] at hown
      exact ⟨A', k, c', rfl, Own.mk_ hown, hB2⟩

set_option maxHeartbeats 2000000 in
theorem cellsSure (t : Terr) (v1 v2 : Value) (p : Nat → Bool) (w : World) (hn : t.n ≤ 25) (hF : ∀ (x : Nat) (w' : World), x < t.n → Below w.heap.size w w' → Calls Try.prog 68 #[.int .i64 (x : Int), v1, v2] w' fun e w'' => e = .returned (.bool (p x)) ∧ Below w'.heap.size w' w'') :
    Calls Try.prog 66 #[.agg #[.int .i64 t.W, .int .i64 t.H, .slice t.A t.n t.c], .func (.func 68) #[] #[v1, v2]] w fun e w' => ∃ A' m c', e = .returned (.slice A' m c') ∧ Own w.heap.size w'.heap.size w' 3 1 A' m c' (ints (cellsL t.n p)) ∧ Below w.heap.size w w' := by
  replace hF := hid hF
  go_enter Try.func66, Try.ntmps66
  go_wp2_with fail
  go_loopw [5, 11] (fun q v wr => ∃ i : Nat, i ≤ t.n ∧ v = .int .i64 i ∧ (∃ A' k c', q = .slice A' k c' ∧ wr.ownsRow w.heap.size 3 1 (.slice A' k c') k (ints (cellsL i p))) ∧ Below w.heap.size w wr) (fun _ v _ => t.n - (intOf v).toNat)
  case atStart => exact ⟨0, by omega, rfl, ⟨_, _, _, rfl, by simpa [cellsL, ints] using own_low (own_empty (w := (w.alloc (.cells #[.int .i64 t.W, .int .i64 t.H, .slice t.A t.n t.c] 30))) (size := 1) (e := 3) (Nat.le_refl _)) (by simp)⟩, by (repeat' (first | (with_reducible exact bel_refl _) | (with_reducible assumption) | (with_reducible refine bel_drew ?_) | (with_reducible refine bel_drewN ?_) | (with_reducible refine bel_alloc ?_) | (with_reducible refine bel_set ?_ ?_) | (with_reducible refine bel_trans ?_ (by with_reducible assumption)) | omega | (simp; done) | (simp; omega)))⟩
  case round =>
    obtain ⟨i, hi', rfl, ⟨A', k, c', rfl, hown⟩, hB2⟩ := hrel
    by_cases hlt : i < t.n
    · have hkl : k ≤ 25 := by
        have h1 := hown.1
        have h2 := cellsL_len i p
        rw [ints_len] at h1
        omega
      have hi0 : (0 : Int) ≤ (i : Int) := by omega
      have hi1 : (i : Int) < (t.n : Int) := by omega
      have hc := hid (fun w' hb => hF.out i w' hlt hb)
      rcases hp : p i with _ | _
      · go_wp2_with (go_at_call 68; refine (hc.out _ hB2).mono ?_; rw [hp]; rintro _ w1 ⟨rfl, hB1⟩; replace hB2 := bel_trans hB2 hB1)
        go_roundw
        case rel => exact ⟨i + 1, by omega, by go_num, ⟨_, _, _, rfl, by rw [cellsL_no hp]; exact own_bel hown hB1⟩, hB2⟩
        case measure => simp [intOf]; omega
      · go_wp2_with (first | (go_at_call 68; refine (hc.out _ hB2).mono ?_; rw [hp]; rintro _ w1 ⟨rfl, hB1⟩; replace hB2 := bel_trans hB2 hB1; replace hown := own_bel hown hB1) | (at_builtin; refine wpList_push rfl (.tmp 17) (.tmp 19) 22 rfl w.heap.size 3 (.int .i64 0) 1 8 Try.underlying22 info_int' rfl (by omega) A' k c' _ [.int .i64 i] 3 rfl (own_bel hown (by (repeat' (first | (with_reducible exact bel_refl _) | (with_reducible assumption) | (with_reducible refine bel_drew ?_) | (with_reducible refine bel_drewN ?_) | (with_reducible refine bel_alloc ?_) | (with_reducible refine bel_set ?_ ?_) | (with_reducible refine bel_trans ?_ (by with_reducible assumption)) | omega | (simp; done) | (simp; omega))))) (by first | rfl | exact slice_at (by simp)) rfl (oneCell_int _) (by omega) (by omega) (by have := hB2.size; simp; omega) ?_; intro A'' c'' w3 hown2 hb3 hg3))
        go_roundw
        case rel => exact ⟨i + 1, by omega, by go_num, ⟨_, _, _, rfl, by rw [← cellsL_yes hp, ← ints_snoc]; exact hown2⟩, Below.trans hB2 hb3⟩
        case measure => simp [intOf]; omega
    · have hi1 : ¬ (i : Int) < (t.n : Int) := by omega
      go_wp2
      go_ret
      have e : i = t.n := by omega
      rw [e] at hown
      exact ⟨A', k, c', rfl, Own.mk_ hown, hB2⟩

theorem apart_sym (W a b : Int) : apartF W a b = apartF W b a := by unfold apartF; omega
def nearB (t : Terr) (a : Int) (i : Nat) : Bool := decide (apartF t.W a i = 1)
def nearL (t : Terr) (a : Int) : List Int := cellsL t.n (nearB t a)
theorem near_clo (t : Terr) (a : Int) (x : Nat) (g h : Nat) (w : World) (hW : 1 ≤ t.W ∧ t.W ≤ 5) (ha : 0 ≤ a ∧ a ≤ 24) (hx : x ≤ 24) (c0 : w.cell? ⟨g, 0, none⟩ = some (.int .i64 t.W)) (c1 : w.cell? ⟨g, 1, none⟩ = some (.int .i64 t.H)) (c2 : w.cell? ⟨g, 2, none⟩ = some (.slice t.A t.n t.c)) (d0 : w.cell? ⟨h, 0, none⟩ = some (.int .i64 a)) :
    Calls Try.prog 113 #[.int .i64 (x : Int), .pointer (some ⟨g, 0, none⟩), .pointer (some ⟨h, 0, none⟩)] w fun e w' => e = .returned (.bool (nearB t a x)) ∧ Below w.heap.size w w' := by
  have hB2 := bel_refl w
  have hx1 : (x : Int) ≤ 24 := by omega
  go_enter Try.func113, Try.ntmps113
  go_wp2_with (go_at_call 114; refine (apart_ t _ _ _ hW (by omega) ha).mono ?_; rintro _ w1 ⟨rfl, hB1⟩; (first | (with_reducible replace hB2 := bel_trans hB2 hB1) | (with_reducible replace hB2 := bel_trans (bel_alloc hB2) hB1)); obtain ⟨hC1, hF1⟩ := bcell hB2; replace hB1 := hB1)
  go_ret
  refine ⟨ret_bool ?_, by (repeat' (first | (with_reducible exact bel_refl _) | (with_reducible assumption) | (with_reducible refine bel_drew ?_) | (with_reducible refine bel_drewN ?_) | (with_reducible refine bel_alloc ?_) | (with_reducible refine bel_set ?_ ?_) | (with_reducible refine bel_trans ?_ (by with_reducible assumption)) | omega | (simp; done) | (simp; omega)))⟩
  rw [nearB, apart_sym]
  rfl
set_option maxHeartbeats 1000000 in
theorem neighbors (t : Terr) (a : Int) (w : World) (hg : goodT t = true) (ha : 0 ≤ a ∧ a < t.n) :
    Calls Try.prog 102 #[.agg #[.int .i64 t.W, .int .i64 t.H, .slice t.A t.n t.c], .int .i64 a] w fun e w' => ∃ A' m c', e = .returned (.slice A' m c') ∧ Own w.heap.size w'.heap.size w' 3 1 A' m c' (ints (nearL t a)) ∧ Below w.heap.size w w' := by
  obtain ⟨hW, _, _, _, hn, _⟩ := goodT_bd hg
  obtain ⟨Z, hZ⟩ : ∃ Z, (w.alloc (.cells #[.int .i64 t.W, .int .i64 t.H, .slice t.A t.n t.c] 30)).alloc (.cells #[.int .i64 a] 3) = Z := ⟨_, rfl⟩
  have hb : Below w.heap.size w Z := by rw [← hZ]; exact bel_alloc (bel_alloc (bel_refl w))
  have c0 : Z.cell? ⟨w.heap.size, 0, none⟩ = some (.int .i64 t.W) := by rw [← hZ]; simp [go_sem]
  have c1 : Z.cell? ⟨w.heap.size, 1, none⟩ = some (.int .i64 t.H) := by rw [← hZ]; simp [go_sem]
  have c2 : Z.cell? ⟨w.heap.size, 2, none⟩ = some (.slice t.A t.n t.c) := by rw [← hZ]; simp [go_sem]
  have d0 : Z.cell? ⟨w.heap.size + 1, 0, none⟩ = some (.int .i64 a) := by rw [← hZ]; simp [go_sem]
  have hs : w.heap.size + 1 < Z.heap.size := by rw [← hZ]; simp
  have hF := hid (fun (x : Nat) (w' : World) (hx : x < t.n) (hb' : Below Z.heap.size Z w') => near_clo t a x w.heap.size (w.heap.size + 1) w' hW (by omega) (by omega) (((bcell hb').1 _ _ (by omega)).trans c0) (((bcell hb').1 _ _ (by omega)).trans c1) (((bcell hb').1 _ _ (by omega)).trans c2) (((bcell hb').1 _ _ hs).trans d0))
  go_enter Try.func102, Try.ntmps102
  go_wp2_with (go_at_call 66; (try rw [hZ]); refine (cellsNear t _ _ (nearB t a) _ hn hF.out).mono ?_; rintro _ w1 ⟨A1, m, c1, rfl, hO, hB1⟩)
  go_ret
  exact ⟨A1, m, c1, rfl, hO.low hb.size, bel_trans hb hB1⟩
set_option maxHeartbeats 2000000 in
theorem l2Near (t : Terr) (a : Int) (w : World) (hg : goodT t = true) (ha : 0 ≤ a ∧ a < t.n) :
    Calls Try.prog 90 #[.agg #[.int .i64 t.W, .int .i64 t.H, .slice t.A t.n t.c], .int .i64 a] w fun e w' => ∃ A' m c', e = .returned (.slice A' m c') ∧ Own w.heap.size w'.heap.size w' 3 1 A' m c' (ints (nearL t a)) ∧ Below w.heap.size w w' := by
  obtain ⟨hW, _, _, _, hn, _⟩ := goodT_bd hg
  have hz : w.heap.size ≤ ((w.alloc (.cells #[.int .i64 t.W, .int .i64 t.H, .slice t.A t.n t.c] 30))).heap.size := by simp
  go_enter Try.func90, Try.ntmps90
  go_wp2_with fail
  go_loopw [5, 6] (fun q v wr => ∃ i : Nat, i ≤ t.n ∧ v = .int .i64 i ∧ (∃ A' k c', q = .slice A' k c' ∧ wr.ownsRow ((w.alloc (.cells #[.int .i64 t.W, .int .i64 t.H, .slice t.A t.n t.c] 30))).heap.size 3 1 (.slice A' k c') k (ints (cellsL i (nearB t a)))) ∧ Below ((w.alloc (.cells #[.int .i64 t.W, .int .i64 t.H, .slice t.A t.n t.c] 30))).heap.size ((w.alloc (.cells #[.int .i64 t.W, .int .i64 t.H, .slice t.A t.n t.c] 30))) wr) (fun _ v _ => t.n - (intOf v).toNat)
  case atStart => exact ⟨0, by omega, rfl, ⟨_, _, _, rfl, by simpa [cellsL, ints] using own_empty (w := (w.alloc (.cells #[.int .i64 t.W, .int .i64 t.H, .slice t.A t.n t.c] 30))) (size := 1) (e := 3) (Nat.le_refl _)⟩, bel_alloc (bel_refl _)⟩
  case round =>
    obtain ⟨i, hi', rfl, ⟨A', k, c', rfl, hown⟩, hB2⟩ := hrel
    have k0 : wr.cell? ⟨w.heap.size, 0, none⟩ = some (.int .i64 t.W) := ((bcell hB2).1 _ _ (by simp)).trans (by simp [go_sem])
    have k1 : wr.cell? ⟨w.heap.size, 1, none⟩ = some (.int .i64 t.H) := ((bcell hB2).1 _ _ (by simp)).trans (by simp [go_sem])
    have k2 : wr.cell? ⟨w.heap.size, 2, none⟩ = some (.slice t.A t.n t.c) := ((bcell hB2).1 _ _ (by simp)).trans (by simp [go_sem])
    by_cases hlt : i < t.n
    · have hkl : k ≤ 25 := by
        have h1 := hown.1
        have h2 := cellsL_len i (nearB t a)
        rw [ints_len] at h1
        omega
      have hi0 : (0 : Int) ≤ (i : Int) := by omega
      have hi1 : (i : Int) < (t.n : Int) := by omega
      rcases hp : nearB t a i with _ | _
      · have hq : (apartF t.W a i == 1) = false := by simpa [nearB] using hp
        go_wp2_with (go_at_call 107; refine (l2Apart t _ _ _ hW (by omega) (by omega)).mono ?_; rintro _ w1 ⟨rfl, hB1⟩; replace hB2 := bel_trans hB2 hB1)
        go_roundw
        case rel => exact ⟨i + 1, by omega, by go_num, ⟨_, _, _, rfl, by rw [cellsL_no hp]; exact own_bel hown hB1⟩, hB2⟩
        case measure => simp [intOf]; omega
      · have hq : (apartF t.W a i == 1) = true := by simpa [nearB] using hp
        go_wp2_with (first | (go_at_call 107; refine (l2Apart t _ _ _ hW (by omega) (by omega)).mono ?_; rintro _ w1 ⟨rfl, hB1⟩; replace hB2 := bel_trans hB2 hB1; replace hown := own_bel hown hB1) | (at_builtin; refine wpList_push rfl (.tmp 20) (.tmp 22) 22 rfl ((w.alloc (.cells #[.int .i64 t.W, .int .i64 t.H, .slice t.A t.n t.c] 30))).heap.size 3 (.int .i64 0) 1 8 Try.underlying22 info_int' rfl (by omega) A' k c' _ [.int .i64 i] 3 rfl hown (by first | rfl | exact slice_at (by simp)) rfl (oneCell_int _) (by omega) (by omega) hB2.size ?_; intro A'' c'' w3 hown2 hb3 hg3))
        go_roundw
        case rel => exact ⟨i + 1, by omega, by go_num, ⟨_, _, _, rfl, by rw [← cellsL_yes hp, ← ints_snoc]; exact hown2⟩, Below.trans hB2 hb3⟩
        case measure => simp [intOf]; omega
    · have hi1 : ¬ (i : Int) < (t.n : Int) := by omega
      go_wp2
      go_ret
      have e : i = t.n := by omega
      rw [e] at hown
      exact ⟨A', k, c', rfl, Own.mk_ (own_low hown hz), bel_trans (bel_alloc (bel_refl w)) hB2⟩
def burnsF (t : Terr) (xs : List Int) : List Int := xs.filter (burnsB t)
theorem filt_yes {p : Int → Bool} {xs : List Int} {i : Nat} {x : Int} (hx : xs[i]? = some x) (h : p x = true) : (xs.take i).filter p ++ [x] = (xs.take (i + 1)).filter p := by
  rw [List.take_add_one, hx]; simp [List.filter_append, h]
theorem filt_no {p : Int → Bool} {xs : List Int} {i : Nat} {x : Int} (hx : xs[i]? = some x) (h : p x = false) : (xs.take (i + 1)).filter p = (xs.take i).filter p := by
  rw [List.take_add_one, hx]; simp [List.filter_append, h]
set_option maxHeartbeats 2000000 in
theorem filterBurn (t : Terr) (A : Option Addr) (n c : Nat) (xs : List Int) (w : World) (hT : TOk w t) (hg : goodT t = true) (hS : Sl w 1 A n c (ints xs)) (hn : n ≤ 1048576) (hx : ∀ x ∈ xs, 0 ≤ x ∧ x < t.n) :
    Calls Try.prog 100 #[.slice A n c, .func (.func 101) #[.agg #[.int .i64 t.W, .int .i64 t.H, .slice t.A t.n t.c]] #[]] w fun e w' => ∃ A' m c', e = .returned (.slice A' m c') ∧ Own w.heap.size w'.heap.size w' 3 1 A' m c' (ints (xs.filter (burnsB t))) ∧ Below w.heap.size w w' := by
  have hlh := hid hS.int_len
  replace hn := hid hn
  have hnb : (n : Int) ≤ 1048576 := by have := hn.out; omega
  go_enter Try.func100, Try.ntmps100
  go_wp2_with fail
  go_loopw [5, 11] (fun q v wr => ∃ i : Nat, i ≤ n ∧ v = .int .i64 i ∧ (∃ A' k c', q = .slice A' k c' ∧ wr.ownsRow w.heap.size 3 1 (.slice A' k c') k (ints ((xs.take i).filter (burnsB t)))) ∧ Below w.heap.size w wr) (fun _ v _ => n - (intOf v).toNat)
  case atStart => exact ⟨0, by omega, rfl, ⟨_, _, _, rfl, by simpa [ints] using own_empty (w := w) (size := 1) (e := 3) (Nat.le_refl _)⟩, by (repeat' (first | (with_reducible exact bel_refl _) | (with_reducible assumption) | (with_reducible refine bel_drew ?_) | (with_reducible refine bel_drewN ?_) | (with_reducible refine bel_alloc ?_) | (with_reducible refine bel_set ?_ ?_) | (with_reducible refine bel_trans ?_ (by with_reducible assumption)) | omega | (simp; done) | (simp; omega)))⟩
  case round =>
    obtain ⟨i, hi', rfl, ⟨A', k, c', rfl, hown⟩, hB2⟩ := hrel
    by_cases hlt : i < n
    · obtain ⟨x, hx1⟩ : ∃ x, xs[i]? = some x := get_of_lt (by rw [hlh.out]; exact hlt)
      obtain ⟨b, o, rfl, hb, c0⟩ := (hS.bel hB2).int_at hx1
      have hxb := hx x (List.mem_of_getElem? hx1)
      have hX := hid hx1
      clear hx1
      have hkl : Hid (k ≤ 1048576) := by
        have h1 := hown.1
        have h2 := Nat.le_trans (List.length_filter_le (burnsB t) (xs.take i)) (List.length_take_le _ _)
        rw [ints_len] at h1
        have := hn.out
        show _ ≤ _
        omega
      have hi0 : (0 : Int) ≤ (i : Int) := by omega
      have hi1 : (i : Int) < (n : Int) := by omega
      rcases hp : burnsB t x with _ | _
      · go_wp2_with (go_at_call 101; refine (burns t x _ (hT.bel hB2) hg hxb).mono ?_; rw [hp]; rintro _ w1 ⟨rfl, hB1⟩; replace hB2 := bel_trans hB2 hB1)
        go_roundw
        case rel => exact ⟨i + 1, by omega, by go_num, ⟨_, _, _, rfl, by rw [filt_no hX.out hp]; exact own_bel hown hB1⟩, hB2⟩
        case measure => simp [intOf]; omega
      · go_wp2_with (first | (go_at_call 101; refine (burns t x _ (hT.bel hB2) hg hxb).mono ?_; rw [hp]; rintro _ w1 ⟨rfl, hB1⟩; replace hB2 := bel_trans hB2 hB1; replace hown := own_bel hown hB1) | (at_builtin; refine wpList_push rfl (.tmp 18) (.tmp 20) 22 rfl w.heap.size 3 (.int .i64 0) 1 8 Try.underlying22 info_int' rfl (by omega) A' k c' _ [.int .i64 x] 3 rfl hown (by first | rfl | exact slice_at (by simp)) rfl (oneCell_int _) (by have := hkl.out; omega) (by omega) hB2.size ?_; intro A'' c'' w3 hown2 hb3 hg3))
        go_roundw
        case rel => exact ⟨i + 1, by omega, by go_num, ⟨_, _, _, rfl, by rw [← filt_yes hX.out hp, ← ints_snoc]; exact hown2⟩, Below.trans hB2 hb3⟩
        case measure => simp [intOf]; omega
    · have hi1 : ¬ (i : Int) < (n : Int) := by omega
      go_wp2
      go_ret
      have e : i = n := by omega
      rw [e, List.take_of_length_le (by rw [hlh.out]; omega)] at hown
      exact ⟨A', k, c', rfl, Own.mk_ hown, hB2⟩
theorem l1Has (A : Option Addr) (n c : Nat) (xs : List Int) (v : Int) (w : World) (hS : Sl w 1 A n c (ints xs)) (hn : n ≤ 1048576) :
    Calls Try.prog 60 #[.slice A n c, .int .i64 v] w fun e w' => e = .returned (.bool (xs.any fun x => x == v)) ∧ w = w' := by
  have hlh := hid hS.int_len
  go_enter Try.func60, Try.ntmps60
  go_wp2
  go_loopw [5] (fun u wr => ∃ i : Nat, i ≤ n ∧ u = .int .i64 i ∧ (Hid (∀ r, r < i → ∀ u, xs[r]? = some u → (u == v) = false)) ∧ w = wr) (fun v _ => n - (intOf v).toNat)
  case atStart => exact ⟨0, by omega, rfl, fun r hr => absurd hr (by omega), rfl⟩
  case round =>
    obtain ⟨i, hi', rfl, hall, rfl⟩ := hrel
    by_cases hlt : i < n
    · obtain ⟨x, hx⟩ : ∃ x, xs[i]? = some x := get_of_lt (by rw [hlh.out]; exact hlt)
      obtain ⟨b, o, rfl, hb, c0⟩ := hS.int_at hx
      have hX := hid hx
      clear hx
      have hi1 : (i : Int) < (n : Int) := by omega
      rcases hq : (x == v) with _ | _
      · go_wp2
        go_roundw
        case rel => exact ⟨i + 1, by omega, by go_num, fun r hr u hu => (by
          rcases Nat.lt_or_ge r i with h1 | h1
          · exact hall.out r h1 u hu
          · rw [show r = i by omega, hX.out] at hu
            simp only [Option.some.injEq] at hu
            rw [← hu]; exact hq), by simp⟩
        case measure => simp [intOf]; omega
      · have hR := hid (show (xs.any fun x => x == v) = true from List.any_eq_true.2 ⟨x, List.mem_of_getElem? hX.out, hq⟩)
        go_wp2
        go_ret
        exact ⟨ret_bool hR.out.symm, rfl⟩
    · have hi1 : ¬ (i : Int) < (n : Int) := by omega
      have hR := hid (show (xs.any fun x => x == v) = false from by
        rw [List.any_eq_false]
        intro x hx
        obtain ⟨r, hr⟩ := List.getElem?_of_mem hx
        have := hall.out r (by have h1 := (List.getElem?_eq_some_iff.1 hr).1; rw [hlh.out] at h1; omega) x hr
        simp [this])
      go_wp2
      go_ret
      exact ⟨ret_bool hR.out.symm, rfl⟩
end Go.Proofs.Ytdfjfopbhlbmkaa
