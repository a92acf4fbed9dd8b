/-
  Rosters: hours that a crew works, the most of them in a span, the crews that work in an hour: walked.
-/
import Derived.Test.YtlffolfooiijhaaRostWalks
namespace Go.Proofs.Ytlffolfooiijhaa
open Go.RowKit

def partD (x : Duty) (c f t : Int) : Int := if x.crew = c then max 0 (min x.til t - max x.fr f) else 0
theorem partD_bd {x : Duty} {c f t : Int} (h : goodD x = true) : 0 ≤ partD x c f t ∧ partD x c f t ≤ 500 := by
  have := goodD_bd h
  unfold partD
  split <;> omega
def hoursN (xs : List Duty) (c f t : Int) : Int := (xs.map fun x => partD x c f t).sum
theorem hours_next {xs : List Duty} {c f t : Int} {i : Nat} {x : Duty} (hx : xs[i]? = some x) : hoursN (xs.take (i + 1)) c f t = hoursN (xs.take i) c f t + partD x c f t := by
  rw [List.take_add_one, hx]
  simp [hoursN]
theorem hours_bd {xs : List Duty} {c f t : Int} (hg : allD xs) : ∀ i, 0 ≤ hoursN (xs.take i) c f t ∧ hoursN (xs.take i) c f t ≤ 500 * i
  | 0 => by simp [hoursN]
  | i + 1 => by
    have ih := hours_bd (c := c) (f := f) (t := t) hg i
    rcases hx : xs[i]? with _ | x
    · rw [List.take_add_one, hx]
      simp only [Option.toList_none, List.append_nil]
      omega
    · have := partD_bd (c := c) (f := f) (t := t) (hg i x hx)
      rw [hours_next hx]
      omega
theorem hours_bd2 {xs : List Duty} {c f t : Int} (hg : allD xs) (hn : xs.length ≤ 13) : 0 ≤ hoursN xs c f t ∧ hoursN xs c f t ≤ 6500 := by
  have := hours_bd (c := c) (f := f) (t := t) hg xs.length
  rw [List.take_length] at this
  omega
theorem slice_at {g g' n : Nat} (h : g = g') : Value.slice (some ⟨g, 0, none⟩) n n = .slice (some ⟨g', 0, none⟩) n n := by rw [h]
def mostU (xs : List Duty) (c s : Int) : Nat → Int
  | 0 => 0
  | k + 1 => max (mostU xs c s k) (hoursN xs c k (k + s))
@[irreducible] def mostN (xs : List Duty) (c s : Int) : Int := mostU xs c s 500
theorem mostN_eq {xs : List Duty} {c s : Int} {k : Nat} (h : k = 500) : mostU xs c s k = mostN xs c s := by rw [mostN, h]
theorem mostU_bd {xs : List Duty} {c s : Int} (hg : allD xs) (hn : xs.length ≤ 13) : ∀ k, 0 ≤ mostU xs c s k ∧ mostU xs c s k ≤ 6500
  | 0 => by simp [mostU]
  | k + 1 => by
    have ih := mostU_bd (c := c) (s := s) hg hn k
    have := hours_bd2 (c := c) (f := (k : Int)) (t := (k : Int) + s) hg hn
    simp only [mostU]
    omega
def atL (xs : List Duty) (h : Int) : List Int := (xs.filter fun x => inB h x.fr (x.til - 1)).map Duty.crew
theorem atL_yes {xs : List Duty} {h : Int} {i : Nat} {x : Duty} (hx : xs[i]? = some x) (hw : inB h x.fr (x.til - 1) = true) : atL (xs.take i) h ++ [x.crew] = atL (xs.take (i + 1)) h := by
  rw [List.take_add_one, hx]
  simp [atL, hw]
theorem atL_no {xs : List Duty} {h : Int} {i : Nat} {x : Duty} (hx : xs[i]? = some x) (hw : inB h x.fr (x.til - 1) = false) : atL (xs.take i) h = atL (xs.take (i + 1)) h := by
  rw [List.take_add_one, hx]
  simp [atL, hw]
theorem atL_len (xs : List Duty) (h : Int) (i : Nat) : (atL (xs.take i) h).length ≤ i := by
  unfold atL
  rw [List.length_map]
  exact Nat.le_trans (List.length_filter_le _ _) (List.length_take_le _ _)

theorem hoursI (A : Option Addr) (n c : Nat) (xs : List Duty) (cr f t : Int) (w : World) (hS : Sl w 3 A n c (xs.flatMap Duty.row)) (hn : n ≤ 13) (hG : allD xs) (hf : 0 ≤ f ∧ f ≤ 1000) (ht : 0 ≤ t ∧ t ≤ 1000) :
    Calls Try.prog 55 #[.slice A n c, .int .i64 cr, .int .i64 f, .int .i64 t] w fun e w' => e = .returned (.int .i64 (hoursN xs cr f t)) ∧ Below w.heap.size w w' := by
  have hlh := hid (hS.xs_len Duty.row_len (by omega))
  go_enter Try.func55, Try.ntmps55
  go_wp2_with fail
  go_loopw [9, 14] (fun q v wr => ∃ i : Nat, i ≤ n ∧ v = .int .i64 i ∧ q = .int .i64 (hoursN (xs.take i) cr f t) ∧ Below w.heap.size w wr) (fun _ v _ => n - (intOf v).toNat)
  case atStart => exact ⟨0, by omega, rfl, by simp [hoursN], by (repeat' (first | (with_reducible exact bel_refl _) | (with_reducible assumption) | (with_reducible refine bel_drew ?_) | (with_reducible refine bel_drewN ?_) | (with_reducible refine bel_alloc ?_) | (with_reducible refine bel_set ?_ ?_) | (with_reducible refine bel_trans ?_ (by with_reducible assumption)) | omega | (simp; done) | (simp; omega)))⟩
  case round =>
    obtain ⟨i, hi', rfl, rfl, hB⟩ := hrel
    have hbd := hours_bd (c := cr) (f := f) (t := t) hG i
    by_cases hlt : i < n
    · obtain ⟨x, hx⟩ : ∃ x, xs[i]? = some x := get_of_lt (by rw [hlh.out]; exact hlt)
      obtain ⟨b, o, rfl, hb, c0, c1, c2⟩ := (hS.bel hB).duty hx
      have hX := hid hx
      have hgb := goodD_bd (hG i x hx)
      clear hx
      have hB2 := bel_refl (wr.alloc (.cells #[.int .i64 x.crew, .int .i64 x.fr, .int .i64 x.til] 30))
      by_cases hc : x.crew = cr
      · have hq : (x.crew == cr) = true := by simpa using hc
        have hq2 : (cr == x.crew) = true := by simpa using hc.symm
        have hC := hid hc
        clear hc
        go_wp2
        skip
        go_roundw
        case rel => exact ⟨i + 1, by omega, by go_num, by rw [hours_next hX.out, partD, if_pos hC.out]; (try congr 1); try omega, by (repeat' (first | (with_reducible exact bel_refl _) | (with_reducible assumption) | (with_reducible refine bel_drew ?_) | (with_reducible refine bel_drewN ?_) | (with_reducible refine bel_alloc ?_) | (with_reducible refine bel_set ?_ ?_) | (with_reducible refine bel_trans ?_ (by with_reducible assumption)) | omega | (simp; done) | (simp; omega)))⟩
        case measure => simp [intOf]; omega
      · have hq : (x.crew == cr) = false := by simpa using hc
        have hq2 : (cr == x.crew) = false := by simpa using fun h => hc h.symm
        have hC := hid hc
        clear hc
        go_wp2
        go_roundw
        case rel => exact ⟨i + 1, by omega, by go_num, by rw [hours_next hX.out, partD, if_neg hC.out]; simp, by (repeat' (first | (with_reducible exact bel_refl _) | (with_reducible assumption) | (with_reducible refine bel_drew ?_) | (with_reducible refine bel_drewN ?_) | (with_reducible refine bel_alloc ?_) | (with_reducible refine bel_set ?_ ?_) | (with_reducible refine bel_trans ?_ (by with_reducible assumption)) | omega | (simp; done) | (simp; omega)))⟩
        case measure => simp [intOf]; omega
    · go_wp2
      go_ret
      have e : i = n := by omega
      subst e
      exact ⟨ret_int (by rw [List.take_of_length_le (by rw [hlh.out]; omega)]), by (repeat' (first | (with_reducible exact bel_refl _) | (with_reducible assumption) | (with_reducible refine bel_drew ?_) | (with_reducible refine bel_drewN ?_) | (with_reducible refine bel_alloc ?_) | (with_reducible refine bel_set ?_ ?_) | (with_reducible refine bel_trans ?_ (by with_reducible assumption)) | omega | (simp; done) | (simp; omega)))⟩

theorem hoursS (A : Option Addr) (n c : Nat) (xs : List Duty) (cr f t : Int) (w : World) (hS : Sl w 3 A n c (xs.flatMap Duty.row)) (hn : n ≤ 13) (hG : allD xs) (hf : 0 ≤ f ∧ f ≤ 1000) (ht : 0 ≤ t ∧ t ≤ 1000) :
    Calls Try.prog 56 #[.slice A n c, .int .i64 cr, .int .i64 f, .int .i64 t] w fun e w' => e = .returned (.int .i64 (hoursN xs cr f t)) ∧ Below w.heap.size w w' := by
  have hlh := hid (hS.xs_len Duty.row_len (by omega))
  go_enter Try.func56, Try.ntmps56
  go_wp2_with fail
  go_loopw [9, 10] (fun q v wr => ∃ i : Nat, i ≤ n ∧ v = .int .i64 i ∧ q = .int .i64 (hoursN (xs.take i) cr f t) ∧ Below w.heap.size w wr) (fun _ v _ => n - (intOf v).toNat)
  case atStart => exact ⟨0, by omega, rfl, by simp [hoursN], by (repeat' (first | (with_reducible exact bel_refl _) | (with_reducible assumption) | (with_reducible refine bel_drew ?_) | (with_reducible refine bel_drewN ?_) | (with_reducible refine bel_alloc ?_) | (with_reducible refine bel_set ?_ ?_) | (with_reducible refine bel_trans ?_ (by with_reducible assumption)) | omega | (simp; done) | (simp; omega)))⟩
  case round =>
    obtain ⟨i, hi', rfl, rfl, hB⟩ := hrel
    have hbd := hours_bd (c := cr) (f := f) (t := t) hG i
    by_cases hlt : i < n
    · obtain ⟨x, hx⟩ : ∃ x, xs[i]? = some x := get_of_lt (by rw [hlh.out]; exact hlt)
      obtain ⟨b, o, rfl, hb, c0, c1, c2⟩ := (hS.bel hB).duty hx
      have hX := hid hx
      have hgb := goodD_bd (hG i x hx)
      clear hx
      have hB2 := bel_refl (wr.alloc (.cells #[.int .i64 x.crew, .int .i64 x.fr, .int .i64 x.til] 30))
      by_cases hc : x.crew = cr
      · have hq : (x.crew == cr) = true := by simpa using hc
        have hq2 : (cr == x.crew) = true := by simpa using hc.symm
        have hC := hid hc
        clear hc
        go_wp2_with fail
        (refine wp_region_bel (by kernel_rfl) (by kernel_rfl) ?_; have hD := bel_cells hB2; (repeat (go_big_quiet_step (((first | (go_at_call 84; exact calls_bel_same (l1Least _ _ _)) | (go_at_call 83; exact calls_bel_same (l1Most _ _ _))))))); refine wpQuiet_nil ?_; intro w1 hB1; replace hB2 := bel_trans hB2 hB1; obtain ⟨hC1, hF1⟩ := bcell hB2; clear hD; replace hB1 := hB1); go_wp2
        go_roundw
        case rel => exact ⟨i + 1, by omega, by go_num, by rw [hours_next hX.out, partD, if_pos hC.out]; (try congr 1); try omega, by (repeat' (first | (with_reducible exact bel_refl _) | (with_reducible assumption) | (with_reducible refine bel_drew ?_) | (with_reducible refine bel_drewN ?_) | (with_reducible refine bel_alloc ?_) | (with_reducible refine bel_set ?_ ?_) | (with_reducible refine bel_trans ?_ (by with_reducible assumption)) | omega | (simp; done) | (simp; omega)))⟩
        case measure => simp [intOf]; omega
      · have hq : (x.crew == cr) = false := by simpa using hc
        have hq2 : (cr == x.crew) = false := by simpa using fun h => hc h.symm
        have hC := hid hc
        clear hc
        go_wp2
        go_roundw
        case rel => exact ⟨i + 1, by omega, by go_num, by rw [hours_next hX.out, partD, if_neg hC.out]; simp, by (repeat' (first | (with_reducible exact bel_refl _) | (with_reducible assumption) | (with_reducible refine bel_drew ?_) | (with_reducible refine bel_drewN ?_) | (with_reducible refine bel_alloc ?_) | (with_reducible refine bel_set ?_ ?_) | (with_reducible refine bel_trans ?_ (by with_reducible assumption)) | omega | (simp; done) | (simp; omega)))⟩
        case measure => simp [intOf]; omega
    · go_wp2
      go_ret
      have e : i = n := by omega
      subst e
      exact ⟨ret_int (by rw [List.take_of_length_le (by rw [hlh.out]; omega)]), by (repeat' (first | (with_reducible exact bel_refl _) | (with_reducible assumption) | (with_reducible refine bel_drew ?_) | (with_reducible refine bel_drewN ?_) | (with_reducible refine bel_alloc ?_) | (with_reducible refine bel_set ?_ ?_) | (with_reducible refine bel_trans ?_ (by with_reducible assumption)) | omega | (simp; done) | (simp; omega)))⟩

theorem mostI (A : Option Addr) (n c : Nat) (xs : List Duty) (cr s : Int) (w : World) (hS : Sl w 3 A n c (xs.flatMap Duty.row)) (hn : n ≤ 13) (hG : allD xs) (hs : 0 ≤ s ∧ s ≤ 200) :
    Calls Try.prog 60 #[.slice A n c, .int .i64 cr, .int .i64 s] w fun e w' => e = .returned (.int .i64 (mostN xs cr s)) ∧ Below w.heap.size w w' := by
  obtain ⟨R, hR⟩ : ∃ R : Int, R = mostN xs cr s := ⟨_, rfl⟩
  rw [← hR]
  replace hR := hid hR
  obtain ⟨K, hK⟩ : ∃ K : Nat, K = 500 := ⟨_, rfl⟩
  replace hK := hid hK
  go_enter Try.func60, Try.ntmps60
  go_wp2_with fail
  go_loopw [7, 9] (fun q v wr => ∃ i : Nat, i ≤ K ∧ v = .int .i64 i ∧ q = .int .i64 (mostU xs cr s i) ∧ Below w.heap.size w wr) (fun _ v _ => K - (intOf v).toNat)
  case atStart => exact ⟨0, by omega, rfl, by simp [mostU], by (repeat' (first | (with_reducible exact bel_refl _) | (with_reducible assumption) | (with_reducible refine bel_drew ?_) | (with_reducible refine bel_drewN ?_) | (with_reducible refine bel_alloc ?_) | (with_reducible refine bel_set ?_ ?_) | (with_reducible refine bel_trans ?_ (by with_reducible assumption)) | omega | (simp; done) | (simp; omega)))⟩
  case round =>
    obtain ⟨i, hi', rfl, rfl, hB2⟩ := hrel
    by_cases hlt : i < K
    · have h5 : (i : Int) < 500 := by have := hK.out; omega
      replace hlt := hid hlt
      replace hi' := hid hi'
      go_wp2_with (first | (go_at_call 55; refine (hoursI _ _ _ _ _ _ _ _ (hS.bel hB2) hn hG (by omega) (by omega)).mono ?_; rintro _ w1 ⟨rfl, hB1⟩; (first | (with_reducible replace hB2 := bel_trans hB2 hB1) | (with_reducible replace hB2 := bel_trans (bel_alloc hB2) hB1)); obtain ⟨hC1, hF1⟩ := bcell hB2; replace hB1 := hB1) | fail)
      go_roundw
      case rel => exact ⟨i + 1, by have := hlt.out; omega, by go_num, by simp only [mostU], by (repeat' (first | (with_reducible exact bel_refl _) | (with_reducible assumption) | (with_reducible refine bel_drew ?_) | (with_reducible refine bel_drewN ?_) | (with_reducible refine bel_alloc ?_) | (with_reducible refine bel_set ?_ ?_) | (with_reducible refine bel_trans ?_ (by with_reducible assumption)) | omega | (simp; done) | (simp; omega)))⟩
      case measure => have := hlt.out; simp [intOf]; omega
    · have h5 : ¬ (i : Int) < 500 := by have := hK.out; omega
      have e := hid (show i = 500 by have := hK.out; omega)
      clear hlt hi'
      go_wp2
      go_ret
      exact ⟨ret_int ((mostN_eq e.out).trans hR.out.symm), by (repeat' (first | (with_reducible exact bel_refl _) | (with_reducible assumption) | (with_reducible refine bel_drew ?_) | (with_reducible refine bel_drewN ?_) | (with_reducible refine bel_alloc ?_) | (with_reducible refine bel_set ?_ ?_) | (with_reducible refine bel_trans ?_ (by with_reducible assumption)) | omega | (simp; done) | (simp; omega)))⟩

theorem mostS (A : Option Addr) (n c : Nat) (xs : List Duty) (cr s : Int) (w : World) (hS : Sl w 3 A n c (xs.flatMap Duty.row)) (hn : n ≤ 13) (hG : allD xs) (hs : 0 ≤ s ∧ s ≤ 200) :
    Calls Try.prog 62 #[.slice A n c, .int .i64 cr, .int .i64 s] w fun e w' => e = .returned (.int .i64 (mostN xs cr s)) ∧ Below w.heap.size w w' := by
  obtain ⟨R, hR⟩ : ∃ R : Int, R = mostN xs cr s := ⟨_, rfl⟩
  rw [← hR]
  replace hR := hid hR
  obtain ⟨K, hK⟩ : ∃ K : Nat, K = 500 := ⟨_, rfl⟩
  replace hK := hid hK
  go_enter Try.func62, Try.ntmps62
  go_wp2_with fail
  go_loopw [7, 8] (fun q v wr => ∃ i : Nat, i ≤ K ∧ v = .int .i64 i ∧ q = .int .i64 (mostU xs cr s i) ∧ Below w.heap.size w wr) (fun _ v _ => K - (intOf v).toNat)
  case atStart => exact ⟨0, by omega, rfl, by simp [mostU], by (repeat' (first | (with_reducible exact bel_refl _) | (with_reducible assumption) | (with_reducible refine bel_drew ?_) | (with_reducible refine bel_drewN ?_) | (with_reducible refine bel_alloc ?_) | (with_reducible refine bel_set ?_ ?_) | (with_reducible refine bel_trans ?_ (by with_reducible assumption)) | omega | (simp; done) | (simp; omega)))⟩
  case round =>
    obtain ⟨i, hi', rfl, rfl, hB2⟩ := hrel
    by_cases hlt : i < K
    · have h5 : (i : Int) < 500 := by have := hK.out; omega
      replace hlt := hid hlt
      replace hi' := hid hi'
      go_wp2_with (first | (go_at_call 56; refine (hoursS _ _ _ _ _ _ _ _ (hS.bel hB2) hn hG (by omega) (by omega)).mono ?_; rintro _ w1 ⟨rfl, hB1⟩; (first | (with_reducible replace hB2 := bel_trans hB2 hB1) | (with_reducible replace hB2 := bel_trans (bel_alloc hB2) hB1)); obtain ⟨hC1, hF1⟩ := bcell hB2; replace hB1 := hB1) | (go_at_call 83; refine (l1Most _ _ _).mono ?_; rintro _ w1 ⟨rfl, rfl⟩))
      go_roundw
      case rel => exact ⟨i + 1, by have := hlt.out; omega, by go_num, by simp only [mostU], by (repeat' (first | (with_reducible exact bel_refl _) | (with_reducible assumption) | (with_reducible refine bel_drew ?_) | (with_reducible refine bel_drewN ?_) | (with_reducible refine bel_alloc ?_) | (with_reducible refine bel_set ?_ ?_) | (with_reducible refine bel_trans ?_ (by with_reducible assumption)) | omega | (simp; done) | (simp; omega)))⟩
      case measure => have := hlt.out; simp [intOf]; omega
    · have h5 : ¬ (i : Int) < 500 := by have := hK.out; omega
      have e := hid (show i = 500 by have := hK.out; omega)
      clear hlt hi'
      go_wp2
      go_ret
      exact ⟨ret_int ((mostN_eq e.out).trans hR.out.symm), by (repeat' (first | (with_reducible exact bel_refl _) | (with_reducible assumption) | (with_reducible refine bel_drew ?_) | (with_reducible refine bel_drewN ?_) | (with_reducible refine bel_alloc ?_) | (with_reducible refine bel_set ?_ ?_) | (with_reducible refine bel_trans ?_ (by with_reducible assumption)) | omega | (simp; done) | (simp; omega)))⟩

set_option maxHeartbeats 1000000 in
theorem atI (A : Option Addr) (n c : Nat) (xs : List Duty) (h : Int) (w : World) (hS : Sl w 3 A n c (xs.flatMap Duty.row)) (hn : n ≤ 13) (hG : allD xs) :
    Calls Try.prog 75 #[.slice A n c, .int .i64 h] w fun e w' => ∃ A' n' c', e = .returned (.slice A' n' c') ∧ Own w.heap.size w'.heap.size w' 3 1 A' n' c' (ints (atL xs h)) ∧ Below w.heap.size w w' := by
  have hlh := hid (hS.xs_len Duty.row_len (by omega))
  go_enter Try.func75, Try.ntmps75
  go_wp2_with fail
  go_loopw [5, 11] (fun q v wr => ∃ i : Nat, i ≤ n ∧ v = .int .i64 i ∧ (∃ A' k c', q = .slice A' k c' ∧ wr.ownsRow w.heap.size 3 1 (.slice A' k c') k (ints (atL (xs.take i) h))) ∧ Below w.heap.size w wr) (fun _ v _ => n - (intOf v).toNat)
  case atStart => exact ⟨0, by omega, rfl, ⟨_, _, _, rfl, by simpa [atL, ints] using own_empty (w := w) (size := 1) (e := 3) (Nat.le_refl _)⟩, by (repeat' (first | (with_reducible exact bel_refl _) | (with_reducible assumption) | (with_reducible refine bel_drew ?_) | (with_reducible refine bel_drewN ?_) | (with_reducible refine bel_alloc ?_) | (with_reducible refine bel_set ?_ ?_) | (with_reducible refine bel_trans ?_ (by with_reducible assumption)) | omega | (simp; done) | (simp; omega)))⟩
  case round =>
    obtain ⟨i, hi', rfl, ⟨A', k, c', rfl, hown⟩, hB⟩ := hrel
    by_cases hlt : i < n
    · obtain ⟨x, hx⟩ : ∃ x, xs[i]? = some x := get_of_lt (by rw [hlh.out]; exact hlt)
      obtain ⟨b, o, rfl, hb, c0, c1, c2⟩ := (hS.bel hB).duty hx
      have hX := hid hx
      have hgb := goodD_bd (hG i x hx)
      clear hx
      have hkl : k ≤ 13 := by
        have h1 := hown.1
        have h2 := atL_len xs h i
        rw [ints_len] at h1
        omega
      have hi0 : (0 : Int) ≤ (i : Int) := by omega
      have hi1 : (i : Int) < (n : Int) := by omega
      have hB2 := bel_refl (wr.alloc (.cells #[.int .i64 x.crew, .int .i64 x.fr, .int .i64 x.til] 30))
      rcases hw : inB h x.fr (x.til - 1) with _ | _
      · go_wp2_with fail
        skip
        skip
        go_wp2_with (go_at_call 59; refine (isIn _ _ _ _).mono ?_; rintro _ w1 ⟨rfl, rfl⟩)
        go_roundw
        case rel => exact ⟨i + 1, by omega, by go_num, ⟨_, _, _, rfl, by rw [← atL_no hX.out hw]; exact own_bel hown (by (repeat' (first | (with_reducible exact bel_refl _) | (with_reducible assumption) | (with_reducible refine bel_drew ?_) | (with_reducible refine bel_drewN ?_) | (with_reducible refine bel_alloc ?_) | (with_reducible refine bel_set ?_ ?_) | (with_reducible refine bel_trans ?_ (by with_reducible assumption)) | omega | (simp; done) | (simp; omega))))⟩, by (repeat' (first | (with_reducible exact bel_refl _) | (with_reducible assumption) | (with_reducible refine bel_drew ?_) | (with_reducible refine bel_drewN ?_) | (with_reducible refine bel_alloc ?_) | (with_reducible refine bel_set ?_ ?_) | (with_reducible refine bel_trans ?_ (by with_reducible assumption)) | omega | (simp; done) | (simp; omega)))⟩
        case measure => simp [intOf]; omega
      · go_wp2_with fail
        skip
        skip
        replace hown := own_bel hown ((bel_alloc (bel_refl _) : Below wr.heap.size wr (wr.alloc (.cells #[.int .i64 x.crew, .int .i64 x.fr, .int .i64 x.til] 30))))
        have hBB := bel_trans hB ((bel_alloc (bel_refl _) : Below wr.heap.size wr (wr.alloc (.cells #[.int .i64 x.crew, .int .i64 x.fr, .int .i64 x.til] 30))))
        go_wp2_with (first | (go_at_call 59; refine (isIn _ _ _ _).mono ?_; rintro _ w1 ⟨rfl, rfl⟩) | (at_builtin; refine wpList_push rfl (.tmp 22) (.tmp 25) 45 rfl w.heap.size 3 (.int .i64 0) 1 8 Try.underlying45 info_int rfl (by omega) A' k c' _ [.int .i64 x.crew] 3 rfl hown (by first | rfl | exact slice_at (by simp)) rfl (oneCell_int _) (by omega) (by omega) (hBB.size) ?_; intro A'' c'' w3 hown2 hb3 hg3))
        go_roundw
        case rel => exact ⟨i + 1, by omega, by go_num, ⟨_, _, _, rfl, by rw [← atL_yes hX.out hw, ← ints_snoc]; exact hown2⟩, hBB.trans hb3⟩
        case measure => simp [intOf]; omega
    · go_wp2
      go_ret
      have e : i = n := by omega
      subst e
      rw [List.take_of_length_le (by rw [hlh.out]; omega)] at hown
      exact ⟨A', k, c', rfl, Own.mk_ hown, by (repeat' (first | (with_reducible exact bel_refl _) | (with_reducible assumption) | (with_reducible refine bel_drew ?_) | (with_reducible refine bel_drewN ?_) | (with_reducible refine bel_alloc ?_) | (with_reducible refine bel_set ?_ ?_) | (with_reducible refine bel_trans ?_ (by with_reducible assumption)) | omega | (simp; done) | (simp; omega)))⟩

set_option maxHeartbeats 1000000 in
theorem atS (A : Option Addr) (n c : Nat) (xs : List Duty) (h : Int) (w : World) (hS : Sl w 3 A n c (xs.flatMap Duty.row)) (hn : n ≤ 13) (hG : allD xs) :
    Calls Try.prog 76 #[.slice A n c, .int .i64 h] w fun e w' => ∃ A' n' c', e = .returned (.slice A' n' c') ∧ Own w.heap.size w'.heap.size w' 3 1 A' n' c' (ints (atL xs h)) ∧ Below w.heap.size w w' := by
  have hlh := hid (hS.xs_len Duty.row_len (by omega))
  go_enter Try.func76, Try.ntmps76
  go_wp2_with fail
  go_loopw [5, 6] (fun q v wr => ∃ i : Nat, i ≤ n ∧ v = .int .i64 i ∧ (∃ A' k c', q = .slice A' k c' ∧ wr.ownsRow w.heap.size 3 1 (.slice A' k c') k (ints (atL (xs.take i) h))) ∧ Below w.heap.size w wr) (fun _ v _ => n - (intOf v).toNat)
  case atStart => exact ⟨0, by omega, rfl, ⟨_, _, _, rfl, by simpa [atL, ints] using own_empty (w := w) (size := 1) (e := 3) (Nat.le_refl _)⟩, by (repeat' (first | (with_reducible exact bel_refl _) | (with_reducible assumption) | (with_reducible refine bel_drew ?_) | (with_reducible refine bel_drewN ?_) | (with_reducible refine bel_alloc ?_) | (with_reducible refine bel_set ?_ ?_) | (with_reducible refine bel_trans ?_ (by with_reducible assumption)) | omega | (simp; done) | (simp; omega)))⟩
  case round =>
    obtain ⟨i, hi', rfl, ⟨A', k, c', rfl, hown⟩, hB⟩ := hrel
    by_cases hlt : i < n
    · obtain ⟨x, hx⟩ : ∃ x, xs[i]? = some x := get_of_lt (by rw [hlh.out]; exact hlt)
      obtain ⟨b, o, rfl, hb, c0, c1, c2⟩ := (hS.bel hB).duty hx
      have hX := hid hx
      have hgb := goodD_bd (hG i x hx)
      clear hx
      have hkl : k ≤ 13 := by
        have h1 := hown.1
        have h2 := atL_len xs h i
        rw [ints_len] at h1
        omega
      have hi0 : (0 : Int) ≤ (i : Int) := by omega
      have hi1 : (i : Int) < (n : Int) := by omega
      have hB2 := bel_refl wr
      rcases hw : inB h x.fr (x.til - 1) with _ | _
      · go_wp2_with fail
        (refine wp_region_bel (by kernel_rfl) (by kernel_rfl) ?_; have hD := bel_cells hB2; (repeat (go_big_quiet_step (((go_at_call 73; exact calls_bel_same (l1In _ _ _ _)))))); refine wpQuiet_nil ?_; intro w1 hB1; replace hB2 := bel_trans hB2 hB1; obtain ⟨hC1, hF1⟩ := bcell hB2; clear hD; replace hB1 := hB1)
        rw [hw]
        go_wp2_with (go_at_call 73; refine (l1In _ _ _ _).mono ?_; rintro _ w1 ⟨rfl, rfl⟩)
        go_roundw
        case rel => exact ⟨i + 1, by omega, by go_num, ⟨_, _, _, rfl, by rw [← atL_no hX.out hw]; exact own_bel hown (by (repeat' (first | (with_reducible exact bel_refl _) | (with_reducible assumption) | (with_reducible refine bel_drew ?_) | (with_reducible refine bel_drewN ?_) | (with_reducible refine bel_alloc ?_) | (with_reducible refine bel_set ?_ ?_) | (with_reducible refine bel_trans ?_ (by with_reducible assumption)) | omega | (simp; done) | (simp; omega))))⟩, by (repeat' (first | (with_reducible exact bel_refl _) | (with_reducible assumption) | (with_reducible refine bel_drew ?_) | (with_reducible refine bel_drewN ?_) | (with_reducible refine bel_alloc ?_) | (with_reducible refine bel_set ?_ ?_) | (with_reducible refine bel_trans ?_ (by with_reducible assumption)) | omega | (simp; done) | (simp; omega)))⟩
        case measure => simp [intOf]; omega
      · go_wp2_with fail
        (refine wp_region_bel (by kernel_rfl) (by kernel_rfl) ?_; have hD := bel_cells hB2; (repeat (go_big_quiet_step (((go_at_call 73; exact calls_bel_same (l1In _ _ _ _)))))); refine wpQuiet_nil ?_; intro w1 hB1; replace hB2 := bel_trans hB2 hB1; obtain ⟨hC1, hF1⟩ := bcell hB2; clear hD; replace hB1 := hB1)
        rw [hw]
        replace hown := own_bel hown (hB2)
        have hBB := bel_trans hB (hB2)
        go_wp2_with (first | (go_at_call 73; refine (l1In _ _ _ _).mono ?_; rintro _ w1 ⟨rfl, rfl⟩) | (at_builtin; refine wpList_push rfl (.tmp 27) (.tmp 33) 45 rfl w.heap.size 3 (.int .i64 0) 1 8 Try.underlying45 info_int rfl (by omega) A' k c' _ [.int .i64 x.crew] 3 rfl hown (by first | rfl | exact slice_at (by simp)) rfl (oneCell_int _) (by omega) (by omega) (hBB.size) ?_; intro A'' c'' w3 hown2 hb3 hg3))
        go_roundw
        case rel => exact ⟨i + 1, by omega, by go_num, ⟨_, _, _, rfl, by rw [← atL_yes hX.out hw, ← ints_snoc]; exact hown2⟩, hBB.trans hb3⟩
        case measure => simp [intOf]; omega
    · go_wp2
      go_ret
      have e : i = n := by omega
      subst e
      rw [List.take_of_length_le (by rw [hlh.out]; omega)] at hown
      exact ⟨A', k, c', rfl, Own.mk_ hown, by (repeat' (first | (with_reducible exact bel_refl _) | (with_reducible assumption) | (with_reducible refine bel_drew ?_) | (with_reducible refine bel_drewN ?_) | (with_reducible refine bel_alloc ?_) | (with_reducible refine bel_set ?_ ?_) | (with_reducible refine bel_trans ?_ (by with_reducible assumption)) | omega | (simp; done) | (simp; omega)))⟩

end Go.Proofs.Ytlffolfooiijhaa
