/-
  Whether a terrain, a set of cells, all that a question about an ensemble asks for are valid: of the program and of the reference, walked.
-/
import Derived.Test.YtdfjfopbhlbmkaaTerrDone
namespace Go.Proofs.Ytdfjfopbhlbmkaa
open Go.RowKit

def leI (y x : Int) : Bool := decide (x ≤ y)
def risingB (xs : List Int) : Bool := noneBad (badAt (fun _ => true) leI xs) xs.length
def setB (lo hi : Int) (xs : List Int) : Bool := noneBad (badAt (fun x => inB x lo hi) leI xs) xs.length
theorem setB_eq (lo hi : Int) (xs : List Int) : setB lo hi xs = (risingB xs && xs.all fun x => inB x lo hi) := by
  rcases ha : xs.all fun x => inB x lo hi with _ | _
  · rw [Bool.and_false]
    rw [List.all_eq_false] at ha
    obtain ⟨x, hx, h1⟩ := ha
    obtain ⟨i, hi⟩ := List.getElem?_of_mem hx
    exact noneBad_no (List.getElem?_eq_some_iff.1 hi).1 (badAt_ill hi (by simpa using h1))
  · rw [Bool.and_true]
    have e : ∀ i, badAt (fun x => inB x lo hi) leI xs i = badAt (fun _ => true) leI xs i := fun i => by
      unfold badAt
      rcases hx : xs[i]? with _ | x
      · rfl
      · have := List.all_eq_true.1 ha x (List.mem_of_getElem? hx)
        simp only [this]
    simp only [setB, risingB, show badAt (fun x => inB x lo hi) leI xs = badAt (fun _ => true) leI xs from funext e]
theorem rising_no {xs : List Int} {i : Nat} {y x : Int} (hy : xs[i]? = some y) (hx : xs[i + 1]? = some x) (h : x ≤ y) : risingB xs = false :=
  noneBad_no (List.getElem?_eq_some_iff.1 hx).1 (by rw [badAt_next hx hy rfl]; simpa [leI] using h)
set_option maxHeartbeats 1000000 in
theorem isRising (A : Option Addr) (n c : Nat) (xs : List Int) (w : World) (hS : Sl w 1 A n c (ints xs)) (hn : n ≤ 1048576) :
    Calls Try.prog 99 #[.slice A n c] w fun e w' => e = .returned (.bool (risingB xs)) ∧ Below w.heap.size w w' := by
  have hlh := hid hS.int_len
  go_enter Try.func99, Try.ntmps99
  go_wp2
  go_loopw [3] (fun v wr => ∃ i : Nat, 0 < i ∧ (i ≤ n ∨ i = 1) ∧ v = .int .i64 i ∧ (Hid (∀ r, r < i → badAt (fun _ => true) leI xs r = false)) ∧ Below w.heap.size w wr) (fun v _ => (n + 1) - (intOf v).toNat)
  case atStart =>
    refine ⟨1, by omega, Or.inr rfl, rfl, fun r hr => ?_, by (repeat' (first | (with_reducible exact bel_refl _) | (with_reducible assumption) | (with_reducible refine bel_drew ?_) | (with_reducible refine bel_drewN ?_) | (with_reducible refine bel_alloc ?_) | (with_reducible refine bel_set ?_ ?_) | (with_reducible refine bel_trans ?_ (by with_reducible assumption)) | omega | (simp; done) | (simp; omega)))⟩
    obtain rfl : r = 0 := by omega
    unfold badAt
    rcases xs[0]? with _ | x <;> rfl
  case round =>
    obtain ⟨i, hi0, hi', rfl, hno, hB⟩ := hrel
    rcases i with _ | j
    · omega
    have hp0 : ((j + 1 : Nat) : Int) = (j : Int) + 1 := by omega
    rw [hp0]
    clear hp0
    by_cases hlt : j + 1 < n
    · obtain ⟨x, hx⟩ : ∃ x, xs[j + 1]? = some x := get_of_lt (by rw [hlh.out]; exact hlt)
      obtain ⟨y, hy⟩ : ∃ y, xs[j]? = some y := get_of_lt (by rw [hlh.out]; omega)
      obtain ⟨b, o, rfl, hb, c0⟩ := (hS.bel hB).int_at hx
      obtain ⟨b', o', hbo, _, d0⟩ := (hS.bel hB).int_at hy
      simp only [Option.some.injEq, Addr.mk.injEq, and_true] at hbo
      obtain ⟨rfl, rfl⟩ := hbo
      have hX := hid hx
      have hY := hid hy
      clear hx hy
      have hB2 := bel_refl wr
      have hj0 : (0 : Int) ≤ (j : Int) := by omega
      have hj1 : (j : Int) < (n : Int) := by omega
      have hj2 : (j : Int) + 1 < (n : Int) := by omega
      have hj3 : (0 : Int) ≤ (j : Int) + 1 := by omega
      by_cases hle : x ≤ y
      · have hR := hid (rising_no hY.out hX.out hle)
        go_wp2_with fail
        (refine wp_region_bel (by kernel_rfl) (by kernel_rfl) ?_; have hD := bel_cells hB2; (repeat (go_big_quiet_step ((fail)))); refine wpQuiet_nil ?_; intro w1 hB1; replace hB2 := bel_trans hB2 hB1; obtain ⟨hC1, hF1⟩ := bcell hB2; clear hD; replace hB1 := hB1)
        go_wp2
        go_ret
        exact ⟨ret_bool hR.out.symm, by (repeat' (first | (with_reducible exact bel_refl _) | (with_reducible assumption) | (with_reducible refine bel_drew ?_) | (with_reducible refine bel_drewN ?_) | (with_reducible refine bel_alloc ?_) | (with_reducible refine bel_set ?_ ?_) | (with_reducible refine bel_trans ?_ (by with_reducible assumption)) | omega | (simp; done) | (simp; omega)))⟩
      · go_wp2_with fail
        (refine wp_region_bel (by kernel_rfl) (by kernel_rfl) ?_; have hD := bel_cells hB2; (repeat (go_big_quiet_step ((fail)))); refine wpQuiet_nil ?_; intro w1 hB1; replace hB2 := bel_trans hB2 hB1; obtain ⟨hC1, hF1⟩ := bcell hB2; clear hD; replace hB1 := hB1)
        go_wp2
        go_roundw
        case rel => exact ⟨j + 1 + 1, by omega, by omega, by go_num, noBad_snoc hno (by rw [badAt_next hX.out hY.out rfl]; simpa [leI] using hle), by (repeat' (first | (with_reducible exact bel_refl _) | (with_reducible assumption) | (with_reducible refine bel_drew ?_) | (with_reducible refine bel_drewN ?_) | (with_reducible refine bel_alloc ?_) | (with_reducible refine bel_set ?_ ?_) | (with_reducible refine bel_trans ?_ (by with_reducible assumption)) | omega | (simp; done) | (simp; omega)))⟩
        case measure => simp [intOf]; omega
    · have hj2 : ¬ (j : Int) + 1 < (n : Int) := by omega
      have hR := hid (show risingB xs = true by rw [risingB]; exact noneBad_yes (fun r hr => hno.out r (by rw [hlh.out] at hr; omega)))
      go_wp2
      go_ret
      exact ⟨ret_bool hR.out.symm, by (repeat' (first | (with_reducible exact bel_refl _) | (with_reducible assumption) | (with_reducible refine bel_drew ?_) | (with_reducible refine bel_drewN ?_) | (with_reducible refine bel_alloc ?_) | (with_reducible refine bel_set ?_ ?_) | (with_reducible refine bel_trans ?_ (by with_reducible assumption)) | omega | (simp; done) | (simp; omega)))⟩
set_option maxHeartbeats 1000000 in
set_option maxRecDepth 100000 in
theorem l1Rising (A : Option Addr) (n c : Nat) (xs : List Int) (lo hi : Int) (w : World) (hS : Sl w 1 A n c (ints xs)) (hn : n ≤ 1048576) :
    Calls Try.prog 88 #[.slice A n c, .int .i64 lo, .int .i64 hi] w fun e w' => e = .returned (.bool (setB lo hi xs)) ∧ Below w.heap.size w w' := by
  have hlh := hid hS.int_len
  go_enter Try.func88, Try.ntmps88
  go_wp2
  go_loopw [7] (fun v wr => ∃ i : Nat, i ≤ n ∧ v = .int .i64 i ∧ (Hid (∀ r, r < i → badAt (fun x => inB x lo hi) leI xs r = false)) ∧ Below w.heap.size w wr) (fun v _ => n - (intOf v).toNat)
  case atStart => exact ⟨0, by omega, rfl, fun r hr => absurd hr (by omega), by (repeat' (first | (with_reducible exact bel_refl _) | (with_reducible assumption) | (with_reducible refine bel_drew ?_) | (with_reducible refine bel_drewN ?_) | (with_reducible refine bel_alloc ?_) | (with_reducible refine bel_set ?_ ?_) | (with_reducible refine bel_trans ?_ (by with_reducible assumption)) | omega | (simp; done) | (simp; omega)))⟩
  case round =>
    obtain ⟨i, hi', rfl, hno, hB⟩ := hrel
    by_cases hlt : i < n
    · obtain ⟨x, hx⟩ : ∃ x, xs[i]? = some x := get_of_lt (by rw [hlh.out]; exact hlt)
      obtain ⟨b, o, rfl, hb, c0⟩ := (hS.bel hB).int_at hx
      have hX := hid hx
      clear hx
      have hB2 := bel_refl wr
      have hi0 : (0 : Int) ≤ (i : Int) := by omega
      have hi1 : (i : Int) < (n : Int) := by omega
      rcases h1 : inB x lo hi with _ | _
      · have hR := hid (show setB lo hi xs = false from noneBad_no (by rw [hlh.out]; exact hlt) (badAt_ill (good := fun x => inB x lo hi) (clash := leI) hX.out h1))
        go_wp2_with fail
        (refine wp_region_bel (by kernel_rfl) (by kernel_rfl) ?_; have hD := bel_cells hB2; (repeat (go_big_quiet_step (((go_at_call 72; exact calls_bel_same (l1In _ _ _ _)))))); refine wpQuiet_nil ?_; intro w1 hB1; replace hB2 := bel_trans hB2 hB1; obtain ⟨hC1, hF1⟩ := bcell hB2; clear hD; replace hB1 := hB1)
        go_wp2
        go_ret
        exact ⟨ret_bool hR.out.symm, by (repeat' (first | (with_reducible exact bel_refl _) | (with_reducible assumption) | (with_reducible refine bel_drew ?_) | (with_reducible refine bel_drewN ?_) | (with_reducible refine bel_alloc ?_) | (with_reducible refine bel_set ?_ ?_) | (with_reducible refine bel_trans ?_ (by with_reducible assumption)) | omega | (simp; done) | (simp; omega)))⟩
      rcases i with _ | j
      · simp only [Nat.add_zero] at c0
        go_wp2_with fail
        (refine wp_region_bel (by kernel_rfl) (by kernel_rfl) ?_; have hD := bel_cells hB2; (repeat (go_big_quiet_step (((go_at_call 72; exact calls_bel_same (l1In _ _ _ _)))))); refine wpQuiet_nil ?_; intro w1 hB1; replace hB2 := bel_trans hB2 hB1; obtain ⟨hC1, hF1⟩ := bcell hB2; clear hD; replace hB1 := hB1)
        go_wp2
        go_roundw
        case rel => exact ⟨1, by omega, by go_num, noBad_snoc hno (badAt_first hX.out h1), by (repeat' (first | (with_reducible exact bel_refl _) | (with_reducible assumption) | (with_reducible refine bel_drew ?_) | (with_reducible refine bel_drewN ?_) | (with_reducible refine bel_alloc ?_) | (with_reducible refine bel_set ?_ ?_) | (with_reducible refine bel_trans ?_ (by with_reducible assumption)) | omega | (simp; done) | (simp; omega)))⟩
        case measure => simp [intOf]; omega
      · obtain ⟨y, hy⟩ : ∃ y, xs[j]? = some y := get_of_lt (by rw [hlh.out]; omega)
        obtain ⟨b', o', hbo, _, d0⟩ := (hS.bel hB).int_at hy
        simp only [Option.some.injEq, Addr.mk.injEq, and_true] at hbo
        obtain ⟨rfl, rfl⟩ := hbo
        have hY := hid hy
        clear hy
        have hp0 : ((j + 1 : Nat) : Int) = (j : Int) + 1 := by omega
        rw [hp0] at hi0 hi1 ⊢
        clear hp0
        have hj0 : (0 : Int) ≤ (j : Int) := by omega
        have hj1 : (j : Int) < (n : Int) := by omega
        have hjp : (0 : Int) < (j : Int) + 1 := by omega
        by_cases hle : x ≤ y
        · have hR := hid (show setB lo hi xs = false from noneBad_no (by rw [hlh.out]; exact hlt) (by rw [badAt_next hX.out hY.out h1]; simpa [leI] using hle))
          go_wp2_with fail
          (refine wp_region_bel (by kernel_rfl) (by kernel_rfl) ?_; have hD := bel_cells hB2; (repeat (go_big_quiet_step (((go_at_call 72; exact calls_bel_same (l1In _ _ _ _)))))); refine wpQuiet_nil ?_; intro w1 hB1; replace hB2 := bel_trans hB2 hB1; obtain ⟨hC1, hF1⟩ := bcell hB2; clear hD; replace hB1 := hB1)
          go_wp2
          go_ret
          exact ⟨ret_bool hR.out.symm, by (repeat' (first | (with_reducible exact bel_refl _) | (with_reducible assumption) | (with_reducible refine bel_drew ?_) | (with_reducible refine bel_drewN ?_) | (with_reducible refine bel_alloc ?_) | (with_reducible refine bel_set ?_ ?_) | (with_reducible refine bel_trans ?_ (by with_reducible assumption)) | omega | (simp; done) | (simp; omega)))⟩
        · go_wp2_with fail
          (refine wp_region_bel (by kernel_rfl) (by kernel_rfl) ?_; have hD := bel_cells hB2; (repeat (go_big_quiet_step (((go_at_call 72; exact calls_bel_same (l1In _ _ _ _)))))); refine wpQuiet_nil ?_; intro w1 hB1; replace hB2 := bel_trans hB2 hB1; obtain ⟨hC1, hF1⟩ := bcell hB2; clear hD; replace hB1 := hB1)
          go_wp2
          go_roundw
          case rel => exact ⟨j + 1 + 1, by omega, by go_num, noBad_snoc hno (by rw [badAt_next hX.out hY.out h1]; simpa [leI] using hle), by (repeat' (first | (with_reducible exact bel_refl _) | (with_reducible assumption) | (with_reducible refine bel_drew ?_) | (with_reducible refine bel_drewN ?_) | (with_reducible refine bel_alloc ?_) | (with_reducible refine bel_set ?_ ?_) | (with_reducible refine bel_trans ?_ (by with_reducible assumption)) | omega | (simp; done) | (simp; omega)))⟩
          case measure => simp [intOf]; omega
    · have hi2 : ¬ (i : Int) < (n : Int) := by omega
      have hR := hid (show setB lo hi xs = true from noneBad_yes (fun r hr => hno.out r (by rw [hlh.out] at hr; omega)))
      go_wp2
      go_ret
      exact ⟨ret_bool hR.out.symm, by (repeat' (first | (with_reducible exact bel_refl _) | (with_reducible assumption) | (with_reducible refine bel_drew ?_) | (with_reducible refine bel_drewN ?_) | (with_reducible refine bel_alloc ?_) | (with_reducible refine bel_set ?_ ?_) | (with_reducible refine bel_trans ?_ (by with_reducible assumption)) | omega | (simp; done) | (simp; omega)))⟩
end Go.Proofs.Ytdfjfopbhlbmkaa
