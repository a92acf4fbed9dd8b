/-
  Terrains, without ensembles: cells, steps apart, neighbors, valid terrains and sets, the cells that a condition holds for: of the program and of the reference, walked.
-/
import Derived.Test.YtcdgkiiokplidaaIn
import Derived.Test.YtcdgkiiokplidaaListMath
import Derived.Test.YtcdgkiiokplidaaAppend
namespace Go.Proofs.Ytcdgkiiokplidaa
open Go.RowKit


/-- A terrain as a value: its sides, the header of its cells, and what they read as. -/
structure Terr where
  W : Int
  H : Int
  A : Option Addr
  n : Nat
  c : Nat
  burn : List Int
def Terr.val (t : Terr) : Value := .agg #[.int .i64 t.W, .int .i64 t.H, .slice t.A t.n t.c]
def goodT (t : Terr) : Bool := inB t.W 1 5 && inB t.H 1 5 && decide ((t.n : Int) = t.W * t.H) && t.burn.all fun b => inB b 0 20
def TOk (w : World) (t : Terr) : Prop := Sl w 1 t.A t.n t.c (ints t.burn)
theorem TOk.bel {w w' : World} {t : Terr} (h : TOk w t) (hb : Below w.heap.size w w') : TOk w' t := Sl.bel h hb
theorem mul_bd {a b : Int} (ha : 1 ≤ a ∧ a ≤ 5) (hb : 1 ≤ b ∧ b ≤ 5) : 1 ≤ a * b ∧ a * b ≤ 25 := by
  obtain ⟨x, rfl⟩ : ∃ x : Nat, a = x := ⟨a.toNat, by omega⟩
  obtain ⟨y, rfl⟩ : ∃ y : Nat, b = y := ⟨b.toNat, by omega⟩
  have h1 : x * y ≤ 5 * 5 := Nat.mul_le_mul (by omega) (by omega)
  have h2 : 1 * 1 ≤ x * y := Nat.mul_le_mul (by omega) (by omega)
  have e : ((x : Int) * (y : Int)) = ((x * y : Nat) : Int) := by push_cast; rfl
  rw [e]; omega
theorem goodT_bd {t : Terr} (h : goodT t = true) : (1 ≤ t.W ∧ t.W ≤ 5) ∧ (1 ≤ t.H ∧ t.H ≤ 5) ∧ (t.n : Int) = t.W * t.H ∧ 1 ≤ t.n ∧ t.n ≤ 25 ∧ ∀ b ∈ t.burn, 0 ≤ b ∧ b ≤ 20 := by
  simp only [goodT, Bool.and_eq_true, inB_iff, decide_eq_true_eq, List.all_eq_true] at h
  obtain ⟨⟨⟨h1, h2⟩, h3⟩, h4⟩ := h
  have := mul_bd h1 h2
  exact ⟨h1, h2, h3, by omega, by omega, h4⟩
def apartF (W a b : Int) : Int := max (max (a % W - b % W) (b % W - a % W)) (max (a / W - b / W) (b / W - a / W))
theorem column (t : Terr) (a : Int) (w : World) (hW : 1 ≤ t.W ∧ t.W ≤ 5) (ha : 0 ≤ a ∧ a ≤ 24) :
    Calls Try.prog 49 #[.agg #[.int .i64 t.W, .int .i64 t.H, .slice t.A t.n t.c], .int .i64 a] w fun e w' => e = .returned (.int .i64 (a % t.W)) ∧ Below w.heap.size w w' := by
  have hW0 : ¬ t.W = 0 := by omega
  go_enter Try.func49, Try.ntmps49
  go_wp2
  go_ret
  exact ⟨rfl, by (repeat' (first | (with_reducible exact bel_refl _) | (with_reducible assumption) | (with_reducible refine bel_drew ?_) | (with_reducible refine bel_drewN ?_) | (with_reducible refine bel_alloc ?_) | (with_reducible refine bel_set ?_ ?_) | (with_reducible refine bel_trans ?_ (by with_reducible assumption)) | omega | (simp; done) | (simp; omega)))⟩
theorem row_ (t : Terr) (a : Int) (w : World) (hW : 1 ≤ t.W ∧ t.W ≤ 5) (ha : 0 ≤ a ∧ a ≤ 24) :
    Calls Try.prog 50 #[.agg #[.int .i64 t.W, .int .i64 t.H, .slice t.A t.n t.c], .int .i64 a] w fun e w' => e = .returned (.int .i64 (a / t.W)) ∧ Below w.heap.size w w' := by
  have hW0 : ¬ t.W = 0 := by omega
  go_enter Try.func50, Try.ntmps50
  go_wp2
  go_ret
  exact ⟨rfl, by (repeat' (first | (with_reducible exact bel_refl _) | (with_reducible assumption) | (with_reducible refine bel_drew ?_) | (with_reducible refine bel_drewN ?_) | (with_reducible refine bel_alloc ?_) | (with_reducible refine bel_set ?_ ?_) | (with_reducible refine bel_trans ?_ (by with_reducible assumption)) | omega | (simp; done) | (simp; omega)))⟩
theorem distance (a b : Int) (w : World) (ha : 0 ≤ a ∧ a ≤ 1048576) (hb : 0 ≤ b ∧ b ≤ 1048576) :
    Calls Try.prog 48 #[.int .i64 a, .int .i64 b] w fun e w' => e = .returned (.int .i64 (max (a - b) (b - a))) ∧ w = w' := by
  go_enter Try.func48, Try.ntmps48
  go_wp2
  go_ret
  exact ⟨rfl, rfl⟩
theorem quo_bd {a W : Int} (hW : 1 ≤ W ∧ W ≤ 5) (ha : 0 ≤ a ∧ a ≤ 24) : (0 ≤ a % W ∧ a % W ≤ 24) ∧ 0 ≤ a / W ∧ a / W ≤ 24 := by
  have h1 := Int.emod_nonneg a (show W ≠ 0 by omega)
  have h2 := Int.emod_lt_of_pos a (show 0 < W by omega)
  have h3 := Int.ediv_nonneg ha.1 (show 0 ≤ W by omega)
  have h4 : a / W ≤ a := Int.ediv_le_self W ha.1
  omega
theorem apart_bd {W a b : Int} (hW : 1 ≤ W ∧ W ≤ 5) (ha : 0 ≤ a ∧ a ≤ 24) (hb : 0 ≤ b ∧ b ≤ 24) : 0 ≤ apartF W a b ∧ apartF W a b ≤ 24 := by
  have h1 := quo_bd hW ha
  have h2 := quo_bd hW hb
  unfold apartF
  omega
set_option maxHeartbeats 1000000 in
theorem apart_ (t : Terr) (a b : Int) (w : World) (hW : 1 ≤ t.W ∧ t.W ≤ 5) (ha : 0 ≤ a ∧ a ≤ 24) (hb : 0 ≤ b ∧ b ≤ 24) :
    Calls Try.prog 32 #[.agg #[.int .i64 t.W, .int .i64 t.H, .slice t.A t.n t.c], .int .i64 a, .int .i64 b] w fun e w' => e = .returned (.int .i64 (apartF t.W a b)) ∧ Below w.heap.size w w' := by
  have h1 := quo_bd hW ha
  have h2 := quo_bd hW hb
  have hB2 := bel_refl (w.alloc (.cells #[.int .i64 t.W, .int .i64 t.H, .slice t.A t.n t.c] 28))
  go_enter Try.func32, Try.ntmps32
  go_wp2_with fail
  (refine wp_region_bel (by kernel_rfl) (by kernel_rfl) ?_; have hD := bel_cells hB2; (repeat (go_big_quiet_step (((first | (go_at_call 49; exact calls_bel (column t _ _ hW (by omega))) | (go_at_call 50; exact calls_bel (row_ t _ _ hW (by omega))) | (go_at_call 48; exact calls_bel_same (distance _ _ _ (by omega) (by omega)))))))); refine wpQuiet_nil ?_; intro w1 hB1; replace hB2 := bel_trans hB2 hB1; obtain ⟨hC1, hF1⟩ := bcell hB2; clear hD; replace hB1 := hB1)
  go_wp2
  go_ret
  exact ⟨ret_int (by simp only [apartF]; omega), by (repeat' (first | (with_reducible exact bel_refl _) | (with_reducible assumption) | (with_reducible refine bel_drew ?_) | (with_reducible refine bel_drewN ?_) | (with_reducible refine bel_alloc ?_) | (with_reducible refine bel_set ?_ ?_) | (with_reducible refine bel_trans ?_ (by with_reducible assumption)) | omega | (simp; done) | (simp; omega)))⟩
set_option maxHeartbeats 1000000 in
theorem l2Apart (t : Terr) (a b : Int) (w : World) (hW : 1 ≤ t.W ∧ t.W ≤ 5) (ha : 0 ≤ a ∧ a ≤ 24) (hb : 0 ≤ b ∧ b ≤ 24) :
    Calls Try.prog 56 #[.agg #[.int .i64 t.W, .int .i64 t.H, .slice t.A t.n t.c], .int .i64 a, .int .i64 b] w fun e w' => e = .returned (.int .i64 (apartF t.W a b)) ∧ Below w.heap.size w w' := by
  have h1 := quo_bd hW ha
  have h2 := quo_bd hW hb
  have hW0 : ¬ t.W = 0 := by omega
  have hB2 := bel_refl (w.alloc (.cells #[.int .i64 t.W, .int .i64 t.H, .slice t.A t.n t.c] 28))
  go_enter Try.func56, Try.ntmps56
  go_wp2_with fail
  (refine wp_region_bel (by kernel_rfl) (by kernel_rfl) ?_; have hD := bel_cells hB2; (repeat (go_big_quiet_step ((fail)))); refine wpQuiet_nil ?_; intro w1 hB1; replace hB2 := bel_trans hB2 hB1; obtain ⟨hC1, hF1⟩ := bcell hB2; clear hD; replace hB1 := hB1)
  go_wp2_with (go_at_call 65; refine (l1Most _ _ _).mono ?_; rintro _ w1 ⟨rfl, rfl⟩)
  go_ret
  exact ⟨ret_int (by simp only [apartF]; omega), by (repeat' (first | (with_reducible exact bel_refl _) | (with_reducible assumption) | (with_reducible refine bel_drew ?_) | (with_reducible refine bel_drewN ?_) | (with_reducible refine bel_alloc ?_) | (with_reducible refine bel_set ?_ ?_) | (with_reducible refine bel_trans ?_ (by with_reducible assumption)) | omega | (simp; done) | (simp; omega)))⟩
theorem TOk.at_ {w : World} {t : Terr} (h : TOk w t) (hg : goodT t = true) {a : Int} (ha : 0 ≤ a ∧ a < t.n) : ∃ b o x, t.A = some ⟨b, o, none⟩ ∧ b < w.heap.size ∧ t.burn[a.toNat]? = some x ∧ 0 ≤ x ∧ x ≤ 20 ∧ w.cell? ⟨b, o + a.toNat, none⟩ = some (.int .i64 x) := by
  have hl := Sl.int_len h
  obtain ⟨x, hx⟩ : ∃ x, t.burn[a.toNat]? = some x := get_of_lt (by omega)
  obtain ⟨b, o, hA, hb, hc⟩ := Sl.int_at h hx
  have := (goodT_bd hg).2.2.2.2.2 x (List.mem_of_getElem? hx)
  exact ⟨b, o, x, hA, hb, hx, this.1, this.2, hc⟩
def burnAt (t : Terr) (a : Int) : Int := t.burn.getD a.toNat 0
theorem burnAt_get {t : Terr} {a x : Int} (h : t.burn[a.toNat]? = some x) : burnAt t a = x := by simp [burnAt, h]
def burnsB (t : Terr) (a : Int) : Bool := decide (0 < burnAt t a)
theorem burns (t : Terr) (a : Int) (w : World) (hT : TOk w t) (hg : goodT t = true) (ha : 0 ≤ a ∧ a < t.n) :
    Calls Try.prog 31 #[.agg #[.int .i64 t.W, .int .i64 t.H, .slice t.A t.n t.c], .int .i64 a] w fun e w' => e = .returned (.bool (burnsB t a)) ∧ Below w.heap.size w w' := by
  obtain ⟨b, o, x, hA, hb, hx, h0, h1, hc⟩ := (hT.bel (bel_alloc (o := .cells #[.int .i64 t.W, .int .i64 t.H, .slice t.A t.n t.c] 28) (bel_refl w))).at_ hg ha
  rw [hA] at hc ⊢
  rw [burnsB, burnAt_get hx]
  have hn := (goodT_bd hg).2.2.2.2.1
  obtain ⟨ha0, ha1⟩ := ha
  go_enter Try.func31, Try.ntmps31
  go_wp2
  go_ret
  exact ⟨rfl, by (repeat' (first | (with_reducible exact bel_refl _) | (with_reducible assumption) | (with_reducible refine bel_drew ?_) | (with_reducible refine bel_drewN ?_) | (with_reducible refine bel_alloc ?_) | (with_reducible refine bel_set ?_ ?_) | (with_reducible refine bel_trans ?_ (by with_reducible assumption)) | omega | (simp; done) | (simp; omega)))⟩
theorem isCell (t : Terr) (a : Int) (w : World) (hn : t.n ≤ 1048576) :
    Calls Try.prog 62 #[.agg #[.int .i64 t.W, .int .i64 t.H, .slice t.A t.n t.c], .int .i64 a] w fun e w' => e = .returned (.bool (inB a 0 ((t.n : Int) - 1))) ∧ Below w.heap.size w w' := by
  go_enter Try.func62, Try.ntmps62
  go_wp2_with (go_at_call 57; refine (isIn _ _ _ _).mono ?_; rintro _ w1 ⟨rfl, rfl⟩)
  go_ret
  exact ⟨rfl, by (repeat' (first | (with_reducible exact bel_refl _) | (with_reducible assumption) | (with_reducible refine bel_drew ?_) | (with_reducible refine bel_drewN ?_) | (with_reducible refine bel_alloc ?_) | (with_reducible refine bel_set ?_ ?_) | (with_reducible refine bel_trans ?_ (by with_reducible assumption)) | omega | (simp; done) | (simp; omega)))⟩
/-- The work of a step. -/
def workF (t : Terr) (a b : Int) : Int := if a % t.W = b % t.W ∨ a / t.W = b / t.W then 2 * (burnAt t a + burnAt t b) else 3 * (burnAt t a + burnAt t b)
def leI (y x : Int) : Bool := decide (x ≤ y)
def risingB (xs : List Int) : Bool := noneBad (badAt (fun _ => true) leI xs) xs.length
def setB (lo hi : Int) (xs : List Int) : Bool := noneBad (badAt (fun x => inB x lo hi) leI xs) xs.length
theorem setB_eq (lo hi : Int) (xs : List Int) : setB lo hi xs = (risingB xs && xs.all fun x => inB x lo hi) := by
  rcases ha : xs.all fun x => inB x lo hi with _ | _
  · rw [Bool.and_false]
    rw [List.all_eq_false] at ha
    obtain ⟨x, hx, h1⟩ := ha
    obtain ⟨i, hi⟩ := List.getElem?_of_mem hx
    exact noneBad_no (List.getElem?_eq_some_iff.1 hi).1 (badAt_ill hi (by simpa using h1))
  · rw [Bool.and_true]
    have e : ∀ i, badAt (fun x => inB x lo hi) leI xs i = badAt (fun _ => true) leI xs i := fun i => by
      unfold badAt
      rcases hx : xs[i]? with _ | x
      · rfl
      · have := List.all_eq_true.1 ha x (List.mem_of_getElem? hx)
        simp only [this]
    simp only [setB, risingB, show badAt (fun x => inB x lo hi) leI xs = badAt (fun _ => true) leI xs from funext e]
theorem rising_no {xs : List Int} {i : Nat} {y x : Int} (hy : xs[i]? = some y) (hx : xs[i + 1]? = some x) (h : x ≤ y) : risingB xs = false :=
  noneBad_no (List.getElem?_eq_some_iff.1 hx).1 (by rw [badAt_next hx hy rfl]; simpa [leI] using h)
set_option maxHeartbeats 1000000 in
theorem isRising (A : Option Addr) (n c : Nat) (xs : List Int) (w : World) (hS : Sl w 1 A n c (ints xs)) (hn : n ≤ 1048576) :
    Calls Try.prog 61 #[.slice A n c] w fun e w' => e = .returned (.bool (risingB xs)) ∧ Below w.heap.size w w' := by
  have hlh := hid hS.int_len
  go_enter Try.func61, Try.ntmps61
  go_wp2
  go_loopw [3] (fun v wr => ∃ i : Nat, 0 < i ∧ (i ≤ n ∨ i = 1) ∧ v = .int .i64 i ∧ (Hid (∀ r, r < i → badAt (fun _ => true) leI xs r = false)) ∧ Below w.heap.size w wr) (fun v _ => (n + 1) - (intOf v).toNat)
  case atStart =>
    refine ⟨1, by omega, Or.inr rfl, rfl, fun r hr => ?_, by (repeat' (first | (with_reducible exact bel_refl _) | (with_reducible assumption) | (with_reducible refine bel_drew ?_) | (with_reducible refine bel_drewN ?_) | (with_reducible refine bel_alloc ?_) | (with_reducible refine bel_set ?_ ?_) | (with_reducible refine bel_trans ?_ (by with_reducible assumption)) | omega | (simp; done) | (simp; omega)))⟩
    obtain rfl : r = 0 := by omega
    unfold badAt
    rcases xs[0]? with _ | x <;> rfl
  case round =>
    obtain ⟨i, hi0, hi', rfl, hno, hB⟩ := hrel
    rcases i with _ | j
    · omega
    have hp0 : ((j + 1 : Nat) : Int) = (j : Int) + 1 := by omega
    rw [hp0]
    clear hp0
    by_cases hlt : j + 1 < n
    · obtain ⟨x, hx⟩ : ∃ x, xs[j + 1]? = some x := get_of_lt (by rw [hlh.out]; exact hlt)
      obtain ⟨y, hy⟩ : ∃ y, xs[j]? = some y := get_of_lt (by rw [hlh.out]; omega)
      obtain ⟨b, o, rfl, hb, c0⟩ := (hS.bel hB).int_at hx
      obtain ⟨b', o', hbo, _, d0⟩ := (hS.bel hB).int_at hy
      simp only [Option.some.injEq, Addr.mk.injEq, and_true] at hbo
      obtain ⟨rfl, rfl⟩ := hbo
      have hX := hid hx
      have hY := hid hy
      clear hx hy
      have hB2 := bel_refl wr
      have hj0 : (0 : Int) ≤ (j : Int) := by omega
      have hj1 : (j : Int) < (n : Int) := by omega
      have hj2 : (j : Int) + 1 < (n : Int) := by omega
      have hj3 : (0 : Int) ≤ (j : Int) + 1 := by omega
      by_cases hle : x ≤ y
      · have hR := hid (rising_no hY.out hX.out hle)
        go_wp2_with fail
        (refine wp_region_bel (by kernel_rfl) (by kernel_rfl) ?_; have hD := bel_cells hB2; (repeat (go_big_quiet_step ((fail)))); refine wpQuiet_nil ?_; intro w1 hB1; replace hB2 := bel_trans hB2 hB1; obtain ⟨hC1, hF1⟩ := bcell hB2; clear hD; replace hB1 := hB1)
        go_wp2
        go_ret
        exact ⟨ret_bool hR.out.symm, by (repeat' (first | (with_reducible exact bel_refl _) | (with_reducible assumption) | (with_reducible refine bel_drew ?_) | (with_reducible refine bel_drewN ?_) | (with_reducible refine bel_alloc ?_) | (with_reducible refine bel_set ?_ ?_) | (with_reducible refine bel_trans ?_ (by with_reducible assumption)) | omega | (simp; done) | (simp; omega)))⟩
      · go_wp2_with fail
        (refine wp_region_bel (by kernel_rfl) (by kernel_rfl) ?_; have hD := bel_cells hB2; (repeat (go_big_quiet_step ((fail)))); refine wpQuiet_nil ?_; intro w1 hB1; replace hB2 := bel_trans hB2 hB1; obtain ⟨hC1, hF1⟩ := bcell hB2; clear hD; replace hB1 := hB1)
        go_wp2
        go_roundw
        case rel => exact ⟨j + 1 + 1, by omega, by omega, by go_num, noBad_snoc hno (by rw [badAt_next hX.out hY.out rfl]; simpa [leI] using hle), by (repeat' (first | (with_reducible exact bel_refl _) | (with_reducible assumption) | (with_reducible refine bel_drew ?_) | (with_reducible refine bel_drewN ?_) | (with_reducible refine bel_alloc ?_) | (with_reducible refine bel_set ?_ ?_) | (with_reducible refine bel_trans ?_ (by with_reducible assumption)) | omega | (simp; done) | (simp; omega)))⟩
        case measure => simp [intOf]; omega
    · have hj2 : ¬ (j : Int) + 1 < (n : Int) := by omega
      have hR := hid (show risingB xs = true by rw [risingB]; exact noneBad_yes (fun r hr => hno.out r (by rw [hlh.out] at hr; omega)))
      go_wp2
      go_ret
      exact ⟨ret_bool hR.out.symm, by (repeat' (first | (with_reducible exact bel_refl _) | (with_reducible assumption) | (with_reducible refine bel_drew ?_) | (with_reducible refine bel_drewN ?_) | (with_reducible refine bel_alloc ?_) | (with_reducible refine bel_set ?_ ?_) | (with_reducible refine bel_trans ?_ (by with_reducible assumption)) | omega | (simp; done) | (simp; omega)))⟩
set_option maxHeartbeats 1000000 in
set_option maxRecDepth 100000 in
theorem l1Rising (A : Option Addr) (n c : Nat) (xs : List Int) (lo hi : Int) (w : World) (hS : Sl w 1 A n c (ints xs)) (hn : n ≤ 1048576) :
    Calls Try.prog 38 #[.slice A n c, .int .i64 lo, .int .i64 hi] w fun e w' => e = .returned (.bool (setB lo hi xs)) ∧ Below w.heap.size w w' := by
  have hlh := hid hS.int_len
  go_enter Try.func38, Try.ntmps38
  go_wp2
  go_loopw [7] (fun v wr => ∃ i : Nat, i ≤ n ∧ v = .int .i64 i ∧ (Hid (∀ r, r < i → badAt (fun x => inB x lo hi) leI xs r = false)) ∧ Below w.heap.size w wr) (fun v _ => n - (intOf v).toNat)
  case atStart => exact ⟨0, by omega, rfl, fun r hr => absurd hr (by omega), by (repeat' (first | (with_reducible exact bel_refl _) | (with_reducible assumption) | (with_reducible refine bel_drew ?_) | (with_reducible refine bel_drewN ?_) | (with_reducible refine bel_alloc ?_) | (with_reducible refine bel_set ?_ ?_) | (with_reducible refine bel_trans ?_ (by with_reducible assumption)) | omega | (simp; done) | (simp; omega)))⟩
  case round =>
    obtain ⟨i, hi', rfl, hno, hB⟩ := hrel
    by_cases hlt : i < n
    · obtain ⟨x, hx⟩ : ∃ x, xs[i]? = some x := get_of_lt (by rw [hlh.out]; exact hlt)
      obtain ⟨b, o, rfl, hb, c0⟩ := (hS.bel hB).int_at hx
      have hX := hid hx
      clear hx
      have hB2 := bel_refl wr
      have hi0 : (0 : Int) ≤ (i : Int) := by omega
      have hi1 : (i : Int) < (n : Int) := by omega
      rcases h1 : inB x lo hi with _ | _
      · have hR := hid (show setB lo hi xs = false from noneBad_no (by rw [hlh.out]; exact hlt) (badAt_ill (good := fun x => inB x lo hi) (clash := leI) hX.out h1))
        go_wp2_with fail
        (refine wp_region_bel (by kernel_rfl) (by kernel_rfl) ?_; have hD := bel_cells hB2; (repeat (go_big_quiet_step (((go_at_call 55; exact calls_bel_same (l1In _ _ _ _)))))); refine wpQuiet_nil ?_; intro w1 hB1; replace hB2 := bel_trans hB2 hB1; obtain ⟨hC1, hF1⟩ := bcell hB2; clear hD; replace hB1 := hB1)
        go_wp2
        go_ret
        exact ⟨ret_bool hR.out.symm, by (repeat' (first | (with_reducible exact bel_refl _) | (with_reducible assumption) | (with_reducible refine bel_drew ?_) | (with_reducible refine bel_drewN ?_) | (with_reducible refine bel_alloc ?_) | (with_reducible refine bel_set ?_ ?_) | (with_reducible refine bel_trans ?_ (by with_reducible assumption)) | omega | (simp; done) | (simp; omega)))⟩
      rcases i with _ | j
      · simp only [Nat.add_zero] at c0
        go_wp2_with fail
        (refine wp_region_bel (by kernel_rfl) (by kernel_rfl) ?_; have hD := bel_cells hB2; (repeat (go_big_quiet_step (((go_at_call 55; exact calls_bel_same (l1In _ _ _ _)))))); refine wpQuiet_nil ?_; intro w1 hB1; replace hB2 := bel_trans hB2 hB1; obtain ⟨hC1, hF1⟩ := bcell hB2; clear hD; replace hB1 := hB1)
        go_wp2
        go_roundw
        case rel => exact ⟨1, by omega, by go_num, noBad_snoc hno (badAt_first hX.out h1), by (repeat' (first | (with_reducible exact bel_refl _) | (with_reducible assumption) | (with_reducible refine bel_drew ?_) | (with_reducible refine bel_drewN ?_) | (with_reducible refine bel_alloc ?_) | (with_reducible refine bel_set ?_ ?_) | (with_reducible refine bel_trans ?_ (by with_reducible assumption)) | omega | (simp; done) | (simp; omega)))⟩
        case measure => simp [intOf]; omega
      · obtain ⟨y, hy⟩ : ∃ y, xs[j]? = some y := get_of_lt (by rw [hlh.out]; omega)
        obtain ⟨b', o', hbo, _, d0⟩ := (hS.bel hB).int_at hy
        simp only [Option.some.injEq, Addr.mk.injEq, and_true] at hbo
        obtain ⟨rfl, rfl⟩ := hbo
        have hY := hid hy
        clear hy
        have hp0 : ((j + 1 : Nat) : Int) = (j : Int) + 1 := by omega
        rw [hp0] at hi0 hi1 ⊢
        clear hp0
        have hj0 : (0 : Int) ≤ (j : Int) := by omega
        have hj1 : (j : Int) < (n : Int) := by omega
        have hjp : (0 : Int) < (j : Int) + 1 := by omega
        by_cases hle : x ≤ y
        · have hR := hid (show setB lo hi xs = false from noneBad_no (by rw [hlh.out]; exact hlt) (by rw [badAt_next hX.out hY.out h1]; simpa [leI] using hle))
          go_wp2_with fail
          (refine wp_region_bel (by kernel_rfl) (by kernel_rfl) ?_; have hD := bel_cells hB2; (repeat (go_big_quiet_step (((go_at_call 55; exact calls_bel_same (l1In _ _ _ _)))))); refine wpQuiet_nil ?_; intro w1 hB1; replace hB2 := bel_trans hB2 hB1; obtain ⟨hC1, hF1⟩ := bcell hB2; clear hD; replace hB1 := hB1)
          go_wp2
          go_ret
          exact ⟨ret_bool hR.out.symm, by (repeat' (first | (with_reducible exact bel_refl _) | (with_reducible assumption) | (with_reducible refine bel_drew ?_) | (with_reducible refine bel_drewN ?_) | (with_reducible refine bel_alloc ?_) | (with_reducible refine bel_set ?_ ?_) | (with_reducible refine bel_trans ?_ (by with_reducible assumption)) | omega | (simp; done) | (simp; omega)))⟩
        · go_wp2_with fail
          (refine wp_region_bel (by kernel_rfl) (by kernel_rfl) ?_; have hD := bel_cells hB2; (repeat (go_big_quiet_step (((go_at_call 55; exact calls_bel_same (l1In _ _ _ _)))))); refine wpQuiet_nil ?_; intro w1 hB1; replace hB2 := bel_trans hB2 hB1; obtain ⟨hC1, hF1⟩ := bcell hB2; clear hD; replace hB1 := hB1)
          go_wp2
          go_roundw
          case rel => exact ⟨j + 1 + 1, by omega, by go_num, noBad_snoc hno (by rw [badAt_next hX.out hY.out h1]; simpa [leI] using hle), by (repeat' (first | (with_reducible exact bel_refl _) | (with_reducible assumption) | (with_reducible refine bel_drew ?_) | (with_reducible refine bel_drewN ?_) | (with_reducible refine bel_alloc ?_) | (with_reducible refine bel_set ?_ ?_) | (with_reducible refine bel_trans ?_ (by with_reducible assumption)) | omega | (simp; done) | (simp; omega)))⟩
          case measure => simp [intOf]; omega
    · have hi2 : ¬ (i : Int) < (n : Int) := by omega
      have hR := hid (show setB lo hi xs = true from noneBad_yes (fun r hr => hno.out r (by rw [hlh.out] at hr; omega)))
      go_wp2
      go_ret
      exact ⟨ret_bool hR.out.symm, by (repeat' (first | (with_reducible exact bel_refl _) | (with_reducible assumption) | (with_reducible refine bel_drew ?_) | (with_reducible refine bel_drewN ?_) | (with_reducible refine bel_alloc ?_) | (with_reducible refine bel_set ?_ ?_) | (with_reducible refine bel_trans ?_ (by with_reducible assumption)) | omega | (simp; done) | (simp; omega)))⟩

theorem burnOk (x : Int) (w : World) :
    Calls Try.prog 58 #[.int .i64 x] w fun e w' => e = .returned (.bool (inB x 0 20)) ∧ Below w.heap.size w w' := by
  go_enter Try.func58, Try.ntmps58
  go_wp2_with (go_at_call 57; refine (isIn _ _ _ _).mono ?_; rintro _ w1 ⟨rfl, rfl⟩)
  go_ret
  exact ⟨rfl, by (repeat' (first | (with_reducible exact bel_refl _) | (with_reducible assumption) | (with_reducible refine bel_drew ?_) | (with_reducible refine bel_drewN ?_) | (with_reducible refine bel_alloc ?_) | (with_reducible refine bel_set ?_ ?_) | (with_reducible refine bel_trans ?_ (by with_reducible assumption)) | omega | (simp; done) | (simp; omega)))⟩
theorem alli_no {p : Int → Bool} {xs : List Int} {i : Nat} {x : Int} (hx : xs[i]? = some x) (h : p x = false) : xs.all p = false := by
  rw [List.all_eq_false]
  exact ⟨x, List.mem_of_getElem? hx, by simp [h]⟩
theorem alli_yes {p : Int → Bool} {xs : List Int} (h : ∀ (i : Nat) (x : Int), xs[i]? = some x → p x = true) : xs.all p = true := by
  rw [List.all_eq_true]
  intro x hx
  obtain ⟨i, hi⟩ := List.getElem?_of_mem hx
  exact h i x hi
theorem cloAllA  (x : Int) (hb : Nat) (w : World)  (_hhb : hb < w.heap.size) (hf : w.cell? ⟨hb, 0, none⟩ = some (.func (.func 58) #[] #[])) :
    Calls Try.prog 46 #[.int .i64 x, .pointer (some ⟨hb, 0, none⟩)] w fun e w' => e = .returned (.bool (!((fun x => inB x 0 20)) x)) ∧ Below w.heap.size w w' := by
  have hB2 := bel_refl w
  go_enter Try.func46, Try.ntmps46
  go_wp2_with (go_at_call 58; refine (burnOk x _).mono ?_; rintro _ w1 ⟨rfl, hB1⟩; (first | (with_reducible replace hB2 := bel_trans hB2 hB1) | (with_reducible replace hB2 := bel_trans (bel_alloc hB2) hB1)); obtain ⟨hC1, hF1⟩ := bcell hB2; replace hB1 := hB1)
  go_ret
  exact ⟨rfl, by (repeat' (first | (with_reducible exact bel_refl _) | (with_reducible assumption) | (with_reducible refine bel_drew ?_) | (with_reducible refine bel_drewN ?_) | (with_reducible refine bel_alloc ?_) | (with_reducible refine bel_set ?_ ?_) | (with_reducible refine bel_trans ?_ (by with_reducible assumption)) | omega | (simp; done) | (simp; omega)))⟩
set_option maxHeartbeats 1000000 in
theorem indexA  (A : Option Addr) (n c : Nat) (xs : List Int) (hb : Nat) (w : World)  (hS : Sl w 1 A n c (ints xs)) (hn : n ≤ 1048576) (hhb : hb < w.heap.size) (hf : w.cell? ⟨hb, 0, none⟩ = some (.func (.func 58) #[] #[])) :
    Calls Try.prog 63 #[.slice A n c, .func (.func 46) #[] #[.pointer (some ⟨hb, 0, none⟩)]] w fun e w' => ∃ k : Int, e = .returned (.int .i64 k) ∧ decide (0 ≤ k) = !xs.all ((fun x => inB x 0 20)) ∧ Below w.heap.size w w' := by
  have hlh := hid hS.int_len
  go_enter Try.func63, Try.ntmps63
  go_wp2_with fail
  go_loopw [5, 8] (fun _ v wr => ∃ i : Nat, i ≤ n ∧ v = .int .i64 i ∧ (Hid (∀ r, r < i → ∀ u, xs[r]? = some u → ((fun x => inB x 0 20)) u = true)) ∧ Below w.heap.size w wr) (fun _ v _ => n - (intOf v).toNat)
  case atStart => exact ⟨0, by omega, rfl, fun r hr => absurd hr (by omega), by (repeat' (first | (with_reducible exact bel_refl _) | (with_reducible assumption) | (with_reducible refine bel_drew ?_) | (with_reducible refine bel_drewN ?_) | (with_reducible refine bel_alloc ?_) | (with_reducible refine bel_set ?_ ?_) | (with_reducible refine bel_trans ?_ (by with_reducible assumption)) | omega | (simp; done) | (simp; omega)))⟩
  case round =>
    obtain ⟨i, hi', rfl, hall, hB⟩ := hrel
    have hB2 := bel_refl wr
    have hsz := hB.size
    have hfw := ((bcell hB).1 _ 0 hhb).trans hf
    by_cases hlt : i < n
    · obtain ⟨x, hx⟩ : ∃ x, xs[i]? = some x := get_of_lt (by rw [hlh.out]; exact hlt)
      obtain ⟨b, o, rfl, hb', c0⟩ := (hS.bel hB).int_at hx
      have hX := hid hx
      clear hx
      have hi0 : (0 : Int) ≤ (i : Int) := by omega
      have hi1 : (i : Int) < (n : Int) := by omega
      have hp2 : hb < wr.heap.size := by omega
      rcases hin : ((fun x => inB x 0 20)) x with _ | _
      · go_wp2_with (go_at_call 46; refine (cloAllA  x hb _  hp2 hfw).mono ?_; rw [hin]; rintro _ w1 ⟨rfl, hB1⟩; replace hB2 := bel_trans hB2 hB1)
        go_ret
        exact ⟨i, rfl, by rw [alli_no hX.out hin]; simp, by (repeat' (first | (with_reducible exact bel_refl _) | (with_reducible assumption) | (with_reducible refine bel_drew ?_) | (with_reducible refine bel_drewN ?_) | (with_reducible refine bel_alloc ?_) | (with_reducible refine bel_set ?_ ?_) | (with_reducible refine bel_trans ?_ (by with_reducible assumption)) | omega | (simp; done) | (simp; omega)))⟩
      · go_wp2_with (go_at_call 46; refine (cloAllA  x hb _  hp2 hfw).mono ?_; rw [hin]; rintro _ w1 ⟨rfl, hB1⟩; replace hB2 := bel_trans hB2 hB1)
        go_roundw
        case rel => exact ⟨i + 1, by omega, by go_num, fun r hr u hu => (by
          rcases Nat.lt_or_ge r i with h1 | h1
          · exact hall.out r h1 u hu
          · rw [show r = i by omega, hX.out] at hu
            simp only [Option.some.injEq] at hu
            rw [← hu]; exact hin), by (repeat' (first | (with_reducible exact bel_refl _) | (with_reducible assumption) | (with_reducible refine bel_drew ?_) | (with_reducible refine bel_drewN ?_) | (with_reducible refine bel_alloc ?_) | (with_reducible refine bel_set ?_ ?_) | (with_reducible refine bel_trans ?_ (by with_reducible assumption)) | omega | (simp; done) | (simp; omega)))⟩
        case measure => simp [intOf]; omega
    · go_wp2
      go_ret
      refine ⟨-1, rfl, ?_, by (repeat' (first | (with_reducible exact bel_refl _) | (with_reducible assumption) | (with_reducible refine bel_drew ?_) | (with_reducible refine bel_drewN ?_) | (with_reducible refine bel_alloc ?_) | (with_reducible refine bel_set ?_ ?_) | (with_reducible refine bel_trans ?_ (by with_reducible assumption)) | omega | (simp; done) | (simp; omega)))⟩
      rw [alli_yes (fun r u hu => hall.out r (by have h1 := (List.getElem?_eq_some_iff.1 hu).1; rw [hlh.out] at h1; omega) u hu)]
      simp
theorem containsA  (A : Option Addr) (n c : Nat) (xs : List Int) (hb : Nat) (w : World)  (hS : Sl w 1 A n c (ints xs)) (hn : n ≤ 1048576) (hhb : hb < w.heap.size) (hf : w.cell? ⟨hb, 0, none⟩ = some (.func (.func 58) #[] #[])) :
    Calls Try.prog 45 #[.slice A n c, .func (.func 46) #[] #[.pointer (some ⟨hb, 0, none⟩)]] w fun e w' => e = .returned (.bool (!xs.all ((fun x => inB x 0 20)))) ∧ Below w.heap.size w w' := by
  go_enter Try.func45, Try.ntmps45
  go_wp2_with (go_at_call 63; refine (indexA  _ _ _ xs hb _  hS hn hhb hf).mono ?_; rintro _ w1 ⟨k, rfl, hk, hb1⟩)
  go_ret
  exact ⟨ret_bool (by first | rfl | exact hk), by (repeat' (first | (with_reducible exact bel_refl _) | (with_reducible assumption) | (with_reducible refine bel_drew ?_) | (with_reducible refine bel_drewN ?_) | (with_reducible refine bel_alloc ?_) | (with_reducible refine bel_set ?_ ?_) | (with_reducible refine bel_trans ?_ (by with_reducible assumption)) | omega | (simp; done) | (simp; omega)))⟩
theorem allIntA  (A : Option Addr) (n c : Nat) (xs : List Int) (w : World)  (hS : Sl w 1 A n c (ints xs)) (hn : n ≤ 1048576) :
    Calls Try.prog 27 #[.slice A n c, .func (.func 58) #[] #[]] w fun e w' => e = .returned (.bool (xs.all ((fun x => inB x 0 20)))) ∧ Below w.heap.size w w' := by
  obtain ⟨W1, hW1⟩ : ∃ W1, w.alloc (.cells #[.func (.func 58) #[] #[]] 46) = W1 := ⟨_, rfl⟩
  have hb2 : Below w.heap.size w W1 := by rw [← hW1]; exact bel_alloc (bel_refl w)
  have hf1 : W1.cell? ⟨w.heap.size, 0, none⟩ = some (.func (.func 58) #[] #[]) := by rw [← hW1, cell_of_row _ _ 0 _ _ (0, 0) (heap_alloc_new w _)]; rfl
  have hs2 : w.heap.size < W1.heap.size := by rw [← hW1]; simp
  go_enter Try.func27, Try.ntmps27
  go_wp2_with (go_at_call 45; (try rw [hW1]); refine (containsA  _ _ _ xs w.heap.size _  (hS.bel hb2) hn hs2 hf1).mono ?_; rintro _ w1 ⟨rfl, hb1⟩)
  go_ret
  exact ⟨ret_bool (by simp), bel_trans hb2 hb1⟩

theorem cloAllB (t : Terr) (x : Int) (hb : Nat) (w : World) (ht : t.n ≤ 1048576) (_hhb : hb < w.heap.size) (hf : w.cell? ⟨hb, 0, none⟩ = some (.func (.func 62) #[.agg #[.int .i64 t.W, .int .i64 t.H, .slice t.A t.n t.c]] #[])) :
    Calls Try.prog 46 #[.int .i64 x, .pointer (some ⟨hb, 0, none⟩)] w fun e w' => e = .returned (.bool (!((fun x => inB x 0 ((t.n : Int) - 1))) x)) ∧ Below w.heap.size w w' := by
  have hB2 := bel_refl w
  go_enter Try.func46, Try.ntmps46
  go_wp2_with (go_at_call 62; refine (isCell t x _ ht).mono ?_; rintro _ w1 ⟨rfl, hB1⟩; (first | (with_reducible replace hB2 := bel_trans hB2 hB1) | (with_reducible replace hB2 := bel_trans (bel_alloc hB2) hB1)); obtain ⟨hC1, hF1⟩ := bcell hB2; replace hB1 := hB1)
  go_ret
  exact ⟨rfl, by (repeat' (first | (with_reducible exact bel_refl _) | (with_reducible assumption) | (with_reducible refine bel_drew ?_) | (with_reducible refine bel_drewN ?_) | (with_reducible refine bel_alloc ?_) | (with_reducible refine bel_set ?_ ?_) | (with_reducible refine bel_trans ?_ (by with_reducible assumption)) | omega | (simp; done) | (simp; omega)))⟩
set_option maxHeartbeats 1000000 in
theorem indexB (t : Terr) (A : Option Addr) (n c : Nat) (xs : List Int) (hb : Nat) (w : World) (ht : t.n ≤ 1048576) (hS : Sl w 1 A n c (ints xs)) (hn : n ≤ 1048576) (hhb : hb < w.heap.size) (hf : w.cell? ⟨hb, 0, none⟩ = some (.func (.func 62) #[.agg #[.int .i64 t.W, .int .i64 t.H, .slice t.A t.n t.c]] #[])) :
    Calls Try.prog 63 #[.slice A n c, .func (.func 46) #[] #[.pointer (some ⟨hb, 0, none⟩)]] w fun e w' => ∃ k : Int, e = .returned (.int .i64 k) ∧ decide (0 ≤ k) = !xs.all ((fun x => inB x 0 ((t.n : Int) - 1))) ∧ Below w.heap.size w w' := by
  have hlh := hid hS.int_len
  go_enter Try.func63, Try.ntmps63
  go_wp2_with fail
  go_loopw [5, 8] (fun _ v wr => ∃ i : Nat, i ≤ n ∧ v = .int .i64 i ∧ (Hid (∀ r, r < i → ∀ u, xs[r]? = some u → ((fun x => inB x 0 ((t.n : Int) - 1))) u = true)) ∧ Below w.heap.size w wr) (fun _ v _ => n - (intOf v).toNat)
  case atStart => exact ⟨0, by omega, rfl, fun r hr => absurd hr (by omega), by (repeat' (first | (with_reducible exact bel_refl _) | (with_reducible assumption) | (with_reducible refine bel_drew ?_) | (with_reducible refine bel_drewN ?_) | (with_reducible refine bel_alloc ?_) | (with_reducible refine bel_set ?_ ?_) | (with_reducible refine bel_trans ?_ (by with_reducible assumption)) | omega | (simp; done) | (simp; omega)))⟩
  case round =>
    obtain ⟨i, hi', rfl, hall, hB⟩ := hrel
    have hB2 := bel_refl wr
    have hsz := hB.size
    have hfw := ((bcell hB).1 _ 0 hhb).trans hf
    by_cases hlt : i < n
    · obtain ⟨x, hx⟩ : ∃ x, xs[i]? = some x := get_of_lt (by rw [hlh.out]; exact hlt)
      obtain ⟨b, o, rfl, hb', c0⟩ := (hS.bel hB).int_at hx
      have hX := hid hx
      clear hx
      have hi0 : (0 : Int) ≤ (i : Int) := by omega
      have hi1 : (i : Int) < (n : Int) := by omega
      have hp2 : hb < wr.heap.size := by omega
      rcases hin : ((fun x => inB x 0 ((t.n : Int) - 1))) x with _ | _
      · go_wp2_with (go_at_call 46; refine (cloAllB t x hb _ ht hp2 hfw).mono ?_; rw [hin]; rintro _ w1 ⟨rfl, hB1⟩; replace hB2 := bel_trans hB2 hB1)
        go_ret
        exact ⟨i, rfl, by rw [alli_no hX.out hin]; simp, by (repeat' (first | (with_reducible exact bel_refl _) | (with_reducible assumption) | (with_reducible refine bel_drew ?_) | (with_reducible refine bel_drewN ?_) | (with_reducible refine bel_alloc ?_) | (with_reducible refine bel_set ?_ ?_) | (with_reducible refine bel_trans ?_ (by with_reducible assumption)) | omega | (simp; done) | (simp; omega)))⟩
      · go_wp2_with (go_at_call 46; refine (cloAllB t x hb _ ht hp2 hfw).mono ?_; rw [hin]; rintro _ w1 ⟨rfl, hB1⟩; replace hB2 := bel_trans hB2 hB1)
        go_roundw
        case rel => exact ⟨i + 1, by omega, by go_num, fun r hr u hu => (by
          rcases Nat.lt_or_ge r i with h1 | h1
          · exact hall.out r h1 u hu
          · rw [show r = i by omega, hX.out] at hu
            simp only [Option.some.injEq] at hu
            rw [← hu]; exact hin), by (repeat' (first | (with_reducible exact bel_refl _) | (with_reducible assumption) | (with_reducible refine bel_drew ?_) | (with_reducible refine bel_drewN ?_) | (with_reducible refine bel_alloc ?_) | (with_reducible refine bel_set ?_ ?_) | (with_reducible refine bel_trans ?_ (by with_reducible assumption)) | omega | (simp; done) | (simp; omega)))⟩
        case measure => simp [intOf]; omega
    · go_wp2
      go_ret
      refine ⟨-1, rfl, ?_, by (repeat' (first | (with_reducible exact bel_refl _) | (with_reducible assumption) | (with_reducible refine bel_drew ?_) | (with_reducible refine bel_drewN ?_) | (with_reducible refine bel_alloc ?_) | (with_reducible refine bel_set ?_ ?_) | (with_reducible refine bel_trans ?_ (by with_reducible assumption)) | omega | (simp; done) | (simp; omega)))⟩
      rw [alli_yes (fun r u hu => hall.out r (by have h1 := (List.getElem?_eq_some_iff.1 hu).1; rw [hlh.out] at h1; omega) u hu)]
      simp
theorem containsB (t : Terr) (A : Option Addr) (n c : Nat) (xs : List Int) (hb : Nat) (w : World) (ht : t.n ≤ 1048576) (hS : Sl w 1 A n c (ints xs)) (hn : n ≤ 1048576) (hhb : hb < w.heap.size) (hf : w.cell? ⟨hb, 0, none⟩ = some (.func (.func 62) #[.agg #[.int .i64 t.W, .int .i64 t.H, .slice t.A t.n t.c]] #[])) :
    Calls Try.prog 45 #[.slice A n c, .func (.func 46) #[] #[.pointer (some ⟨hb, 0, none⟩)]] w fun e w' => e = .returned (.bool (!xs.all ((fun x => inB x 0 ((t.n : Int) - 1))))) ∧ Below w.heap.size w w' := by
  go_enter Try.func45, Try.ntmps45
  go_wp2_with (go_at_call 63; refine (indexB t _ _ _ xs hb _ ht hS hn hhb hf).mono ?_; rintro _ w1 ⟨k, rfl, hk, hb1⟩)
  go_ret
  exact ⟨ret_bool (by first | rfl | exact hk), by (repeat' (first | (with_reducible exact bel_refl _) | (with_reducible assumption) | (with_reducible refine bel_drew ?_) | (with_reducible refine bel_drewN ?_) | (with_reducible refine bel_alloc ?_) | (with_reducible refine bel_set ?_ ?_) | (with_reducible refine bel_trans ?_ (by with_reducible assumption)) | omega | (simp; done) | (simp; omega)))⟩
theorem allIntB (t : Terr) (A : Option Addr) (n c : Nat) (xs : List Int) (w : World) (ht : t.n ≤ 1048576) (hS : Sl w 1 A n c (ints xs)) (hn : n ≤ 1048576) :
    Calls Try.prog 27 #[.slice A n c, .func (.func 62) #[.agg #[.int .i64 t.W, .int .i64 t.H, .slice t.A t.n t.c]] #[]] w fun e w' => e = .returned (.bool (xs.all ((fun x => inB x 0 ((t.n : Int) - 1))))) ∧ Below w.heap.size w w' := by
  obtain ⟨W1, hW1⟩ : ∃ W1, w.alloc (.cells #[.func (.func 62) #[.agg #[.int .i64 t.W, .int .i64 t.H, .slice t.A t.n t.c]] #[]] 46) = W1 := ⟨_, rfl⟩
  have hb2 : Below w.heap.size w W1 := by rw [← hW1]; exact bel_alloc (bel_refl w)
  have hf1 : W1.cell? ⟨w.heap.size, 0, none⟩ = some (.func (.func 62) #[.agg #[.int .i64 t.W, .int .i64 t.H, .slice t.A t.n t.c]] #[]) := by rw [← hW1, cell_of_row _ _ 0 _ _ (0, 0) (heap_alloc_new w _)]; rfl
  have hs2 : w.heap.size < W1.heap.size := by rw [← hW1]; simp
  go_enter Try.func27, Try.ntmps27
  go_wp2_with (go_at_call 45; (try rw [hW1]); refine (containsB t _ _ _ xs w.heap.size _ ht (hS.bel hb2) hn hs2 hf1).mono ?_; rintro _ w1 ⟨rfl, hb1⟩)
  go_ret
  exact ⟨ret_bool (by simp), bel_trans hb2 hb1⟩

theorem goodT_eq (t : Terr) : goodT t = (inB t.W 1 5 && inB t.H 1 5 && ((t.n : Int) == t.W * t.H) && t.burn.all fun x => inB x 0 20) := by
  rw [goodT]; congr 2
set_option maxHeartbeats 2000000 in
theorem isTerrain (t : Terr) (w : World) (hT : TOk w t) (hn : t.n ≤ 1048576) :
    Calls Try.prog 42 #[.agg #[.int .i64 t.W, .int .i64 t.H, .slice t.A t.n t.c]] w fun e w' => e = .returned (.bool (goodT t)) ∧ Below w.heap.size w w' := by
  have hB2 := bel_refl (w.alloc (.cells #[.int .i64 t.W, .int .i64 t.H, .slice t.A t.n t.c] 28))
  have hT1 := hT.bel (bel_alloc (o := .cells #[.int .i64 t.W, .int .i64 t.H, .slice t.A t.n t.c] 28) (bel_refl w))
  rcases h1 : inB t.W 1 5 with _ | _ <;> rcases h2 : inB t.H 1 5 with _ | _
  all_goals have hG := hid (goodT_eq t)
  all_goals rw [h1, h2] at hG
  rotate_left 3
  · have b1 := inB_iff.1 h1
    have b2 := inB_iff.1 h2
    have b3 := mul_bd b1 b2
    rcases h3 : ((t.n : Int) == t.W * t.H) with _ | _
    · rw [h3] at hG
      go_enter Try.func42, Try.ntmps42
      go_wp2_with (first | (go_at_call 57; refine (isIn _ _ _ _).mono ?_; rintro _ w1 ⟨rfl, rfl⟩))
      go_ret
      exact ⟨ret_bool (by rw [hG.out]; simp), by (repeat' (first | (with_reducible exact bel_refl _) | (with_reducible assumption) | (with_reducible refine bel_drew ?_) | (with_reducible refine bel_drewN ?_) | (with_reducible refine bel_alloc ?_) | (with_reducible refine bel_set ?_ ?_) | (with_reducible refine bel_trans ?_ (by with_reducible assumption)) | omega | (simp; done) | (simp; omega)))⟩
    · rw [h3] at hG
      go_enter Try.func42, Try.ntmps42
      go_wp2_with (first | (go_at_call 57; refine (isIn _ _ _ _).mono ?_; rintro _ w1 ⟨rfl, rfl⟩) | (go_at_call 27; refine (allIntA _ _ _ t.burn _ hT1 hn).mono ?_; rintro _ w1 ⟨rfl, hB1⟩; replace hB2 := bel_trans hB2 hB1))
      go_ret
      exact ⟨ret_bool (by rw [hG.out]; simp), by (repeat' (first | (with_reducible exact bel_refl _) | (with_reducible assumption) | (with_reducible refine bel_drew ?_) | (with_reducible refine bel_drewN ?_) | (with_reducible refine bel_alloc ?_) | (with_reducible refine bel_set ?_ ?_) | (with_reducible refine bel_trans ?_ (by with_reducible assumption)) | omega | (simp; done) | (simp; omega)))⟩
  all_goals (
    go_enter Try.func42, Try.ntmps42
    go_wp2_with (first | (go_at_call 57; refine (isIn _ _ _ _).mono ?_; rintro _ w1 ⟨rfl, rfl⟩))
    go_ret
    exact ⟨ret_bool (by rw [hG.out]; simp), by (repeat' (first | (with_reducible exact bel_refl _) | (with_reducible assumption) | (with_reducible refine bel_drew ?_) | (with_reducible refine bel_drewN ?_) | (with_reducible refine bel_alloc ?_) | (with_reducible refine bel_set ?_ ?_) | (with_reducible refine bel_trans ?_ (by with_reducible assumption)) | omega | (simp; done) | (simp; omega)))⟩)
set_option maxHeartbeats 2000000 in
theorem l2Good (t : Terr) (w : World) (hT : TOk w t) (hn : t.n ≤ 1048576) :
    Calls Try.prog 37 #[.agg #[.int .i64 t.W, .int .i64 t.H, .slice t.A t.n t.c]] w fun e w' => e = .returned (.bool (goodT t)) ∧ Below w.heap.size w w' := by
  have hT1 := hT.bel (bel_alloc (o := .cells #[.int .i64 t.W, .int .i64 t.H, .slice t.A t.n t.c] 28) (bel_refl w))
  have hlh := hid hT.int_len
  rcases h1 : inB t.W 1 5 with _ | _ <;> rcases h2 : inB t.H 1 5 with _ | _
  all_goals have hG := hid (goodT_eq t)
  all_goals rw [h1, h2] at hG
  rotate_left 3
  · have b1 := inB_iff.1 h1
    have b2 := inB_iff.1 h2
    have b3 := mul_bd b1 b2
    rcases h3 : ((t.n : Int) == t.W * t.H) with _ | _
    · have h4 : ((t.n : Int) != t.W * t.H) = true := by rw [bne, h3]; rfl
      rw [h3] at hG
      go_enter Try.func37, Try.ntmps37
      go_wp2_with (first | (go_at_call 55; refine (l1In _ _ _ _).mono ?_; rintro _ w1 ⟨rfl, rfl⟩))
      go_ret
      exact ⟨ret_bool (by rw [hG.out]; simp), by (repeat' (first | (with_reducible exact bel_refl _) | (with_reducible assumption) | (with_reducible refine bel_drew ?_) | (with_reducible refine bel_drewN ?_) | (with_reducible refine bel_alloc ?_) | (with_reducible refine bel_set ?_ ?_) | (with_reducible refine bel_trans ?_ (by with_reducible assumption)) | omega | (simp; done) | (simp; omega)))⟩
    · have h4 : ((t.n : Int) != t.W * t.H) = false := by rw [bne, h3]; rfl
      rw [h3] at hG
      go_enter Try.func37, Try.ntmps37
      go_wp2_with (first | (go_at_call 55; refine (l1In _ _ _ _).mono ?_; rintro _ w1 ⟨rfl, rfl⟩))
      go_loopw [3] (fun v wr => ∃ i : Nat, i ≤ t.n ∧ v = .int .i64 i ∧ (Hid (∀ r, r < i → ∀ u, t.burn[r]? = some u → inB u 0 20 = true)) ∧ (w.alloc (.cells #[.int .i64 t.W, .int .i64 t.H, .slice t.A t.n t.c] 28)) = wr) (fun v _ => t.n - (intOf v).toNat)
      case atStart => exact ⟨0, by omega, rfl, fun r hr => absurd hr (by omega), rfl⟩
      case round =>
        obtain ⟨i, hi', rfl, hall, rfl⟩ := hrel
        by_cases hlt : i < t.n
        · obtain ⟨x, hx⟩ : ∃ x, t.burn[i]? = some x := get_of_lt (by rw [hlh.out]; exact hlt)
          obtain ⟨b, o, hA, hb, c0⟩ := hT.int_at hx
          have hX := hid hx
          clear hx
          have hi1 : (i : Int) < (t.n : Int) := by omega
          rcases hin : inB x 0 20 with _ | _
          · have hR := hid (show goodT t = false by rw [hG.out, alli_no hX.out hin]; simp)
            rw [hA]
            go_wp2_with (first | (go_at_call 55; refine (l1In _ _ _ _).mono ?_; rintro _ w1 ⟨rfl, rfl⟩))
            go_ret
            exact ⟨ret_bool hR.out.symm, by (repeat' (first | (with_reducible exact bel_refl _) | (with_reducible assumption) | (with_reducible refine bel_drew ?_) | (with_reducible refine bel_drewN ?_) | (with_reducible refine bel_alloc ?_) | (with_reducible refine bel_set ?_ ?_) | (with_reducible refine bel_trans ?_ (by with_reducible assumption)) | omega | (simp; done) | (simp; omega)))⟩
          · rw [hA]
            go_wp2_with (first | (go_at_call 55; refine (l1In _ _ _ _).mono ?_; rintro _ w1 ⟨rfl, rfl⟩))
            go_roundw
            case rel => exact ⟨i + 1, by omega, by go_num, fun r hr u hu => (by
              rcases Nat.lt_or_ge r i with h1 | h1
              · exact hall.out r h1 u hu
              · rw [show r = i by omega, hX.out] at hu
                simp only [Option.some.injEq] at hu
                rw [← hu]; exact hin), by first | trivial | (rw [hA])⟩
            case measure => simp [intOf]; omega
        · have hi1 : ¬ (i : Int) < (t.n : Int) := by omega
          have hR := hid (show goodT t = true by rw [hG.out, alli_yes (fun r u hu => hall.out r (by have h1 := (List.getElem?_eq_some_iff.1 hu).1; rw [hlh.out] at h1; omega) u hu)]; simp)
          go_wp2
          go_ret
          exact ⟨ret_bool hR.out.symm, by (repeat' (first | (with_reducible exact bel_refl _) | (with_reducible assumption) | (with_reducible refine bel_drew ?_) | (with_reducible refine bel_drewN ?_) | (with_reducible refine bel_alloc ?_) | (with_reducible refine bel_set ?_ ?_) | (with_reducible refine bel_trans ?_ (by with_reducible assumption)) | omega | (simp; done) | (simp; omega)))⟩
  all_goals (
    go_enter Try.func37, Try.ntmps37
    go_wp2_with (first | (go_at_call 55; refine (l1In _ _ _ _).mono ?_; rintro _ w1 ⟨rfl, rfl⟩))
    go_ret
    exact ⟨ret_bool (by rw [hG.out]; simp), by (repeat' (first | (with_reducible exact bel_refl _) | (with_reducible assumption) | (with_reducible refine bel_drew ?_) | (with_reducible refine bel_drewN ?_) | (with_reducible refine bel_alloc ?_) | (with_reducible refine bel_set ?_ ?_) | (with_reducible refine bel_trans ?_ (by with_reducible assumption)) | omega | (simp; done) | (simp; omega)))⟩)
def setT (t : Terr) (xs : List Int) : Bool := setB 0 ((t.n : Int) - 1) xs
theorem isSet (t : Terr) (A : Option Addr) (n c : Nat) (xs : List Int) (w : World) (ht : t.n ≤ 1048576) (hS : Sl w 1 A n c (ints xs)) (hn : n ≤ 1048576) :
    Calls Try.prog 44 #[.agg #[.int .i64 t.W, .int .i64 t.H, .slice t.A t.n t.c], .slice A n c] w fun e w' => e = .returned (.bool (setT t xs)) ∧ Below w.heap.size w w' := by
  have hB2 := bel_refl (w.alloc (.cells #[.int .i64 t.W, .int .i64 t.H, .slice t.A t.n t.c] 28))
  have hR := hid (setB_eq 0 ((t.n : Int) - 1) xs)
  rcases h1 : risingB xs with _ | _
  · rw [h1] at hR
    go_enter Try.func44, Try.ntmps44
    go_wp2_with (go_at_call 61; refine (isRising _ _ _ xs _ (hS.bel (by (repeat' (first | (with_reducible exact bel_refl _) | (with_reducible assumption) | (with_reducible refine bel_drew ?_) | (with_reducible refine bel_drewN ?_) | (with_reducible refine bel_alloc ?_) | (with_reducible refine bel_set ?_ ?_) | (with_reducible refine bel_trans ?_ (by with_reducible assumption)) | omega | (simp; done) | (simp; omega))))) hn).mono ?_; rw [h1]; rintro _ w1 ⟨rfl, hB1⟩; replace hB2 := bel_trans hB2 hB1)
    go_ret
    exact ⟨ret_bool (by rw [setT, hR.out]; simp), by (repeat' (first | (with_reducible exact bel_refl _) | (with_reducible assumption) | (with_reducible refine bel_drew ?_) | (with_reducible refine bel_drewN ?_) | (with_reducible refine bel_alloc ?_) | (with_reducible refine bel_set ?_ ?_) | (with_reducible refine bel_trans ?_ (by with_reducible assumption)) | omega | (simp; done) | (simp; omega)))⟩
  · rw [h1] at hR
    go_enter Try.func44, Try.ntmps44
    go_wp2_with (first | (go_at_call 61; refine (isRising _ _ _ xs _ (hS.bel (by (repeat' (first | (with_reducible exact bel_refl _) | (with_reducible assumption) | (with_reducible refine bel_drew ?_) | (with_reducible refine bel_drewN ?_) | (with_reducible refine bel_alloc ?_) | (with_reducible refine bel_set ?_ ?_) | (with_reducible refine bel_trans ?_ (by with_reducible assumption)) | omega | (simp; done) | (simp; omega))))) hn).mono ?_; rw [h1]; rintro _ w1 ⟨rfl, hB1⟩; replace hB2 := bel_trans hB2 hB1; obtain ⟨hC1, hF1⟩ := bcell hB2) | (go_at_call 27; refine (allIntB t _ _ _ xs _ ht (hS.bel (by (repeat' (first | (with_reducible exact bel_refl _) | (with_reducible assumption) | (with_reducible refine bel_drew ?_) | (with_reducible refine bel_drewN ?_) | (with_reducible refine bel_alloc ?_) | (with_reducible refine bel_set ?_ ?_) | (with_reducible refine bel_trans ?_ (by with_reducible assumption)) | omega | (simp; done) | (simp; omega))))) hn).mono ?_; rintro _ w2 ⟨rfl, hb2⟩; replace hB2 := bel_trans hB2 hb2))
    go_ret
    exact ⟨ret_bool (by rw [setT, hR.out]; simp), by (repeat' (first | (with_reducible exact bel_refl _) | (with_reducible assumption) | (with_reducible refine bel_drew ?_) | (with_reducible refine bel_drewN ?_) | (with_reducible refine bel_alloc ?_) | (with_reducible refine bel_set ?_ ?_) | (with_reducible refine bel_trans ?_ (by with_reducible assumption)) | omega | (simp; done) | (simp; omega)))⟩
theorem l2Set (t : Terr) (A : Option Addr) (n c : Nat) (xs : List Int) (w : World) (hT : TOk w t) (ht : t.n ≤ 1048576) (hS : Sl w 1 A n c (ints xs)) (hn : n ≤ 1048576) :
    Calls Try.prog 21 #[.agg #[.int .i64 t.W, .int .i64 t.H, .slice t.A t.n t.c], .slice A n c] w fun e w' => e = .returned (.bool (goodT t && setT t xs)) ∧ Below w.heap.size w w' := by
  have hB2 := bel_refl (w.alloc (.cells #[.int .i64 t.W, .int .i64 t.H, .slice t.A t.n t.c] 28))
  rcases h1 : goodT t with _ | _
  all_goals (
    go_enter Try.func21, Try.ntmps21
    go_wp2_with (first | (go_at_call 37; refine (l2Good t _ (hT.bel (by (repeat' (first | (with_reducible exact bel_refl _) | (with_reducible assumption) | (with_reducible refine bel_drew ?_) | (with_reducible refine bel_drewN ?_) | (with_reducible refine bel_alloc ?_) | (with_reducible refine bel_set ?_ ?_) | (with_reducible refine bel_trans ?_ (by with_reducible assumption)) | omega | (simp; done) | (simp; omega))))) ht).mono ?_; rw [h1]; rintro _ w1 ⟨rfl, hB1⟩; replace hB2 := bel_trans hB2 hB1; obtain ⟨hC1, hF1⟩ := bcell hB2) | (go_at_call 38; refine (l1Rising _ _ _ xs _ _ _ (hS.bel (by (repeat' (first | (with_reducible exact bel_refl _) | (with_reducible assumption) | (with_reducible refine bel_drew ?_) | (with_reducible refine bel_drewN ?_) | (with_reducible refine bel_alloc ?_) | (with_reducible refine bel_set ?_ ?_) | (with_reducible refine bel_trans ?_ (by with_reducible assumption)) | omega | (simp; done) | (simp; omega))))) hn).mono ?_; rintro _ w2 ⟨rfl, hb2⟩; replace hB2 := bel_trans hB2 hb2))
    go_ret
    exact ⟨ret_bool (by simp [setT]), by (repeat' (first | (with_reducible exact bel_refl _) | (with_reducible assumption) | (with_reducible refine bel_drew ?_) | (with_reducible refine bel_drewN ?_) | (with_reducible refine bel_alloc ?_) | (with_reducible refine bel_set ?_ ?_) | (with_reducible refine bel_trans ?_ (by with_reducible assumption)) | omega | (simp; done) | (simp; omega)))⟩)

def cellsL (n : Nat) (p : Nat → Bool) : List Int := ((List.range n).filter p).map fun (x : Nat) => (x : Int)
theorem cellsL_yes {i : Nat} {p : Nat → Bool} (h : p i = true) : cellsL i p ++ [(i : Int)] = cellsL (i + 1) p := by
  simp [cellsL, List.range_succ, List.filter_append, h]
theorem cellsL_no {i : Nat} {p : Nat → Bool} (h : p i = false) : cellsL (i + 1) p = cellsL i p := by
  simp [cellsL, List.range_succ, List.filter_append, h]
theorem cellsL_len (n : Nat) (p : Nat → Bool) : (cellsL n p).length ≤ n := by
  rw [cellsL, List.length_map]
  exact Nat.le_trans (List.length_filter_le _ _) (by simp)
theorem cellsL_mem {n : Nat} {p : Nat → Bool} {x : Int} : x ∈ cellsL n p ↔ ∃ i : Nat, x = i ∧ i < n ∧ p i = true := by
  simp only [cellsL, List.mem_map, List.mem_filter, List.mem_range]
  constructor
  · rintro ⟨i, ⟨h1, h2⟩, rfl⟩
    exact ⟨i, rfl, h1, h2⟩
  · rintro ⟨i, rfl, h1, h2⟩
    exact ⟨i, ⟨h1, h2⟩, rfl⟩
theorem info_int' : (Try.prog.info? 3).map (fun i => (i.zero, i.size, i.bytes)) = some (some (.int .i64 0), 1, 8) := by kernel_rfl
theorem slice_at {g g' n : Nat} (h : g = g') : Value.slice (some ⟨g, 0, none⟩) n n = .slice (some ⟨g', 0, none⟩) n n := by rw [h]
set_option maxHeartbeats 2000000 in
theorem cellsNear (t : Terr) (v1 v2 : Value) (p : Nat → Bool) (w : World) (hn : t.n ≤ 25) (hF : ∀ (x : Nat) (w' : World), x < t.n → Below w.heap.size w w' → Calls Try.prog 53 #[.int .i64 (x : Int), v1, v2] w' fun e w'' => e = .returned (.bool (p x)) ∧ Below w'.heap.size w' w'') :
    Calls Try.prog 51 #[.agg #[.int .i64 t.W, .int .i64 t.H, .slice t.A t.n t.c], .func (.func 53) #[] #[v1, v2]] w fun e w' => ∃ A' m c', e = .returned (.slice A' m c') ∧ Own w.heap.size w'.heap.size w' 3 1 A' m c' (ints (cellsL t.n p)) ∧ Below w.heap.size w w' := by
  replace hF := hid hF
  go_enter Try.func51, Try.ntmps51
  go_wp2_with fail
  go_loopw [5, 11] (fun q v wr => ∃ i : Nat, i ≤ t.n ∧ v = .int .i64 i ∧ (∃ A' k c', q = .slice A' k c' ∧ wr.ownsRow w.heap.size 3 1 (.slice A' k c') k (ints (cellsL i p))) ∧ Below w.heap.size w wr) (fun _ v _ => t.n - (intOf v).toNat)
  case atStart => exact ⟨0, by omega, rfl, ⟨_, _, _, rfl, by simpa [cellsL, ints] using own_low (own_empty (w := (w.alloc (.cells #[.int .i64 t.W, .int .i64 t.H, .slice t.A t.n t.c] 28))) (size := 1) (e := 3) (Nat.le_refl _)) (by simp)⟩, by (repeat' (first | (with_reducible exact bel_refl _) | (with_reducible assumption) | (with_reducible refine bel_drew ?_) | (with_reducible refine bel_drewN ?_) | (with_reducible refine bel_alloc ?_) | (with_reducible refine bel_set ?_ ?_) | (with_reducible refine bel_trans ?_ (by with_reducible assumption)) | omega | (simp; done) | (simp; omega)))⟩
  case round =>
    obtain ⟨i, hi', rfl, ⟨A', k, c', rfl, hown⟩, hB2⟩ := hrel
    by_cases hlt : i < t.n
    · have hkl : k ≤ 25 := by
        have h1 := hown.1
        have h2 := cellsL_len i p
        rw [ints_len] at h1
        omega
      have hi0 : (0 : Int) ≤ (i : Int) := by omega
      have hi1 : (i : Int) < (t.n : Int) := by omega
      have hc := hid (fun w' hb => hF.out i w' hlt hb)
      rcases hp : p i with _ | _
      · go_wp2_with (go_at_call 53; refine (hc.out _ hB2).mono ?_; rw [hp]; rintro _ w1 ⟨rfl, hB1⟩; replace hB2 := bel_trans hB2 hB1)
        go_roundw
        case rel => exact ⟨i + 1, by omega, by go_num, ⟨_, _, _, rfl, by rw [cellsL_no hp]; exact own_bel hown hB1⟩, hB2⟩
        case measure => simp [intOf]; omega
      · go_wp2_with (first | (go_at_call 53; refine (hc.out _ hB2).mono ?_; rw [hp]; rintro _ w1 ⟨rfl, hB1⟩; replace hB2 := bel_trans hB2 hB1; replace hown := own_bel hown hB1) | (at_builtin; refine wpList_push rfl (.tmp 17) (.tmp 19) 22 rfl w.heap.size 3 (.int .i64 0) 1 8 Try.underlying22 info_int' rfl (by omega) A' k c' _ [.int .i64 i] 3 rfl (own_bel hown (by (repeat' (first | (with_reducible exact bel_refl _) | (with_reducible assumption) | (with_reducible refine bel_drew ?_) | (with_reducible refine bel_drewN ?_) | (with_reducible refine bel_alloc ?_) | (with_reducible refine bel_set ?_ ?_) | (with_reducible refine bel_trans ?_ (by with_reducible assumption)) | omega | (simp; done) | (simp; omega))))) (by first | rfl | exact slice_at (by simp)) rfl (oneCell_int _) (by omega) (by omega) (by have := hB2.size; simp; omega) ?_; intro A'' c'' w3 hown2 hb3 hg3))
        go_roundw
        case rel => exact ⟨i + 1, by omega, by go_num, ⟨_, _, _, rfl, by rw [← cellsL_yes hp, ← ints_snoc]; exact hown2⟩, Below.trans hB2 hb3⟩
        case measure => simp [intOf]; omega
    · have hi1 : ¬ (i : Int) < (t.n : Int) := by omega
      go_wp2
      go_ret
      have e : i = t.n := by omega
      rw [e] at hown
      exact ⟨A', k, c', rfl, Own.mk_ hown, hB2⟩

set_option maxHeartbeats 2000000 in
theorem cellsFree (t : Terr) (v1 v2 v3 : Value) (p : Nat → Bool) (w : World) (hn : t.n ≤ 25) (hF : ∀ (x : Nat) (w' : World), x < t.n → Below w.heap.size w w' → Calls Try.prog 52 #[.int .i64 (x : Int), v1, v2, v3] w' fun e w'' => e = .returned (.bool (p x)) ∧ Below w'.heap.size w' w'') :
    Calls Try.prog 51 #[.agg #[.int .i64 t.W, .int .i64 t.H, .slice t.A t.n t.c], .func (.func 52) #[] #[v1, v2, v3]] w fun e w' => ∃ A' m c', e = .returned (.slice A' m c') ∧ Own w.heap.size w'.heap.size w' 3 1 A' m c' (ints (cellsL t.n p)) ∧ Below w.heap.size w w' := by
  replace hF := hid hF
  go_enter Try.func51, Try.ntmps51
  go_wp2_with fail
  go_loopw [5, 11] (fun q v wr => ∃ i : Nat, i ≤ t.n ∧ v = .int .i64 i ∧ (∃ A' k c', q = .slice A' k c' ∧ wr.ownsRow w.heap.size 3 1 (.slice A' k c') k (ints (cellsL i p))) ∧ Below w.heap.size w wr) (fun _ v _ => t.n - (intOf v).toNat)
  case atStart => exact ⟨0, by omega, rfl, ⟨_, _, _, rfl, by simpa [cellsL, ints] using own_low (own_empty (w := (w.alloc (.cells #[.int .i64 t.W, .int .i64 t.H, .slice t.A t.n t.c] 28))) (size := 1) (e := 3) (Nat.le_refl _)) (by simp)⟩, by (repeat' (first | (with_reducible exact bel_refl _) | (with_reducible assumption) | (with_reducible refine bel_drew ?_) | (with_reducible refine bel_drewN ?_) | (with_reducible refine bel_alloc ?_) | (with_reducible refine bel_set ?_ ?_) | (with_reducible refine bel_trans ?_ (by with_reducible assumption)) | omega | (simp; done) | (simp; omega)))⟩
  case round =>
    obtain ⟨i, hi', rfl, ⟨A', k, c', rfl, hown⟩, hB2⟩ := hrel
    by_cases hlt : i < t.n
    · have hkl : k ≤ 25 := by
        have h1 := hown.1
        have h2 := cellsL_len i p
        rw [ints_len] at h1
        omega
      have hi0 : (0 : Int) ≤ (i : Int) := by omega
      have hi1 : (i : Int) < (t.n : Int) := by omega
      have hc := hid (fun w' hb => hF.out i w' hlt hb)
      rcases hp : p i with _ | _
      · go_wp2_with (go_at_call 52; refine (hc.out _ hB2).mono ?_; rw [hp]; rintro _ w1 ⟨rfl, hB1⟩; replace hB2 := bel_trans hB2 hB1)
        go_roundw
        case rel => exact ⟨i + 1, by omega, by go_num, ⟨_, _, _, rfl, by rw [cellsL_no hp]; exact own_bel hown hB1⟩, hB2⟩
        case measure => simp [intOf]; omega
      · go_wp2_with (first | (go_at_call 52; refine (hc.out _ hB2).mono ?_; rw [hp]; rintro _ w1 ⟨rfl, hB1⟩; replace hB2 := bel_trans hB2 hB1; replace hown := own_bel hown hB1) | (at_builtin; refine wpList_push rfl (.tmp 17) (.tmp 19) 22 rfl w.heap.size 3 (.int .i64 0) 1 8 Try.underlying22 info_int' rfl (by omega) A' k c' _ [.int .i64 i] 3 rfl (own_bel hown (by (repeat' (first | (with_reducible exact bel_refl _) | (with_reducible assumption) | (with_reducible refine bel_drew ?_) | (with_reducible refine bel_drewN ?_) | (with_reducible refine bel_alloc ?_) | (with_reducible refine bel_set ?_ ?_) | (with_reducible refine bel_trans ?_ (by with_reducible assumption)) | omega | (simp; done) | (simp; omega))))) (by first | rfl | exact slice_at (by simp)) rfl (oneCell_int _) (by omega) (by omega) (by have := hB2.size; simp; omega) ?_; intro A'' c'' w3 hown2 hb3 hg3))
        go_roundw
        case rel => exact ⟨i + 1, by omega, by go_num, ⟨_, _, _, rfl, by rw [← cellsL_yes hp, ← ints_snoc]; exact hown2⟩, Below.trans hB2 hb3⟩
        case measure => simp [intOf]; omega
    · have hi1 : ¬ (i : Int) < (t.n : Int) := by omega
      go_wp2
      go_ret
      have e : i = t.n := by omega
      rw [e] at hown
      exact ⟨A', k, c', rfl, Own.mk_ hown, hB2⟩

theorem apart_sym (W a b : Int) : apartF W a b = apartF W b a := by unfold apartF; omega
def nearB (t : Terr) (a : Int) (i : Nat) : Bool := decide (apartF t.W a i = 1)
def nearL (t : Terr) (a : Int) : List Int := cellsL t.n (nearB t a)
theorem near_clo (t : Terr) (a : Int) (x : Nat) (g h : Nat) (w : World) (hW : 1 ≤ t.W ∧ t.W ≤ 5) (ha : 0 ≤ a ∧ a ≤ 24) (hx : x ≤ 24) (c0 : w.cell? ⟨g, 0, none⟩ = some (.int .i64 t.W)) (c1 : w.cell? ⟨g, 1, none⟩ = some (.int .i64 t.H)) (c2 : w.cell? ⟨g, 2, none⟩ = some (.slice t.A t.n t.c)) (d0 : w.cell? ⟨h, 0, none⟩ = some (.int .i64 a)) :
    Calls Try.prog 53 #[.int .i64 (x : Int), .pointer (some ⟨g, 0, none⟩), .pointer (some ⟨h, 0, none⟩)] w fun e w' => e = .returned (.bool (nearB t a x)) ∧ Below w.heap.size w w' := by
  have hB2 := bel_refl w
  have hx1 : (x : Int) ≤ 24 := by omega
  go_enter Try.func53, Try.ntmps53
  go_wp2_with (go_at_call 32; refine (apart_ t _ _ _ hW (by omega) ha).mono ?_; rintro _ w1 ⟨rfl, hB1⟩; (first | (with_reducible replace hB2 := bel_trans hB2 hB1) | (with_reducible replace hB2 := bel_trans (bel_alloc hB2) hB1)); obtain ⟨hC1, hF1⟩ := bcell hB2; replace hB1 := hB1)
  go_ret
  refine ⟨ret_bool ?_, by (repeat' (first | (with_reducible exact bel_refl _) | (with_reducible assumption) | (with_reducible refine bel_drew ?_) | (with_reducible refine bel_drewN ?_) | (with_reducible refine bel_alloc ?_) | (with_reducible refine bel_set ?_ ?_) | (with_reducible refine bel_trans ?_ (by with_reducible assumption)) | omega | (simp; done) | (simp; omega)))⟩
  rw [nearB, apart_sym]
  rfl
set_option maxHeartbeats 1000000 in
theorem neighbors (t : Terr) (a : Int) (w : World) (hg : goodT t = true) (ha : 0 ≤ a ∧ a < t.n) :
    Calls Try.prog 35 #[.agg #[.int .i64 t.W, .int .i64 t.H, .slice t.A t.n t.c], .int .i64 a] w fun e w' => ∃ A' m c', e = .returned (.slice A' m c') ∧ Own w.heap.size w'.heap.size w' 3 1 A' m c' (ints (nearL t a)) ∧ Below w.heap.size w w' := by
  obtain ⟨hW, _, _, _, hn, _⟩ := goodT_bd hg
  obtain ⟨Z, hZ⟩ : ∃ Z, (w.alloc (.cells #[.int .i64 t.W, .int .i64 t.H, .slice t.A t.n t.c] 28)).alloc (.cells #[.int .i64 a] 3) = Z := ⟨_, rfl⟩
  have hb : Below w.heap.size w Z := by rw [← hZ]; exact bel_alloc (bel_alloc (bel_refl w))
  have c0 : Z.cell? ⟨w.heap.size, 0, none⟩ = some (.int .i64 t.W) := by rw [← hZ]; simp [go_sem]
  have c1 : Z.cell? ⟨w.heap.size, 1, none⟩ = some (.int .i64 t.H) := by rw [← hZ]; simp [go_sem]
  have c2 : Z.cell? ⟨w.heap.size, 2, none⟩ = some (.slice t.A t.n t.c) := by rw [← hZ]; simp [go_sem]
  have d0 : Z.cell? ⟨w.heap.size + 1, 0, none⟩ = some (.int .i64 a) := by rw [← hZ]; simp [go_sem]
  have hs : w.heap.size + 1 < Z.heap.size := by rw [← hZ]; simp
  have hF := hid (fun (x : Nat) (w' : World) (hx : x < t.n) (hb' : Below Z.heap.size Z w') => near_clo t a x w.heap.size (w.heap.size + 1) w' hW (by omega) (by omega) (((bcell hb').1 _ _ (by omega)).trans c0) (((bcell hb').1 _ _ (by omega)).trans c1) (((bcell hb').1 _ _ (by omega)).trans c2) (((bcell hb').1 _ _ hs).trans d0))
  go_enter Try.func35, Try.ntmps35
  go_wp2_with (go_at_call 51; (try rw [hZ]); refine (cellsNear t _ _ (nearB t a) _ hn hF.out).mono ?_; rintro _ w1 ⟨A1, m, c1, rfl, hO, hB1⟩)
  go_ret
  exact ⟨A1, m, c1, rfl, hO.low hb.size, bel_trans hb hB1⟩
set_option maxHeartbeats 2000000 in
theorem l2Near (t : Terr) (a : Int) (w : World) (hg : goodT t = true) (ha : 0 ≤ a ∧ a < t.n) :
    Calls Try.prog 40 #[.agg #[.int .i64 t.W, .int .i64 t.H, .slice t.A t.n t.c], .int .i64 a] w fun e w' => ∃ A' m c', e = .returned (.slice A' m c') ∧ Own w.heap.size w'.heap.size w' 3 1 A' m c' (ints (nearL t a)) ∧ Below w.heap.size w w' := by
  obtain ⟨hW, _, _, _, hn, _⟩ := goodT_bd hg
  have hz : w.heap.size ≤ ((w.alloc (.cells #[.int .i64 t.W, .int .i64 t.H, .slice t.A t.n t.c] 28))).heap.size := by simp
  go_enter Try.func40, Try.ntmps40
  go_wp2_with fail
  go_loopw [5, 6] (fun q v wr => ∃ i : Nat, i ≤ t.n ∧ v = .int .i64 i ∧ (∃ A' k c', q = .slice A' k c' ∧ wr.ownsRow ((w.alloc (.cells #[.int .i64 t.W, .int .i64 t.H, .slice t.A t.n t.c] 28))).heap.size 3 1 (.slice A' k c') k (ints (cellsL i (nearB t a)))) ∧ Below ((w.alloc (.cells #[.int .i64 t.W, .int .i64 t.H, .slice t.A t.n t.c] 28))).heap.size ((w.alloc (.cells #[.int .i64 t.W, .int .i64 t.H, .slice t.A t.n t.c] 28))) wr) (fun _ v _ => t.n - (intOf v).toNat)
  case atStart => exact ⟨0, by omega, rfl, ⟨_, _, _, rfl, by simpa [cellsL, ints] using own_empty (w := (w.alloc (.cells #[.int .i64 t.W, .int .i64 t.H, .slice t.A t.n t.c] 28))) (size := 1) (e := 3) (Nat.le_refl _)⟩, bel_alloc (bel_refl _)⟩
  case round =>
    obtain ⟨i, hi', rfl, ⟨A', k, c', rfl, hown⟩, hB2⟩ := hrel
    have k0 : wr.cell? ⟨w.heap.size, 0, none⟩ = some (.int .i64 t.W) := ((bcell hB2).1 _ _ (by simp)).trans (by simp [go_sem])
    have k1 : wr.cell? ⟨w.heap.size, 1, none⟩ = some (.int .i64 t.H) := ((bcell hB2).1 _ _ (by simp)).trans (by simp [go_sem])
    have k2 : wr.cell? ⟨w.heap.size, 2, none⟩ = some (.slice t.A t.n t.c) := ((bcell hB2).1 _ _ (by simp)).trans (by simp [go_sem])
    by_cases hlt : i < t.n
    · have hkl : k ≤ 25 := by
        have h1 := hown.1
        have h2 := cellsL_len i (nearB t a)
        rw [ints_len] at h1
        omega
      have hi0 : (0 : Int) ≤ (i : Int) := by omega
      have hi1 : (i : Int) < (t.n : Int) := by omega
      rcases hp : nearB t a i with _ | _
      · have hq : (apartF t.W a i == 1) = false := by simpa [nearB] using hp
        go_wp2_with (go_at_call 56; refine (l2Apart t _ _ _ hW (by omega) (by omega)).mono ?_; rintro _ w1 ⟨rfl, hB1⟩; replace hB2 := bel_trans hB2 hB1)
        go_roundw
        case rel => exact ⟨i + 1, by omega, by go_num, ⟨_, _, _, rfl, by rw [cellsL_no hp]; exact own_bel hown hB1⟩, hB2⟩
        case measure => simp [intOf]; omega
      · have hq : (apartF t.W a i == 1) = true := by simpa [nearB] using hp
        go_wp2_with (first | (go_at_call 56; refine (l2Apart t _ _ _ hW (by omega) (by omega)).mono ?_; rintro _ w1 ⟨rfl, hB1⟩; replace hB2 := bel_trans hB2 hB1; replace hown := own_bel hown hB1) | (at_builtin; refine wpList_push rfl (.tmp 20) (.tmp 22) 22 rfl ((w.alloc (.cells #[.int .i64 t.W, .int .i64 t.H, .slice t.A t.n t.c] 28))).heap.size 3 (.int .i64 0) 1 8 Try.underlying22 info_int' rfl (by omega) A' k c' _ [.int .i64 i] 3 rfl hown (by first | rfl | exact slice_at (by simp)) rfl (oneCell_int _) (by omega) (by omega) hB2.size ?_; intro A'' c'' w3 hown2 hb3 hg3))
        go_roundw
        case rel => exact ⟨i + 1, by omega, by go_num, ⟨_, _, _, rfl, by rw [← cellsL_yes hp, ← ints_snoc]; exact hown2⟩, Below.trans hB2 hb3⟩
        case measure => simp [intOf]; omega
    · have hi1 : ¬ (i : Int) < (t.n : Int) := by omega
      go_wp2
      go_ret
      have e : i = t.n := by omega
      rw [e] at hown
      exact ⟨A', k, c', rfl, Own.mk_ (own_low hown hz), bel_trans (bel_alloc (bel_refl w)) hB2⟩
def burnsF (t : Terr) (xs : List Int) : List Int := xs.filter (burnsB t)
theorem filt_yes {p : Int → Bool} {xs : List Int} {i : Nat} {x : Int} (hx : xs[i]? = some x) (h : p x = true) : (xs.take i).filter p ++ [x] = (xs.take (i + 1)).filter p := by
  rw [List.take_add_one, hx]; simp [List.filter_append, h]
theorem filt_no {p : Int → Bool} {xs : List Int} {i : Nat} {x : Int} (hx : xs[i]? = some x) (h : p x = false) : (xs.take (i + 1)).filter p = (xs.take i).filter p := by
  rw [List.take_add_one, hx]; simp [List.filter_append, h]
set_option maxHeartbeats 2000000 in
theorem filterBurn (t : Terr) (A : Option Addr) (n c : Nat) (xs : List Int) (w : World) (hT : TOk w t) (hg : goodT t = true) (hS : Sl w 1 A n c (ints xs)) (hn : n ≤ 1048576) (hx : ∀ x ∈ xs, 0 ≤ x ∧ x < t.n) :
    Calls Try.prog 30 #[.slice A n c, .func (.func 31) #[.agg #[.int .i64 t.W, .int .i64 t.H, .slice t.A t.n t.c]] #[]] w fun e w' => ∃ A' m c', e = .returned (.slice A' m c') ∧ Own w.heap.size w'.heap.size w' 3 1 A' m c' (ints (xs.filter (burnsB t))) ∧ Below w.heap.size w w' := by
  have hlh := hid hS.int_len
  replace hn := hid hn
  have hnb : (n : Int) ≤ 1048576 := by have := hn.out; omega
  go_enter Try.func30, Try.ntmps30
  go_wp2_with fail
  go_loopw [5, 11] (fun q v wr => ∃ i : Nat, i ≤ n ∧ v = .int .i64 i ∧ (∃ A' k c', q = .slice A' k c' ∧ wr.ownsRow w.heap.size 3 1 (.slice A' k c') k (ints ((xs.take i).filter (burnsB t)))) ∧ Below w.heap.size w wr) (fun _ v _ => n - (intOf v).toNat)
  case atStart => exact ⟨0, by omega, rfl, ⟨_, _, _, rfl, by simpa [ints] using own_empty (w := w) (size := 1) (e := 3) (Nat.le_refl _)⟩, by (repeat' (first | (with_reducible exact bel_refl _) | (with_reducible assumption) | (with_reducible refine bel_drew ?_) | (with_reducible refine bel_drewN ?_) | (with_reducible refine bel_alloc ?_) | (with_reducible refine bel_set ?_ ?_) | (with_reducible refine bel_trans ?_ (by with_reducible assumption)) | omega | (simp; done) | (simp; omega)))⟩
  case round =>
    obtain ⟨i, hi', rfl, ⟨A', k, c', rfl, hown⟩, hB2⟩ := hrel
    by_cases hlt : i < n
    · obtain ⟨x, hx1⟩ : ∃ x, xs[i]? = some x := get_of_lt (by rw [hlh.out]; exact hlt)
      obtain ⟨b, o, rfl, hb, c0⟩ := (hS.bel hB2).int_at hx1
      have hxb := hx x (List.mem_of_getElem? hx1)
      have hX := hid hx1
      clear hx1
      have hkl : Hid (k ≤ 1048576) := by
        have h1 := hown.1
        have h2 := Nat.le_trans (List.length_filter_le (burnsB t) (xs.take i)) (List.length_take_le _ _)
        rw [ints_len] at h1
        have := hn.out
        show _ ≤ _
        omega
      have hi0 : (0 : Int) ≤ (i : Int) := by omega
      have hi1 : (i : Int) < (n : Int) := by omega
      rcases hp : burnsB t x with _ | _
      · go_wp2_with (go_at_call 31; refine (burns t x _ (hT.bel hB2) hg hxb).mono ?_; rw [hp]; rintro _ w1 ⟨rfl, hB1⟩; replace hB2 := bel_trans hB2 hB1)
        go_roundw
        case rel => exact ⟨i + 1, by omega, by go_num, ⟨_, _, _, rfl, by rw [filt_no hX.out hp]; exact own_bel hown hB1⟩, hB2⟩
        case measure => simp [intOf]; omega
      · go_wp2_with (first | (go_at_call 31; refine (burns t x _ (hT.bel hB2) hg hxb).mono ?_; rw [hp]; rintro _ w1 ⟨rfl, hB1⟩; replace hB2 := bel_trans hB2 hB1; replace hown := own_bel hown hB1) | (at_builtin; refine wpList_push rfl (.tmp 18) (.tmp 20) 22 rfl w.heap.size 3 (.int .i64 0) 1 8 Try.underlying22 info_int' rfl (by omega) A' k c' _ [.int .i64 x] 3 rfl hown (by first | rfl | exact slice_at (by simp)) rfl (oneCell_int _) (by have := hkl.out; omega) (by omega) hB2.size ?_; intro A'' c'' w3 hown2 hb3 hg3))
        go_roundw
        case rel => exact ⟨i + 1, by omega, by go_num, ⟨_, _, _, rfl, by rw [← filt_yes hX.out hp, ← ints_snoc]; exact hown2⟩, Below.trans hB2 hb3⟩
        case measure => simp [intOf]; omega
    · have hi1 : ¬ (i : Int) < (n : Int) := by omega
      go_wp2
      go_ret
      have e : i = n := by omega
      rw [e, List.take_of_length_le (by rw [hlh.out]; omega)] at hown
      exact ⟨A', k, c', rfl, Own.mk_ hown, hB2⟩
theorem l1Has (A : Option Addr) (n c : Nat) (xs : List Int) (v : Int) (w : World) (hS : Sl w 1 A n c (ints xs)) (hn : n ≤ 1048576) :
    Calls Try.prog 39 #[.slice A n c, .int .i64 v] w fun e w' => e = .returned (.bool (xs.any fun x => x == v)) ∧ w = w' := by
  have hlh := hid hS.int_len
  go_enter Try.func39, Try.ntmps39
  go_wp2
  go_loopw [5] (fun u wr => ∃ i : Nat, i ≤ n ∧ u = .int .i64 i ∧ (Hid (∀ r, r < i → ∀ u, xs[r]? = some u → (u == v) = false)) ∧ w = wr) (fun v _ => n - (intOf v).toNat)
  case atStart => exact ⟨0, by omega, rfl, fun r hr => absurd hr (by omega), rfl⟩
  case round =>
    obtain ⟨i, hi', rfl, hall, rfl⟩ := hrel
    by_cases hlt : i < n
    · obtain ⟨x, hx⟩ : ∃ x, xs[i]? = some x := get_of_lt (by rw [hlh.out]; exact hlt)
      obtain ⟨b, o, rfl, hb, c0⟩ := hS.int_at hx
      have hX := hid hx
      clear hx
      have hi1 : (i : Int) < (n : Int) := by omega
      rcases hq : (x == v) with _ | _
      · go_wp2
        go_roundw
        case rel => exact ⟨i + 1, by omega, by go_num, fun r hr u hu => (by
          rcases Nat.lt_or_ge r i with h1 | h1
          · exact hall.out r h1 u hu
          · rw [show r = i by omega, hX.out] at hu
            simp only [Option.some.injEq] at hu
            rw [← hu]; exact hq), by simp⟩
        case measure => simp [intOf]; omega
      · have hR := hid (show (xs.any fun x => x == v) = true from List.any_eq_true.2 ⟨x, List.mem_of_getElem? hX.out, hq⟩)
        go_wp2
        go_ret
        exact ⟨ret_bool hR.out.symm, rfl⟩
    · have hi1 : ¬ (i : Int) < (n : Int) := by omega
      have hR := hid (show (xs.any fun x => x == v) = false from by
        rw [List.any_eq_false]
        intro x hx
        obtain ⟨r, hr⟩ := List.getElem?_of_mem hx
        have := hall.out r (by have h1 := (List.getElem?_eq_some_iff.1 hr).1; rw [hlh.out] at h1; omega) x hr
        simp [this])
      go_wp2
      go_ret
      exact ⟨ret_bool hR.out.symm, rfl⟩
end Go.Proofs.Ytcdgkiiokplidaa
