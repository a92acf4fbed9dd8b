/-
  Terrains: cells, columns, rows, steps apart; speeds and work: of the program and of the reference, walked.
-/
import Derived.Test.YtdfjfopbhlbmkaaEnsTop
import Derived.Test.YtdfjfopbhlbmkaaFireMath
import Derived.Test.YtdfjfopbhlbmkaaAppend
namespace Go.Proofs.Ytdfjfopbhlbmkaa
open Go.RowKit

/-- A terrain as a value: its sides, the header of its cells, and what they read as. -/
structure Terr where
  W : Int
  H : Int
  A : Option Addr
  n : Nat
  c : Nat
  burn : List Int
def Terr.val (t : Terr) : Value := .agg #[.int .i64 t.W, .int .i64 t.H, .slice t.A t.n t.c]
def goodT (t : Terr) : Bool := inB t.W 1 5 && inB t.H 1 5 && decide ((t.n : Int) = t.W * t.H) && t.burn.all fun b => inB b 0 20
def TOk (w : World) (t : Terr) : Prop := Sl w 1 t.A t.n t.c (ints t.burn)
theorem TOk.bel {w w' : World} {t : Terr} (h : TOk w t) (hb : Below w.heap.size w w') : TOk w' t := Sl.bel h hb
theorem mul_bd {a b : Int} (ha : 1 ≤ a ∧ a ≤ 5) (hb : 1 ≤ b ∧ b ≤ 5) : 1 ≤ a * b ∧ a * b ≤ 25 := by
  obtain ⟨x, rfl⟩ : ∃ x : Nat, a = x := ⟨a.toNat, by omega⟩
  obtain ⟨y, rfl⟩ : ∃ y : Nat, b = y := ⟨b.toNat, by omega⟩
  have h1 : x * y ≤ 5 * 5 := Nat.mul_le_mul (by omega) (by omega)
  have h2 : 1 * 1 ≤ x * y := Nat.mul_le_mul (by omega) (by omega)
  have e : ((x : Int) * (y : Int)) = ((x * y : Nat) : Int) := by push_cast; rfl
  rw [e]; omega
theorem goodT_bd {t : Terr} (h : goodT t = true) : (1 ≤ t.W ∧ t.W ≤ 5) ∧ (1 ≤ t.H ∧ t.H ≤ 5) ∧ (t.n : Int) = t.W * t.H ∧ 1 ≤ t.n ∧ t.n ≤ 25 ∧ ∀ b ∈ t.burn, 0 ≤ b ∧ b ≤ 20 := by
  simp only [goodT, Bool.and_eq_true, inB_iff, decide_eq_true_eq, List.all_eq_true] at h
  obtain ⟨⟨⟨h1, h2⟩, h3⟩, h4⟩ := h
  have := mul_bd h1 h2
  exact ⟨h1, h2, h3, by omega, by omega, h4⟩
def apartF (W a b : Int) : Int := max (max (a % W - b % W) (b % W - a % W)) (max (a / W - b / W) (b / W - a / W))
theorem column (t : Terr) (a : Int) (w : World) (hW : 1 ≤ t.W ∧ t.W ≤ 5) (ha : 0 ≤ a ∧ a ≤ 24) :
    Calls Try.prog 116 #[.agg #[.int .i64 t.W, .int .i64 t.H, .slice t.A t.n t.c], .int .i64 a] w fun e w' => e = .returned (.int .i64 (a % t.W)) ∧ Below w.heap.size w w' := by
  have hW0 : ¬ t.W = 0 := by omega
  go_enter Try.func116, Try.ntmps116
  go_wp2
  go_ret
  exact ⟨rfl, by (repeat' (first | (with_reducible exact bel_refl _) | (with_reducible assumption) | (with_reducible refine bel_drew ?_) | (with_reducible refine bel_drewN ?_) | (with_reducible refine bel_alloc ?_) | (with_reducible refine bel_set ?_ ?_) | (with_reducible refine bel_trans ?_ (by with_reducible assumption)) | omega | (simp; done) | (simp; omega)))⟩
theorem row_ (t : Terr) (a : Int) (w : World) (hW : 1 ≤ t.W ∧ t.W ≤ 5) (ha : 0 ≤ a ∧ a ≤ 24) :
    Calls Try.prog 117 #[.agg #[.int .i64 t.W, .int .i64 t.H, .slice t.A t.n t.c], .int .i64 a] w fun e w' => e = .returned (.int .i64 (a / t.W)) ∧ Below w.heap.size w w' := by
  have hW0 : ¬ t.W = 0 := by omega
  go_enter Try.func117, Try.ntmps117
  go_wp2
  go_ret
  exact ⟨rfl, by (repeat' (first | (with_reducible exact bel_refl _) | (with_reducible assumption) | (with_reducible refine bel_drew ?_) | (with_reducible refine bel_drewN ?_) | (with_reducible refine bel_alloc ?_) | (with_reducible refine bel_set ?_ ?_) | (with_reducible refine bel_trans ?_ (by with_reducible assumption)) | omega | (simp; done) | (simp; omega)))⟩
theorem distance (a b : Int) (w : World) (ha : 0 ≤ a ∧ a ≤ 1048576) (hb : 0 ≤ b ∧ b ≤ 1048576) :
    Calls Try.prog 120 #[.int .i64 a, .int .i64 b] w fun e w' => e = .returned (.int .i64 (max (a - b) (b - a))) ∧ w = w' := by
  go_enter Try.func120, Try.ntmps120
  go_wp2
  go_ret
  exact ⟨rfl, rfl⟩
theorem quo_bd {a W : Int} (hW : 1 ≤ W ∧ W ≤ 5) (ha : 0 ≤ a ∧ a ≤ 24) : (0 ≤ a % W ∧ a % W ≤ 24) ∧ 0 ≤ a / W ∧ a / W ≤ 24 := by
  have h1 := Int.emod_nonneg a (show W ≠ 0 by omega)
  have h2 := Int.emod_lt_of_pos a (show 0 < W by omega)
  have h3 := Int.ediv_nonneg ha.1 (show 0 ≤ W by omega)
  have h4 : a / W ≤ a := Int.ediv_le_self W ha.1
  omega
theorem apart_bd {W a b : Int} (hW : 1 ≤ W ∧ W ≤ 5) (ha : 0 ≤ a ∧ a ≤ 24) (hb : 0 ≤ b ∧ b ≤ 24) : 0 ≤ apartF W a b ∧ apartF W a b ≤ 24 := by
  have h1 := quo_bd hW ha
  have h2 := quo_bd hW hb
  unfold apartF
  omega
set_option maxHeartbeats 1000000 in
theorem apart_ (t : Terr) (a b : Int) (w : World) (hW : 1 ≤ t.W ∧ t.W ≤ 5) (ha : 0 ≤ a ∧ a ≤ 24) (hb : 0 ≤ b ∧ b ≤ 24) :
    Calls Try.prog 114 #[.agg #[.int .i64 t.W, .int .i64 t.H, .slice t.A t.n t.c], .int .i64 a, .int .i64 b] w fun e w' => e = .returned (.int .i64 (apartF t.W a b)) ∧ Below w.heap.size w w' := by
  have h1 := quo_bd hW ha
  have h2 := quo_bd hW hb
  have hB2 := bel_refl (w.alloc (.cells #[.int .i64 t.W, .int .i64 t.H, .slice t.A t.n t.c] 30))
  go_enter Try.func114, Try.ntmps114
  go_wp2_with fail
  (refine wp_region_bel (by kernel_rfl) (by kernel_rfl) ?_; have hD := bel_cells hB2; (repeat (go_big_quiet_step (((first | (go_at_call 116; exact calls_bel (column t _ _ hW (by omega))) | (go_at_call 117; exact calls_bel (row_ t _ _ hW (by omega))) | (go_at_call 120; exact calls_bel_same (distance _ _ _ (by omega) (by omega)))))))); refine wpQuiet_nil ?_; intro w1 hB1; replace hB2 := bel_trans hB2 hB1; obtain ⟨hC1, hF1⟩ := bcell hB2; clear hD; replace hB1 := hB1)
  go_wp2
  go_ret
  exact ⟨ret_int (by simp only [apartF]; omega), by (repeat' (first | (with_reducible exact bel_refl _) | (with_reducible assumption) | (with_reducible refine bel_drew ?_) | (with_reducible refine bel_drewN ?_) | (with_reducible refine bel_alloc ?_) | (with_reducible refine bel_set ?_ ?_) | (with_reducible refine bel_trans ?_ (by with_reducible assumption)) | omega | (simp; done) | (simp; omega)))⟩
set_option maxHeartbeats 1000000 in
theorem l2Apart (t : Terr) (a b : Int) (w : World) (hW : 1 ≤ t.W ∧ t.W ≤ 5) (ha : 0 ≤ a ∧ a ≤ 24) (hb : 0 ≤ b ∧ b ≤ 24) :
    Calls Try.prog 107 #[.agg #[.int .i64 t.W, .int .i64 t.H, .slice t.A t.n t.c], .int .i64 a, .int .i64 b] w fun e w' => e = .returned (.int .i64 (apartF t.W a b)) ∧ Below w.heap.size w w' := by
  have h1 := quo_bd hW ha
  have h2 := quo_bd hW hb
  have hW0 : ¬ t.W = 0 := by omega
  have hB2 := bel_refl (w.alloc (.cells #[.int .i64 t.W, .int .i64 t.H, .slice t.A t.n t.c] 30))
  go_enter Try.func107, Try.ntmps107
  go_wp2_with fail
  (refine wp_region_bel (by kernel_rfl) (by kernel_rfl) ?_; have hD := bel_cells hB2; (repeat (go_big_quiet_step ((fail)))); refine wpQuiet_nil ?_; intro w1 hB1; replace hB2 := bel_trans hB2 hB1; obtain ⟨hC1, hF1⟩ := bcell hB2; clear hD; replace hB1 := hB1)
  go_wp2_with (go_at_call 84; refine (l1Most _ _ _).mono ?_; rintro _ w1 ⟨rfl, rfl⟩)
  go_ret
  exact ⟨ret_int (by simp only [apartF]; omega), by (repeat' (first | (with_reducible exact bel_refl _) | (with_reducible assumption) | (with_reducible refine bel_drew ?_) | (with_reducible refine bel_drewN ?_) | (with_reducible refine bel_alloc ?_) | (with_reducible refine bel_set ?_ ?_) | (with_reducible refine bel_trans ?_ (by with_reducible assumption)) | omega | (simp; done) | (simp; omega)))⟩
theorem TOk.at_ {w : World} {t : Terr} (h : TOk w t) (hg : goodT t = true) {a : Int} (ha : 0 ≤ a ∧ a < t.n) : ∃ b o x, t.A = some ⟨b, o, none⟩ ∧ b < w.heap.size ∧ t.burn[a.toNat]? = some x ∧ 0 ≤ x ∧ x ≤ 20 ∧ w.cell? ⟨b, o + a.toNat, none⟩ = some (.int .i64 x) := by
  have hl := Sl.int_len h
  obtain ⟨x, hx⟩ : ∃ x, t.burn[a.toNat]? = some x := get_of_lt (by omega)
  obtain ⟨b, o, hA, hb, hc⟩ := Sl.int_at h hx
  have := (goodT_bd hg).2.2.2.2.2 x (List.mem_of_getElem? hx)
  exact ⟨b, o, x, hA, hb, hx, this.1, this.2, hc⟩
def burnAt (t : Terr) (a : Int) : Int := t.burn.getD a.toNat 0
theorem burnAt_get {t : Terr} {a x : Int} (h : t.burn[a.toNat]? = some x) : burnAt t a = x := by simp [burnAt, h]
def burnsB (t : Terr) (a : Int) : Bool := decide (0 < burnAt t a)
theorem burns (t : Terr) (a : Int) (w : World) (hT : TOk w t) (hg : goodT t = true) (ha : 0 ≤ a ∧ a < t.n) :
    Calls Try.prog 101 #[.agg #[.int .i64 t.W, .int .i64 t.H, .slice t.A t.n t.c], .int .i64 a] w fun e w' => e = .returned (.bool (burnsB t a)) ∧ Below w.heap.size w w' := by
  obtain ⟨b, o, x, hA, hb, hx, h0, h1, hc⟩ := (hT.bel (bel_alloc (o := .cells #[.int .i64 t.W, .int .i64 t.H, .slice t.A t.n t.c] 30) (bel_refl w))).at_ hg ha
  rw [hA] at hc ⊢
  rw [burnsB, burnAt_get hx]
  have hn := (goodT_bd hg).2.2.2.2.1
  obtain ⟨ha0, ha1⟩ := ha
  go_enter Try.func101, Try.ntmps101
  go_wp2
  go_ret
  exact ⟨rfl, by (repeat' (first | (with_reducible exact bel_refl _) | (with_reducible assumption) | (with_reducible refine bel_drew ?_) | (with_reducible refine bel_drewN ?_) | (with_reducible refine bel_alloc ?_) | (with_reducible refine bel_set ?_ ?_) | (with_reducible refine bel_trans ?_ (by with_reducible assumption)) | omega | (simp; done) | (simp; omega)))⟩
theorem isCell (t : Terr) (a : Int) (w : World) (hn : t.n ≤ 1048576) :
    Calls Try.prog 61 #[.agg #[.int .i64 t.W, .int .i64 t.H, .slice t.A t.n t.c], .int .i64 a] w fun e w' => e = .returned (.bool (inB a 0 ((t.n : Int) - 1))) ∧ Below w.heap.size w w' := by
  go_enter Try.func61, Try.ntmps61
  go_wp2_with (go_at_call 79; refine (isIn _ _ _ _).mono ?_; rintro _ w1 ⟨rfl, rfl⟩)
  go_ret
  exact ⟨rfl, by (repeat' (first | (with_reducible exact bel_refl _) | (with_reducible assumption) | (with_reducible refine bel_drew ?_) | (with_reducible refine bel_drewN ?_) | (with_reducible refine bel_alloc ?_) | (with_reducible refine bel_set ?_ ?_) | (with_reducible refine bel_trans ?_ (by with_reducible assumption)) | omega | (simp; done) | (simp; omega)))⟩
/-- The work of a step. -/
def workF (t : Terr) (a b : Int) : Int := if a % t.W = b % t.W ∨ a / t.W = b / t.W then 2 * (burnAt t a + burnAt t b) else 3 * (burnAt t a + burnAt t b)
set_option maxHeartbeats 2000000 in
set_option maxRecDepth 100000 in
theorem work_ (t : Terr) (a b : Int) (w : World) (hT : TOk w t) (hg : goodT t = true) (ha : 0 ≤ a ∧ a < t.n) (hb : 0 ≤ b ∧ b < t.n) :
    Calls Try.prog 104 #[.agg #[.int .i64 t.W, .int .i64 t.H, .slice t.A t.n t.c], .int .i64 a, .int .i64 b] w fun e w' => e = .returned (.int .i64 (workF t a b)) ∧ Below w.heap.size w w' := by
  obtain ⟨hW, _, _, _, hn, _⟩ := goodT_bd hg
  obtain ⟨g, o, x, hA, hb1, hx, h0, h1, hc⟩ := hT.at_ hg ha
  obtain ⟨g', o', y, hA', hb1', hy, h0', h1', hc'⟩ := hT.at_ hg hb
  rw [hA] at hA'
  simp only [Option.some.injEq, Addr.mk.injEq, and_true] at hA'
  obtain ⟨rfl, rfl⟩ := hA'
  have hR := hid (show workF t a b = if a % t.W = b % t.W ∨ a / t.W = b / t.W then 2 * (x + y) else 3 * (x + y) by rw [workF, burnAt_get hx, burnAt_get hy])
  obtain ⟨ha0, ha1⟩ := ha
  obtain ⟨hb0, hb9⟩ := hb
  have hB2 := bel_refl (w.alloc (.cells #[.int .i64 t.W, .int .i64 t.H, .slice t.A t.n t.c] 30))
  have hW0 : ¬ t.W = 0 := by omega
  rw [hA] at hB2 ⊢
  have q1 := quo_bd hW (show 0 ≤ a ∧ a ≤ 24 by omega)
  have q2 := quo_bd hW (show 0 ≤ b ∧ b ≤ 24 by omega)
  rcases hm : (a % t.W == b % t.W) with _ | _ <;> rcases hq : (a / t.W == b / t.W) with _ | _
  all_goals (
    go_enter Try.func104, Try.ntmps104
    go_wp2_with fail
    (refine wp_region_bel (by kernel_rfl) (by kernel_rfl) ?_; have hD := bel_cells hB2; (repeat (go_big_quiet_step ((fail)))); refine wpQuiet_nil ?_; intro w1 hB1; replace hB2 := bel_trans hB2 hB1; obtain ⟨hC1, hF1⟩ := bcell hB2; clear hD; replace hB1 := hB1)
    go_wp2_with fail
    (refine wp_region_bel (by kernel_rfl) (by kernel_rfl) ?_; have hD := bel_cells hB2; (repeat (go_big_quiet_step (((first | (go_at_call 116; exact calls_bel (column ⟨t.W, t.H, some ⟨g, o, none⟩, t.n, t.c, t.burn⟩ _ _ hW (by omega))) | (go_at_call 117; exact calls_bel (row_ ⟨t.W, t.H, some ⟨g, o, none⟩, t.n, t.c, t.burn⟩ _ _ hW (by omega)))))))); refine wpQuiet_nil ?_; intro w1 hB1; replace hB2 := bel_trans hB2 hB1; obtain ⟨hC1, hF1⟩ := bcell hB2; clear hD; replace hB1 := hB1)
    go_wp2
    go_ret
    refine ⟨ret_int ?_, by (repeat' (first | (with_reducible exact bel_refl _) | (with_reducible assumption) | (with_reducible refine bel_drew ?_) | (with_reducible refine bel_drewN ?_) | (with_reducible refine bel_alloc ?_) | (with_reducible refine bel_set ?_ ?_) | (with_reducible refine bel_trans ?_ (by with_reducible assumption)) | omega | (simp; done) | (simp; omega)))⟩
    rw [hR.out]
    simp at hm hq
    simp [hm, hq])

set_option maxHeartbeats 2000000 in
set_option maxRecDepth 100000 in
theorem l4Work (t : Terr) (a b : Int) (w : World) (hT : TOk w t) (hg : goodT t = true) (ha : 0 ≤ a ∧ a < t.n) (hb : 0 ≤ b ∧ b < t.n) :
    Calls Try.prog 92 #[.agg #[.int .i64 t.W, .int .i64 t.H, .slice t.A t.n t.c], .int .i64 a, .int .i64 b] w fun e w' => e = .returned (.int .i64 (workF t a b)) ∧ Below w.heap.size w w' := by
  obtain ⟨hW, _, _, _, hn, _⟩ := goodT_bd hg
  obtain ⟨g, o, x, hA, hb1, hx, h0, h1, hc⟩ := hT.at_ hg ha
  obtain ⟨g', o', y, hA', hb1', hy, h0', h1', hc'⟩ := hT.at_ hg hb
  rw [hA] at hA'
  simp only [Option.some.injEq, Addr.mk.injEq, and_true] at hA'
  obtain ⟨rfl, rfl⟩ := hA'
  have hR := hid (show workF t a b = if a % t.W = b % t.W ∨ a / t.W = b / t.W then 2 * (x + y) else 3 * (x + y) by rw [workF, burnAt_get hx, burnAt_get hy])
  obtain ⟨ha0, ha1⟩ := ha
  obtain ⟨hb0, hb9⟩ := hb
  have hB2 := bel_refl (w.alloc (.cells #[.int .i64 t.W, .int .i64 t.H, .slice t.A t.n t.c] 30))
  have hW0 : ¬ t.W = 0 := by omega
  rw [hA] at hB2 ⊢
  have q1 := quo_bd hW (show 0 ≤ a ∧ a ≤ 24 by omega)
  have q2 := quo_bd hW (show 0 ≤ b ∧ b ≤ 24 by omega)
  rcases hm : (a % t.W == b % t.W) with _ | _ <;> rcases hq : (a / t.W == b / t.W) with _ | _
  all_goals (
    go_enter Try.func92, Try.ntmps92
    go_wp2_with fail
    (refine wp_region_bel (by kernel_rfl) (by kernel_rfl) ?_; have hD := bel_cells hB2; (repeat (go_big_quiet_step ((fail)))); refine wpQuiet_nil ?_; intro w1 hB1; replace hB2 := bel_trans hB2 hB1; obtain ⟨hC1, hF1⟩ := bcell hB2; clear hD; replace hB1 := hB1)
    go_wp2_with fail
    (refine wp_region_bel (by kernel_rfl) (by kernel_rfl) ?_; have hD := bel_cells hB2; (repeat (go_big_quiet_step ((fail)))); refine wpQuiet_nil ?_; intro w1 hB1; replace hB2 := bel_trans hB2 hB1; obtain ⟨hC1, hF1⟩ := bcell hB2; clear hD; replace hB1 := hB1)
    go_wp2
    go_ret
    refine ⟨ret_int ?_, by (repeat' (first | (with_reducible exact bel_refl _) | (with_reducible assumption) | (with_reducible refine bel_drew ?_) | (with_reducible refine bel_drewN ?_) | (with_reducible refine bel_alloc ?_) | (with_reducible refine bel_set ?_ ?_) | (with_reducible refine bel_trans ?_ (by with_reducible assumption)) | omega | (simp; done) | (simp; omega)))⟩
    rw [hR.out]
    simp at hm hq
    simp [hm, hq])

end Go.Proofs.Ytdfjfopbhlbmkaa
