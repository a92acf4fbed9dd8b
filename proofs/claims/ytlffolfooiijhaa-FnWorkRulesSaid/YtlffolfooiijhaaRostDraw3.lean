/-
  What the laws on rosters and work rules draw: walked.
-/
import Derived.Test.YtlffolfooiijhaaRostDraw2
namespace Go.Proofs.Ytlffolfooiijhaa
open Go.RowKit

theorem code_start {W : World} {A : Option Addr} {n c : Nat} {B : Nat} {w : World} (hb : Below W.heap.size W w) : Cur W w.heap.size A n c B (w.alloc (.cells #[.slice A n c, .int .i64 0, .int .u64 0] 79)) :=
  ⟨bel_alloc hb, hb.size, 0, 0, heap_alloc_new w _, by omega, by omega, by omega⟩
set_option maxHeartbeats 4000000 in
set_option maxRecDepth 100000 in
theorem drawStints (A : Option Addr) (n c : Nat) (cs : List Int) (w : World) (hC : Code w A n c cs) :
    Calls Try.prog 15 #[.slice A n c] w fun e w' => ∃ (A' : Option Addr) (m c' : Nat) (xs : List Duty) (v : Int), e = .returned (.tuple #[.slice A' m c', .int .i64 v]) ∧ Own w.heap.size w'.heap.size w' 30 3 A' m c' (xs.flatMap Duty.row) ∧ m ≤ 14 ∧ (-1 ≤ v ∧ v ≤ 500) ∧ Below w.heap.size w w' := by
  go_enter Try.func15, Try.ntmps15
  go_wp2_with fail
  refine (rosterC w w.heap.size A n c cs 0 _ hC (code_start (bel_refl w)) (by omega)).mono ?_
  rintro _ w1 ⟨A', m, c', xs, rfl, hO, hm, hc1, hg1⟩
  go_wp2_with fail
  refine (crew11C w w.heap.size A n c cs _ w1 hC hc1 (by omega)).mono ?_
  rintro _ w2 ⟨v, rfl, hv, hc2, hg2⟩
  go_wp2_with fail
  go_ret2
  exact ⟨A', m, c', xs, v, rfl, Own.mk_ (own_low (own_gro hO.own hg2 (by simp)) (by simp)), hm, hv, hc2.bel⟩
set_option maxHeartbeats 4000000 in
set_option maxRecDepth 100000 in
theorem drawWork (A : Option Addr) (n c : Nat) (cs : List Int) (w : World) (hC : Code w A n c cs) :
    Calls Try.prog 42 #[.slice A n c] w fun e w' => ∃ (A' : Option Addr) (m c' : Nat) (xs : List Duty) (v : Int), e = .returned (.tuple #[.slice A' m c', .int .i64 v]) ∧ Own w.heap.size w'.heap.size w' 30 3 A' m c' (xs.flatMap Duty.row) ∧ m ≤ 14 ∧ (-1 ≤ v ∧ v ≤ 500) ∧ Below w.heap.size w w' := by
  go_enter Try.func42, Try.ntmps42
  go_wp2_with fail
  refine (rosterC w w.heap.size A n c cs 0 _ hC (code_start (bel_refl w)) (by omega)).mono ?_
  rintro _ w1 ⟨A', m, c', xs, rfl, hO, hm, hc1, hg1⟩
  go_wp2_with fail
  refine (hour11C w w.heap.size A n c cs _ w1 hC hc1 (by omega)).mono ?_
  rintro _ w2 ⟨v, rfl, hv, hc2, hg2⟩
  go_wp2_with fail
  go_ret2
  exact ⟨A', m, c', xs, v, rfl, Own.mk_ (own_low (own_gro hO.own hg2 (by simp)) (by simp)), hm, hv, hc2.bel⟩
set_option maxHeartbeats 4000000 in
set_option maxRecDepth 100000 in
theorem drawMost (A : Option Addr) (n c : Nat) (cs : List Int) (w : World) (hC : Code w A n c cs) :
    Calls Try.prog 21 #[.slice A n c] w fun e w' => ∃ (A' : Option Addr) (m c' : Nat) (xs : List Duty) (v s : Int), e = .returned (.tuple #[.slice A' m c', .int .i64 v, .int .i64 s]) ∧ Own w.heap.size w'.heap.size w' 30 3 A' m c' (xs.flatMap Duty.row) ∧ m ≤ 14 ∧ (-1 ≤ v ∧ v ≤ 500) ∧ (0 ≤ s ∧ s ≤ 201) ∧ Below w.heap.size w w' := by
  go_enter Try.func21, Try.ntmps21
  go_wp2_with fail
  refine (rosterC w w.heap.size A n c cs 0 _ hC (code_start (bel_refl w)) (by omega)).mono ?_
  rintro _ w1 ⟨A', m, c', xs, rfl, hO, hm, hc1, hg1⟩
  go_wp2_with fail
  refine (crew11C w w.heap.size A n c cs _ w1 hC hc1 (by omega)).mono ?_
  rintro _ w2 ⟨v, rfl, hv, hc2, hg2⟩
  have hO2 := own_gro hO.own hg2 (by simp)
  clear hO hg1 hg2
  go_wp2_with fail
  have hlit : Sl (w2.alloc (.cells #[.int .i64 1, .int .i64 8, .int .i64 24, .int .i64 48, .int .i64 200, .int .i64 0, .int .i64 201] 3)) 1 (some ⟨w2.heap.size, 0, none⟩) 7 7 (ints [1, 8, 24, 48, 200, 0, 201]) := lit_sl rfl rfl (by simp [maxLen]) rfl
  refine (pickC w w.heap.size A n c cs _ 24 _ hC (hc2.kept (bel_alloc (bel_refl _))) (by omega) (by omega)).mono ?_
  rintro _ w3 ⟨r, rfl, ⟨hr0, hr1⟩, hc3, hg3⟩
  replace hlit := hlit.gro hg3 (ne_lit hc2.lt)
  have hO3 := own_gro (own_bel hO2 (bel_alloc (bel_refl _))) hg3 (by simp)
  clear hO2 hg3
  go_wp2_with fail
  have hT := hlit.to (show (5 + r / 11).toNat ≤ 7 by omega)
  rw [ints_take1] at hT
  refine (amongC w w.heap.size A n c cs _ _ (5 + r / 11).toNat 7 _ _ hC hc3 (by omega) hT (by omega) (ne_lit hc2.lt)).mono ?_
  rintro _ w4 ⟨s, rfl, hs, hc4, hg4⟩
  replace hs := List.mem_of_mem_take hs
  have hsb : 0 ≤ s ∧ s ≤ 201 := by simp at hs; omega
  go_wp2_with fail
  refine bodyPost_ret (v := .tuple #[.slice A' m c', .int .i64 v, .int .i64 s]) (by simp [results, Try.results21, go_sem, *]) rfl ?_
  exact ⟨A', m, c', xs, v, s, rfl, Own.mk_ (own_low (own_gro hO3 hg4 (by simp)) (by simp)), hm, hv, hsb, hc4.bel⟩
set_option maxHeartbeats 4000000 in
set_option maxRecDepth 100000 in
theorem drawThin (A : Option Addr) (n c : Nat) (cs : List Int) (w : World) (hC : Code w A n c cs) :
    Calls Try.prog 38 #[.slice A n c] w fun e w' => ∃ (A' : Option Addr) (m c' : Nat) (xs : List Duty) (f t l : Int), e = .returned (.tuple #[.slice A' m c', .int .i64 f, .int .i64 t, .int .i64 l]) ∧ Own w.heap.size w'.heap.size w' 30 3 A' m c' (xs.flatMap Duty.row) ∧ m ≤ 14 ∧ (-1 ≤ f ∧ f ≤ 500) ∧ (-1 ≤ t ∧ t ≤ 1001) ∧ (-1 ≤ l ∧ l ≤ 21) ∧ Below w.heap.size w w' := by
  go_enter Try.func38, Try.ntmps38
  go_wp2_with fail
  refine (rosterC w w.heap.size A n c cs 0 _ hC (code_start (bel_refl w)) (by omega)).mono ?_
  rintro _ w1 ⟨A', m, c', xs, rfl, hO, hm, hc1, hg1⟩
  go_wp2_with fail
  refine (hour11C w w.heap.size A n c cs _ w1 hC hc1 (by omega)).mono ?_
  rintro _ w2 ⟨v, rfl, hv, hc2, hg2⟩
  have hO2 := own_gro hO.own hg2 (by simp)
  clear hO hg1 hg2
  go_wp2_with fail
  have hlit : Sl (w2.alloc (.cells #[.int .i64 1, .int .i64 10, .int .i64 30, .int .i64 0, .int .i64 501] 3)) 1 (some ⟨w2.heap.size, 0, none⟩) 5 5 (ints [1, 10, 30, 0, 501]) := lit_sl rfl rfl (by simp [maxLen]) rfl
  refine (pickC w w.heap.size A n c cs _ 24 _ hC (hc2.kept (bel_alloc (bel_refl _))) (by omega) (by omega)).mono ?_
  rintro _ w3 ⟨r, rfl, ⟨hr0, hr1⟩, hc3, hg3⟩
  replace hlit := hlit.gro hg3 (ne_lit hc2.lt)
  have hO3 := own_gro (own_bel hO2 (bel_alloc (bel_refl _))) hg3 (by simp)
  clear hO2 hg3
  go_wp2_with fail
  have hT := hlit.to (show (4 + r / 19).toNat ≤ 5 by omega)
  rw [ints_take1] at hT
  refine (amongC w w.heap.size A n c cs _ _ (4 + r / 19).toNat 5 _ _ hC hc3 (by omega) hT (by omega) (ne_lit hc2.lt)).mono ?_
  rintro _ w4 ⟨s, rfl, hs, hc4, hg4⟩
  replace hs := List.mem_of_mem_take hs
  have hsb : 0 ≤ s ∧ s ≤ 501 := by simp at hs; omega
  have hO4 := own_gro hO3 hg4 (by simp)
  clear hO3 hg4 hs hT hlit hr0 hr1
  go_wp2_with fail
  have hlit : Sl (w4.alloc (.cells #[.int .i64 0, .int .i64 1, .int .i64 2, .int .i64 3, .int .i64 20, .int .i64 (-1), .int .i64 21] 3)) 1 (some ⟨w4.heap.size, 0, none⟩) 7 7 (ints [0, 1, 2, 3, 20, -1, 21]) := lit_sl rfl rfl (by simp [maxLen]) rfl
  refine (pickC w w.heap.size A n c cs _ 24 _ hC (hc4.kept (bel_alloc (bel_refl _))) (by omega) (by omega)).mono ?_
  rintro _ w5 ⟨r2, rfl, ⟨hr0, hr1⟩, hc5, hg5⟩
  replace hlit := hlit.gro hg5 (ne_lit hc4.lt)
  have hO5 := own_gro (own_bel hO4 (bel_alloc (bel_refl _))) hg5 (by simp)
  clear hO4 hg5
  go_wp2_with fail
  have hT := hlit.to (show (5 + r2 / 11).toNat ≤ 7 by omega)
  rw [ints_take1] at hT
  refine (amongC w w.heap.size A n c cs _ _ (5 + r2 / 11).toNat 7 _ _ hC hc5 (by omega) hT (by omega) (ne_lit hc4.lt)).mono ?_
  rintro _ w6 ⟨l, rfl, hl, hc6, hg6⟩
  replace hl := List.mem_of_mem_take hl
  have hlb : -1 ≤ l ∧ l ≤ 21 := by simp at hl; omega
  go_wp2_with fail
  refine bodyPost_ret (v := .tuple #[.slice A' m c', .int .i64 v, .int .i64 (v + s), .int .i64 l]) (by simp [results, Try.results38, go_sem, *]) rfl ?_
  exact ⟨A', m, c', xs, v, v + s, l, rfl, Own.mk_ (own_low (own_gro hO5 hg6 (by simp)) (by simp)), hm, hv, by omega, hlb, hc6.bel⟩
theorem cells3 {w : World} {p : Nat} {a b c : Value} {T : TypeId} (h : w.heap[p]? = some (.cells #[a, b, c] T (0, 0))) : (w.cell? ⟨p, 0, none⟩ = some a ∧ w.cell? ⟨p, 1, none⟩ = some b ∧ w.cell? ⟨p, 2, none⟩ = some c) ∧ ∀ o, w.frozen? ⟨p, o, none⟩ = false :=
  ⟨⟨cell_of_row w p 0 _ _ _ h, cell_of_row w p 1 _ _ _ h, cell_of_row w p 2 _ _ _ h⟩, fun o => frozen_of_row w p o _ _ h⟩
set_option maxHeartbeats 4000000 in
set_option maxRecDepth 100000 in
theorem drawAdd (A : Option Addr) (n c : Nat) (cs : List Int) (w : World) (hC : Code w A n c cs) :
    Calls Try.prog 24 #[.slice A n c] w fun e w' => ∃ (A' : Option Addr) (m c' : Nat) (xs : List Duty) (d : Duty), e = .returned (.tuple #[.slice A' m c', .agg #[.int .i64 d.crew, .int .i64 d.fr, .int .i64 d.til]]) ∧ Own w.heap.size w'.heap.size w' 30 3 A' m c' (xs.flatMap Duty.row) ∧ m ≤ 14 ∧ Below w.heap.size w w' := by
  have hp0 := heap_alloc_new w (.cells #[.int .i64 0, .int .i64 0, .int .i64 0] 30)
  have hst : Cur w (w.heap.size + 1) A n c 0 ((w.alloc (.cells #[.int .i64 0, .int .i64 0, .int .i64 0] 30)).alloc (.cells #[.slice A n c, .int .i64 0, .int .u64 0] 79)) := by simpa using code_start (A := A) (n := n) (c := c) (B := 0) (bel_alloc (o := .cells #[.int .i64 0, .int .i64 0, .int .i64 0] 30) (bel_refl w))
  go_enter Try.func24, Try.ntmps24
  go_wp2_with fail
  refine (rosterC w (w.heap.size + 1) A n c cs 0 _ hC hst (by omega)).mono ?_
  rintro _ w1 ⟨A', m, c', xs, rfl, hO, hm, hc1, hg1⟩
  replace hp0 := blk_gro (blk_bel hp0 (bel_alloc (o := .cells #[.slice A n c, .int .i64 0, .int .u64 0] 79) (bel_refl _))) hg1 (by simp)
  have hO1 := own_low hO.own (show w.heap.size + 2 ≤ _ by simp)
  clear hO hg1 hst
  go_wp2_with fail
  refine (amongC w (w.heap.size + 1) A n c cs _ _ 9 9 [0, 4, 9, 18, 24, 40, 60, 499, -1] _ hC (hc1.kept (bel_alloc (bel_refl _))) (by omega) (lit_sl rfl rfl (by simp [maxLen]) rfl) (by omega) (ne_lit hc1.lt)).mono ?_
  rintro _ w2 ⟨f, rfl, hf, hc2, hg2⟩
  have hfb : -1 ≤ f ∧ f ≤ 499 := by simp at hf; omega
  replace hp0 := blk_gro (blk_bel hp0 (bel_alloc (bel_refl _))) hg2 (by simp)
  have hO2 := own_gro (own_bel hO1 (bel_alloc (bel_refl _))) hg2 (by simp)
  clear hO1 hg2 hc1 hf
  go_wp2_with fail
  refine (crew11C w (w.heap.size + 1) A n c cs _ w2 hC hc2 (by omega)).mono ?_
  rintro _ w3 ⟨v, rfl, hv, hc3, hg3⟩
  replace hp0 := blk_gro hp0 hg3 (by simp)
  have hO3 := own_gro hO2 hg3 (by simp)
  clear hO2 hg3 hc2
  go_wp2_with fail
  refine (amongC w (w.heap.size + 1) A n c cs _ _ 4 4 [1, 4, 8, 0] _ hC (hc3.kept (bel_alloc (bel_refl _))) (by omega) (lit_sl rfl rfl (by simp [maxLen]) rfl) (by omega) (ne_lit hc3.lt)).mono ?_
  rintro _ w4 ⟨u, rfl, hu, hc4, hg4⟩
  have hub : 0 ≤ u ∧ u ≤ 8 := by simp at hu; omega
  replace hp0 := blk_gro (blk_bel hp0 (bel_alloc (bel_refl _))) hg4 (by simp)
  have hO4 := own_gro (own_bel hO3 (bel_alloc (bel_refl _))) hg4 (by simp)
  clear hO3 hg4 hc3 hu
  obtain ⟨⟨d0, d1, d2⟩, dz⟩ := cells3 hp0
  clear hp0
  go_wp2_with fail
  refine bodyPost_ret (v := .tuple #[.slice A' m c', .agg #[.int .i64 v, .int .i64 f, .int .i64 (f + u)]]) (by simp [results, Try.results24, go_sem, *]) rfl ?_
  have hb := hc4.bel
  have hO5 := own_gro (own_gro (own_gro hO4 (gro_set w4 w.heap.size 0 (.int .i64 v)) (by simp)) (gro_set _ w.heap.size 1 (.int .i64 f)) (by simp)) (gro_set _ w.heap.size 2 (.int .i64 (f + u))) (by simp)
  refine ⟨A', m, c', xs, ⟨v, f, f + u⟩, rfl, Own.mk_ (own_low hO5 (by simp)), hm, ?_⟩
  (repeat' (first | (with_reducible assumption) | (refine Below.setCell ?_ (by simp) _)))
set_option maxHeartbeats 4000000 in
set_option maxRecDepth 100000 in
theorem drawBroken (A : Option Addr) (n c : Nat) (cs : List Int) (w : World) (hC : Code w A n c cs) :
    Calls Try.prog 31 #[.slice A n c] w fun e w' => ∃ (A' : Option Addr) (m c' : Nat) (xs : List Duty) (v : Int) (r : WorkRule), e = .returned (.tuple #[.slice A' m c', .int .i64 v, .agg #[.int .i64 r.work, .int .i64 r.rest, .int .i64 r.span, .int .i64 r.most]]) ∧ Own w.heap.size w'.heap.size w' 30 3 A' m c' (xs.flatMap Duty.row) ∧ m ≤ 14 ∧ (-1 ≤ v ∧ v ≤ 500) ∧ Below w.heap.size w w' := by
  have hp0 := heap_alloc_new w (.cells #[.int .i64 0, .int .i64 0, .int .i64 0, .int .i64 0] 53)
  have hst : Cur w (w.heap.size + 1) A n c 0 ((w.alloc (.cells #[.int .i64 0, .int .i64 0, .int .i64 0, .int .i64 0] 53)).alloc (.cells #[.slice A n c, .int .i64 0, .int .u64 0] 79)) := by simpa using code_start (A := A) (n := n) (c := c) (B := 0) (bel_alloc (o := .cells #[.int .i64 0, .int .i64 0, .int .i64 0, .int .i64 0] 53) (bel_refl w))
  go_enter Try.func31, Try.ntmps31
  go_wp2_with fail
  refine (rosterC w (w.heap.size + 1) A n c cs 0 _ hC hst (by omega)).mono ?_
  rintro _ w1 ⟨A', m, c', xs, rfl, hO, hm, hc1, hg1⟩
  replace hp0 := blk_gro (blk_bel hp0 (bel_alloc (o := .cells #[.slice A n c, .int .i64 0, .int .u64 0] 79) (bel_refl _))) hg1 (by simp)
  have hO1 := own_low hO.own (show w.heap.size + 2 ≤ _ by simp)
  clear hO hg1 hst
  go_wp2_with fail
  refine (crew11C w (w.heap.size + 1) A n c cs _ w1 hC hc1 (by omega)).mono ?_
  rintro _ w3 ⟨v, rfl, hv, hc3, hg3⟩
  replace hp0 := blk_gro hp0 hg3 (by simp)
  have hO3 := own_gro hO1 hg3 (by simp)
  clear hO1 hg3 hc1
  go_wp2_with fail
  refine (workRuleC w (w.heap.size + 1) A n c cs _ w3 hC hc3 (by omega)).mono ?_
  rintro _ w4 ⟨r, rfl, hc4, hg4⟩
  replace hp0 := blk_gro hp0 hg4 (by simp)
  have hO4 := own_gro hO3 hg4 (by simp)
  clear hO3 hg4 hc3
  obtain ⟨⟨d0, d1, d2, d3⟩, dz⟩ := cells4 hp0
  clear hp0
  go_wp2_with fail
  refine bodyPost_ret (v := .tuple #[.slice A' m c', .int .i64 v, .agg #[.int .i64 r.work, .int .i64 r.rest, .int .i64 r.span, .int .i64 r.most]]) (by simp [results, Try.results31, go_sem, *]) rfl ?_
  have hb := hc4.bel
  have hO5 := own_gro (own_gro (own_gro (own_gro hO4 (gro_set w4 w.heap.size 0 (.int .i64 r.work)) (by simp)) (gro_set _ w.heap.size 1 (.int .i64 r.rest)) (by simp)) (gro_set _ w.heap.size 2 (.int .i64 r.span)) (by simp)) (gro_set _ w.heap.size 3 (.int .i64 r.most)) (by simp)
  refine ⟨A', m, c', xs, v, r, rfl, Own.mk_ (own_low hO5 (by simp)), hm, hv, ?_⟩
  (repeat' (first | (with_reducible assumption) | (refine Below.setCell ?_ (by simp) _)))
end Go.Proofs.Ytlffolfooiijhaa
