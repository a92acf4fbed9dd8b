/-
  Work rules that are drawn: walked.
-/
import Derived.Test.YtlffolfooiijhaaRostDraw
import Derived.Test.YtlffolfooiijhaaPlan
namespace Go.Proofs.Ytlffolfooiijhaa
open Go.RowKit

theorem cells4 {w : World} {p : Nat} {a b c d : Value} {T : TypeId} (h : w.heap[p]? = some (.cells #[a, b, c, d] T (0, 0))) : (w.cell? ⟨p, 0, none⟩ = some a ∧ w.cell? ⟨p, 1, none⟩ = some b ∧ w.cell? ⟨p, 2, none⟩ = some c ∧ w.cell? ⟨p, 3, none⟩ = some d) ∧ ∀ o, w.frozen? ⟨p, o, none⟩ = false :=
  ⟨⟨cell_of_row w p 0 _ _ _ h, cell_of_row w p 1 _ _ _ h, cell_of_row w p 2 _ _ _ h, cell_of_row w p 3 _ _ _ h⟩, fun o => frozen_of_row w p o _ _ h⟩
set_option maxHeartbeats 8000000 in
set_option maxRecDepth 100000 in
theorem workRuleC (W : World) (g : Nat) (A : Option Addr) (n c : Nat) (cs : List Int) (B : Nat) (w : World) (hC : Code W A n c cs) (h : Cur W g A n c B w) (hB : B ≤ 900000) :
    Calls Try.prog 64 #[.pointer (some ⟨g, 0, none⟩)] w fun e w' => ∃ r : WorkRule, e = .returned (.agg #[.int .i64 r.work, .int .i64 r.rest, .int .i64 r.span, .int .i64 r.most]) ∧ Cur W g A n c (B + 20) w' ∧ w.grownBy w' (some g) := by
  have hgl := h.lt
  have hp0 := heap_alloc_new w (.cells #[.int .i64 0, .int .i64 0, .int .i64 0, .int .i64 0] 53)
  have hpg : some w.heap.size ≠ some g := by simp; omega
  go_enter Try.func64, Try.ntmps64
  go_wp2_with fail
  refine (amongC W g A n c cs B _ 5 5 [1, 8, 12, 16, 48] _ hC (h.kept (bel_alloc (bel_alloc (bel_refl _)))) (by omega) (lit_sl rfl rfl (by simp [maxLen]) (by simp)) (by omega) (ne_lit (by omega))).mono ?_
  rintro _ w1 ⟨r1, rfl, hm1, hc1, hg1⟩
  replace hp0 := blk_gro (blk_bel hp0 (bel_alloc (bel_refl _))) hg1 hpg
  have hG := gro_trans (gro_bel (r := some g) (bel_alloc (bel_alloc (bel_refl w)))) hg1
  clear hg1 hm1
  go_wp2_with fail
  refine (amongC W g A n c cs (B + 2) _ 5 5 [0, 4, 8, 12, 48] _ hC (hc1.kept (bel_alloc (bel_refl _))) (by omega) (lit_sl rfl rfl (by simp [maxLen]) rfl) (by omega) (ne_lit hc1.lt)).mono ?_
  rintro _ w2 ⟨r2, rfl, hm2, hc2, hg2⟩
  replace hp0 := blk_gro (blk_bel hp0 (bel_alloc (bel_refl _))) hg2 hpg
  replace hG := gro_trans (gro_trans hG (gro_bel (bel_alloc (bel_refl w1)))) hg2
  clear hg2 hm2
  go_wp2_with fail
  refine (amongC W g A n c cs (B + 2 + 2) _ 4 4 [1, 24, 48, 200] _ hC (hc2.kept (bel_alloc (bel_refl _))) (by omega) (lit_sl rfl rfl (by simp [maxLen]) rfl) (by omega) (ne_lit hc2.lt)).mono ?_
  rintro _ w3 ⟨r3, rfl, hm3, hc3, hg3⟩
  replace hp0 := blk_gro (blk_bel hp0 (bel_alloc (bel_refl _))) hg3 hpg
  replace hG := gro_trans (gro_trans hG (gro_bel (bel_alloc (bel_refl w2)))) hg3
  have hr3 : 1 ≤ r3 ∧ r3 ≤ 200 := by simp at hm3; omega
  have hw3 := hG.size
  clear hg3 hm3
  go_wp2_with fail
  have hq0 := heap_alloc_new w3 (.cells #[.int .i64 r1, .int .i64 r2, .int .i64 r3, .int .i64 0] 53)
  have hqg : some w3.heap.size ≠ some g := by have := hc3.lt; simp; omega
  have hqp : w.heap.size ≠ w3.heap.size := by have := lt_of_block hp0; omega
  have hc4 := hc3.kept (bel_alloc (o := .cells #[.int .i64 r1, .int .i64 r2, .int .i64 r3, .int .i64 0] 53) (bel_refl _))
  replace hp0 := blk_bel hp0 (bel_alloc (o := .cells #[.int .i64 r1, .int .i64 r2, .int .i64 r3, .int .i64 0] 53) (bel_refl _))
  replace hG := gro_trans hG (gro_bel (bel_alloc (o := .cells #[.int .i64 r1, .int .i64 r2, .int .i64 r3, .int .i64 0] 53) (bel_refl w3)))
  have hWp : W.heap.size ≤ w.heap.size := h.bel.size
  have hWq : W.heap.size ≤ w3.heap.size := hc3.bel.size
  obtain ⟨w4, hw4⟩ : ∃ w4, w3.alloc (.cells #[.int .i64 r1, .int .i64 r2, .int .i64 r3, .int .i64 0] 53) = w4 := ⟨_, rfl⟩
  obtain ⟨p, hp⟩ : ∃ p, w.heap.size = p := ⟨_, rfl⟩
  obtain ⟨q, hq⟩ : ∃ q, w3.heap.size = q := ⟨_, rfl⟩
  rw [hw4] at hq0 hp0 hc4 hG ⊢
  rw [hp] at hp0 hpg hqp hWp ⊢
  rw [hq] at hq0 hqg hqp hWq ⊢
  have hpw : w.heap.size ≤ p := by omega
  have hqw : w.heap.size ≤ q := by omega
  clear hp hq hw3 hw4 hc3 hc2 hc1
  refine wp_region_plan (fun w' => ∃ m : Int, w'.heap[q]? = some (.cells #[.int .i64 r1, .int .i64 r2, .int .i64 r3, .int .i64 m] 53 (0, 0))) (.free 0 (.free 1 (.free 2 (.free 3 (.free 5 (.free 6 (.one 4 (.one 7 (.one 8 (.free 9 (.one 10 .stop))))))))))) (by kernel_rfl) (by kernel_rfl) ⟨0, hq0⟩ ?_
  simp only [Plan.ops, List.getElem?_cons_zero, List.getElem?_cons_succ, Option.getD_some]
  (iterate 6 (refine p_free rfl (by rintro w' ⟨m, hw'⟩; obtain ⟨⟨d0, d1, d2, d3⟩, dz⟩ := cells4 hw'; (go_simp; first | done | rfl)) ?_; (try simp only [Act.put, List.setIfInBounds_toArray, List.set_cons_zero, List.set_cons_succ])))
  have hp1 := blk_bel hp0 (bel_drew (bel_refl w4))
  have hq1 := blk_bel hq0 (bel_drew (bel_refl w4))
  have hc5 := hc4.kept (bel_drew (bel_refl w4))
  replace hG := gro_trans hG (gro_bel (bel_drew (bel_refl w4)))
  refine p_call rfl (by (go_simp; first | done | exact ⟨rfl, rfl⟩ | rfl)) ?_
  refine (l1Most _ _ _).mono ?_
  rintro _ _ ⟨rfl, rfl⟩
  refine ⟨_, rfl, ⟨0, hq1⟩, ?_⟩
  (try simp only [Act.put, List.setIfInBounds_toArray, List.set_cons_zero, List.set_cons_succ])
  refine p_val rfl (by (go_simp; first | done | rfl | exact ⟨rfl, rfl⟩)) ⟨0, blk_bel hq1 (bel_alloc (bel_refl _))⟩ ?_
  (try simp only [Act.put, List.setIfInBounds_toArray, List.set_cons_zero, List.set_cons_succ])
  refine p_call rfl (by (go_simp; first | done | exact ⟨rfl, rfl⟩ | rfl)) ?_
  refine (amongC W g A n c cs (B + 2 + 2 + 2) _ 3 3 [1, max 1 (IntKind.i64.wrap (r3.tdiv 2)), r3] _ hC (hc5.kept (bel_alloc (bel_refl _))) (by omega) (lit_sl rfl rfl (by simp [maxLen]) rfl) (by omega) (ne_lit hc5.lt)).mono ?_
  rintro _ w5 ⟨r4, rfl, -, hc6, hg5⟩
  replace hp0 := blk_gro (blk_bel hp1 (bel_alloc (bel_refl _))) hg5 hpg
  replace hq0 := blk_gro (blk_bel hq1 (bel_alloc (bel_refl _))) hg5 hqg
  replace hG := gro_trans (gro_trans hG (gro_bel (bel_alloc (bel_refl w4.drew)))) hg5
  clear hg5 hp1 hq1 hc5 hc4
  refine ⟨_, rfl, ⟨0, hq0⟩, ?_⟩
  (try simp only [Act.put, List.setIfInBounds_toArray, List.set_cons_zero, List.set_cons_succ])
  (iterate 1 (refine p_free rfl (by rintro w' ⟨m, hw'⟩; obtain ⟨⟨d0, d1, d2, d3⟩, dz⟩ := cells4 hw'; (go_simp; first | done | rfl)) ?_; (try simp only [Act.put, List.setIfInBounds_toArray, List.set_cons_zero, List.set_cons_succ])))
  have hqs := heap_setCell_same _ q 3 _ _ (.int .i64 r4) hq0
  have hz := frozen_of_row w5 q 3 _ _ hq0
  have hcell : w5.cell? ⟨q, 3, none⟩ = some (.int .i64 0) := cell_of_row w5 q 3 _ _ _ hq0
  refine p_store rfl (by (go_simp; first | done | rfl)) ⟨r4, hqs⟩ ?_
  (try simp only [Act.put])
  refine p_stop ?_
  (try simp only [Act.put, List.setIfInBounds_toArray, List.set_cons_zero, List.set_cons_succ])
  have hqg2 : q ≠ g := by simpa using hqg
  have hpg2 : p ≠ g := by simpa using hpg
  have hc7 := cur_set (o := 3) (v := .int .i64 r4) hc6 hWq hqg2
  replace hp0 := blk_gro hp0 (gro_set w5 q 3 (.int .i64 r4)) (by simpa using hqp)
  replace hG := gro_new hG hqw (o := 3) (v := .int .i64 r4)
  clear hq0 hz hcell hc6
  go_wp2_with fail
  refine (pickC W g A n c cs (B + 2 + 2 + 2 + 2) 40 _ hC hc7 (by omega) (by omega)).mono ?_
  rintro _ w6 ⟨r5, rfl, -, hc5, hg5⟩
  replace hp0 := blk_gro hp0 hg5 hpg
  have hq0 : w6.heap[q]? = some (.cells #[.int .i64 r1, .int .i64 r2, .int .i64 r3, .int .i64 r4] 53 (0, 0)) := blk_gro (by simpa using hqs) hg5 hqg
  replace hG := gro_trans hG hg5
  clear hqs hc7 hg5
  by_cases e0 : r5 = 0
  · subst e0
    go_wp2_with fail
    refine (amongC W g A n c cs (B + 2 + 2 + 2 + 2 + 2) _ 2 2 [0, 49] _ hC (hc5.kept (bel_alloc (bel_refl _))) (by omega) (lit_sl rfl rfl (by simp [maxLen]) rfl) (by omega) (ne_lit hc5.lt)).mono ?_
    rintro _ w7 ⟨r6, rfl, -, hc6, hg6⟩
    replace hp0 := blk_gro (blk_bel hp0 (bel_alloc (bel_refl _))) hg6 hpg
    replace hq0 := blk_gro (blk_bel hq0 (bel_alloc (bel_refl _))) hg6 hqg
    replace hG := gro_trans (gro_trans hG (gro_bel (bel_alloc (bel_refl w6)))) hg6
    obtain ⟨⟨d0, d1, d2, d3⟩, dz⟩ := cells4 hq0; obtain ⟨⟨k0, k1, k2, k3⟩, kz⟩ := cells4 hp0; clear hp0 hq0; go_wp2_with fail
    refine bodyPost_ret (v := .agg #[.int .i64 r6, .int .i64 r2, .int .i64 r3, .int .i64 r4]) (by simp [results, Try.results64, go_sem, *]) rfl ⟨⟨r6, r2, r3, r4⟩, rfl, ?_, ?_⟩
    · replace hc6 := hc6.up (show _ ≤ B + 20 by omega)
      (repeat' (first | (with_reducible assumption) | (refine cur_set ?_ (by with_reducible assumption) (by with_reducible assumption))))
    · (repeat' (first | (with_reducible assumption) | (refine gro_new ?_ (by with_reducible assumption))))
  have f0 : (r5 == 0) = false := by simpa using e0
  clear e0
  by_cases e1 : r5 = 1
  · subst e1
    go_wp2_with fail
    refine (amongC W g A n c cs (B + 2 + 2 + 2 + 2 + 2) _ 2 2 [-1, 49] _ hC (hc5.kept (bel_alloc (bel_refl _))) (by omega) (lit_sl rfl rfl (by simp [maxLen]) rfl) (by omega) (ne_lit hc5.lt)).mono ?_
    rintro _ w7 ⟨r6, rfl, -, hc6, hg6⟩
    replace hp0 := blk_gro (blk_bel hp0 (bel_alloc (bel_refl _))) hg6 hpg
    replace hq0 := blk_gro (blk_bel hq0 (bel_alloc (bel_refl _))) hg6 hqg
    replace hG := gro_trans (gro_trans hG (gro_bel (bel_alloc (bel_refl w6)))) hg6
    obtain ⟨⟨d0, d1, d2, d3⟩, dz⟩ := cells4 hq0; obtain ⟨⟨k0, k1, k2, k3⟩, kz⟩ := cells4 hp0; clear hp0 hq0; go_wp2_with fail
    refine bodyPost_ret (v := .agg #[.int .i64 r1, .int .i64 r6, .int .i64 r3, .int .i64 r4]) (by simp [results, Try.results64, go_sem, *]) rfl ⟨⟨r1, r6, r3, r4⟩, rfl, ?_, ?_⟩
    · replace hc6 := hc6.up (show _ ≤ B + 20 by omega)
      (repeat' (first | (with_reducible assumption) | (refine cur_set ?_ (by with_reducible assumption) (by with_reducible assumption))))
    · (repeat' (first | (with_reducible assumption) | (refine gro_new ?_ (by with_reducible assumption))))
  have f1 : (r5 == 1) = false := by simpa using e1
  clear e1
  by_cases e2 : r5 = 2
  · subst e2
    go_wp2_with fail
    refine (amongC W g A n c cs (B + 2 + 2 + 2 + 2 + 2) _ 2 2 [0, 201] _ hC (hc5.kept (bel_alloc (bel_refl _))) (by omega) (lit_sl rfl rfl (by simp [maxLen]) rfl) (by omega) (ne_lit hc5.lt)).mono ?_
    rintro _ w7 ⟨r6, rfl, -, hc6, hg6⟩
    replace hp0 := blk_gro (blk_bel hp0 (bel_alloc (bel_refl _))) hg6 hpg
    replace hq0 := blk_gro (blk_bel hq0 (bel_alloc (bel_refl _))) hg6 hqg
    replace hG := gro_trans (gro_trans hG (gro_bel (bel_alloc (bel_refl w6)))) hg6
    obtain ⟨⟨d0, d1, d2, d3⟩, dz⟩ := cells4 hq0; obtain ⟨⟨k0, k1, k2, k3⟩, kz⟩ := cells4 hp0; clear hp0 hq0; go_wp2_with fail
    refine bodyPost_ret (v := .agg #[.int .i64 r1, .int .i64 r2, .int .i64 r6, .int .i64 r4]) (by simp [results, Try.results64, go_sem, *]) rfl ⟨⟨r1, r2, r6, r4⟩, rfl, ?_, ?_⟩
    · replace hc6 := hc6.up (show _ ≤ B + 20 by omega)
      (repeat' (first | (with_reducible assumption) | (refine cur_set ?_ (by with_reducible assumption) (by with_reducible assumption))))
    · (repeat' (first | (with_reducible assumption) | (refine gro_new ?_ (by with_reducible assumption))))
  have f2 : (r5 == 2) = false := by simpa using e2
  clear e2
  by_cases e3 : r5 = 3
  · subst e3
    obtain ⟨⟨a0, a1, a2, a3⟩, az⟩ := cells4 hq0
    go_wp2_with fail
    clear a0 a1 a2 a3 az
    refine (amongC W g A n c cs (B + 2 + 2 + 2 + 2 + 2) _ 2 2 [0, r3 + 1] _ hC (hc5.kept (bel_alloc (bel_refl _))) (by omega) (lit_sl rfl rfl (by simp [maxLen]) rfl) (by omega) (ne_lit hc5.lt)).mono ?_
    rintro _ w7 ⟨r6, rfl, -, hc6, hg6⟩
    replace hp0 := blk_gro (blk_bel hp0 (bel_alloc (bel_refl _))) hg6 hpg
    replace hq0 := blk_gro (blk_bel hq0 (bel_alloc (bel_refl _))) hg6 hqg
    replace hG := gro_trans (gro_trans hG (gro_bel (bel_alloc (bel_refl w6)))) hg6
    obtain ⟨⟨d0, d1, d2, d3⟩, dz⟩ := cells4 hq0; obtain ⟨⟨k0, k1, k2, k3⟩, kz⟩ := cells4 hp0; clear hp0 hq0; go_wp2_with fail
    refine bodyPost_ret (v := .agg #[.int .i64 r1, .int .i64 r2, .int .i64 r3, .int .i64 r6]) (by simp [results, Try.results64, go_sem, *]) rfl ⟨⟨r1, r2, r3, r6⟩, rfl, ?_, ?_⟩
    · replace hc6 := hc6.up (show _ ≤ B + 20 by omega)
      (repeat' (first | (with_reducible assumption) | (refine cur_set ?_ (by with_reducible assumption) (by with_reducible assumption))))
    · (repeat' (first | (with_reducible assumption) | (refine gro_new ?_ (by with_reducible assumption))))
  have f3 : (r5 == 3) = false := by simpa using e3
  clear e3
  obtain ⟨⟨d0, d1, d2, d3⟩, dz⟩ := cells4 hq0; obtain ⟨⟨k0, k1, k2, k3⟩, kz⟩ := cells4 hp0; clear hp0 hq0; go_wp2_with fail
  refine bodyPost_ret (v := .agg #[.int .i64 r1, .int .i64 r2, .int .i64 r3, .int .i64 r4]) (by simp [results, Try.results64, go_sem, *]) rfl ⟨⟨r1, r2, r3, r4⟩, rfl, ?_, ?_⟩
  · replace hc5 := hc5.up (show _ ≤ B + 20 by omega)
    (repeat' (first | (with_reducible assumption) | (refine cur_set ?_ (by with_reducible assumption) (by with_reducible assumption))))
  · (repeat' (first | (with_reducible assumption) | (refine gro_new ?_ (by with_reducible assumption))))
end Go.Proofs.Ytlffolfooiijhaa
