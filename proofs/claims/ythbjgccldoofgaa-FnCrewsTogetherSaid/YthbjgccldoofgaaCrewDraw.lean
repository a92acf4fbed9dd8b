/-
  Crews that are drawn: walked.
-/
import Derived.Test.YthbjgccldoofgaaCur
import Derived.Test.YthbjgccldoofgaaCrewTop
namespace Go.Proofs.Ythbjgccldoofgaa
open Go.RowKit

set_option maxHeartbeats 4000000 in
set_option maxRecDepth 100000 in
theorem crewC (W : World) (g : Nat) (A : Option Addr) (n c : Nat) (cs : List Int) (B : Nat) (id : Int) (w : World) (hC : Code W A n c cs) (h : Cur W g A n c B w) (hB : B ≤ 900000) :
    Calls Try.prog 32 #[.pointer (some ⟨g, 0, none⟩), .int .i64 id] w fun e w' => ∃ x : Crew, e = .returned (.agg #[.int .i64 x.id, .int .i64 x.rate, .int .i64 x.tires, .int .i64 x.shift, .int .i64 x.start]) ∧ Cur W g A n c (B + 20) w' ∧ w.grownBy w' (some g) := by
  have hgl := h.lt
  have hp0 := heap_alloc_new w (.cells #[.int .i64 0, .int .i64 0, .int .i64 0, .int .i64 0, .int .i64 0] 25)
  have hpg : some w.heap.size ≠ some g := by simp; omega
  go_enter Try.func32, Try.ntmps32
  go_wp2_with fail
  refine (amongC W g A n c cs B _ 5 5 [1, 20, 50, 120, 200] _ hC (h.kept (bel_alloc (bel_alloc (bel_refl _)))) (by omega) (lit_sl rfl rfl (by simp [maxLen]) (by simp)) (by omega) (ne_lit (by omega))).mono ?_
  rintro _ w1 ⟨r1, rfl, hm1, hc1, hg1⟩
  replace hp0 := blk_gro (blk_bel hp0 (bel_alloc (bel_refl _))) hg1 hpg
  have hG := gro_trans (gro_bel (r := some g) (bel_alloc (bel_alloc (bel_refl w)))) hg1
  clear hg1 hm1
  go_wp2_with fail
  refine (amongC W g A n c cs (B + 2) _ 5 5 [0, 0, 5, 10, 50] _ hC (hc1.kept (bel_alloc (bel_refl _))) (by omega) (lit_sl rfl rfl (by simp [maxLen]) rfl) (by omega) (ne_lit hc1.lt)).mono ?_
  rintro _ w2 ⟨r2, rfl, hm2, hc2, hg2⟩
  replace hp0 := blk_gro (blk_bel hp0 (bel_alloc (bel_refl _))) hg2 hpg
  replace hG := gro_trans (gro_trans hG (gro_bel (bel_alloc (bel_refl w1)))) hg2
  clear hg2 hm2
  go_wp2_with fail
  refine (amongC W g A n c cs (B + 2 + 2) _ 5 5 [1, 8, 8, 12, 24] _ hC (hc2.kept (bel_alloc (bel_refl _))) (by omega) (lit_sl rfl rfl (by simp [maxLen]) rfl) (by omega) (ne_lit hc2.lt)).mono ?_
  rintro _ w3 ⟨r3, rfl, hm3, hc3, hg3⟩
  replace hp0 := blk_gro (blk_bel hp0 (bel_alloc (bel_refl _))) hg3 hpg
  replace hG := gro_trans (gro_trans hG (gro_bel (bel_alloc (bel_refl w2)))) hg3
  have hr3 : 1 ≤ r3 ∧ r3 ≤ 24 := by simp at hm3; omega
  have hw3 := hG.size
  clear hg3 hm3
  go_wp2_with fail
  have hq0 := heap_alloc_new w3 (.cells #[.int .i64 id, .int .i64 r1, .int .i64 r2, .int .i64 r3, .int .i64 0] 25)
  have hqg : some w3.heap.size ≠ some g := by have := hc3.lt; simp; omega
  have hqp : w.heap.size ≠ w3.heap.size := by have := lt_of_block hp0; omega
  refine (pickC W g A n c cs (B + 2 + 2 + 2) (25 - r3) _ hC (hc3.kept (bel_alloc (bel_refl _))) (by omega) (by omega)).mono ?_
  rintro _ w4 ⟨r4, rfl, -, hc4, hg4⟩
  replace hp0 := blk_gro (blk_bel hp0 (bel_alloc (bel_refl _))) hg4 hpg
  replace hq0 := blk_gro hq0 hg4 hqg
  replace hG := gro_trans (gro_trans hG (gro_bel (bel_alloc (bel_refl w3)))) hg4
  obtain ⟨p, hp⟩ : ∃ p, w.heap.size = p := ⟨_, rfl⟩
  obtain ⟨q, hq⟩ : ∃ q, w3.heap.size = q := ⟨_, rfl⟩
  rw [hp] at hp0 hpg hqp ⊢
  rw [hq] at hq0 hqg hqp ⊢
  have hWp : W.heap.size ≤ p := by rw [← hp]; exact h.bel.size
  have hWq : W.heap.size ≤ q := by rw [← hq]; exact hc3.bel.size
  have hpw : w.heap.size ≤ p := by omega
  have hqw : w.heap.size ≤ q := by omega
  clear hg4 hp hq hw3
  have hqs := heap_setCell_same _ q 4 _ _ (.int .i64 r4) hq0
  have hc4' := hc4.keep (gro_set w4 q 4 (.int .i64 r4)) (fun k hk => by cases hk; exact ⟨hWq, by simpa using hqg⟩)
  obtain ⟨⟨d0, d1, d2, d3, d4⟩, dz⟩ := cells5 hq0
  replace hp0 := blk_gro hp0 (gro_set w4 q 4 (.int .i64 r4)) (by simpa using hqp)
  replace hG := gro_new hG hqw (o := 4) (v := .int .i64 r4)
  clear hq0
  go_wp2_with fail
  refine (pickC W g A n c cs (B + 2 + 2 + 2 + 2) 60 _ hC hc4' (by omega) (by omega)).mono ?_
  rintro _ w5 ⟨r5, rfl, -, hc5, hg5⟩
  replace hp0 := blk_gro hp0 hg5 hpg
  have hq0 : w5.heap[q]? = some (.cells #[.int .i64 id, .int .i64 r1, .int .i64 r2, .int .i64 r3, .int .i64 r4] 25 (0, 0)) := blk_gro (by simpa using hqs) hg5 hqg
  replace hG := gro_trans hG hg5
  clear hqs hc4' hc4 hc3 hc2 hc1 d0 d1 d2 d3 d4 dz hg5
  have hqg2 : q ≠ g := by simpa using hqg
  have hpg2 : p ≠ g := by simpa using hpg
  by_cases e0 : r5 = 0
  · subst e0
    go_wp2_with fail
    refine (amongC W g A n c cs (B + 2 + 2 + 2 + 2 + 2) _ 3 3 [0, 99, 100] _ hC (hc5.kept (bel_alloc (bel_refl _))) (by omega) (lit_sl rfl rfl (by simp [maxLen]) rfl) (by omega) (ne_lit hc5.lt)).mono ?_
    rintro _ w6 ⟨r6, rfl, -, hc6, hg6⟩
    replace hp0 := blk_gro (blk_bel hp0 (bel_alloc (bel_refl _))) hg6 hpg
    replace hq0 := blk_gro (blk_bel hq0 (bel_alloc (bel_refl _))) hg6 hqg
    replace hG := gro_trans (gro_trans hG (gro_bel (bel_alloc (bel_refl w5)))) hg6
    obtain ⟨⟨d0, d1, d2, d3, d4⟩, dz⟩ := cells5 hq0; obtain ⟨⟨k0, k1, k2, k3, k4⟩, kz⟩ := cells5 hp0; clear hp0 hq0; go_wp2_with fail
    refine bodyPost_ret (v := .agg #[.int .i64 r6, .int .i64 r1, .int .i64 r2, .int .i64 r3, .int .i64 r4]) (by simp [results, Try.results32, go_sem, *]) rfl ⟨⟨r6, r1, r2, r3, r4⟩, rfl, ?_, ?_⟩
    · replace hc6 := hc6.up (show _ ≤ B + 20 by omega)
      (repeat' (first | (with_reducible assumption) | (refine cur_set ?_ (by with_reducible assumption) (by with_reducible assumption))))
    · (repeat' (first | (with_reducible assumption) | (refine gro_new ?_ (by with_reducible assumption))))
  have f0 : (r5 == 0) = false := by simpa using e0
  clear e0
  by_cases e1 : r5 = 1
  · subst e1
    go_wp2_with fail
    refine (amongC W g A n c cs (B + 2 + 2 + 2 + 2 + 2) _ 2 2 [0, 201] _ hC (hc5.kept (bel_alloc (bel_refl _))) (by omega) (lit_sl rfl rfl (by simp [maxLen]) rfl) (by omega) (ne_lit hc5.lt)).mono ?_
    rintro _ w6 ⟨r6, rfl, -, hc6, hg6⟩
    replace hp0 := blk_gro (blk_bel hp0 (bel_alloc (bel_refl _))) hg6 hpg
    replace hq0 := blk_gro (blk_bel hq0 (bel_alloc (bel_refl _))) hg6 hqg
    replace hG := gro_trans (gro_trans hG (gro_bel (bel_alloc (bel_refl w5)))) hg6
    obtain ⟨⟨d0, d1, d2, d3, d4⟩, dz⟩ := cells5 hq0; obtain ⟨⟨k0, k1, k2, k3, k4⟩, kz⟩ := cells5 hp0; clear hp0 hq0; go_wp2_with fail
    refine bodyPost_ret (v := .agg #[.int .i64 id, .int .i64 r6, .int .i64 r2, .int .i64 r3, .int .i64 r4]) (by simp [results, Try.results32, go_sem, *]) rfl ⟨⟨id, r6, r2, r3, r4⟩, rfl, ?_, ?_⟩
    · replace hc6 := hc6.up (show _ ≤ B + 20 by omega)
      (repeat' (first | (with_reducible assumption) | (refine cur_set ?_ (by with_reducible assumption) (by with_reducible assumption))))
    · (repeat' (first | (with_reducible assumption) | (refine gro_new ?_ (by with_reducible assumption))))
  have f1 : (r5 == 1) = false := by simpa using e1
  clear e1
  by_cases e2 : r5 = 2
  · subst e2
    go_wp2_with fail
    refine (amongC W g A n c cs (B + 2 + 2 + 2 + 2 + 2) _ 2 2 [-1, 51] _ hC (hc5.kept (bel_alloc (bel_refl _))) (by omega) (lit_sl rfl rfl (by simp [maxLen]) rfl) (by omega) (ne_lit hc5.lt)).mono ?_
    rintro _ w6 ⟨r6, rfl, -, hc6, hg6⟩
    replace hp0 := blk_gro (blk_bel hp0 (bel_alloc (bel_refl _))) hg6 hpg
    replace hq0 := blk_gro (blk_bel hq0 (bel_alloc (bel_refl _))) hg6 hqg
    replace hG := gro_trans (gro_trans hG (gro_bel (bel_alloc (bel_refl w5)))) hg6
    obtain ⟨⟨d0, d1, d2, d3, d4⟩, dz⟩ := cells5 hq0; obtain ⟨⟨k0, k1, k2, k3, k4⟩, kz⟩ := cells5 hp0; clear hp0 hq0; go_wp2_with fail
    refine bodyPost_ret (v := .agg #[.int .i64 id, .int .i64 r1, .int .i64 r6, .int .i64 r3, .int .i64 r4]) (by simp [results, Try.results32, go_sem, *]) rfl ⟨⟨id, r1, r6, r3, r4⟩, rfl, ?_, ?_⟩
    · replace hc6 := hc6.up (show _ ≤ B + 20 by omega)
      (repeat' (first | (with_reducible assumption) | (refine cur_set ?_ (by with_reducible assumption) (by with_reducible assumption))))
    · (repeat' (first | (with_reducible assumption) | (refine gro_new ?_ (by with_reducible assumption))))
  have f2 : (r5 == 2) = false := by simpa using e2
  clear e2
  by_cases e3 : r5 = 3
  · subst e3
    go_wp2_with fail
    refine (amongC W g A n c cs (B + 2 + 2 + 2 + 2 + 2) _ 2 2 [0, 25] _ hC (hc5.kept (bel_alloc (bel_refl _))) (by omega) (lit_sl rfl rfl (by simp [maxLen]) rfl) (by omega) (ne_lit hc5.lt)).mono ?_
    rintro _ w6 ⟨r6, rfl, -, hc6, hg6⟩
    replace hp0 := blk_gro (blk_bel hp0 (bel_alloc (bel_refl _))) hg6 hpg
    replace hq0 := blk_gro (blk_bel hq0 (bel_alloc (bel_refl _))) hg6 hqg
    replace hG := gro_trans (gro_trans hG (gro_bel (bel_alloc (bel_refl w5)))) hg6
    obtain ⟨⟨d0, d1, d2, d3, d4⟩, dz⟩ := cells5 hq0; obtain ⟨⟨k0, k1, k2, k3, k4⟩, kz⟩ := cells5 hp0; clear hp0 hq0; go_wp2_with fail
    refine bodyPost_ret (v := .agg #[.int .i64 id, .int .i64 r1, .int .i64 r2, .int .i64 r6, .int .i64 r4]) (by simp [results, Try.results32, go_sem, *]) rfl ⟨⟨id, r1, r2, r6, r4⟩, rfl, ?_, ?_⟩
    · replace hc6 := hc6.up (show _ ≤ B + 20 by omega)
      (repeat' (first | (with_reducible assumption) | (refine cur_set ?_ (by with_reducible assumption) (by with_reducible assumption))))
    · (repeat' (first | (with_reducible assumption) | (refine gro_new ?_ (by with_reducible assumption))))
  have f3 : (r5 == 3) = false := by simpa using e3
  clear e3
  by_cases e4 : r5 = 4
  · subst e4
    obtain ⟨⟨a0, a1, a2, a3, a4⟩, az⟩ := cells5 hq0
    go_wp2_with fail
    clear a0 a1 a2 a3 a4 az
    refine (amongC W g A n c cs (B + 2 + 2 + 2 + 2 + 2) _ 2 2 [-1, 25 - r3] _ hC (hc5.kept (bel_alloc (bel_refl _))) (by omega) (lit_sl rfl rfl (by simp [maxLen]) rfl) (by omega) (ne_lit hc5.lt)).mono ?_
    rintro _ w6 ⟨r6, rfl, -, hc6, hg6⟩
    replace hp0 := blk_gro (blk_bel hp0 (bel_alloc (bel_refl _))) hg6 hpg
    replace hq0 := blk_gro (blk_bel hq0 (bel_alloc (bel_refl _))) hg6 hqg
    replace hG := gro_trans (gro_trans hG (gro_bel (bel_alloc (bel_refl w5)))) hg6
    obtain ⟨⟨d0, d1, d2, d3, d4⟩, dz⟩ := cells5 hq0; obtain ⟨⟨k0, k1, k2, k3, k4⟩, kz⟩ := cells5 hp0; clear hp0 hq0; go_wp2_with fail
    refine bodyPost_ret (v := .agg #[.int .i64 id, .int .i64 r1, .int .i64 r2, .int .i64 r3, .int .i64 r6]) (by simp [results, Try.results32, go_sem, *]) rfl ⟨⟨id, r1, r2, r3, r6⟩, rfl, ?_, ?_⟩
    · replace hc6 := hc6.up (show _ ≤ B + 20 by omega)
      (repeat' (first | (with_reducible assumption) | (refine cur_set ?_ (by with_reducible assumption) (by with_reducible assumption))))
    · (repeat' (first | (with_reducible assumption) | (refine gro_new ?_ (by with_reducible assumption))))
  have f4 : (r5 == 4) = false := by simpa using e4
  clear e4
  obtain ⟨⟨d0, d1, d2, d3, d4⟩, dz⟩ := cells5 hq0; obtain ⟨⟨k0, k1, k2, k3, k4⟩, kz⟩ := cells5 hp0; clear hp0 hq0; go_wp2_with fail
  refine bodyPost_ret (v := .agg #[.int .i64 id, .int .i64 r1, .int .i64 r2, .int .i64 r3, .int .i64 r4]) (by simp [results, Try.results32, go_sem, *]) rfl ⟨⟨id, r1, r2, r3, r4⟩, rfl, ?_, ?_⟩
  · replace hc5 := hc5.up (show _ ≤ B + 20 by omega)
    (repeat' (first | (with_reducible assumption) | (refine cur_set ?_ (by with_reducible assumption) (by with_reducible assumption))))
  · (repeat' (first | (with_reducible assumption) | (refine gro_new ?_ (by with_reducible assumption))))
end Go.Proofs.Ythbjgccldoofgaa
