/-
  Hot spots that are drawn: walked.
-/
import Derived.Test.YtkkoccllmflhfaaGreatDoorCur
import Derived.Test.YtkkoccllmflhfaaGreatDoorSpotTop
namespace Go.Proofs.YtkkoccllmflhfaaGreatDoor
open Go.RowKit

theorem cells6 {w : World} {p : Nat} {a b c d e f : Value} {T : TypeId} (h : w.heap[p]? = some (.cells #[a, b, c, d, e, f] T (0, 0))) : (w.cell? ⟨p, 0, none⟩ = some a ∧ w.cell? ⟨p, 1, none⟩ = some b ∧ w.cell? ⟨p, 2, none⟩ = some c ∧ w.cell? ⟨p, 3, none⟩ = some d ∧ w.cell? ⟨p, 4, none⟩ = some e ∧ w.cell? ⟨p, 5, none⟩ = some f) ∧ ∀ o, w.frozen? ⟨p, o, none⟩ = false :=
  ⟨⟨cell_of_row w p 0 _ _ _ h, cell_of_row w p 1 _ _ _ h, cell_of_row w p 2 _ _ _ h, cell_of_row w p 3 _ _ _ h, cell_of_row w p 4 _ _ _ h, cell_of_row w p 5 _ _ _ h⟩, fun o => frozen_of_row w p o _ _ h⟩
set_option maxHeartbeats 8000000 in
set_option maxRecDepth 100000 in
theorem hotspotC (W : World) (g : Nat) (A : Option Addr) (n c : Nat) (cs : List Int) (B : Nat) (id : Int) (w : World) (hC : Code W A n c cs) (h : Cur W g A n c B w) (hB : B ≤ 900000) :
    Calls Tryz.prog 29 #[.pointer (some ⟨g, 0, none⟩), .int .i64 id] w fun e w' => ∃ x : Hotspot, e = .returned (.agg #[.int .i64 x.id, .int .i64 x.x, .int .i64 x.y, .int .i64 x.err, .int .i64 x.tick, .int .i64 x.heat]) ∧ Cur W g A n c (B + 20) w' ∧ w.grownBy w' (some g) := by
  have hgl := h.lt
  have hp0 := heap_alloc_new w (.cells #[.int .i64 0, .int .i64 0, .int .i64 0, .int .i64 0, .int .i64 0, .int .i64 0] 25)
  have hpg : some w.heap.size ≠ some g := by simp; omega
  go_enter Tryz.func29, Tryz.ntmps29
  go_wp2_with fail
  refine (amongC W g A n c cs B _ 6 6 [0, 10, 14, 20, 60, 1000] _ hC (h.kept (bel_alloc (bel_alloc (bel_refl _)))) (by omega) (lit_sl rfl rfl (by simp [maxLen]) (by simp)) (by omega) (ne_lit (by omega))).mono ?_
  rintro _ w1 ⟨r1, rfl, -, hc1, hg1⟩
  replace hp0 := blk_gro (blk_bel hp0 (bel_alloc (bel_refl _))) hg1 hpg
  have hG := gro_trans (gro_bel (r := some g) (bel_alloc (bel_alloc (bel_refl w)))) hg1
  clear hg1
  go_wp2_with fail
  refine (amongC W g A n c cs (B + 2) _ 5 5 [0, 10, 13, 50, 1000] _ hC (hc1.kept (bel_alloc (bel_refl _))) (by omega) (lit_sl rfl rfl (by simp [maxLen]) rfl) (by omega) (ne_lit hc1.lt)).mono ?_
  rintro _ w2 ⟨r2, rfl, -, hc2, hg2⟩
  replace hp0 := blk_gro (blk_bel hp0 (bel_alloc (bel_refl _))) hg2 hpg
  replace hG := gro_trans (gro_trans hG (gro_bel (bel_alloc (bel_refl w1)))) hg2
  clear hg2
  go_wp2_with fail
  refine (amongC W g A n c cs (B + 2 + 2) _ 5 5 [0, 1, 2, 5, 50] _ hC (hc2.kept (bel_alloc (bel_refl _))) (by omega) (lit_sl rfl rfl (by simp [maxLen]) rfl) (by omega) (ne_lit hc2.lt)).mono ?_
  rintro _ w3 ⟨r3, rfl, -, hc3, hg3⟩
  replace hp0 := blk_gro (blk_bel hp0 (bel_alloc (bel_refl _))) hg3 hpg
  replace hG := gro_trans (gro_trans hG (gro_bel (bel_alloc (bel_refl w2)))) hg3
  clear hg3
  go_wp2_with fail
  refine (amongC W g A n c cs (B + 2 + 2 + 2) _ 5 5 [0, 5, 5, 100, 9999] _ hC (hc3.kept (bel_alloc (bel_refl _))) (by omega) (lit_sl rfl rfl (by simp [maxLen]) rfl) (by omega) (ne_lit hc3.lt)).mono ?_
  rintro _ w4 ⟨r4, rfl, -, hc4, hg4⟩
  replace hp0 := blk_gro (blk_bel hp0 (bel_alloc (bel_refl _))) hg4 hpg
  replace hG := gro_trans (gro_trans hG (gro_bel (bel_alloc (bel_refl w3)))) hg4
  clear hg4
  go_wp2_with fail
  refine (amongC W g A n c cs (B + 2 + 2 + 2 + 2) _ 5 5 [1, 10, 10, 300, 1000] _ hC (hc4.kept (bel_alloc (bel_refl _))) (by omega) (lit_sl rfl rfl (by simp [maxLen]) rfl) (by omega) (ne_lit hc4.lt)).mono ?_
  rintro _ w5 ⟨r5, rfl, -, hc5, hg5⟩
  replace hp0 := blk_gro (blk_bel hp0 (bel_alloc (bel_refl _))) hg5 hpg
  replace hG := gro_trans (gro_trans hG (gro_bel (bel_alloc (bel_refl w4)))) hg5
  clear hg5
  go_wp2_with fail
  have hq0 := heap_alloc_new w5 (.cells #[.int .i64 id, .int .i64 r1, .int .i64 r2, .int .i64 r3, .int .i64 r4, .int .i64 r5] 25)
  have hqg : some w5.heap.size ≠ some g := by have := hc5.lt; simp; omega
  have hqp : w.heap.size ≠ w5.heap.size := by have := lt_of_block hp0; omega
  have hWp : W.heap.size ≤ w.heap.size := h.bel.size
  have hWq : W.heap.size ≤ w5.heap.size := hc5.bel.size
  have hqw : w.heap.size ≤ w5.heap.size := hG.size
  refine (pickC W g A n c cs (B + 2 + 2 + 2 + 2 + 2) 70 _ hC (hc5.kept (bel_alloc (bel_refl _))) (by omega) (by omega)).mono ?_
  rintro _ w6 ⟨r6, rfl, -, hc6, hg6⟩
  replace hp0 := blk_gro (blk_bel hp0 (bel_alloc (bel_refl _))) hg6 hpg
  replace hq0 := blk_gro hq0 hg6 hqg
  replace hG := gro_trans (gro_trans hG (gro_bel (bel_alloc (bel_refl w5)))) hg6
  obtain ⟨p, hp⟩ : ∃ p, w.heap.size = p := ⟨_, rfl⟩
  obtain ⟨q, hq⟩ : ∃ q, w5.heap.size = q := ⟨_, rfl⟩
  rw [hp] at hp0 hpg hqp hWp hqw ⊢
  rw [hq] at hq0 hqg hqp hWq hqw ⊢
  have hpw : w.heap.size ≤ p := by omega
  replace hqw : w.heap.size ≤ q := by omega
  clear hg6 hp hq hc1 hc2 hc3 hc4 hc5
  have hqg2 : q ≠ g := by simpa using hqg
  have hpg2 : p ≠ g := by simpa using hpg
  by_cases e0 : r6 = 0
  · subst e0
    go_wp2_with fail
    refine (amongC W g A n c cs (B + 2 + 2 + 2 + 2 + 2 + 2) _ 3 3 [0, 999, 1000] _ hC (hc6.kept (bel_alloc (bel_refl _))) (by omega) (lit_sl rfl rfl (by simp [maxLen]) rfl) (by omega) (ne_lit hc6.lt)).mono ?_
    rintro _ w7 ⟨r7, rfl, -, hc7, hg7⟩
    replace hp0 := blk_gro (blk_bel hp0 (bel_alloc (bel_refl _))) hg7 hpg
    replace hq0 := blk_gro (blk_bel hq0 (bel_alloc (bel_refl _))) hg7 hqg
    replace hG := gro_trans (gro_trans hG (gro_bel (bel_alloc (bel_refl w6)))) hg7
    obtain ⟨⟨d0, d1, d2, d3, d4, d5⟩, dz⟩ := cells6 hq0; obtain ⟨⟨k0, k1, k2, k3, k4, k5⟩, kz⟩ := cells6 hp0; clear hp0 hq0; go_wp2_with fail
    refine bodyPost_ret (v := .agg #[.int .i64 r7, .int .i64 r1, .int .i64 r2, .int .i64 r3, .int .i64 r4, .int .i64 r5]) (by simp [results, Tryz.results29, go_sem, *]) rfl ⟨⟨r7, r1, r2, r3, r4, r5⟩, rfl, ?_, ?_⟩
    · replace hc7 := hc7.up (show _ ≤ B + 20 by omega)
      (repeat' (first | (with_reducible assumption) | (refine cur_set ?_ (by with_reducible assumption) (by with_reducible assumption))))
    · (repeat' (first | (with_reducible assumption) | (refine gro_new ?_ (by with_reducible assumption))))
  have f0 : (r6 == 0) = false := by simpa using e0
  clear e0
  by_cases e1 : r6 = 1
  · subst e1
    go_wp2_with fail
    refine (amongC W g A n c cs (B + 2 + 2 + 2 + 2 + 2 + 2) _ 2 2 [-1, 1001] _ hC (hc6.kept (bel_alloc (bel_refl _))) (by omega) (lit_sl rfl rfl (by simp [maxLen]) rfl) (by omega) (ne_lit hc6.lt)).mono ?_
    rintro _ w7 ⟨r7, rfl, -, hc7, hg7⟩
    replace hp0 := blk_gro (blk_bel hp0 (bel_alloc (bel_refl _))) hg7 hpg
    replace hq0 := blk_gro (blk_bel hq0 (bel_alloc (bel_refl _))) hg7 hqg
    replace hG := gro_trans (gro_trans hG (gro_bel (bel_alloc (bel_refl w6)))) hg7
    obtain ⟨⟨d0, d1, d2, d3, d4, d5⟩, dz⟩ := cells6 hq0; obtain ⟨⟨k0, k1, k2, k3, k4, k5⟩, kz⟩ := cells6 hp0; clear hp0 hq0; go_wp2_with fail
    refine bodyPost_ret (v := .agg #[.int .i64 id, .int .i64 r7, .int .i64 r2, .int .i64 r3, .int .i64 r4, .int .i64 r5]) (by simp [results, Tryz.results29, go_sem, *]) rfl ⟨⟨id, r7, r2, r3, r4, r5⟩, rfl, ?_, ?_⟩
    · replace hc7 := hc7.up (show _ ≤ B + 20 by omega)
      (repeat' (first | (with_reducible assumption) | (refine cur_set ?_ (by with_reducible assumption) (by with_reducible assumption))))
    · (repeat' (first | (with_reducible assumption) | (refine gro_new ?_ (by with_reducible assumption))))
  have f1 : (r6 == 1) = false := by simpa using e1
  clear e1
  by_cases e2 : r6 = 2
  · subst e2
    go_wp2_with fail
    refine (amongC W g A n c cs (B + 2 + 2 + 2 + 2 + 2 + 2) _ 2 2 [-1, 1001] _ hC (hc6.kept (bel_alloc (bel_refl _))) (by omega) (lit_sl rfl rfl (by simp [maxLen]) rfl) (by omega) (ne_lit hc6.lt)).mono ?_
    rintro _ w7 ⟨r7, rfl, -, hc7, hg7⟩
    replace hp0 := blk_gro (blk_bel hp0 (bel_alloc (bel_refl _))) hg7 hpg
    replace hq0 := blk_gro (blk_bel hq0 (bel_alloc (bel_refl _))) hg7 hqg
    replace hG := gro_trans (gro_trans hG (gro_bel (bel_alloc (bel_refl w6)))) hg7
    obtain ⟨⟨d0, d1, d2, d3, d4, d5⟩, dz⟩ := cells6 hq0; obtain ⟨⟨k0, k1, k2, k3, k4, k5⟩, kz⟩ := cells6 hp0; clear hp0 hq0; go_wp2_with fail
    refine bodyPost_ret (v := .agg #[.int .i64 id, .int .i64 r1, .int .i64 r7, .int .i64 r3, .int .i64 r4, .int .i64 r5]) (by simp [results, Tryz.results29, go_sem, *]) rfl ⟨⟨id, r1, r7, r3, r4, r5⟩, rfl, ?_, ?_⟩
    · replace hc7 := hc7.up (show _ ≤ B + 20 by omega)
      (repeat' (first | (with_reducible assumption) | (refine cur_set ?_ (by with_reducible assumption) (by with_reducible assumption))))
    · (repeat' (first | (with_reducible assumption) | (refine gro_new ?_ (by with_reducible assumption))))
  have f2 : (r6 == 2) = false := by simpa using e2
  clear e2
  by_cases e3 : r6 = 3
  · subst e3
    go_wp2_with fail
    refine (amongC W g A n c cs (B + 2 + 2 + 2 + 2 + 2 + 2) _ 2 2 [-1, 51] _ hC (hc6.kept (bel_alloc (bel_refl _))) (by omega) (lit_sl rfl rfl (by simp [maxLen]) rfl) (by omega) (ne_lit hc6.lt)).mono ?_
    rintro _ w7 ⟨r7, rfl, -, hc7, hg7⟩
    replace hp0 := blk_gro (blk_bel hp0 (bel_alloc (bel_refl _))) hg7 hpg
    replace hq0 := blk_gro (blk_bel hq0 (bel_alloc (bel_refl _))) hg7 hqg
    replace hG := gro_trans (gro_trans hG (gro_bel (bel_alloc (bel_refl w6)))) hg7
    obtain ⟨⟨d0, d1, d2, d3, d4, d5⟩, dz⟩ := cells6 hq0; obtain ⟨⟨k0, k1, k2, k3, k4, k5⟩, kz⟩ := cells6 hp0; clear hp0 hq0; go_wp2_with fail
    refine bodyPost_ret (v := .agg #[.int .i64 id, .int .i64 r1, .int .i64 r2, .int .i64 r7, .int .i64 r4, .int .i64 r5]) (by simp [results, Tryz.results29, go_sem, *]) rfl ⟨⟨id, r1, r2, r7, r4, r5⟩, rfl, ?_, ?_⟩
    · replace hc7 := hc7.up (show _ ≤ B + 20 by omega)
      (repeat' (first | (with_reducible assumption) | (refine cur_set ?_ (by with_reducible assumption) (by with_reducible assumption))))
    · (repeat' (first | (with_reducible assumption) | (refine gro_new ?_ (by with_reducible assumption))))
  have f3 : (r6 == 3) = false := by simpa using e3
  clear e3
  by_cases e4 : r6 = 4
  · subst e4
    go_wp2_with fail
    refine (amongC W g A n c cs (B + 2 + 2 + 2 + 2 + 2 + 2) _ 2 2 [-1, 10000] _ hC (hc6.kept (bel_alloc (bel_refl _))) (by omega) (lit_sl rfl rfl (by simp [maxLen]) rfl) (by omega) (ne_lit hc6.lt)).mono ?_
    rintro _ w7 ⟨r7, rfl, -, hc7, hg7⟩
    replace hp0 := blk_gro (blk_bel hp0 (bel_alloc (bel_refl _))) hg7 hpg
    replace hq0 := blk_gro (blk_bel hq0 (bel_alloc (bel_refl _))) hg7 hqg
    replace hG := gro_trans (gro_trans hG (gro_bel (bel_alloc (bel_refl w6)))) hg7
    obtain ⟨⟨d0, d1, d2, d3, d4, d5⟩, dz⟩ := cells6 hq0; obtain ⟨⟨k0, k1, k2, k3, k4, k5⟩, kz⟩ := cells6 hp0; clear hp0 hq0; go_wp2_with fail
    refine bodyPost_ret (v := .agg #[.int .i64 id, .int .i64 r1, .int .i64 r2, .int .i64 r3, .int .i64 r7, .int .i64 r5]) (by simp [results, Tryz.results29, go_sem, *]) rfl ⟨⟨id, r1, r2, r3, r7, r5⟩, rfl, ?_, ?_⟩
    · replace hc7 := hc7.up (show _ ≤ B + 20 by omega)
      (repeat' (first | (with_reducible assumption) | (refine cur_set ?_ (by with_reducible assumption) (by with_reducible assumption))))
    · (repeat' (first | (with_reducible assumption) | (refine gro_new ?_ (by with_reducible assumption))))
  have f4 : (r6 == 4) = false := by simpa using e4
  clear e4
  by_cases e5 : r6 = 5
  · subst e5
    go_wp2_with fail
    refine (amongC W g A n c cs (B + 2 + 2 + 2 + 2 + 2 + 2) _ 2 2 [0, 1001] _ hC (hc6.kept (bel_alloc (bel_refl _))) (by omega) (lit_sl rfl rfl (by simp [maxLen]) rfl) (by omega) (ne_lit hc6.lt)).mono ?_
    rintro _ w7 ⟨r7, rfl, -, hc7, hg7⟩
    replace hp0 := blk_gro (blk_bel hp0 (bel_alloc (bel_refl _))) hg7 hpg
    replace hq0 := blk_gro (blk_bel hq0 (bel_alloc (bel_refl _))) hg7 hqg
    replace hG := gro_trans (gro_trans hG (gro_bel (bel_alloc (bel_refl w6)))) hg7
    obtain ⟨⟨d0, d1, d2, d3, d4, d5⟩, dz⟩ := cells6 hq0; obtain ⟨⟨k0, k1, k2, k3, k4, k5⟩, kz⟩ := cells6 hp0; clear hp0 hq0; go_wp2_with fail
    refine bodyPost_ret (v := .agg #[.int .i64 id, .int .i64 r1, .int .i64 r2, .int .i64 r3, .int .i64 r4, .int .i64 r7]) (by simp [results, Tryz.results29, go_sem, *]) rfl ⟨⟨id, r1, r2, r3, r4, r7⟩, rfl, ?_, ?_⟩
    · replace hc7 := hc7.up (show _ ≤ B + 20 by omega)
      (repeat' (first | (with_reducible assumption) | (refine cur_set ?_ (by with_reducible assumption) (by with_reducible assumption))))
    · (repeat' (first | (with_reducible assumption) | (refine gro_new ?_ (by with_reducible assumption))))
  have f5 : (r6 == 5) = false := by simpa using e5
  clear e5
  obtain ⟨⟨d0, d1, d2, d3, d4, d5⟩, dz⟩ := cells6 hq0; obtain ⟨⟨k0, k1, k2, k3, k4, k5⟩, kz⟩ := cells6 hp0; clear hp0 hq0; go_wp2_with fail
  refine bodyPost_ret (v := .agg #[.int .i64 id, .int .i64 r1, .int .i64 r2, .int .i64 r3, .int .i64 r4, .int .i64 r5]) (by simp [results, Tryz.results29, go_sem, *]) rfl ⟨⟨id, r1, r2, r3, r4, r5⟩, rfl, ?_, ?_⟩
  · replace hc6 := hc6.up (show _ ≤ B + 20 by omega)
    (repeat' (first | (with_reducible assumption) | (refine cur_set ?_ (by with_reducible assumption) (by with_reducible assumption))))
  · (repeat' (first | (with_reducible assumption) | (refine gro_new ?_ (by with_reducible assumption))))
end Go.Proofs.YtkkoccllmflhfaaGreatDoor
