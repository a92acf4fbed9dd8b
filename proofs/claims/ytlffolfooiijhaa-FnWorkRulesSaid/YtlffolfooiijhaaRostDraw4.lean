/-
  What the laws on work rules draw: walked (the rest).
-/
import Derived.Test.YtlffolfooiijhaaRostDraw3
namespace Go.Proofs.Ytlffolfooiijhaa
open Go.RowKit

theorem own_set_far {w : World} {g o base : Nat} {x v : Value} {e : TypeId} {k m : Nat} {L : List Value} (h : w.ownsRow base e k v m L) (hb : g < base) : (w.setCell ⟨g, o, none⟩ x).ownsRow base e k v m L := own_gro h (gro_set w g o x) hb
set_option maxHeartbeats 4000000 in
set_option maxRecDepth 100000 in
theorem drawMay (A : Option Addr) (n c : Nat) (cs : List Int) (w : World) (hC : Code w A n c cs) :
    Calls Try.prog 27 #[.slice A n c] w fun e w' => ∃ (A' : Option Addr) (m c' : Nat) (xs : List Duty) (r : WorkRule) (d : Duty), e = .returned (.tuple #[.slice A' m c', .agg #[.int .i64 r.work, .int .i64 r.rest, .int .i64 r.span, .int .i64 r.most], .agg #[.int .i64 d.crew, .int .i64 d.fr, .int .i64 d.til]]) ∧ Own w.heap.size w'.heap.size w' 30 3 A' m c' (xs.flatMap Duty.row) ∧ m ≤ 14 ∧ Below w.heap.size w w' := by
  have hp0 := heap_alloc_new w (.cells #[.int .i64 0, .int .i64 0, .int .i64 0, .int .i64 0] 53)
  have hd0 := heap_alloc_new (w.alloc (.cells #[.int .i64 0, .int .i64 0, .int .i64 0, .int .i64 0] 53)) (.cells #[.int .i64 0, .int .i64 0, .int .i64 0] 30)
  have hs1 : (w.alloc (.cells #[.int .i64 0, .int .i64 0, .int .i64 0, .int .i64 0] 53)).heap.size = w.heap.size + 1 := by simp
  have hs2 : ((w.alloc (.cells #[.int .i64 0, .int .i64 0, .int .i64 0, .int .i64 0] 53)).alloc (.cells #[.int .i64 0, .int .i64 0, .int .i64 0] 30)).heap.size = w.heap.size + 1 + 1 := by simp
  rw [hs1] at hd0
  have hst : Cur w (w.heap.size + 1 + 1) A n c 0 (((w.alloc (.cells #[.int .i64 0, .int .i64 0, .int .i64 0, .int .i64 0] 53)).alloc (.cells #[.int .i64 0, .int .i64 0, .int .i64 0] 30)).alloc (.cells #[.slice A n c, .int .i64 0, .int .u64 0] 79)) := by
    have := code_start (A := A) (n := n) (c := c) (B := 0) (bel_alloc (o := .cells #[.int .i64 0, .int .i64 0, .int .i64 0] 30) (bel_alloc (o := .cells #[.int .i64 0, .int .i64 0, .int .i64 0, .int .i64 0] 53) (bel_refl w)))
    rw [hs2] at this
    exact this
  replace hp0 := blk_bel hp0 (bel_alloc (o := .cells #[.int .i64 0, .int .i64 0, .int .i64 0] 30) (bel_refl _))
  clear hs1 hs2
  go_enter Try.func27, Try.ntmps27
  go_wp2_with fail
  refine (rosterC w (w.heap.size + 1 + 1) A n c cs 0 _ hC hst (by omega)).mono ?_
  rintro _ w1 ⟨A', m, c', xs, rfl, hO, hm, hc1, hg1⟩
  replace hp0 := blk_gro (blk_bel hp0 (bel_alloc (o := .cells #[.slice A n c, .int .i64 0, .int .u64 0] 79) (bel_refl _))) hg1 (by intro e; injection e with e; omega)
  replace hd0 := blk_gro (blk_bel hd0 (bel_alloc (o := .cells #[.slice A n c, .int .i64 0, .int .u64 0] 79) (bel_refl _))) hg1 (by intro e; injection e with e; omega)
  have hO1 := own_low hO.own (show w.heap.size + 1 + 1 + 1 ≤ _ by simp)
  clear hO hg1 hst
  go_wp2_with fail
  refine (workRuleC w (w.heap.size + 1 + 1) A n c cs _ w1 hC hc1 (by omega)).mono ?_
  rintro _ w2 ⟨r, rfl, hc2, hg2⟩
  replace hp0 := blk_bel (blk_gro hp0 hg2 (by intro e; injection e with e; omega)) (bel_alloc (o := .cells #[.int .i64 r.work, .int .i64 r.rest, .int .i64 r.span, .int .i64 r.most] 53) (bel_refl _))
  replace hd0 := blk_bel (blk_gro hd0 hg2 (by intro e; injection e with e; omega)) (bel_alloc (o := .cells #[.int .i64 r.work, .int .i64 r.rest, .int .i64 r.span, .int .i64 r.most] 53) (bel_refl _))
  have hq0 := heap_alloc_new w2 (.cells #[.int .i64 r.work, .int .i64 r.rest, .int .i64 r.span, .int .i64 r.most] 53)
  have hO2 := own_bel (own_gro hO1 hg2 (by simp)) (bel_alloc (o := .cells #[.int .i64 r.work, .int .i64 r.rest, .int .i64 r.span, .int .i64 r.most] 53) (bel_refl _))
  have hc3 := hc2.kept (bel_alloc (o := .cells #[.int .i64 r.work, .int .i64 r.rest, .int .i64 r.span, .int .i64 r.most] 53) (bel_refl _))
  have hq1 : w.heap.size + 1 + 1 < w2.heap.size := hc2.lt
  clear hO1 hg2 hc1 hc2
  go_wp2_with fail
  have hz3 : (w2.alloc (.cells #[.int .i64 r.work, .int .i64 r.rest, .int .i64 r.span, .int .i64 r.most] 53)).heap.size = w2.heap.size + 1 := by simp
  obtain ⟨w3, hw3⟩ : ∃ w3, w2.alloc (.cells #[.int .i64 r.work, .int .i64 r.rest, .int .i64 r.span, .int .i64 r.most] 53) = w3 := ⟨_, rfl⟩
  obtain ⟨q, hq⟩ : ∃ q, w2.heap.size = q := ⟨_, rfl⟩
  rw [hw3] at hp0 hd0 hq0 hO2 hc3 hz3 ⊢
  rw [hq] at hq0 hq1 hz3 ⊢
  clear hw3 hq
  refine (amongC w (w.heap.size + 1 + 1) A n c cs _ _ 9 9 [0, 4, 9, 18, 24, 40, 60, 499, -1] _ hC (hc3.kept (bel_alloc (bel_refl _))) (by omega) (lit_sl rfl rfl (by simp [maxLen]) hz3.symm) (by omega) (ne_lit (by omega))).mono ?_
  rintro _ w4 ⟨f, rfl, hf, hc4, hg4⟩
  have hfb : -1 ≤ f ∧ f ≤ 499 := by simp at hf; omega
  replace hp0 := blk_gro (blk_bel hp0 (bel_alloc (bel_refl _))) hg4 (by intro e; injection e with e; omega)
  replace hd0 := blk_gro (blk_bel hd0 (bel_alloc (bel_refl _))) hg4 (by intro e; injection e with e; omega)
  replace hq0 := blk_gro (blk_bel hq0 (bel_alloc (bel_refl _))) hg4 (by intro e; injection e with e; omega)
  have hO4 := own_gro (own_bel hO2 (bel_alloc (bel_refl _))) hg4 (by simp)
  clear hO2 hg4 hc3 hf
  go_wp2_with fail
  refine wp_region_plan (fun w' => w'.heap[q]? = some (.cells #[.int .i64 r.work, .int .i64 r.rest, .int .i64 r.span, .int .i64 r.most] 53 (0, 0))) (.free 0 (.free 1 (.free 2 (.free 4 (.free 5 (.free 6 (.two 3 (.one 7 (.one 8 (.free 9 (.free 10 (.free 11 (.one 12 (.one 13 .stop))))))) 7 (.one 3 (.one 8 (.free 9 (.free 10 (.free 11 (.one 12 (.one 13 .stop))))))))))))))  (by kernel_rfl) (by kernel_rfl) hq0 ?_
  simp only [Plan.ops, List.getElem?_cons_zero, List.getElem?_cons_succ, Option.getD_some]
  (iterate 6 (refine p_free rfl (by intro w' hw'; obtain ⟨⟨d0, d1, d2, d3⟩, dz⟩ := cells4 hw'; (go_simp; first | done | rfl)) ?_; (try simp only [Act.put, List.setIfInBounds_toArray, List.set_cons_zero, List.set_cons_succ])))
  have hq4 := blk_bel hq0 (bel_drew (bel_refl w4))
  have hp4 := blk_bel hp0 (bel_drew (bel_refl w4))
  have hd4 := blk_bel hd0 (bel_drew (bel_refl w4))
  have hc5 := hc4.kept (bel_drew (bel_refl w4))
  have hO5 := own_bel hO4 (bel_drew (bel_refl w4))
  clear hq0 hp0 hd0 hc4 hO4
  obtain ⟨w5, hw5⟩ : ∃ w5, w4.drew = w5 := ⟨_, rfl⟩
  rw [hw5] at hq4 hp4 hd4 hc5 hO5 ⊢
  clear hw5
  refine p_two ?_ ?_
  · refine p_call rfl (by (go_simp; first | done | exact ⟨rfl, rfl⟩ | rfl)) ?_
    refine (crew11C w (w.heap.size + 1 + 1) A n c cs _ w5 hC hc5 (by omega)).mono ?_
    rintro _ w6 ⟨v, rfl, hv, hc6, hg6⟩
    replace hq4 := blk_gro hq4 hg6 (by intro e; injection e with e; omega)
    replace hp4 := blk_gro hp4 hg6 (by intro e; injection e with e; omega)
    replace hd4 := blk_gro hd4 hg6 (by intro e; injection e with e; omega)
    replace hO5 := own_gro hO5 hg6 (by simp)
    refine ⟨_, rfl, hq4, ?_⟩
    (try simp only [Act.put, List.setIfInBounds_toArray, List.set_cons_zero, List.set_cons_succ])
    refine p_val rfl (by (go_simp; first | done | rfl | exact ⟨rfl, rfl⟩)) (blk_bel hq4 (bel_alloc (bel_refl _))) ?_
    (try simp only [Act.put, List.setIfInBounds_toArray, List.set_cons_zero, List.set_cons_succ])
    refine p_call rfl (by (go_simp; first | done | exact ⟨rfl, rfl⟩ | rfl)) ?_
    refine (amongC w (w.heap.size + 1 + 1) A n c cs _ _ 4 4 [1, 4, 8, 0] _ hC (hc6.kept (bel_alloc (bel_refl _))) (by omega) (lit_sl rfl rfl (by simp [maxLen]) rfl) (by omega) (ne_lit hc6.lt)).mono ?_
    rintro _ w7 ⟨u, rfl, hu, hc7, hg7⟩
    have hub : 0 ≤ u ∧ u ≤ 8 := by simp at hu; omega
    replace hq4 := blk_gro (blk_bel hq4 (bel_alloc (bel_refl _))) hg7 (by intro e; injection e with e; omega)
    replace hp4 := blk_gro (blk_bel hp4 (bel_alloc (bel_refl _))) hg7 (by intro e; injection e with e; omega)
    replace hd4 := blk_gro (blk_bel hd4 (bel_alloc (bel_refl _))) hg7 (by intro e; injection e with e; omega)
    replace hO5 := own_gro (own_bel hO5 (bel_alloc (bel_refl _))) hg7 (by simp)
    clear hg6 hg7 hu hc5 hc6
    refine ⟨_, rfl, hq4, ?_⟩; (try simp only [Act.put, List.setIfInBounds_toArray, List.set_cons_zero, List.set_cons_succ]); (iterate 3 (refine p_free rfl (by intro w' hw'; (go_simp; first | done | rfl)) ?_; (try simp only [Act.put, List.setIfInBounds_toArray, List.set_cons_zero, List.set_cons_succ]))); obtain ⟨⟨d0, d1, d2⟩, dz⟩ := cells3 hd4; obtain ⟨⟨k0, k1, k2, k3⟩, kz⟩ := cells4 hp4; have nq1 : ¬ q = w.heap.size := (by omega); have nq2 : ¬ q = w.heap.size + 1 := (by omega); refine p_store rfl (by (go_simp; first | done | rfl)) (by (repeat' (first | (with_reducible assumption) | (refine (heap_setCell_other _ _ _ _ (by simpa using nq1)).trans ?_)))) ?_; (try simp only [Act.put]); refine p_store rfl (by (go_simp; first | done | rfl)) (by (repeat' (first | (with_reducible assumption) | (refine (heap_setCell_other _ _ _ _ (by first | (simpa using nq1) | (simpa using nq2))).trans ?_)))) ?_; (try simp only [Act.put]); refine p_stop ?_; (try simp only [Act.put, List.setIfInBounds_toArray, List.set_cons_zero, List.set_cons_succ]); go_wp2_with fail; refine bodyPost_ret (v := .tuple #[.slice A' m c', .agg #[.int .i64 r.work, .int .i64 r.rest, .int .i64 r.span, .int .i64 r.most], .agg #[.int .i64 v, .int .i64 f, .int .i64 (IntKind.i64.wrap (f + u))]]) (by simp [results, Try.results27, go_sem, *]) rfl ?_; refine ⟨A', m, c', xs, r, ⟨v, f, IntKind.i64.wrap (f + u)⟩, rfl, Own.mk_ (own_low (base := w.heap.size + 1 + 1 + 1) ?_ (by omega)), hm, ?_⟩; (iterate 7 (refine own_set_far ?_ (by omega))); exact hO5; have hb := hc7.bel; (repeat' (first | (with_reducible assumption) | (refine Below.setCell ?_ (by simp) _)))
  · refine p_val rfl (by (go_simp; first | done | rfl | exact ⟨rfl, rfl⟩)) (blk_bel hq4 (bel_alloc (bel_refl _))) ?_
    (try simp only [Act.put, List.setIfInBounds_toArray, List.set_cons_zero, List.set_cons_succ])
    refine p_call rfl (by (go_simp; first | done | exact ⟨rfl, rfl⟩ | rfl)) ?_
    have hlit : Sl (w5.alloc (.cells #[.int .i64 1, .int .i64 4, .int .i64 8, .int .i64 0] 3)) 1 (some ⟨w5.heap.size, 0, none⟩) 4 4 (ints [1, 4, 8, 0]) := lit_sl rfl rfl (by simp [maxLen]) rfl
    refine (crew11C w (w.heap.size + 1 + 1) A n c cs _ _ hC (hc5.kept (bel_alloc (bel_refl _))) (by omega)).mono ?_
    rintro _ w6 ⟨v, rfl, hv, hc6, hg6⟩
    replace hq4 := blk_gro (blk_bel hq4 (bel_alloc (bel_refl _))) hg6 (by intro e; injection e with e; omega)
    replace hp4 := blk_gro (blk_bel hp4 (bel_alloc (bel_refl _))) hg6 (by intro e; injection e with e; omega)
    replace hd4 := blk_gro (blk_bel hd4 (bel_alloc (bel_refl _))) hg6 (by intro e; injection e with e; omega)
    replace hO5 := own_gro (own_bel hO5 (bel_alloc (bel_refl _))) hg6 (by simp)
    replace hlit := hlit.gro hg6 (ne_lit hc5.lt)
    refine ⟨_, rfl, hq4, ?_⟩
    (try simp only [Act.put, List.setIfInBounds_toArray, List.set_cons_zero, List.set_cons_succ])
    refine p_call rfl (by (go_simp; first | done | exact ⟨rfl, rfl⟩ | rfl)) ?_
    refine (amongC w (w.heap.size + 1 + 1) A n c cs _ _ 4 4 [1, 4, 8, 0] _ hC hc6 (by omega) hlit (by omega) (ne_lit hc5.lt)).mono ?_
    rintro _ w7 ⟨u, rfl, hu, hc7, hg7⟩
    have hub : 0 ≤ u ∧ u ≤ 8 := by simp at hu; omega
    replace hq4 := blk_gro hq4 hg7 (by intro e; injection e with e; omega)
    replace hp4 := blk_gro hp4 hg7 (by intro e; injection e with e; omega)
    replace hd4 := blk_gro hd4 hg7 (by intro e; injection e with e; omega)
    replace hO5 := own_gro hO5 hg7 (by simp)
    clear hg6 hg7 hu hc5 hc6 hlit
    refine ⟨_, rfl, hq4, ?_⟩; (try simp only [Act.put, List.setIfInBounds_toArray, List.set_cons_zero, List.set_cons_succ]); (iterate 3 (refine p_free rfl (by intro w' hw'; (go_simp; first | done | rfl)) ?_; (try simp only [Act.put, List.setIfInBounds_toArray, List.set_cons_zero, List.set_cons_succ]))); obtain ⟨⟨d0, d1, d2⟩, dz⟩ := cells3 hd4; obtain ⟨⟨k0, k1, k2, k3⟩, kz⟩ := cells4 hp4; have nq1 : ¬ q = w.heap.size := (by omega); have nq2 : ¬ q = w.heap.size + 1 := (by omega); refine p_store rfl (by (go_simp; first | done | rfl)) (by (repeat' (first | (with_reducible assumption) | (refine (heap_setCell_other _ _ _ _ (by simpa using nq1)).trans ?_)))) ?_; (try simp only [Act.put]); refine p_store rfl (by (go_simp; first | done | rfl)) (by (repeat' (first | (with_reducible assumption) | (refine (heap_setCell_other _ _ _ _ (by first | (simpa using nq1) | (simpa using nq2))).trans ?_)))) ?_; (try simp only [Act.put]); refine p_stop ?_; (try simp only [Act.put, List.setIfInBounds_toArray, List.set_cons_zero, List.set_cons_succ]); go_wp2_with fail; refine bodyPost_ret (v := .tuple #[.slice A' m c', .agg #[.int .i64 r.work, .int .i64 r.rest, .int .i64 r.span, .int .i64 r.most], .agg #[.int .i64 v, .int .i64 f, .int .i64 (IntKind.i64.wrap (f + u))]]) (by simp [results, Try.results27, go_sem, *]) rfl ?_; refine ⟨A', m, c', xs, r, ⟨v, f, IntKind.i64.wrap (f + u)⟩, rfl, Own.mk_ (own_low (base := w.heap.size + 1 + 1 + 1) ?_ (by omega)), hm, ?_⟩; (iterate 7 (refine own_set_far ?_ (by omega))); exact hO5; have hb := hc7.bel; (repeat' (first | (with_reducible assumption) | (refine Below.setCell ?_ (by simp) _)))
end Go.Proofs.Ytlffolfooiijhaa
