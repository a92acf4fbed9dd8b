/-
  Single hot spots that are drawn: walked.
-/
import Derived.Test.YtkkoccllmflhfaaGreatDoorSpotDraw
import Derived.Test.YtkkoccllmflhfaaGreatDoorSpotTxt
import Derived.Test.YtkkoccllmflhfaaGreatDoorParseI
namespace Go.Proofs.YtkkoccllmflhfaaGreatDoor
open Go.RowKit

theorem code_startZ {W : World} {A : Option Addr} {n c : Nat} {B : Nat} {w : World} (hb : Below W.heap.size W w) : Cur W w.heap.size A n c B (w.alloc (.cells #[.slice A n c, .int .i64 0, .int .u64 0] 54)) :=
  ⟨bel_alloc hb, hb.size, 0, 0, heap_alloc_new w _, by omega, by omega, by omega⟩
set_option maxHeartbeats 4000000 in
set_option maxRecDepth 100000 in
theorem drawIs (A : Option Addr) (n c : Nat) (cs : List Int) (w : World) (hC : Code w A n c cs) :
    Calls Tryz.prog 20 #[.slice A n c] w fun e w' => ∃ x : Hotspot, e = .returned (.agg #[.int .i64 x.id, .int .i64 x.x, .int .i64 x.y, .int .i64 x.err, .int .i64 x.tick, .int .i64 x.heat]) ∧ Below w.heap.size w w' := by
  have hp0 := heap_alloc_new w (.cells #[.int .i64 0, .int .i64 0, .int .i64 0, .int .i64 0, .int .i64 0, .int .i64 0] 25)
  have hst : Cur w (w.heap.size + 1) A n c 0 ((w.alloc (.cells #[.int .i64 0, .int .i64 0, .int .i64 0, .int .i64 0, .int .i64 0, .int .i64 0] 25)).alloc (.cells #[.slice A n c, .int .i64 0, .int .u64 0] 54)) := by simpa using code_startZ (A := A) (n := n) (c := c) (B := 0) (bel_alloc (o := .cells #[.int .i64 0, .int .i64 0, .int .i64 0, .int .i64 0, .int .i64 0, .int .i64 0] 25) (bel_refl w))
  go_enter Tryz.func20, Tryz.ntmps20
  go_wp2_with fail
  refine (amongC w (w.heap.size + 1) A n c cs 0 _ 3 3 [1, 7, 999] _ hC (hst.kept (bel_alloc (bel_refl _))) (by omega) (lit_sl rfl rfl (by simp [maxLen]) (by simp)) (by omega) (ne_lit (by simp))).mono ?_
  rintro _ w1 ⟨r1, rfl, -, hc1, hg1⟩
  replace hp0 := blk_gro (blk_bel (blk_bel hp0 (bel_alloc (o := .cells #[.slice A n c, .int .i64 0, .int .u64 0] 54) (bel_refl _))) (bel_alloc (bel_refl _))) hg1 (by simp)
  clear hg1 hst
  go_wp2_with fail
  refine (hotspotC w (w.heap.size + 1) A n c cs _ _ _ hC hc1 (by omega)).mono ?_
  rintro _ w2 ⟨x, rfl, hc2, hg2⟩
  replace hp0 := blk_gro hp0 hg2 (by simp)
  have hb := hc2.bel
  clear hg2 hc1 hc2
  obtain ⟨p, hp⟩ : ∃ p, w.heap.size = p := ⟨_, rfl⟩
  have hwp : w.heap.size ≤ p := by omega
  rw [hp] at hp0 ⊢
  clear hp
  obtain ⟨⟨k0, k1, k2, k3, k4, k5⟩, kz⟩ := cells6 hp0
  clear hp0
  go_wp2_with fail
  refine bodyPost_ret (v := .agg #[.int .i64 x.id, .int .i64 x.x, .int .i64 x.y, .int .i64 x.err, .int .i64 x.tick, .int .i64 x.heat]) (by simp [results, Tryz.results20, go_sem, *]) rfl ⟨x, rfl, ?_⟩
  (repeat' (first | (with_reducible assumption) | (refine bel_set ?_ (by with_reducible assumption))))
set_option maxRecDepth 100000 in
theorem drawSpot (A : Option Addr) (n c : Nat) (cs : List Int) (w : World) (hC : Code w A n c cs) :
    Calls Tryz.prog 5 #[.slice A n c] w fun e w' => ∃ x : Hotspot, e = .returned (.agg #[.int .i64 x.id, .int .i64 x.x, .int .i64 x.y, .int .i64 x.err, .int .i64 x.tick, .int .i64 x.heat]) ∧ Below w.heap.size w w' := by
  have hp0 := heap_alloc_new w (.cells #[.int .i64 0, .int .i64 0, .int .i64 0, .int .i64 0, .int .i64 0, .int .i64 0] 25)
  have hl := bel_alloc (o := .cells #[.int .i64 0, .int .i64 0, .int .i64 0, .int .i64 0, .int .i64 0, .int .i64 0] 25) (bel_refl w)
  go_enter Tryz.func5, Tryz.ntmps5
  go_wp2_with fail
  refine (drawIs A n c cs _ (hC.bel hl)).mono ?_
  rintro _ w1 ⟨x, rfl, hb⟩
  replace hp0 := blk_bel hp0 hb
  replace hb := bel_trans hl hb
  obtain ⟨p, hp⟩ : ∃ p, w.heap.size = p := ⟨_, rfl⟩
  have hwp : w.heap.size ≤ p := by omega
  rw [hp] at hp0 ⊢
  clear hp hl
  obtain ⟨⟨k0, k1, k2, k3, k4, k5⟩, kz⟩ := cells6 hp0
  clear hp0
  go_wp2_with fail
  refine bodyPost_ret (v := .agg #[.int .i64 x.id, .int .i64 x.x, .int .i64 x.y, .int .i64 x.err, .int .i64 x.tick, .int .i64 x.heat]) (by simp [results, Tryz.results5, go_sem, *]) rfl ⟨x, rfl, ?_⟩
  (repeat' (first | (with_reducible assumption) | (refine bel_set ?_ (by with_reducible assumption))))
set_option maxHeartbeats 4000000 in
set_option maxRecDepth 100000 in
theorem drawMay (A : Option Addr) (n c : Nat) (cs : List Int) (w : World) (hC : Code w A n c cs) :
    Calls Tryz.prog 12 #[.slice A n c] w fun e w' => ∃ a b : Hotspot, e = .returned (.tuple #[.agg #[.int .i64 a.id, .int .i64 a.x, .int .i64 a.y, .int .i64 a.err, .int .i64 a.tick, .int .i64 a.heat], .agg #[.int .i64 b.id, .int .i64 b.x, .int .i64 b.y, .int .i64 b.err, .int .i64 b.tick, .int .i64 b.heat]]) ∧ Below w.heap.size w w' := by
  have hp0 := heap_alloc_new w (.cells #[.int .i64 0, .int .i64 0, .int .i64 0, .int .i64 0, .int .i64 0, .int .i64 0] 25)
  have hq0 := heap_alloc_new (w.alloc (.cells #[.int .i64 0, .int .i64 0, .int .i64 0, .int .i64 0, .int .i64 0, .int .i64 0] 25)) (.cells #[.int .i64 0, .int .i64 0, .int .i64 0, .int .i64 0, .int .i64 0, .int .i64 0] 25)
  rw [show (w.alloc (.cells #[.int .i64 0, .int .i64 0, .int .i64 0, .int .i64 0, .int .i64 0, .int .i64 0] 25)).heap.size = w.heap.size + 1 by simp] at hq0
  have hst : Cur w (w.heap.size + 1 + 1) A n c 0 (((w.alloc (.cells #[.int .i64 0, .int .i64 0, .int .i64 0, .int .i64 0, .int .i64 0, .int .i64 0] 25)).alloc (.cells #[.int .i64 0, .int .i64 0, .int .i64 0, .int .i64 0, .int .i64 0, .int .i64 0] 25)).alloc (.cells #[.slice A n c, .int .i64 0, .int .u64 0] 54)) := by simpa using code_startZ (A := A) (n := n) (c := c) (B := 0) (bel_alloc (o := .cells #[.int .i64 0, .int .i64 0, .int .i64 0, .int .i64 0, .int .i64 0, .int .i64 0] 25) (bel_alloc (o := .cells #[.int .i64 0, .int .i64 0, .int .i64 0, .int .i64 0, .int .i64 0, .int .i64 0] 25) (bel_refl w)))
  replace hp0 := blk_bel (blk_bel hp0 (bel_alloc (o := .cells #[.int .i64 0, .int .i64 0, .int .i64 0, .int .i64 0, .int .i64 0, .int .i64 0] 25) (bel_refl _))) (bel_alloc (o := .cells #[.slice A n c, .int .i64 0, .int .u64 0] 54) (bel_refl _))
  replace hq0 := blk_bel hq0 (bel_alloc (o := .cells #[.slice A n c, .int .i64 0, .int .u64 0] 54) (bel_refl _))
  go_enter Tryz.func12, Tryz.ntmps12
  go_wp2_with fail
  refine (hotspotC w (w.heap.size + 1 + 1) A n c cs _ 1 _ hC hst (by omega)).mono ?_
  rintro _ w1 ⟨a, rfl, hc1, hg1⟩
  replace hp0 := blk_gro hp0 hg1 (by simp; omega)
  replace hq0 := blk_gro hq0 hg1 (by simp)
  clear hg1 hst
  go_wp2_with fail
  refine (hotspotC w (w.heap.size + 1 + 1) A n c cs _ 2 _ hC hc1 (by omega)).mono ?_
  rintro _ w2 ⟨b, rfl, hc2, hg2⟩
  replace hp0 := blk_gro hp0 hg2 (by simp; omega)
  replace hq0 := blk_gro hq0 hg2 (by simp)
  have hb := hc2.bel
  clear hg2 hc1 hc2
  obtain ⟨p, hp⟩ : ∃ p, w.heap.size = p := ⟨_, rfl⟩
  obtain ⟨q, hq⟩ : ∃ q, w.heap.size + 1 = q := ⟨_, rfl⟩
  have hwp : w.heap.size ≤ p := by omega
  have hwq : w.heap.size ≤ q := by omega
  have hpq : p ≠ q := by omega
  rw [hq] at hq0 ⊢
  rw [hp] at hp0 ⊢
  clear hp hq
  obtain ⟨⟨k0, k1, k2, k3, k4, k5⟩, kz⟩ := cells6 hp0
  obtain ⟨⟨c0, c1, c2, c3, c4, c5⟩, cz⟩ := cells6 hq0
  clear hp0 hq0
  go_wp2_with fail
  refine bodyPost_ret (v := .tuple #[.agg #[.int .i64 a.id, .int .i64 a.x, .int .i64 a.y, .int .i64 a.err, .int .i64 a.tick, .int .i64 a.heat], .agg #[.int .i64 b.id, .int .i64 b.x, .int .i64 b.y, .int .i64 b.err, .int .i64 b.tick, .int .i64 b.heat]]) (by simp [results, Tryz.results12, go_sem, *]) rfl ⟨a, b, rfl, ?_⟩
  (repeat' (first | (with_reducible assumption) | (refine bel_set ?_ (by with_reducible assumption))))
theorem ext_size (s : ByteArray) (i j : Nat) : (s.extract i j).size = min j s.size - i := ByteArray.size_extract
set_option maxHeartbeats 4000000 in
set_option maxRecDepth 100000 in
theorem spoiltC (W : World) (g : Nat) (A : Option Addr) (n c : Nat) (cs : List Int) (B : Nat) (s : ByteArray) (w : World) (hC : Code W A n c cs) (h : Cur W g A n c B w) (hB : B ≤ 900000) (hs : s.size ≤ 1000) :
    Calls Tryz.prog 32 #[.pointer (some ⟨g, 0, none⟩), .string s, .string ⟨#[48, 32, 44, 97, 115, 49]⟩] w fun e w' => ∃ t : ByteArray, e = .returned (.string t) ∧ t.size ≤ 1001 ∧ Cur W g A n c (B + 6) w' ∧ w.grownBy w' (some g) := by
  by_cases h0 : s = ⟨#[]⟩
  · subst h0
    go_enter Tryz.func32, Tryz.ntmps32
    go_wp2_with fail
    go_ret
    exact ⟨_, rfl, by rw [ext_size]; omega, h.up (by omega), gro_refl _ _⟩
  · have hpos : 0 < s.size := by
      rcases Nat.eq_zero_or_pos s.size with h1 | h1
      · refine absurd (ByteArray.ext ?_) h0
        exact Array.eq_empty_of_size_eq_zero h1
      · exact h1
    have hne : s.toList.isEmpty = false := by
      rw [ByteArray.toList_eq, List.isEmpty_eq_false_iff]
      intro e
      have h2 := congrArg List.length e
      rw [Array.length_toList] at h2
      have e3 : s.size = s.data.size := rfl
      simp only [List.length_nil] at h2
      omega
    clear h0
    go_enter Tryz.func32, Tryz.ntmps32
    go_wp2_with fail
    refine (pickC W g A n c cs B (s.size : Int) _ hC h (by omega) (by omega)).mono ?_
    rintro _ w1 ⟨x, rfl, ⟨hx0, hx1⟩, hc1, hg1⟩
    obtain ⟨i, rfl⟩ := Int.eq_ofNat_of_zero_le hx0
    have hi : i < s.size := by omega
    have hiI : (i : Int) < (s.size : Int) := by omega
    clear hx1
    go_wp2_with fail
    refine (pickC W g A n c cs _ 6 _ hC hc1 (by omega) (by omega)).mono ?_
    rintro _ w2 ⟨y, rfl, ⟨hy0, hy1⟩, hc2, hg2⟩
    obtain ⟨k, rfl⟩ := Int.eq_ofNat_of_zero_le hy0
    have hk : k ≤ 5 := by omega
    have hkI : (k : Int) ≤ 6 := by omega
    have hk1 : (1 : Int) ≤ ((ByteArray.extract ⟨#[48, 32, 44, 97, 115, 49]⟩ k 6).size : Int) := by
      rw [ext_size]
      have e : (ByteArray.mk #[48, 32, 44, 97, 115, 49]).size = 6 := rfl
      rw [e]
      omega
    clear hy1
    go_wp2_with fail
    obtain ⟨V, hV⟩ : ∃ V, (ByteArray.extract ⟨#[48, 32, 44, 97, 115, 49]⟩ k 6).extract 0 1 = V := ⟨_, rfl⟩
    have hVs : V.size ≤ 1 := by rw [← hV, ext_size]; omega
    rw [hV]
    refine (pickC W g A n c cs _ 3 _ hC hc2 (by omega) (by omega)).mono ?_
    rintro _ w3 ⟨z, rfl, -, hc3, hg3⟩
    have hG := gro_trans (gro_trans hg1 hg2) hg3
    have hcu := hc3.up (show _ ≤ B + 6 by omega)
    have hiI1 : (i : Int) ≤ (s.size : Int) := by omega
    have hiI2 : (i : Int) + 1 ≤ (s.size : Int) := by omega
    have hP : (s.extract 0 i).size ≤ 1000 := by rw [ext_size]; omega
    have hQ : (s.extract i s.size).size ≤ 1000 := by rw [ext_size]; omega
    have hQ1 : (s.extract (i + 1) s.size).size ≤ 1000 := by rw [ext_size]; omega
    have hPV : ((s.extract 0 i) ++ V).size ≤ 1001 := by rw [ByteArray.size_append]; omega
    have s1 : ¬ ((s.extract 0 i).size + V.size > 9223372036854775807) := by omega
    have s2 : ¬ (((s.extract 0 i) ++ V).size + (s.extract i s.size).size > 9223372036854775807) := by omega
    have s3 : ¬ (((s.extract 0 i) ++ V).size + (s.extract (i + 1) s.size).size > 9223372036854775807) := by omega
    have s4 : ¬ ((s.extract 0 i).size + (s.extract (i + 1) s.size).size > 9223372036854775807) := by omega
    have t1 : Hid (((s.extract 0 i) ++ V ++ (s.extract i s.size)).size ≤ 1001) := by show _ ≤ _; rw [ByteArray.size_append, ByteArray.size_append, ext_size, ext_size]; omega
    have t2 : Hid (((s.extract 0 i) ++ V ++ (s.extract (i + 1) s.size)).size ≤ 1001) := by show _ ≤ _; rw [ByteArray.size_append, ByteArray.size_append, ext_size, ext_size]; omega
    have t3 : Hid (((s.extract 0 i) ++ (s.extract (i + 1) s.size)).size ≤ 1001) := by show _ ≤ _; rw [ByteArray.size_append, ext_size, ext_size]; omega
    clear hg1 hg2 hg3 hc1 hc2 hc3 hV hk1 hP hQ hQ1 hPV h hne
    have hB2 := bel_refl w3
    by_cases e0 : z = 0
    · subst e0
      go_wp2_with fail
      (refine wp_region_bel (by kernel_rfl) (by kernel_rfl) ?_; have hD := bel_cells hB2; (repeat (go_big_quiet_step ((fail)))); refine wpQuiet_nil ?_; intro w1 hB1; replace hB2 := bel_trans hB2 hB1; obtain ⟨hC1, hF1⟩ := bcell hB2; clear hD; replace hB1 := hB1)
      go_wp2_with fail
      go_ret
      exact ⟨_, rfl, t1.out, hcu.kept hB2, gro_trans hG (gro_bel hB2)⟩
    · have f0 : (z == 0) = false := by simpa using e0
      clear e0
      by_cases e1 : z = 1
      · subst e1
        go_wp2_with fail
        (refine wp_region_bel (by kernel_rfl) (by kernel_rfl) ?_; have hD := bel_cells hB2; (repeat (go_big_quiet_step ((fail)))); refine wpQuiet_nil ?_; intro w1 hB1; replace hB2 := bel_trans hB2 hB1; obtain ⟨hC1, hF1⟩ := bcell hB2; clear hD; replace hB1 := hB1)
        go_wp2_with fail
        go_ret
        exact ⟨_, rfl, t2.out, hcu.kept hB2, gro_trans hG (gro_bel hB2)⟩
      · have f1 : (z == 1) = false := by simpa using e1
        clear e1
        go_wp2_with fail
        (refine wp_region_bel (by kernel_rfl) (by kernel_rfl) ?_; have hD := bel_cells hB2; (repeat (go_big_quiet_step ((fail)))); refine wpQuiet_nil ?_; intro w1 hB1; replace hB2 := bel_trans hB2 hB1; obtain ⟨hC1, hF1⟩ := bcell hB2; clear hD; replace hB1 := hB1)
        go_wp2_with fail
        go_ret
        exact ⟨_, rfl, t3.out, hcu.kept hB2, gro_trans hG (gro_bel hB2)⟩
end Go.Proofs.YtkkoccllmflhfaaGreatDoor
