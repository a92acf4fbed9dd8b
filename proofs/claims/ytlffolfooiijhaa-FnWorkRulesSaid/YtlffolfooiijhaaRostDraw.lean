/-
  Rosters that are drawn: walked.
-/
import Derived.Test.YtlffolfooiijhaaCur
import Derived.Test.YtlffolfooiijhaaRostStable
namespace Go.Proofs.Ytlffolfooiijhaa
open Go.RowKit

theorem ints_take1 (xs : List Int) (i : Nat) : (ints xs).take (i * 1) = ints (xs.take i) := by rw [Nat.mul_one]; simp [ints, List.map_take]
set_option maxHeartbeats 4000000 in
set_option maxRecDepth 100000 in
theorem crew11C (W : World) (g : Nat) (A : Option Addr) (n c : Nat) (cs : List Int) (B : Nat) (w : World) (hC : Code W A n c cs) (h : Cur W g A n c B w) (hB : B ≤ 900000) :
    Calls Try.prog 50 #[.pointer (some ⟨g, 0, none⟩)] w fun e w' => ∃ x : Int, e = .returned (.int .i64 x) ∧ (-1 ≤ x ∧ x ≤ 500) ∧ Cur W g A n c (B + 4) w' ∧ w.grownBy w' (some g) := by
  have hgl := h.lt
  go_enter Try.func50, Try.ntmps50
  go_wp2_with fail
  have hlit : Sl (w.alloc (.cells #[.int .i64 1, .int .i64 2, .int .i64 3, .int .i64 20, .int .i64 0, .int .i64 21] 3)) 1 (some ⟨w.heap.size, 0, none⟩) 6 6 (ints [1, 2, 3, 20, 0, 21]) := lit_sl rfl rfl (by simp [maxLen]) rfl
  refine (pickC W g A n c cs B 60 _ hC (h.kept (bel_alloc (bel_refl _))) (by omega) (by omega)).mono ?_
  rintro _ w1 ⟨r, rfl, ⟨hr0, hr1⟩, hc1, hg1⟩
  replace hlit := hlit.gro hg1 (ne_lit hgl)
  have hG := gro_trans (gro_bel (r := some g) (bel_alloc (bel_refl w))) hg1
  go_wp2_with fail
  have hT := hlit.to (show (4 + r / 29).toNat ≤ 6 by omega)
  rw [ints_take1] at hT
  refine (amongC W g A n c cs _ _ (4 + r / 29).toNat 6 _ _ hC hc1 (by omega) hT (by omega) (ne_lit hgl)).mono ?_
  rintro _ w2 ⟨y, rfl, hy, hc2, hg2⟩
  replace hy := List.mem_of_mem_take hy
  go_wp2_with fail
  go_ret
  exact ⟨y, rfl, by simp at hy; omega, hc2, gro_trans hG hg2⟩
set_option maxHeartbeats 4000000 in
set_option maxRecDepth 100000 in
theorem hour11C (W : World) (g : Nat) (A : Option Addr) (n c : Nat) (cs : List Int) (B : Nat) (w : World) (hC : Code W A n c cs) (h : Cur W g A n c B w) (hB : B ≤ 900000) :
    Calls Try.prog 74 #[.pointer (some ⟨g, 0, none⟩)] w fun e w' => ∃ x : Int, e = .returned (.int .i64 x) ∧ (-1 ≤ x ∧ x ≤ 500) ∧ Cur W g A n c (B + 4) w' ∧ w.grownBy w' (some g) := by
  have hgl := h.lt
  go_enter Try.func74, Try.ntmps74
  go_wp2_with fail
  have hlit : Sl (w.alloc (.cells #[.int .i64 0, .int .i64 8, .int .i64 11, .int .i64 24, .int .i64 47, .int .i64 499, .int .i64 (-1), .int .i64 500] 3)) 1 (some ⟨w.heap.size, 0, none⟩) 8 8 (ints [0, 8, 11, 24, 47, 499, -1, 500]) := lit_sl rfl rfl (by simp [maxLen]) rfl
  refine (pickC W g A n c cs B 24 _ hC (h.kept (bel_alloc (bel_refl _))) (by omega) (by omega)).mono ?_
  rintro _ w1 ⟨r, rfl, ⟨hr0, hr1⟩, hc1, hg1⟩
  replace hlit := hlit.gro hg1 (ne_lit hgl)
  have hG := gro_trans (gro_bel (r := some g) (bel_alloc (bel_refl w))) hg1
  go_wp2_with fail
  have hT := hlit.to (show (6 + r / 11).toNat ≤ 8 by omega)
  rw [ints_take1] at hT
  refine (amongC W g A n c cs _ _ (6 + r / 11).toNat 8 _ _ hC hc1 (by omega) hT (by omega) (ne_lit hgl)).mono ?_
  rintro _ w2 ⟨y, rfl, hy, hc2, hg2⟩
  replace hy := List.mem_of_mem_take hy
  go_wp2_with fail
  go_ret
  exact ⟨y, rfl, by simp at hy; omega, hc2, gro_trans hG hg2⟩

theorem addR_yes {xs : List Duty} {d : Duty} (h : (addR xs d).2 = true) : (addR xs d).1.length = xs.length + 1 := by
  unfold addR at h ⊢
  split at h
  · rename_i hc
    rw [if_pos hc]
    exact insS_len xs d
  · cases h
set_option maxHeartbeats 8000000 in
set_option maxRecDepth 100000 in
theorem rosterC (W : World) (g : Nat) (A : Option Addr) (n c : Nat) (cs : List Int) (B : Nat) (w : World) (hC : Code W A n c cs) (h : Cur W g A n c B w) (hB : B ≤ 800000) :
    Calls Try.prog 49 #[.pointer (some ⟨g, 0, none⟩)] w fun e w' => ∃ (A' : Option Addr) (m c' : Nat) (xs : List Duty), e = .returned (.slice A' m c') ∧ Own w.heap.size w'.heap.size w' 30 3 A' m c' (xs.flatMap Duty.row) ∧ m ≤ 14 ∧ Cur W g A n c (B + 200) w' ∧ w.grownBy w' (some g) := by
  have hgl := h.lt
  go_enter Try.func49, Try.ntmps49
  go_wp2_with fail
  refine (pickC W g A n c cs B 8 _ hC (h.kept (bel_alloc (bel_refl _))) (by omega) (by omega)).mono ?_
  rintro _ w1 ⟨r, rfl, ⟨hr0, hr1⟩, hc1, hg1⟩
  obtain ⟨k0, rfl⟩ := Int.eq_ofNat_of_zero_le hr0
  have hk0 : k0 ≤ 7 := by omega
  have hG1 := gro_trans (gro_bel (r := some g) (bel_alloc (o := .cells #[] 30) (bel_refl w))) hg1
  have hown1 := own_gro (own_empty (w := w) (size := 3) (e := 30) (Nat.le_refl _)) hg1 hgl
  clear hr0 hr1 hg1
  go_wp2_with fail
  go_loopw [3, 4] (fun q v wr => ∃ (k m j : Nat), m ≤ j ∧ j + k ≤ 7 ∧ v = .int .i64 k ∧ (∃ (A' : Option Addr) (c' : Nat) (xs : List Duty), q = .slice A' m c' ∧ wr.ownsRow w.heap.size 30 3 (.slice A' m c') m (xs.flatMap Duty.row)) ∧ Cur W g A n c (B + 2 + 6 * j) wr ∧ w.grownBy wr (some g)) (fun _ v _ => (intOf v).toNat)
  case atStart => exact ⟨k0, 0, 0, by omega, by omega, rfl, ⟨_, _, [], rfl, hown1⟩, hc1, hG1⟩
  case round =>
    clear hown1 hc1 hG1
    obtain ⟨k, m, j, hmj, hjk, rfl, ⟨A', c', xs, rfl, hown⟩, hc, hG⟩ := hrel
    by_cases hk : 0 < k
    · have hkI : (0 : Int) < (k : Int) := by omega
      go_wp2_with fail
      refine (amongC W g A n c cs _ _ 8 8 [0, 8, 12, 20, 24, 30, 48, 490] _ hC (hc.kept (bel_alloc (bel_refl _))) (by omega) (lit_sl rfl rfl (by simp [maxLen]) rfl) (by omega) (ne_lit hc.lt)).mono ?_
      rintro _ w2 ⟨f, rfl, hf, hc2, hg2⟩
      have hf2 : 0 ≤ f ∧ f ≤ 490 := by simp at hf; omega
      have hown2 := own_gro (own_bel hown (bel_alloc (bel_refl _))) hg2 hgl
      have hG2 := gro_trans (gro_trans hG (gro_bel (bel_alloc (bel_refl _)))) hg2
      clear hown hG hg2 hc hf
      go_wp2_with fail
      refine (pickC W g A n c cs _ 3 _ hC hc2 (by omega) (by omega)).mono ?_
      rintro _ w3 ⟨p, rfl, ⟨hp0, hp1⟩, hc3, hg3⟩
      have hp2 : p ≤ 2 := by omega
      have hown3 := own_gro hown2 hg3 hgl
      have hG3 := gro_trans hG2 hg3
      clear hown2 hG2 hg3 hc2 hp1
      go_wp2_with fail
      refine (amongC W g A n c cs _ _ 4 4 [1, 4, 8, 10] _ hC (hc3.kept (bel_alloc (bel_refl _))) (by omega) (lit_sl rfl rfl (by simp [maxLen]) rfl) (by omega) (ne_lit hc3.lt)).mono ?_
      rintro _ w4 ⟨u, rfl, hu, hc4, hg4⟩
      have hu2 : 1 ≤ u ∧ u ≤ 10 := by simp at hu; omega
      have hown4 := own_gro (own_bel hown3 (bel_alloc (bel_refl _))) hg4 hgl
      have hG4 := gro_trans (gro_trans hG3 (gro_bel (bel_alloc (bel_refl _)))) hg4
      clear hown3 hG3 hg4 hc3 hu
      have hb5 : Below w4.heap.size w4 (w4.alloc (.cells #[.int .i64 (1 + p), .int .i64 f, .int .i64 (f + u)] 30)) := bel_alloc (bel_refl _)
      have hown5 := own_bel hown4 hb5
      have hlx := hid ((Sl.of_own hown5).xs_len Duty.row_len (by omega))
      go_wp2_with fail
      refine (addDutyS A' m c' xs ⟨1 + p, f, f + u⟩ _ (Sl.of_own hown5) (by omega)).mono ?_
      obtain ⟨b, hb⟩ : ∃ b, (addR xs ⟨1 + p, f, f + u⟩).2 = b := ⟨_, rfl⟩
      obtain ⟨ys, hys⟩ : ∃ ys, (addR xs ⟨1 + p, f, f + u⟩).1 = ys := ⟨_, rfl⟩
      rw [hb, hys]
      rintro _ w6 ⟨A6, n6, c6, rfl, hO6, hb6⟩
      have hlen : Hid (b = true → n6 = m + 1) := fun h => by
        have h1 := addR_yes (hb.trans h)
        rw [hys, hO6.sl.xs_len Duty.row_len (by omega), hlx.out] at h1
        exact h1
      have hc6 := hc4.kept (bel_trans hb5 hb6)
      have hG6 := gro_trans hG4 (gro_bel (bel_trans hb5 hb6))
      have hown6 := own_bel hown5 hb6
      have hO7 := own_low hO6.own (show w.heap.size ≤ (w4.alloc (.cells #[.int .i64 (1 + p), .int .i64 f, .int .i64 (f + u)] 30)).heap.size from Nat.le_trans hG4.size hb5.size)
      clear hown5 hown4 hO6 hb6 hb5 hG4 hc4 hb hys
      rcases b with _ | _
      · go_wp2_with fail
        go_roundw
        case rel => exact ⟨k - 1, m, j + 1, by omega, by omega, by (congr 1; omega), ⟨_, _, xs, rfl, hown6⟩, hc6.up (by omega), hG6⟩
        case measure => simp [intOf]; omega
      · obtain rfl := hlen.out rfl
        go_wp2_with fail
        go_roundw
        case rel => exact ⟨k - 1, m + 1, j + 1, by omega, by omega, by (congr 1; omega), ⟨_, _, ys, rfl, hO7⟩, hc6.up (by omega), hG6⟩
        case measure => simp [intOf]; omega
    · have hkI : ¬ (0 : Int) < (k : Int) := by omega
      go_wp2_with fail
      refine (pickC W g A n c cs _ 30 _ hC hc (by omega) (by omega)).mono ?_
      rintro _ w2 ⟨r, rfl, -, hc2, hg2⟩
      have hown2 := own_gro hown hg2 hgl
      have hG2 := gro_trans hG hg2
      clear hown hG hg2 hc
      by_cases e0 : r = 0
      · subst e0
        go_wp2_with fail
        refine (amongC W g A n c cs _ _ 3 3 [0, 20, 21] _ hC (hc2.kept (bel_alloc (bel_refl _))) (by omega) (lit_sl rfl rfl (by simp [maxLen]) rfl) (by omega) (ne_lit hc2.lt)).mono ?_
        rintro _ w3 ⟨a1, rfl, -, hc3, hg3⟩
        have hown3 := own_gro (own_bel hown2 (bel_alloc (bel_refl _))) hg3 hgl
        have hG3 := gro_trans (gro_trans hG2 (gro_bel (bel_alloc (bel_refl _)))) hg3
        clear hown2 hG2 hg3 hc2
        go_wp2_with fail
        refine (amongC W g A n c cs _ _ 2 2 [-1, 3] _ hC (hc3.kept (bel_alloc (bel_refl _))) (by omega) (lit_sl rfl rfl (by simp [maxLen]) rfl) (by omega) (ne_lit hc3.lt)).mono ?_
        rintro _ w4 ⟨a2, rfl, -, hc4, hg4⟩
        have hown4 := own_gro (own_bel hown3 (bel_alloc (bel_refl _))) hg4 hgl
        have hG4 := gro_trans (gro_trans hG3 (gro_bel (bel_alloc (bel_refl _)))) hg4
        clear hown3 hG3 hg4 hc3
        go_wp2_with fail
        refine (amongC W g A n c cs _ _ 3 3 [3, 5, 501] _ hC (hc4.kept (bel_alloc (bel_refl _))) (by omega) (lit_sl rfl rfl (by simp [maxLen]) rfl) (by omega) (ne_lit hc4.lt)).mono ?_
        rintro _ w5 ⟨a3, rfl, -, hc5, hg5⟩
        have hown5 := own_gro (own_bel hown4 (bel_alloc (bel_refl _))) hg5 hgl
        have hG5 := gro_trans (gro_trans hG4 (gro_bel (bel_alloc (bel_refl _)))) hg5
        clear hown4 hG4 hg5 hc4
        go_wp2_with (at_builtin; refine wpList_push rfl (.tmp 43) (.tmp 54) 26 rfl w.heap.size 30 (.agg #[.int .i64 0, .int .i64 0, .int .i64 0]) 3 24 Try.underlying26 info_Duty rfl (by omega) A' m c' _ [.int .i64 a1, .int .i64 a2, .int .i64 a3] 30 rfl hown5 rfl rfl (by intro u hu; exact duty_one [⟨a1, a2, a3⟩] u (by simpa [Duty.row] using hu)) (by omega) (by omega) hG5.size ?_; intro A'' c'' w6 hown6 hb6 hg6)
        have hc6 := cur_push hc5 hg6 hown5 hgl
        have hG6 := gro_push hG5 hg6 hown5 (Nat.le_refl _)
        go_ret
        refine ⟨A'', m + 1, c'', xs ++ [⟨a1, a2, a3⟩], rfl, Own.mk_ ?_, by omega, hc6.up (by omega), hG6⟩
        rw [List.flatMap_append]; simpa [Duty.row] using hown6
      have f0 : (r == 0) = false := by simpa using e0
      clear e0
      by_cases e1 : r = 1
      · subst e1
        go_wp2_with fail
        have hownE := own_low (own_empty (w := w2) (size := 3) (e := 30) (Nat.le_refl _)) hG2.size
        have hcE := hc2.kept (bel_alloc (o := .cells #[] 30) (bel_refl _))
        have hGE := gro_trans hG2 (gro_bel (bel_alloc (o := .cells #[] 30) (bel_refl _)))
        clear hown2 hc2 hG2
        go_loopw [3, 9] (fun q v wr => ∃ (m : Nat), m ≤ 13 ∧ v = .int .i64 m ∧ (∃ (A' : Option Addr) (c' : Nat) (xs : List Duty), q = .slice A' m c' ∧ wr.ownsRow w.heap.size 30 3 (.slice A' m c') m (xs.flatMap Duty.row)) ∧ Cur W g A n c (B + 2 + 6 * 7 + 2 + 2 * m) wr ∧ w.grownBy wr (some g)) (fun _ v _ => 14 - (intOf v).toNat)
        case atStart => exact ⟨0, by omega, rfl, ⟨_, _, [], rfl, hownE⟩, hcE.up (by omega), hGE⟩
        case round =>
          clear hownE hcE hGE
          obtain ⟨m, hm, rfl, ⟨A', c', xs, rfl, hown⟩, hc, hG⟩ := hrel
          go_wp2_with fail
          refine (pickC W g A n c cs _ 2 _ hC hc (by omega) (by omega)).mono ?_
          rintro _ w3 ⟨a, rfl, ⟨ha0, ha1⟩, hc5, hg3⟩
          have ha2 : a ≤ 1 := by omega
          clear ha1
          have hown5 := own_gro hown hg3 hgl
          have hG5 := gro_trans hG hg3
          clear hown hG hc hg3
          by_cases hlt : (m : Int) < 12 + a
          · go_wp2_with (at_builtin; refine wpList_push rfl (.tmp 66) (.tmp 73) 26 rfl w.heap.size 30 (.agg #[.int .i64 0, .int .i64 0, .int .i64 0]) 3 24 Try.underlying26 info_Duty rfl (by omega) A' m c' _ [.int .i64 ((m : Int) + 1), .int .i64 m, .int .i64 ((m : Int) + 2)] 30 rfl hown5 rfl rfl (by intro u hu; exact duty_one [⟨(m : Int) + 1, m, (m : Int) + 2⟩] u (by simpa [Duty.row] using hu)) (by omega) (by omega) hG5.size ?_; intro A'' c'' w6 hown6 hb6 hg6)
            have hc6 := cur_push hc5 hg6 hown5 hgl
            have hG6 := gro_push hG5 hg6 hown5 (Nat.le_refl _)
            go_roundw
            case rel => exact ⟨m + 1, by omega, by go_num, ⟨_, _, xs ++ [⟨(m : Int) + 1, m, (m : Int) + 2⟩], rfl, by rw [List.flatMap_append]; simpa [Duty.row] using hown6⟩, hc6.up (by omega), hG6⟩
            case measure => simp [intOf]; omega
          · go_wp2_with fail
            go_ret
            exact ⟨A', m, c', xs, rfl, Own.mk_ hown5, by omega, hc5.up (by omega), hG5⟩
      have f1 : (r == 1) = false := by simpa using e1
      clear e1
      by_cases e2 : r = 2
      · subst e2
        by_cases hm : 1 < m
        · have hmI : (1 : Int) < (m : Int) := by omega
          have hlx := (Sl.of_own hown2).xs_len Duty.row_len (by omega)
          obtain ⟨x0, hx0⟩ : ∃ x, xs[0]? = some x := get_of_lt (by omega)
          obtain ⟨x1, hx1⟩ : ∃ x, xs[1]? = some x := get_of_lt (by omega)
          obtain ⟨b, rfl, hbl, hbh⟩ := own_form hown2 (by omega)
          obtain ⟨e00, e01, e02⟩ := Duty.flat hx0
          obtain ⟨e10, e11, e12⟩ := Duty.flat hx1
          have d0 := (hown2.cellAt 0 (by omega)).trans e00
          have d1 := (hown2.cellAt 1 (by omega)).trans e01
          have d3 := (hown2.cellAt 3 (by omega)).trans e10
          have d4 := (hown2.cellAt 4 (by omega)).trans e11
          have d5 := (hown2.cellAt 5 (by omega)).trans e12
          have z := own_fz hown2
          clear e00 e01 e02 e10 e11 e12 hx0 hx1 hlx
          go_wp2_with fail
          have hdo : DO w.heap.size b m c' w2 := ⟨xs, hown2⟩
          obtain ⟨ys, hys⟩ := hdo.set ⟨x0.crew, x0.fr, x1.til⟩ (show 1 < m from hm)
          have hWb : W.heap.size ≤ b := Nat.le_trans h.bel.size hbl
          have hbg : b ≠ g := by omega
          go_ret
          refine ⟨_, m, c', ys, rfl, Own.mk_ (own_bel hys (bel_alloc (bel_refl _))), by omega, (cur_set (cur_set (cur_set hc2 hWb hbg) hWb hbg) hWb hbg).kept (bel_alloc (bel_refl _)) |>.up (by omega), ?_⟩
          exact gro_trans (gro_new (gro_new (gro_new hG2 hbl) hbl) hbl) (gro_bel (bel_alloc (bel_refl _)))
        · have hmI : ¬ (1 : Int) < (m : Int) := by omega
          go_wp2_with fail
          go_ret
          exact ⟨A', m, c', xs, rfl, Own.mk_ hown2, by omega, hc2.up (by omega), hG2⟩
      have f2 : (r == 2) = false := by simpa using e2
      clear e2
      go_wp2_with fail
      go_ret
      exact ⟨A', m, c', xs, rfl, Own.mk_ hown2, by omega, hc2.up (by omega), hG2⟩
end Go.Proofs.Ytlffolfooiijhaa
