/-
  Places that are drawn, and what the law on cut places draws: walked.
-/
import Derived.Test.YtfimchbjpambfaaPut
namespace Go.Proofs.Ytfimchbjpambfaa
open Go.RowKit

set_option maxHeartbeats 4000000 in
set_option maxRecDepth 100000 in
theorem placesInC (W : World) (g : Nat) (A : Option Addr) (n c : Nat) (cs : List Int) (B : Nat) (p : Int) (w : World) (hC : Code W A n c cs) (h : Cur W g A n c B w) (hB : B ≤ 900000) (hp : p ≤ 1000) :
    Calls Try.prog 51 #[.pointer (some ⟨g, 0, none⟩), .int .i64 p] w fun e w' => ∃ (A' : Option Addr) (m c' : Nat) (ys : List Int), e = .returned (.slice A' m c') ∧ m ≤ 3 ∧ w'.ownsRow w.heap.size 3 1 (.slice A' m c') m (ints ys) ∧ Cur W g A n c (B + 50) w' ∧ w.grownBy w' (some g) := by
  have hgl := h.lt
  go_enter Try.func51, Try.ntmps51
  go_wp2_with fail
  refine (pickC W g A n c cs B 2 _ hC (h.kept (bel_alloc (bel_refl _))) (by omega) (by omega)).mono ?_
  rintro _ w1 ⟨r, rfl, ⟨hr0, hr1⟩, hc1, hg1⟩
  obtain ⟨r1, hr⟩ : ∃ r1 : Nat, 1 + r = (r1 : Int) := ⟨(1 + r).toNat, by omega⟩
  have hr2 : r1 ≤ 2 := by omega
  have hG1 := gro_trans (gro_bel (r := some g) (bel_alloc (o := .cells #[] 3) (bel_refl w))) hg1
  have hown1 := own_gro (own_empty (w := w) (size := 1) (e := 3) (base := w.heap.size) (Nat.le_refl _)) hg1 hgl
  have hr9 : r ≤ 1 := by omega
  clear hr1
  go_wp2_with fail
  clear hr hr0 hr9
  go_loopw [5, 6] (fun q u wr => ∃ (r m : Nat) (A' : Option Addr) (c' : Nat) (ys : List Int), r ≤ 2 ∧ m + r ≤ 2 ∧ u = .int .i64 r ∧ q = .slice A' m c' ∧ wr.ownsRow w.heap.size 3 1 (.slice A' m c') m (ints ys) ∧ Cur W g A n c (B + 28 - 4 * r) wr ∧ w.grownBy wr (some g)) (fun _ u _ => (intOf u).toNat)
  case atStart => exact ⟨r1, 0, _, _, [], hr2, by omega, rfl, rfl, hown1, hc1.up (by omega), hG1⟩
  case round =>
    clear hown1 hc1 hg1 hG1
    obtain ⟨r, m, A', c', ys, hr2, hmr, rfl, rfl, hown, hc, hG⟩ := hrel
    by_cases hr : 0 < r
    · have hrI : (0 : Int) < (r : Int) := by omega
      go_wp2_with fail
      refine (pickC W g A n c cs _ p _ hC hc (by omega) (by omega)).mono ?_
      rintro _ w2 ⟨z, rfl, -, hc2, hg2⟩
      replace hown := own_gro hown hg2 hgl
      replace hG := gro_trans hG hg2
      go_wp2_with fail
      refine (l1Put A' m c' w.heap.size ys z _ hown hG.size (Own.mk_ hown).sl (by omega)).mono ?_
      rintro _ w3 ⟨A2, m2, c2, zs, rfl, hm2, hown3, hb⟩
      go_wp2_with fail
      go_roundw
      case rel => exact ⟨r - 1, m2, A2, c2, zs, by omega, by omega, by go_num, rfl, hown3, (hc2.kept hb).up (by omega), gro_trans hG (gro_bel hb)⟩
      case measure => simp [intOf]; omega
    · have hrI : ¬ (0 : Int) < (r : Int) := by omega
      go_wp2_with fail
      refine (oneC W g A n c cs _ 20 _ hC hc (by omega) (by omega)).mono ?_
      rintro _ w2 ⟨x, rfl, hc2, hg2⟩
      replace hown := own_gro hown hg2 hgl
      replace hG := gro_trans hG hg2
      rcases x with _ | _
      · go_wp2_with fail
        go_ret
        exact ⟨A', m, c', ys, rfl, by omega, hown, hc2.up (by omega), hG⟩
      · go_wp2_with fail
        refine (amongC W g A n c cs _ _ 2 2 [0, p] _ hC (hc2.kept (bel_alloc (bel_refl _))) (by omega) (lit_sl rfl rfl (by simp [maxLen]) rfl) (by omega) (ne_lit hc2.lt)).mono ?_
        rintro _ w3 ⟨y, rfl, -, hc3, hg3⟩
        replace hown := own_gro (own_bel hown (bel_alloc (bel_refl _))) hg3 hgl
        replace hG := gro_trans (gro_trans hG (gro_bel (bel_alloc (bel_refl _)))) hg3
        clear hg3 hc2 hg2 hc
        go_wp2_with (at_builtin; refine wpList_push rfl (.tmp 22) (.tmp 27) 27 rfl w.heap.size 3 (.int .i64 0) 1 8 Try.underlying27 info_int rfl (by omega) A' m c' _ [.int .i64 y] 3 rfl hown rfl rfl (oneCell_ints [y]) (by omega) (by omega) hG.size ?_; intro A'' c'' w5 hown5 hb5 hg5)
        have hc5 := cur_push hc3 hg5 hown hgl
        have hG5 := gro_push hG hg5 hown (Nat.le_refl _)
        go_ret
        exact ⟨_, m + 1, _, ys ++ [y], rfl, by omega, by simpa [ints] using hown5, hc5.up (by omega), hG5⟩
theorem drawCutOff (A : Option Addr) (n c : Nat) (cs : List Int) (w : World) (hC : Code w A n c cs) :
    Calls Try.prog 22 #[.slice A n c] w fun e w' => ∃ (p : Int) (A' : Option Addr) (m c' : Nat) (xs : List Road) (A2 : Option Addr) (q c2 : Nat) (ys : List Int) (v : Int), e = .returned (.tuple #[.int .i64 p, .slice A' m c', .slice A2 q c2, .int .i64 v]) ∧ (1 ≤ p ∧ p ≤ 9) ∧ Own w.heap.size w'.heap.size w' 39 4 A' m c' (xs.flatMap Road.row) ∧ m ≤ 13 ∧ Own w.heap.size w'.heap.size w' 3 1 A2 q c2 (ints ys) ∧ q ≤ 3 ∧ (-1 ≤ v ∧ v ≤ 1000) ∧ Below w.heap.size w w' := by
  go_enter Try.func22, Try.ntmps22
  go_wp2_with fail; refine (networkC w w.heap.size A n c cs 0 _ hC (code_start (bel_refl w)) (by omega)).mono ?_; rintro _ w1 ⟨p, A', m, c', xs, rfl, hp, hO, hm, hc1, hg1⟩; replace hO := hO.own; go_wp2_with fail
  refine (placesInC w w.heap.size A n c cs _ p _ hC hc1 (by omega) (by omega)).mono ?_
  rintro _ w2 ⟨A2, q, c2, ys, rfl, hq, hO2, hc2, hg2⟩; replace hO := own_gro hO hg2 (by simp)
  go_wp2_with fail
  refine (roadMinuteC w w.heap.size A n c cs _ _ hC hc2 (by omega)).mono ?_
  rintro _ w3 ⟨v, rfl, hv, hc3, hg3⟩
  replace hO := own_gro hO hg3 (by simp)
  replace hO2 := own_gro hO2 hg3 (by have := hg1.size; simp at this; omega)
  replace hO2 := own_low hO2 (show w.heap.size ≤ _ by have := hg1.size; simp at this; omega)
  go_wp2_with fail
  refine bodyPost_ret (v := .tuple #[.int .i64 p, .slice A' m c', .slice A2 q c2, .int .i64 v]) (by simp [results, Try.results22, go_sem]) rfl ⟨p, A', m, c', xs, A2, q, c2, ys, v, rfl, hp, Own.mk_ (own_low hO (by simp)), hm, Own.mk_ hO2, hq, hv, hc3.bel⟩
theorem drawLast (A : Option Addr) (n c : Nat) (cs : List Int) (w : World) (hC : Code w A n c cs) :
    Calls Try.prog 27 #[.slice A n c] w fun e w' => ∃ (p : Int) (A' : Option Addr) (m c' : Nat) (xs : List Road) (A2 : Option Addr) (q c2 : Nat) (ys : List Int) (v : Int), e = .returned (.tuple #[.int .i64 p, .slice A' m c', .int .i64 v, .slice A2 q c2]) ∧ (1 ≤ p ∧ p ≤ 9) ∧ Own w.heap.size w'.heap.size w' 39 4 A' m c' (xs.flatMap Road.row) ∧ m ≤ 13 ∧ Own w.heap.size w'.heap.size w' 3 1 A2 q c2 (ints ys) ∧ q ≤ 3 ∧ (-1 ≤ v ∧ v ≤ 1000) ∧ Below w.heap.size w w' := by
  go_enter Try.func27, Try.ntmps27
  go_wp2_with fail; refine (networkC w w.heap.size A n c cs 0 _ hC (code_start (bel_refl w)) (by omega)).mono ?_; rintro _ w1 ⟨p, A', m, c', xs, rfl, hp, hO, hm, hc1, hg1⟩; replace hO := hO.own; go_wp2_with fail
  refine (placeInC w w.heap.size A n c cs _ p _ hC hc1 (by omega) (by omega)).mono ?_
  rintro _ w3 ⟨v, rfl, hv, hc3, hg3⟩
  replace hO := own_gro hO hg3 (by simp)
  go_wp2_with fail
  refine (placesInC w w.heap.size A n c cs _ p _ hC hc3 (by omega) (by omega)).mono ?_
  rintro _ w2 ⟨A2, q, c2, ys, rfl, hq, hO2, hc2, hg2⟩; replace hO := own_gro hO hg2 (by simp); replace hO2 := own_low hO2 (show w.heap.size ≤ _ by have := hg1.size; have := hg3.size; simp at *; omega)
  go_wp2_with fail
  refine bodyPost_ret (v := .tuple #[.int .i64 p, .slice A' m c', .int .i64 v, .slice A2 q c2]) (by simp [results, Try.results27, go_sem]) rfl ⟨p, A', m, c', xs, A2, q, c2, ys, v, rfl, hp, Own.mk_ (own_low hO (by simp)), hm, Own.mk_ hO2, hq, hv, hc2.bel⟩
end Go.Proofs.Ytfimchbjpambfaa
