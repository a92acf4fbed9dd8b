/-
  Networks of roads, minutes and places that are drawn: walked.
-/
import Derived.Test.YtfimchbjpambfaaCur
import Derived.Test.YtfimchbjpambfaaPlan
import Derived.Test.YtfimchbjpambfaaRoadData
import Derived.Deep.DeepCutAuto
namespace Go.Proofs.Ytfimchbjpambfaa
open Go.RowKit

theorem info_Road' : (Try.prog.info? 39).map (fun i => (i.zero, i.size, i.bytes)) = some (some (.agg #[.int .i64 0, .int .i64 0, .int .i64 0, .int .i64 0]), 4, 32) := by kernel_rfl
theorem oneCell_road (x : Road) : ∀ u ∈ x.row, u.oneCell' = true := by
  intro u hu
  simp only [Road.row, List.mem_cons, List.not_mem_nil, or_false] at hu
  rcases hu with rfl | rfl | rfl | rfl <;> rfl
theorem Cur.lit {W w : World} {g n c B : Nat} {A : Option Addr} (h : Cur W g A n c B w) (T : TypeId) (xs : List Int) (hx : xs.length ≤ 1000) : Sl (w.alloc (.cells (ints xs).toArray T)) 1 (some ⟨w.heap.size, 0, none⟩) xs.length xs.length (ints xs) ∧ ∀ b, (some (⟨w.heap.size, 0, none⟩ : Addr)).map (·.block) = some b → b ≠ g :=
  ⟨lit_sl rfl rfl (by simp [maxLen]; omega) rfl, ne_lit h.lt⟩
theorem roadMinuteC (W : World) (g : Nat) (A : Option Addr) (n c : Nat) (cs : List Int) (B : Nat) (w : World) (hC : Code W A n c cs) (h : Cur W g A n c B w) (hB : B ≤ 900000) :
    Calls Try.prog 34 #[.pointer (some ⟨g, 0, none⟩)] w fun e w' => ∃ x : Int, e = .returned (.int .i64 x) ∧ (-1 ≤ x ∧ x ≤ 1000) ∧ Cur W g A n c (B + 4) w' ∧ w.grownBy w' (some g) := by
  go_enter Try.func34, Try.ntmps34
  go_wp2_with fail
  refine (oneC W g A n c cs _ 20 _ hC h (by omega) (by omega)).mono ?_
  rintro _ w1 ⟨x, rfl, hc1, hg1⟩
  rcases x with _ | _
  · go_wp2_with fail
    refine (amongC W g A n c cs _ _ 8 8 [0, 0, 5, 10, 20, 25, 40, 80] _ hC (hc1.kept (bel_alloc (bel_refl _))) (by omega) (lit_sl rfl rfl (by simp [maxLen]) rfl) (by omega) (ne_lit hc1.lt)).mono ?_
    rintro _ w2 ⟨y, rfl, hy, hc2, hg2⟩
    go_wp2_with fail
    go_ret
    exact ⟨y, rfl, by simp at hy; omega, hc2, gro_trans (gro_trans hg1 (gro_bel (bel_alloc (bel_refl _)))) hg2⟩
  · go_wp2_with fail
    refine (amongC W g A n c cs _ _ 3 3 [-1, 999, 1000] _ hC (hc1.kept (bel_alloc (bel_refl _))) (by omega) (lit_sl rfl rfl (by simp [maxLen]) rfl) (by omega) (ne_lit hc1.lt)).mono ?_
    rintro _ w2 ⟨y, rfl, hy, hc2, hg2⟩
    go_wp2_with fail
    go_ret
    exact ⟨y, rfl, by simp at hy; omega, hc2, gro_trans (gro_trans hg1 (gro_bel (bel_alloc (bel_refl _)))) hg2⟩
theorem placeInC (W : World) (g : Nat) (A : Option Addr) (n c : Nat) (cs : List Int) (B : Nat) (p : Int) (w : World) (hC : Code W A n c cs) (h : Cur W g A n c B w) (hB : B ≤ 900000) (hp : -1 ≤ p ∧ p ≤ 1000) :
    Calls Try.prog 33 #[.pointer (some ⟨g, 0, none⟩), .int .i64 p] w fun e w' => ∃ x : Int, e = .returned (.int .i64 x) ∧ (-1 ≤ x ∧ x ≤ 1000) ∧ Cur W g A n c (B + 4) w' ∧ w.grownBy w' (some g) := by
  go_enter Try.func33, Try.ntmps33
  go_wp2_with fail
  refine (oneC W g A n c cs _ 20 _ hC h (by omega) (by omega)).mono ?_
  rintro _ w1 ⟨x, rfl, hc1, hg1⟩
  rcases x with _ | _
  · go_wp2_with fail
    refine (pickC W g A n c cs _ p _ hC hc1 (by omega) (by omega)).mono ?_
    rintro _ w2 ⟨y, rfl, hy, hc2, hg2⟩
    go_wp2_with fail
    go_ret
    exact ⟨y, rfl, by omega, hc2, gro_trans hg1 hg2⟩
  · go_wp2_with fail
    refine (amongC W g A n c cs _ _ 2 2 [-1, p] _ hC (hc1.kept (bel_alloc (bel_refl _))) (by omega) (lit_sl rfl rfl (by simp [maxLen]) rfl) (by omega) (ne_lit hc1.lt)).mono ?_
    rintro _ w2 ⟨y, rfl, hy, hc2, hg2⟩
    go_wp2_with fail
    go_ret
    exact ⟨y, rfl, by simp at hy; omega, hc2, gro_trans (gro_trans hg1 (gro_bel (bel_alloc (bel_refl _)))) hg2⟩
theorem own_set4 {w : World} {lo g n c : Nat} {e : TypeId} {x : Road} {xs : List Road} (y : Road) (h : w.ownsRow lo e 4 (.slice (some ⟨g, 0, none⟩) n c) n ((x :: xs).flatMap Road.row)) :
    ((((w.setCell ⟨g, 0, none⟩ (.int .i64 y.a)).setCell ⟨g, 1, none⟩ (.int .i64 y.b)).setCell ⟨g, 2, none⟩ (.int .i64 y.minutes)).setCell ⟨g, 3, none⟩ (.int .i64 y.closes)).ownsRow lo e 4 (.slice (some ⟨g, 0, none⟩) n c) n ((y :: xs).flatMap Road.row) :=
  ((((h.stored 0 _).1.stored 1 _).1.stored 2 _).1.stored 3 _).1
set_option maxHeartbeats 8000000 in
set_option maxRecDepth 100000 in
theorem networkC (W : World) (g : Nat) (A : Option Addr) (n c : Nat) (cs : List Int) (B : Nat) (w : World) (hC : Code W A n c cs) (h : Cur W g A n c B w) (hB : B ≤ 800000) :
    Calls Try.prog 32 #[.pointer (some ⟨g, 0, none⟩)] w fun e w' => ∃ (p : Int) (A' : Option Addr) (m c' : Nat) (xs : List Road), e = .returned (.tuple #[.int .i64 p, .slice A' m c']) ∧ (1 ≤ p ∧ p ≤ 9) ∧ Own w.heap.size w'.heap.size w' 39 4 A' m c' (xs.flatMap Road.row) ∧ m ≤ 13 ∧ Cur W g A n c (B + 600) w' ∧ w.grownBy w' (some g) := by
  have hgl := h.lt
  go_enter Try.func32, Try.ntmps32
  go_wp2_with fail
  refine (pickC W g A n c cs B 6 _ hC h (by omega) (by omega)).mono ?_
  rintro _ w1 ⟨r, rfl, ⟨hr0, hr1⟩, hc1, hg1⟩
  obtain ⟨P, hP⟩ : ∃ P : Nat, 2 + r = (P : Int) := ⟨(2 + r).toNat, by omega⟩
  have hP7 : 2 ≤ P ∧ P ≤ 7 := by omega
  have hPI : (P : Int) ≤ 7 := by omega
  have hr7 : r ≤ 5 := by omega
  clear hr1
  go_wp2_with fail
  clear hP hr7 hr0
  have hown := own_low (own_empty (w := w1) (size := 4) (e := 39) (Nat.le_refl _)) hg1.size
  have hc2 := hc1.kept (bel_alloc (o := .cells #[] 39) (bel_refl w1))
  have hG2 := gro_trans hg1 (gro_bel (bel_alloc (o := .cells #[] 39) (bel_refl w1)))
  go_loopw [5, 6] (fun q u wr => ∃ (a m : Nat), a ≤ P ∧ m ≤ 12 ∧ u = .int .i64 a ∧ (∃ (A' : Option Addr) (c' : Nat) (xs : List Road), q = .slice A' m c' ∧ wr.ownsRow w.heap.size 39 4 (.slice A' m c') m (xs.flatMap Road.row)) ∧ Cur W g A n c (B + 2 + 64 * a) wr ∧ w.grownBy wr (some g)) (fun _ u _ => P - (intOf u).toNat)
  case atStart => exact ⟨0, 0, by omega, by omega, rfl, ⟨_, _, [], rfl, hown⟩, hc2, hG2⟩
  case round =>
    clear hown hc1 hc2 hg1 hG2
    obtain ⟨a, m, haP, hm, rfl, ⟨A', c', xs, rfl, hown⟩, hc, hG⟩ := hrel
    by_cases haP2 : a < P
    · have ha1 : (a : Int) < (P : Int) := by omega
      have ha7 : (a : Int) ≤ 7 := by omega
      go_wp2_with fail
      go_loopw [5, 7] (fun q u wr => ∃ (b m : Nat), a + 1 ≤ b ∧ b ≤ P ∧ m ≤ 12 ∧ u = .int .i64 b ∧ (∃ (A' : Option Addr) (c' : Nat) (xs : List Road), q = .slice A' m c' ∧ wr.ownsRow w.heap.size 39 4 (.slice A' m c') m (xs.flatMap Road.row)) ∧ Cur W g A n c (B + 2 + 64 * a + 8 * b) wr ∧ w.grownBy wr (some g)) (fun _ u _ => P - (intOf u).toNat)
      case atStart => exact ⟨a + 1, m, by omega, by omega, hm, by go_num, ⟨_, _, xs, rfl, hown⟩, hc.up (by omega), hG⟩
      case round =>
        clear hown hc hG hm
        obtain ⟨b, m, hab, hbP, hm, rfl, ⟨A', c', xs, rfl, hown⟩, hc, hG⟩ := hrel
        by_cases hbP2 : b < P
        · have hb1 : (b : Int) < (P : Int) := by omega
          have hb7 : (b : Int) ≤ 7 := by omega
          go_upto_region 9 with fail
          go_cut [41] (fun t wx => ∃ t' : Bool, t = .bool t' ∧ Hid (t' = true → m < 12) ∧ wx.ownsRow w.heap.size 39 4 (.slice A' m c') m (xs.flatMap Road.row) ∧ Cur W g A n c (B + 2 + 64 * a + 8 * b + 4) wx ∧ w.grownBy wx (some g))
          case first =>
            go_wp2_with fail
            refine (oneC W g A n c cs _ 2 _ hC hc (by omega) (by omega)).mono ?_
            rintro _ w2 ⟨x1, rfl, hc3, hg3⟩
            have hown3 := own_gro hown hg3 hgl
            have hG3 := gro_trans hG hg3
            rcases x1 with _ | _
            · by_cases hba : (b : Int) = (a : Int) + 1
              · have hba2 : ((b : Int) == (a : Int) + 1) = true := by simpa using hba
                clear hba
                go_wp2_with fail
                refine (oneC W g A n c cs _ 4 _ hC hc3 (by omega) (by omega)).mono ?_
                rintro _ w3 ⟨x2, rfl, hc4, hg4⟩
                have hown4 := own_gro hown3 hg4 hgl
                have hG4 := gro_trans hG3 hg4
                rcases x2 with _ | _
                · by_cases hm2 : (m : Int) < 12
                  · go_wp2_with fail
                    go_meet
                    exact ⟨true, rfl, (fun _ => by omega), hown4, hc4, hG4⟩
                  · go_wp2_with fail
                    go_meet
                    exact ⟨_, rfl, (fun h => by have := of_decide_eq_true h; omega), hown4, hc4, hG4⟩
                · go_wp2_with fail
                  go_meet
                  exact ⟨false, rfl, (fun h => by cases h), hown4, hc4, hG4⟩
              · have hba2 : ((b : Int) == (a : Int) + 1) = false := by simpa using hba
                clear hba
                go_wp2_with fail
                go_meet
                exact ⟨false, rfl, (fun h => by cases h), hown3, hc3.up (by omega), hG3⟩
            · by_cases hm2 : (m : Int) < 12
              · go_wp2_with fail
                go_meet
                exact ⟨true, rfl, (fun _ => by omega), hown3, hc3.up (by omega), hG3⟩
              · go_wp2_with fail
                go_meet
                exact ⟨_, rfl, (fun h => by have := of_decide_eq_true h; omega), hown3, hc3.up (by omega), hG3⟩
          case rest =>
            clear hown hc hG
            obtain ⟨t', rfl, ht, hown, hc, hG⟩ := hcut
            rcases t' with _ | _
            · go_wp2_with fail
              go_roundw
              case rel => exact ⟨b + 1, m, by omega, by omega, hm, by go_num, ⟨_, _, xs, rfl, hown⟩, hc.up (by omega), hG⟩
              case measure => simp [intOf]; omega
            · have hm2 := ht.out rfl
              go_wp2_with fail
              refine (amongC W g A n c cs _ _ 4 4 [1, 5, 10, 20] _ hC (hc.kept (bel_alloc (bel_refl _))) (by omega) (lit_sl rfl rfl (by simp [maxLen]) rfl) (by omega) (ne_lit hc.lt)).mono ?_
              rintro _ w2 ⟨y1, rfl, -, hc3, hg3⟩
              replace hown := own_gro (own_bel hown (bel_alloc (bel_refl _))) hg3 hgl
              replace hG := gro_trans (gro_trans hG (gro_bel (bel_alloc (bel_refl _)))) hg3
              clear hg3 hc
              go_wp2_with fail
              refine (amongC W g A n c cs _ _ 5 5 [20, 30, 60, 100, 999] _ hC (hc3.kept (bel_alloc (bel_refl _))) (by omega) (lit_sl rfl rfl (by simp [maxLen]) rfl) (by omega) (ne_lit hc3.lt)).mono ?_
              rintro _ w3 ⟨y2, rfl, -, hc4, hg4⟩
              replace hown := own_gro (own_bel hown (bel_alloc (bel_refl _))) hg4 hgl
              replace hG := gro_trans (gro_trans hG (gro_bel (bel_alloc (bel_refl _)))) hg4
              clear hg4 hc3
              go_wp2_with (at_builtin; refine wpList_push rfl (.tmp 42) (.tmp 52) 24 rfl w.heap.size 39 (.agg #[.int .i64 0, .int .i64 0, .int .i64 0, .int .i64 0]) 4 32 Try.underlying24 info_Road' rfl (by omega) A' m c' _ [.int .i64 a, .int .i64 b, .int .i64 y1, .int .i64 y2] 39 rfl hown rfl rfl (oneCell_road ⟨a, b, y1, y2⟩) (by omega) (by omega) hG.size ?_; intro A'' c'' w5 hown5 hb5 hg5)
              have hc5 := cur_push hc4 hg5 hown hgl
              have hG5 := gro_push hG hg5 hown (Nat.le_refl _)
              go_roundw
              case rel => exact ⟨b + 1, m + 1, by omega, by omega, by omega, by go_num, ⟨_, _, xs ++ [⟨a, b, y1, y2⟩], rfl, by rw [List.flatMap_append]; simpa [Road.row] using hown5⟩, hc5.up (by omega), hG5⟩
              case measure => simp [intOf]; omega
        · have hb1 : ¬ (b : Int) < (P : Int) := by omega
          go_wp2_with fail
          go_roundw
          case rel => exact ⟨a + 1, m, by omega, hm, by go_num, ⟨_, _, xs, rfl, hown⟩, hc.up (by omega), hG⟩
          case measure => simp [intOf]; omega
    · have ha1 : ¬ (a : Int) < (P : Int) := by omega
      go_wp2_with fail
      refine (pickC W g A n c cs _ 32 _ hC hc (by omega) (by omega)).mono ?_
      rintro _ w2 ⟨r2, rfl, -, hc3, hg3⟩
      replace hown := own_gro hown hg3 hgl
      replace hG := gro_trans hG hg3
      have hc4 := hc3.up (show _ ≤ B + 500 by omega)
      clear hg3 hc hc3 ha1 haP2 haP
      by_cases e0 : r2 = 0
      · subst e0
        go_wp2_with fail
        refine (amongC W g A n c cs _ _ 3 3 [1, 8, (P : Int) + 1] _ hC (hc4.kept (bel_alloc (bel_refl _))) (by omega) (lit_sl rfl rfl (by simp [maxLen]) rfl) (by omega) (ne_lit hc4.lt)).mono ?_
        rintro _ w3 ⟨y, rfl, hy, hc5, hg5⟩
        have hyb : 1 ≤ y ∧ y ≤ 9 := by simp at hy; omega
        clear hy
        go_wp2_with fail
        go_ret2
        exact ⟨y, A', m, c', xs, rfl, hyb, Own.mk_ (own_gro (own_bel hown (bel_alloc (bel_refl _))) hg5 hgl), by omega, hc5.up (by omega), gro_trans (gro_trans hG (gro_bel (bel_alloc (bel_refl _)))) hg5⟩
      have f0 : (r2 == 0) = false := by simpa using e0
      clear e0
      by_cases e1 : r2 = 1
      · subst e1
        go_wp2_with (at_builtin; refine wpList_push rfl (.tmp 65) (.tmp 67) 24 rfl w.heap.size 39 (.agg #[.int .i64 0, .int .i64 0, .int .i64 0, .int .i64 0]) 4 32 Try.underlying24 info_Road' rfl (by omega) A' m c' _ [.int .i64 0, .int .i64 1, .int .i64 5, .int .i64 50] 39 rfl hown rfl rfl (oneCell_road ⟨0, 1, 5, 50⟩) (by omega) (by omega) hG.size ?_; intro A'' c'' w5 hown5 hb5 hg5)
        have hc5 := cur_push hc4 hg5 hown hgl
        have hG5 := gro_push hG hg5 hown (Nat.le_refl _)
        go_ret2
        exact ⟨P, _, m + 1, _, xs ++ [⟨0, 1, 5, 50⟩], rfl, by omega, Own.mk_ (by rw [List.flatMap_append]; simpa [Road.row] using hown5), by omega, hc5.up (by omega), hG5⟩
      have f1 : (r2 == 1) = false := by simpa using e1
      clear e1
      by_cases e2 : r2 = 2
      · subst e2
        by_cases hm0 : 0 < m
        · have hm0I : (0 : Int) < (m : Int) := by omega
          obtain ⟨q, rfl, hq1, hq2⟩ := own_form hown hm0
          have hxl : xs.length = m := by
            have h1 := hown.1
            rw [flat_len Road.row_len] at h1
            omega
          rcases xs with _ | ⟨x, xs⟩
          · simp at hxl; omega
          have hgq : q ≠ g := by omega
          have hgl2 := hgl
          go_wp2_with fail
          have hc := hc4.kept (bel_drew (bel_refl _))
          replace hG := gro_trans hG (gro_bel (bel_drew (bel_refl _)))
          refine wp_region_plan (fun w' => ∃ u v : Int, w'.ownsRow w.heap.size 39 4 (.slice (some ⟨q, 0, none⟩) m c') m (((⟨x.a, x.b, u, v⟩ : Road) :: xs).flatMap Road.row)) (.free 0 (.free 1 (.free 2 (.free 3 (.free 4 (.free 5 (.free 6 (.free 7 (.free 8 (.free 9 (.free 12 (.two 10 (.two 11 (.one 13 (.one 14 (.free 15 (.free 16 (.one 17 .stop))))) 13 (.one 11 (.one 14 (.free 15 (.free 16 (.one 17 .stop)))))) 13 (.one 10 (.one 11 (.one 14 (.free 15 (.free 16 (.one 17 .stop)))))))))))))))))) (by kernel_rfl) (by kernel_rfl) ⟨_, _, own_bel hown (bel_drew (bel_refl _))⟩ ?_
          simp only [Plan.ops, List.getElem?_cons_zero, List.getElem?_cons_succ, Option.getD_some]
          replace hown := own_bel hown (bel_drew (bel_refl _))
          obtain ⟨w9, hw9⟩ : ∃ w9, w2.drew = w9 := ⟨_, rfl⟩
          rw [hw9] at hown hc hG ⊢
          clear hw9
          (iterate 11 (refine p_free rfl (by intro w' hw'; obtain ⟨u, v, hw'⟩ := hw'; have z0 := hw'.cellAt 0 (by omega); have z1 := hw'.cellAt 1 (by omega); simp only [List.flatMap_cons, Road.row, List.cons_append, List.getElem?_cons_zero, List.getElem?_cons_succ] at z0 z1; (go_simp; first | done | rfl)) ?_; (try simp only [Act.put, List.setIfInBounds_toArray, List.set_cons_zero, List.set_cons_succ])))
          refine p_two ?_ ?_
          · refine p_val rfl (by (go_simp; first | done | rfl | exact ⟨rfl, rfl⟩)) ⟨_, _, own_bel hown (bel_alloc (bel_refl _))⟩ ?_
            (try simp only [Act.put, List.setIfInBounds_toArray, List.set_cons_zero, List.set_cons_succ])
            obtain ⟨hla, hna⟩ := hc.lit 3 [0, 100, 101] (by simp)
            replace hown := own_bel hown (bel_alloc (o := .cells #[.int .i64 0, .int .i64 100, .int .i64 101] 3) (bel_refl w9))
            replace hc := hc.kept (bel_alloc (o := .cells #[.int .i64 0, .int .i64 100, .int .i64 101] 3) (bel_refl w9))
            replace hG := gro_trans hG (gro_bel (bel_alloc (o := .cells #[.int .i64 0, .int .i64 100, .int .i64 101] 3) (bel_refl w9)))
            try replace hlb := hlb.bel (bel_alloc (o := .cells #[.int .i64 0, .int .i64 100, .int .i64 101] 3) (bel_refl w9))
            obtain ⟨wA, hdwA⟩ : ∃ wA, w9.alloc (.cells #[.int .i64 0, .int .i64 100, .int .i64 101] 3) = wA := ⟨_, rfl⟩
            obtain ⟨pwA, hpwA⟩ : ∃ pwA, w9.heap.size = pwA := ⟨_, rfl⟩
            replace hla : Sl (w9.alloc (.cells #[.int .i64 0, .int .i64 100, .int .i64 101] 3)) 1 (some ⟨w9.heap.size, 0, none⟩) 3 3 (ints [0, 100, 101]) := hla
            rw [hdwA] at hown hc hG hla ⊢
            try rw [hdwA] at hlb
            rw [hpwA] at hla hna ⊢
            clear hdwA hpwA
            refine p_two ?_ ?_
            · refine p_call rfl (by (go_simp; first | done | exact ⟨rfl, rfl⟩ | rfl)) ?_
              refine (amongC W g A n c cs _ _ _ _ [0, 100, 101] _ hC hc (by omega) hla (by omega) hna).mono ?_
              rintro _ wB ⟨y1, rfl, -, hcn, hgn⟩
              refine ⟨_, rfl, ⟨_, _, own_gro hown hgn hgl⟩, ?_⟩
              (try simp only [Act.put, List.setIfInBounds_toArray, List.set_cons_zero, List.set_cons_succ])
              try replace hlb := hlb.gro hgn hnb
              replace hown := own_gro hown hgn hgl
              replace hG := gro_trans hG hgn
              replace hc := hcn
              clear hgn hcn hla hna
              refine p_val rfl (by (go_simp; first | done | rfl | exact ⟨rfl, rfl⟩)) ⟨_, _, own_bel hown (bel_alloc (bel_refl _))⟩ ?_
              (try simp only [Act.put, List.setIfInBounds_toArray, List.set_cons_zero, List.set_cons_succ])
              obtain ⟨hlb, hnb⟩ := hc.lit 3 [-1, 999, 1000] (by simp)
              replace hown := own_bel hown (bel_alloc (o := .cells #[.int .i64 (-1), .int .i64 999, .int .i64 1000] 3) (bel_refl wB))
              replace hc := hc.kept (bel_alloc (o := .cells #[.int .i64 (-1), .int .i64 999, .int .i64 1000] 3) (bel_refl wB))
              replace hG := gro_trans hG (gro_bel (bel_alloc (o := .cells #[.int .i64 (-1), .int .i64 999, .int .i64 1000] 3) (bel_refl wB)))
              try replace hla := hla.bel (bel_alloc (o := .cells #[.int .i64 (-1), .int .i64 999, .int .i64 1000] 3) (bel_refl wB))
              obtain ⟨wC, hdwC⟩ : ∃ wC, wB.alloc (.cells #[.int .i64 (-1), .int .i64 999, .int .i64 1000] 3) = wC := ⟨_, rfl⟩
              obtain ⟨pwC, hpwC⟩ : ∃ pwC, wB.heap.size = pwC := ⟨_, rfl⟩
              replace hlb : Sl (wB.alloc (.cells #[.int .i64 (-1), .int .i64 999, .int .i64 1000] 3)) 1 (some ⟨wB.heap.size, 0, none⟩) 3 3 (ints [-1, 999, 1000]) := hlb
              rw [hdwC] at hown hc hG hlb ⊢
              try rw [hdwC] at hla
              rw [hpwC] at hlb hnb ⊢
              clear hdwC hpwC
              refine p_call rfl (by (go_simp; first | done | exact ⟨rfl, rfl⟩ | rfl)) ?_
              refine (amongC W g A n c cs _ _ _ _ [-1, 999, 1000] _ hC hc (by omega) hlb (by omega) hnb).mono ?_
              rintro _ wD ⟨y2, rfl, -, hcn, hgn⟩
              refine ⟨_, rfl, ⟨_, _, own_gro hown hgn hgl⟩, ?_⟩
              (try simp only [Act.put, List.setIfInBounds_toArray, List.set_cons_zero, List.set_cons_succ])
              try replace hla := hla.gro hgn hna
              replace hown := own_gro hown hgn hgl
              replace hG := gro_trans hG hgn
              replace hc := hcn
              clear hgn hcn hlb hnb
              (iterate 2 (refine p_free rfl (by intro w' hw'; obtain ⟨u, v, hw'⟩ := hw'; have z0 := hw'.cellAt 0 (by omega); simp only [List.flatMap_cons, Road.row, List.cons_append, List.getElem?_cons_zero] at z0; (go_simp; first | done | rfl)) ?_; (try simp only [Act.put, List.setIfInBounds_toArray, List.set_cons_zero, List.set_cons_succ])))
              have z0 := hown.cellAt 0 (by omega)
              have z1 := hown.cellAt 1 (by omega)
              have z2 := hown.cellAt 2 (by omega)
              have z3 := hown.cellAt 3 (by omega)
              simp only [List.flatMap_cons, Road.row, List.cons_append, List.getElem?_cons_zero, List.getElem?_cons_succ] at z0 z1 z2 z3
              have zz := own_fz hown
              refine p_store rfl (by (go_simp; first | done | rfl)) ?_ ?_
              · exact ⟨_, _, own_set4 ⟨x.a, x.b, y1, y2⟩ hown⟩
              (try simp only [Act.put])
              refine p_stop ?_
              (try simp only [Act.put, List.setIfInBounds_toArray, List.set_cons_zero, List.set_cons_succ])
              clear z0 z1 z2 z3 zz
              replace hown := hid hown
              replace hc := hid hc
              replace hG := hid hG
              go_wp2_with fail
              go_ret2
              replace hown := hown.out
              replace hc := hc.out
              replace hG := hG.out
              have hset := own_set4 ⟨x.a, x.b, y1, y2⟩ hown
              have hq1' : W.heap.size ≤ q := Nat.le_trans h.bel.size hq1
              have hcF := cur_set (o := 3) (v := .int .i64 y2) (cur_set (o := 2) (v := .int .i64 y1) (cur_set (o := 1) (v := .int .i64 x.b) (cur_set (o := 0) (v := .int .i64 x.a) hc hq1' hgq) hq1' hgq) hq1' hgq) hq1' hgq
              have hGF := gro_new (o := 3) (v := .int .i64 y2) (gro_new (o := 2) (v := .int .i64 y1) (gro_new (o := 1) (v := .int .i64 x.b) (gro_new (o := 0) (v := .int .i64 x.a) hG hq1) hq1) hq1) hq1
              refine ⟨(P : Int), some ⟨q, 0, none⟩, m, c', (⟨x.a, x.b, y1, y2⟩ : Road) :: xs, rfl, by omega, Own.mk_ hset, by omega, hcF.up (by omega), hGF⟩
            · refine p_val rfl (by (go_simp; first | done | rfl | exact ⟨rfl, rfl⟩)) ⟨_, _, own_bel hown (bel_alloc (bel_refl _))⟩ ?_
              (try simp only [Act.put, List.setIfInBounds_toArray, List.set_cons_zero, List.set_cons_succ])
              obtain ⟨hlb, hnb⟩ := hc.lit 3 [-1, 999, 1000] (by simp)
              replace hown := own_bel hown (bel_alloc (o := .cells #[.int .i64 (-1), .int .i64 999, .int .i64 1000] 3) (bel_refl wA))
              replace hc := hc.kept (bel_alloc (o := .cells #[.int .i64 (-1), .int .i64 999, .int .i64 1000] 3) (bel_refl wA))
              replace hG := gro_trans hG (gro_bel (bel_alloc (o := .cells #[.int .i64 (-1), .int .i64 999, .int .i64 1000] 3) (bel_refl wA)))
              try replace hla := hla.bel (bel_alloc (o := .cells #[.int .i64 (-1), .int .i64 999, .int .i64 1000] 3) (bel_refl wA))
              obtain ⟨wB, hdwB⟩ : ∃ wB, wA.alloc (.cells #[.int .i64 (-1), .int .i64 999, .int .i64 1000] 3) = wB := ⟨_, rfl⟩
              obtain ⟨pwB, hpwB⟩ : ∃ pwB, wA.heap.size = pwB := ⟨_, rfl⟩
              replace hlb : Sl (wA.alloc (.cells #[.int .i64 (-1), .int .i64 999, .int .i64 1000] 3)) 1 (some ⟨wA.heap.size, 0, none⟩) 3 3 (ints [-1, 999, 1000]) := hlb
              rw [hdwB] at hown hc hG hlb ⊢
              try rw [hdwB] at hla
              rw [hpwB] at hlb hnb ⊢
              clear hdwB hpwB
              refine p_call rfl (by (go_simp; first | done | exact ⟨rfl, rfl⟩ | rfl)) ?_
              refine (amongC W g A n c cs _ _ _ _ [0, 100, 101] _ hC hc (by omega) hla (by omega) hna).mono ?_
              rintro _ wC ⟨y1, rfl, -, hcn, hgn⟩
              refine ⟨_, rfl, ⟨_, _, own_gro hown hgn hgl⟩, ?_⟩
              (try simp only [Act.put, List.setIfInBounds_toArray, List.set_cons_zero, List.set_cons_succ])
              try replace hlb := hlb.gro hgn hnb
              replace hown := own_gro hown hgn hgl
              replace hG := gro_trans hG hgn
              replace hc := hcn
              clear hgn hcn hla hna
              refine p_call rfl (by (go_simp; first | done | exact ⟨rfl, rfl⟩ | rfl)) ?_
              refine (amongC W g A n c cs _ _ _ _ [-1, 999, 1000] _ hC hc (by omega) hlb (by omega) hnb).mono ?_
              rintro _ wD ⟨y2, rfl, -, hcn, hgn⟩
              refine ⟨_, rfl, ⟨_, _, own_gro hown hgn hgl⟩, ?_⟩
              (try simp only [Act.put, List.setIfInBounds_toArray, List.set_cons_zero, List.set_cons_succ])
              try replace hla := hla.gro hgn hna
              replace hown := own_gro hown hgn hgl
              replace hG := gro_trans hG hgn
              replace hc := hcn
              clear hgn hcn hlb hnb
              (iterate 2 (refine p_free rfl (by intro w' hw'; obtain ⟨u, v, hw'⟩ := hw'; have z0 := hw'.cellAt 0 (by omega); simp only [List.flatMap_cons, Road.row, List.cons_append, List.getElem?_cons_zero] at z0; (go_simp; first | done | rfl)) ?_; (try simp only [Act.put, List.setIfInBounds_toArray, List.set_cons_zero, List.set_cons_succ])))
              have z0 := hown.cellAt 0 (by omega)
              have z1 := hown.cellAt 1 (by omega)
              have z2 := hown.cellAt 2 (by omega)
              have z3 := hown.cellAt 3 (by omega)
              simp only [List.flatMap_cons, Road.row, List.cons_append, List.getElem?_cons_zero, List.getElem?_cons_succ] at z0 z1 z2 z3
              have zz := own_fz hown
              refine p_store rfl (by (go_simp; first | done | rfl)) ?_ ?_
              · exact ⟨_, _, own_set4 ⟨x.a, x.b, y1, y2⟩ hown⟩
              (try simp only [Act.put])
              refine p_stop ?_
              (try simp only [Act.put, List.setIfInBounds_toArray, List.set_cons_zero, List.set_cons_succ])
              clear z0 z1 z2 z3 zz
              replace hown := hid hown
              replace hc := hid hc
              replace hG := hid hG
              go_wp2_with fail
              go_ret2
              replace hown := hown.out
              replace hc := hc.out
              replace hG := hG.out
              have hset := own_set4 ⟨x.a, x.b, y1, y2⟩ hown
              have hq1' : W.heap.size ≤ q := Nat.le_trans h.bel.size hq1
              have hcF := cur_set (o := 3) (v := .int .i64 y2) (cur_set (o := 2) (v := .int .i64 y1) (cur_set (o := 1) (v := .int .i64 x.b) (cur_set (o := 0) (v := .int .i64 x.a) hc hq1' hgq) hq1' hgq) hq1' hgq) hq1' hgq
              have hGF := gro_new (o := 3) (v := .int .i64 y2) (gro_new (o := 2) (v := .int .i64 y1) (gro_new (o := 1) (v := .int .i64 x.b) (gro_new (o := 0) (v := .int .i64 x.a) hG hq1) hq1) hq1) hq1
              refine ⟨(P : Int), some ⟨q, 0, none⟩, m, c', (⟨x.a, x.b, y1, y2⟩ : Road) :: xs, rfl, by omega, Own.mk_ hset, by omega, hcF.up (by omega), hGF⟩
          · refine p_val rfl (by (go_simp; first | done | rfl | exact ⟨rfl, rfl⟩)) ⟨_, _, own_bel hown (bel_alloc (bel_refl _))⟩ ?_
            (try simp only [Act.put, List.setIfInBounds_toArray, List.set_cons_zero, List.set_cons_succ])
            obtain ⟨hlb, hnb⟩ := hc.lit 3 [-1, 999, 1000] (by simp)
            replace hown := own_bel hown (bel_alloc (o := .cells #[.int .i64 (-1), .int .i64 999, .int .i64 1000] 3) (bel_refl w9))
            replace hc := hc.kept (bel_alloc (o := .cells #[.int .i64 (-1), .int .i64 999, .int .i64 1000] 3) (bel_refl w9))
            replace hG := gro_trans hG (gro_bel (bel_alloc (o := .cells #[.int .i64 (-1), .int .i64 999, .int .i64 1000] 3) (bel_refl w9)))
            try replace hla := hla.bel (bel_alloc (o := .cells #[.int .i64 (-1), .int .i64 999, .int .i64 1000] 3) (bel_refl w9))
            obtain ⟨wA, hdwA⟩ : ∃ wA, w9.alloc (.cells #[.int .i64 (-1), .int .i64 999, .int .i64 1000] 3) = wA := ⟨_, rfl⟩
            obtain ⟨pwA, hpwA⟩ : ∃ pwA, w9.heap.size = pwA := ⟨_, rfl⟩
            replace hlb : Sl (w9.alloc (.cells #[.int .i64 (-1), .int .i64 999, .int .i64 1000] 3)) 1 (some ⟨w9.heap.size, 0, none⟩) 3 3 (ints [-1, 999, 1000]) := hlb
            rw [hdwA] at hown hc hG hlb ⊢
            try rw [hdwA] at hla
            rw [hpwA] at hlb hnb ⊢
            clear hdwA hpwA
            refine p_val rfl (by (go_simp; first | done | rfl | exact ⟨rfl, rfl⟩)) ⟨_, _, own_bel hown (bel_alloc (bel_refl _))⟩ ?_
            (try simp only [Act.put, List.setIfInBounds_toArray, List.set_cons_zero, List.set_cons_succ])
            obtain ⟨hla, hna⟩ := hc.lit 3 [0, 100, 101] (by simp)
            replace hown := own_bel hown (bel_alloc (o := .cells #[.int .i64 0, .int .i64 100, .int .i64 101] 3) (bel_refl wA))
            replace hc := hc.kept (bel_alloc (o := .cells #[.int .i64 0, .int .i64 100, .int .i64 101] 3) (bel_refl wA))
            replace hG := gro_trans hG (gro_bel (bel_alloc (o := .cells #[.int .i64 0, .int .i64 100, .int .i64 101] 3) (bel_refl wA)))
            try replace hlb := hlb.bel (bel_alloc (o := .cells #[.int .i64 0, .int .i64 100, .int .i64 101] 3) (bel_refl wA))
            obtain ⟨wB, hdwB⟩ : ∃ wB, wA.alloc (.cells #[.int .i64 0, .int .i64 100, .int .i64 101] 3) = wB := ⟨_, rfl⟩
            obtain ⟨pwB, hpwB⟩ : ∃ pwB, wA.heap.size = pwB := ⟨_, rfl⟩
            replace hla : Sl (wA.alloc (.cells #[.int .i64 0, .int .i64 100, .int .i64 101] 3)) 1 (some ⟨wA.heap.size, 0, none⟩) 3 3 (ints [0, 100, 101]) := hla
            rw [hdwB] at hown hc hG hla ⊢
            try rw [hdwB] at hlb
            rw [hpwB] at hla hna ⊢
            clear hdwB hpwB
            refine p_call rfl (by (go_simp; first | done | exact ⟨rfl, rfl⟩ | rfl)) ?_
            refine (amongC W g A n c cs _ _ _ _ [0, 100, 101] _ hC hc (by omega) hla (by omega) hna).mono ?_
            rintro _ wC ⟨y1, rfl, -, hcn, hgn⟩
            refine ⟨_, rfl, ⟨_, _, own_gro hown hgn hgl⟩, ?_⟩
            (try simp only [Act.put, List.setIfInBounds_toArray, List.set_cons_zero, List.set_cons_succ])
            try replace hlb := hlb.gro hgn hnb
            replace hown := own_gro hown hgn hgl
            replace hG := gro_trans hG hgn
            replace hc := hcn
            clear hgn hcn hla hna
            refine p_call rfl (by (go_simp; first | done | exact ⟨rfl, rfl⟩ | rfl)) ?_
            refine (amongC W g A n c cs _ _ _ _ [-1, 999, 1000] _ hC hc (by omega) hlb (by omega) hnb).mono ?_
            rintro _ wD ⟨y2, rfl, -, hcn, hgn⟩
            refine ⟨_, rfl, ⟨_, _, own_gro hown hgn hgl⟩, ?_⟩
            (try simp only [Act.put, List.setIfInBounds_toArray, List.set_cons_zero, List.set_cons_succ])
            try replace hla := hla.gro hgn hna
            replace hown := own_gro hown hgn hgl
            replace hG := gro_trans hG hgn
            replace hc := hcn
            clear hgn hcn hlb hnb
            (iterate 2 (refine p_free rfl (by intro w' hw'; obtain ⟨u, v, hw'⟩ := hw'; have z0 := hw'.cellAt 0 (by omega); simp only [List.flatMap_cons, Road.row, List.cons_append, List.getElem?_cons_zero] at z0; (go_simp; first | done | rfl)) ?_; (try simp only [Act.put, List.setIfInBounds_toArray, List.set_cons_zero, List.set_cons_succ])))
            have z0 := hown.cellAt 0 (by omega)
            have z1 := hown.cellAt 1 (by omega)
            have z2 := hown.cellAt 2 (by omega)
            have z3 := hown.cellAt 3 (by omega)
            simp only [List.flatMap_cons, Road.row, List.cons_append, List.getElem?_cons_zero, List.getElem?_cons_succ] at z0 z1 z2 z3
            have zz := own_fz hown
            refine p_store rfl (by (go_simp; first | done | rfl)) ?_ ?_
            · exact ⟨_, _, own_set4 ⟨x.a, x.b, y1, y2⟩ hown⟩
            (try simp only [Act.put])
            refine p_stop ?_
            (try simp only [Act.put, List.setIfInBounds_toArray, List.set_cons_zero, List.set_cons_succ])
            clear z0 z1 z2 z3 zz
            replace hown := hid hown
            replace hc := hid hc
            replace hG := hid hG
            go_wp2_with fail
            go_ret2
            replace hown := hown.out
            replace hc := hc.out
            replace hG := hG.out
            have hset := own_set4 ⟨x.a, x.b, y1, y2⟩ hown
            have hq1' : W.heap.size ≤ q := Nat.le_trans h.bel.size hq1
            have hcF := cur_set (o := 3) (v := .int .i64 y2) (cur_set (o := 2) (v := .int .i64 y1) (cur_set (o := 1) (v := .int .i64 x.b) (cur_set (o := 0) (v := .int .i64 x.a) hc hq1' hgq) hq1' hgq) hq1' hgq) hq1' hgq
            have hGF := gro_new (o := 3) (v := .int .i64 y2) (gro_new (o := 2) (v := .int .i64 y1) (gro_new (o := 1) (v := .int .i64 x.b) (gro_new (o := 0) (v := .int .i64 x.a) hG hq1) hq1) hq1) hq1
            refine ⟨(P : Int), some ⟨q, 0, none⟩, m, c', (⟨x.a, x.b, y1, y2⟩ : Road) :: xs, rfl, by omega, Own.mk_ hset, by omega, hcF.up (by omega), hGF⟩
        · have hm0I : ¬ (0 : Int) < (m : Int) := by omega
          go_wp2_with fail
          go_ret2
          exact ⟨P, A', m, c', xs, rfl, by omega, Own.mk_ hown, by omega, hc4.up (by omega), hG⟩
      have f2 : (r2 == 2) = false := by simpa using e2
      clear e2
      go_wp2_with fail
      go_ret2
      exact ⟨P, A', m, c', xs, rfl, by omega, Own.mk_ hown, by omega, hc4.up (by omega), hG⟩
end Go.Proofs.Ytfimchbjpambfaa
