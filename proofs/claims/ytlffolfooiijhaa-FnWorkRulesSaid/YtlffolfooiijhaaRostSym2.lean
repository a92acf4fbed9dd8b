/-
  The library's merge of two sorted halves: it ends, and writes into its own memory alone: walked.
-/
import Derived.Test.YtlffolfooiijhaaRostSym
namespace Go.Proofs.Ytlffolfooiijhaa
open Go.RowKit

set_option maxHeartbeats 4000000 in
set_option maxRecDepth 100000 in
theorem symLow (g n c lo : Nat) (hn : n ≤ 1048577) (a m b : Nat) (w : World) (h : DO lo g n c w) (ham : m = a + 1) (hmb : m < b) (hbn : b ≤ n) : Calls Try.prog 89 #[.slice (some ⟨g, 0, none⟩) n c, .int .i64 a, .int .i64 m, .int .i64 b, .func (.func 79) #[] #[]] w fun e w' => (∃ v, e = .returned v) ∧ DO lo g n c w' ∧ w.grownBy w' (some g) := by
  subst ham
  have hab2 : (a : Int) + 1 < (b : Int) := by omega
  have hab3 : (b : Int) ≤ 1048577 := by omega
  have hpa : ((a + 1 : Nat) : Int) = (a : Int) + 1 := by omega
  have han : (a : Int) < (n : Int) := by omega
  have ha0 : (0 : Int) ≤ (a : Int) := by omega
  rw [hpa]
  clear hpa
  go_enter Try.func89, Try.ntmps89
  go_wp2_with fail
  go_loopw [10, 11] (fun u v wr => ∃ i j : Nat, a + 1 ≤ i ∧ i ≤ j ∧ j ≤ b ∧ u = .int .i64 i ∧ v = .int .i64 j ∧ DO lo g n c wr ∧ w.grownBy wr (some g)) (fun u v _ => (intOf v).toNat - (intOf u).toNat)
  case atStart => exact ⟨a + 1, b, by omega, by omega, by omega, by go_num, rfl, h, World.grownBy.refl _ _⟩
  case round =>
    clear h
    obtain ⟨i, j, hi, hij, hj, rfl, rfl, h, hg⟩ := hrel
    have hj3 : (j : Int) ≤ 1048577 := by omega
    by_cases hlt : i < j
    · have hlt1 : (i : Int) < (j : Int) := by omega
      obtain ⟨k, hk⟩ : ∃ k : Nat, ((i : Int) + (j : Int)) / 2 = (k : Int) := ⟨(i + j) / 2, by omega⟩
      have hk1 : i ≤ k ∧ k < j := by omega
      have hk2 : (0 : Int) ≤ (k : Int) := by omega
      have hk3 : (k : Int) < (n : Int) := by omega
      obtain ⟨p, c0, c1, c2⟩ := h.at_ (j := k) (by omega)
      obtain ⟨q, d0, d1, d2⟩ := h.at_ (j := a) (by omega)
      have hgz := h.lt.2
      have hB2 := bel_refl wr
      go_wp2_with fail
      (refine wp_region_bel (by kernel_rfl) (by kernel_rfl) ?_; have hD := bel_cells hB2; (repeat (go_big_quiet_step (((go_at_call 79; exact calls_bel (cmpDuty p q _)))))); refine wpQuiet_nil ?_; intro w1 hB1; replace hB2 := bel_trans hB2 hB1; obtain ⟨hC1, hF1⟩ := bcell hB2; clear hD; replace hB1 := hB1)
      clear hk
      by_cases hl : cmpD p q < 0
      · go_wp2_with fail
        go_roundw
        case rel => exact ⟨k + 1, j, by omega, by omega, by omega, by go_num, rfl, h.bel hB2, grown_bel hg hB2⟩
        case measure => simp [intOf]; omega
      · go_wp2_with fail
        go_roundw
        case rel => exact ⟨i, k, by omega, by omega, by omega, rfl, rfl, h.bel hB2, grown_bel hg hB2⟩
        case measure => simp [intOf]; omega
    · have hlt1 : ¬ (i : Int) < (j : Int) := by omega
      go_wp2_with fail
      go_loopw [13] (fun u wr => ∃ k : Nat, u = .int .i64 k ∧ k ≤ i ∧ DO lo g n c wr ∧ w.grownBy wr (some g)) (fun u _ => i - (intOf u).toNat)
      case atStart => exact ⟨a, rfl, by omega, h, hg⟩
      case round =>
        clear h hg
        obtain ⟨k, rfl, hki, h, hg⟩ := hrel
        by_cases hlt2 : k + 1 < i
        · have hlt3 : (k : Int) < (i : Int) - 1 := by omega
          have hk0 : (0 : Int) ≤ (k : Int) := by omega
          have hk1 : (k : Int) < (n : Int) := by omega
          have hk2 : (k : Int) + 1 < (n : Int) := by omega
          have hk3 : (0 : Int) ≤ (k : Int) + 1 := by omega
          have htn : ((k : Int) + 1).toNat = k + 1 := by omega
          obtain ⟨p, c0, c1, c2⟩ := h.at_ (j := k) (by omega)
          obtain ⟨q, d0, d1, d2⟩ := h.at_ (j := k + 1) (by omega)
          have hfz := h.fz
          have hwk : IntKind.i64.wrap ((k : Int) + 1) = (k : Int) + 1 := IntWalk.i64_in _ (by omega)
          go_wp2_with fail
          (refine wp_region_plan (fun _ => True) (.free 0 (.free 1 (.free 2 (.free 3 (.free 4 (.free 5 (.free 6 (.free 7 (.free 8 (.here 9 (.free 10 (.free 11 (.free 12 (.here 13 (.free 14 (.one 15 (.free 16 (.one 17 (.stop))))))))))))))))))) (by kernel_rfl) (by kernel_rfl) trivial ?_; simp only [Plan.ops, List.getElem?_cons_zero, List.getElem?_cons_succ, Option.getD_some]); (iterate 9 (refine p_free rfl (by intro w' _; (go_simp; first | done | rfl)) ?_; (try simp only [Act.put, List.setIfInBounds_toArray, List.set_cons_zero, List.set_cons_succ]))); (iterate 1 (refine p_here rfl (by (go_simp; first | done | rfl)) ?_; (try simp only [Act.put, List.setIfInBounds_toArray, List.set_cons_zero, List.set_cons_succ]))); (iterate 3 (refine p_free rfl (by intro w' _; (go_simp; first | done | rfl)) ?_; (try simp only [Act.put, List.setIfInBounds_toArray, List.set_cons_zero, List.set_cons_succ]))); (iterate 1 (refine p_here rfl (by (go_simp; first | done | rfl)) ?_; (try simp only [Act.put, List.setIfInBounds_toArray, List.set_cons_zero, List.set_cons_succ]))); (iterate 1 (refine p_free rfl (by intro w' _; (go_simp; first | done | rfl)) ?_; (try simp only [Act.put, List.setIfInBounds_toArray, List.set_cons_zero, List.set_cons_succ]))); refine p_store rfl (by (go_simp; first | done | rfl)) trivial ?_; (try simp only [Act.put]); (iterate 1 (refine p_free rfl (by intro w' _; (go_simp; first | done | rfl)) ?_; (try simp only [Act.put, List.setIfInBounds_toArray, List.set_cons_zero, List.set_cons_succ]))); refine p_store rfl (by (go_simp; first | done | rfl)) trivial ?_; (try simp only [Act.put]); refine p_stop ?_; (try simp only [Act.put, List.setIfInBounds_toArray, List.set_cons_zero, List.set_cons_succ]); go_wp2
          clear c0 c1 c2 d0 d1 d2 hwk htn
          go_roundw
          case rel => exact ⟨k + 1, by go_num, by omega, ((h.set q (by omega)).set p (by omega)).bel (bel_drew (bel_refl _)), grown_bel (grown_set3 (grown_set3 hg)) (bel_drew (bel_refl _))⟩
          case measure => simp [intOf]; omega
        · have hlt3 : ¬ (k : Int) < (i : Int) - 1 := by omega
          go_wp2_with fail
          exact bodyPost_ret (v := .tuple #[]) (by simp [results, Try.results89, go_sem]) rfl ⟨⟨_, rfl⟩, h, hg⟩
set_option maxHeartbeats 4000000 in
set_option maxRecDepth 100000 in
theorem symHigh (g n c lo : Nat) (hn : n ≤ 1048577) (a m b : Nat) (w : World) (h : DO lo g n c w) (ham : a < m) (hm1 : m - a ≠ 1) (hmb : b = m + 1) (hbn : b ≤ n) : Calls Try.prog 89 #[.slice (some ⟨g, 0, none⟩) n c, .int .i64 a, .int .i64 m, .int .i64 b, .func (.func 79) #[] #[]] w fun e w' => (∃ v, e = .returned v) ∧ DO lo g n c w' ∧ w.grownBy w' (some g) := by
  subst hmb
  have hab2 : (m : Int) ≤ 1048576 := by omega
  have hpa : ((m + 1 : Nat) : Int) = (m : Int) + 1 := by omega
  have hmn : (m : Int) < (n : Int) := by omega
  have hm0 : (0 : Int) ≤ (m : Int) := by omega
  have ham1 : (a : Int) < (m : Int) := by omega
  have hne : (((m : Int) - (a : Int)) == 1) = false := by simp; omega
  rw [hpa]
  clear hpa
  go_enter Try.func89, Try.ntmps89
  go_wp2_with fail
  go_loopw [14, 15] (fun u v wr => ∃ i j : Nat, i ≤ j ∧ j ≤ m ∧ u = .int .i64 i ∧ v = .int .i64 j ∧ DO lo g n c wr ∧ w.grownBy wr (some g)) (fun u v _ => (intOf v).toNat - (intOf u).toNat)
  case atStart => exact ⟨a, m, by omega, by omega, rfl, rfl, h, World.grownBy.refl _ _⟩
  case round =>
    clear h
    obtain ⟨i, j, hij, hj, rfl, rfl, h, hg⟩ := hrel
    have hj3 : (j : Int) ≤ 1048577 := by omega
    by_cases hlt : i < j
    · have hlt1 : (i : Int) < (j : Int) := by omega
      obtain ⟨k, hk⟩ : ∃ k : Nat, ((i : Int) + (j : Int)) / 2 = (k : Int) := ⟨(i + j) / 2, by omega⟩
      have hk1 : i ≤ k ∧ k < j := by omega
      have hk2 : (0 : Int) ≤ (k : Int) := by omega
      have hk3 : (k : Int) < (n : Int) := by omega
      obtain ⟨p, c0, c1, c2⟩ := h.at_ (j := k) (by omega)
      obtain ⟨q, d0, d1, d2⟩ := h.at_ (j := m) (by omega)
      have hgz := h.lt.2
      have hB2 := bel_refl wr
      go_wp2_with fail
      (refine wp_region_bel (by kernel_rfl) (by kernel_rfl) ?_; have hD := bel_cells hB2; (repeat (go_big_quiet_step (((go_at_call 79; exact calls_bel (cmpDuty q p _)))))); refine wpQuiet_nil ?_; intro w1 hB1; replace hB2 := bel_trans hB2 hB1; obtain ⟨hC1, hF1⟩ := bcell hB2; clear hD; replace hB1 := hB1)
      clear hk
      rcases hl : decide (cmpD q p < 0) with _ | _
      · go_wp2_with fail
        go_roundw
        case rel => exact ⟨k + 1, j, by omega, by omega, by go_num, rfl, h.bel hB2, grown_bel hg hB2⟩
        case measure => simp [intOf]; omega
      · go_wp2_with fail
        go_roundw
        case rel => exact ⟨i, k, by omega, by omega, rfl, rfl, h.bel hB2, grown_bel hg hB2⟩
        case measure => simp [intOf]; omega
    · have hlt1 : ¬ (i : Int) < (j : Int) := by omega
      go_wp2_with fail
      go_loopw [17] (fun u wr => ∃ k : Nat, u = .int .i64 k ∧ k ≤ m ∧ DO lo g n c wr ∧ w.grownBy wr (some g)) (fun u _ => (intOf u).toNat)
      case atStart => exact ⟨m, rfl, by omega, h, hg⟩
      case round =>
        clear h hg
        obtain ⟨k, rfl, hki, h, hg⟩ := hrel
        by_cases hlt2 : i < k
        · rcases k with _ | k
          · omega
          have hp0 : ((k + 1 : Nat) : Int) = (k : Int) + 1 := by omega
          rw [hp0]
          clear hp0
          have hlt3 : (i : Int) < (k : Int) + 1 := by omega
          have hk0 : (0 : Int) ≤ (k : Int) := by omega
          have hk1 : (k : Int) < (n : Int) := by omega
          have hk2 : (k : Int) + 1 < (n : Int) := by omega
          have hk3 : (0 : Int) ≤ (k : Int) + 1 := by omega
          obtain ⟨p, c0, c1, c2⟩ := h.at_ (j := k) (by omega)
          obtain ⟨q, d0, d1, d2⟩ := h.at_ (j := k + 1) (by omega)
          have hfz := h.fz
          have hwk : IntKind.i64.wrap (k : Int) = k := IntWalk.i64_in _ (by omega)
          have hwj : IntKind.i64.wrap ((k : Int) + 1 - 1) = k := by rw [Int.add_sub_cancel]; exact hwk
          go_wp2_with fail
          (refine wp_region_plan (fun _ => True) (.free 0 (.free 1 (.free 2 (.free 3 (.free 4 (.free 5 (.free 6 (.free 7 (.free 8 (.here 9 (.free 10 (.free 11 (.free 12 (.here 13 (.free 14 (.one 15 (.free 16 (.one 17 (.stop))))))))))))))))))) (by kernel_rfl) (by kernel_rfl) trivial ?_; simp only [Plan.ops, List.getElem?_cons_zero, List.getElem?_cons_succ, Option.getD_some]); (iterate 9 (refine p_free rfl (by intro w' _; (go_simp; first | done | rfl)) ?_; (try simp only [Act.put, List.setIfInBounds_toArray, List.set_cons_zero, List.set_cons_succ]))); (iterate 1 (refine p_here rfl (by (go_simp; first | done | rfl)) ?_; (try simp only [Act.put, List.setIfInBounds_toArray, List.set_cons_zero, List.set_cons_succ]))); (iterate 3 (refine p_free rfl (by intro w' _; (go_simp; first | done | rfl)) ?_; (try simp only [Act.put, List.setIfInBounds_toArray, List.set_cons_zero, List.set_cons_succ]))); (iterate 1 (refine p_here rfl (by (go_simp; first | done | rfl)) ?_; (try simp only [Act.put, List.setIfInBounds_toArray, List.set_cons_zero, List.set_cons_succ]))); (iterate 1 (refine p_free rfl (by intro w' _; (go_simp; first | done | rfl)) ?_; (try simp only [Act.put, List.setIfInBounds_toArray, List.set_cons_zero, List.set_cons_succ]))); refine p_store rfl (by (go_simp; first | done | rfl)) trivial ?_; (try simp only [Act.put]); (iterate 1 (refine p_free rfl (by intro w' _; (go_simp; first | done | rfl)) ?_; (try simp only [Act.put, List.setIfInBounds_toArray, List.set_cons_zero, List.set_cons_succ]))); refine p_store rfl (by (go_simp; first | done | rfl)) trivial ?_; (try simp only [Act.put]); refine p_stop ?_; (try simp only [Act.put, List.setIfInBounds_toArray, List.set_cons_zero, List.set_cons_succ]); go_wp2
          clear c0 c1 c2 d0 d1 d2 hwk hwj
          go_roundw
          case rel => exact ⟨k, by (first | rfl | go_num), by omega, ((h.set p (by omega)).set q (by omega)).bel (bel_drew (bel_refl _)), grown_bel (grown_set3 (grown_set3 hg)) (bel_drew (bel_refl _))⟩
          case measure => simp [intOf]
        · have hlt3 : ¬ (i : Int) < (k : Int) := by omega
          go_wp2_with fail
          exact bodyPost_ret (v := .tuple #[]) (by simp [results, Try.results89, go_sem]) rfl ⟨⟨_, rfl⟩, h, hg⟩
set_option maxHeartbeats 8000000 in
set_option maxRecDepth 100000 in
theorem symMerge (g n c lo : Nat) (hn : n ≤ 1048577) : ∀ (sz a m b : Nat) (w : World), b - a ≤ sz → DO lo g n c w → a < m → m < b → b ≤ n → Calls Try.prog 89 #[.slice (some ⟨g, 0, none⟩) n c, .int .i64 a, .int .i64 m, .int .i64 b, .func (.func 79) #[] #[]] w fun e w' => (∃ v, e = .returned v) ∧ DO lo g n c w' ∧ w.grownBy w' (some g) := by
  intro sz
  induction sz with
  | zero => intro a m b w hsz _ h1 h2 _; omega
  | succ sz ih =>
    intro a m b w hsz h ham hmb hbn
    by_cases hm1 : m = a + 1
    · exact symLow g n c lo hn a m b w h hm1 hmb hbn
    by_cases hb1 : b = m + 1
    · exact symHigh g n c lo hn a m b w h ham (by omega) hb1 hbn
    have hab1 : (a : Int) < (m : Int) := by omega
    have hab2 : (m : Int) < (b : Int) := by omega
    have hab3 : (b : Int) ≤ 1048577 := by omega
    have hma : (((m : Int) - (a : Int)) == 1) = false := by simp; omega
    have hbm : (((b : Int) - (m : Int)) == 1) = false := by simp; omega
    obtain ⟨mid, hmd⟩ : ∃ mid : Nat, ((a : Int) + (b : Int)) / 2 = (mid : Int) := ⟨(a + b) / 2, by omega⟩
    have hmid : 2 * mid ≤ a + b ∧ a + b ≤ 2 * mid + 1 := by omega
    have hmi0 : (mid : Int) ≤ 1048577 := by omega
    go_enter Try.func89, Try.ntmps89
    go_upto_if 140 with fail
    clear hmd
    go_cut [20, 21] (fun u v wx => ∃ s r : Nat, u = .int .i64 s ∧ v = .int .i64 r ∧ Hid (mid + m ≤ s + b ∧ a ≤ s ∧ s ≤ r ∧ r ≤ m ∧ r ≤ mid) ∧ w = wx)
    case first =>
      as_aux_lemma =>
        by_cases hmm : mid < m
        · have hmm1 : (mid : Int) < (m : Int) := by omega
          have hS : (mid : Int) + (m : Int) - (b : Int) = ((mid + m - b : Nat) : Int) := by omega
          go_wp2_with fail
          go_meet
          exact ⟨mid + m - b, mid, by (first | rfl | (congr 1; omega)), rfl, ⟨by omega, by omega, by omega, by omega, by omega⟩, rfl⟩
        · have hmm1 : ¬ (mid : Int) < (m : Int) := by omega
          go_wp2_with fail
          go_meet
          exact ⟨a, m, rfl, rfl, ⟨by omega, by omega, by omega, by omega, by omega⟩, rfl⟩
    case rest =>
      as_aux_lemma =>
        obtain ⟨s, r, rfl, rfl, hsr, rfl⟩ := hcut
        have hpn : Hid (mid + m ≤ 2 * n) := by show _ ≤ _; omega
        go_wp2_with fail
        go_loopw [20, 21] (fun u v wr => ∃ s r : Nat, u = .int .i64 s ∧ v = .int .i64 r ∧ Hid (mid + m ≤ s + b ∧ a ≤ s ∧ s ≤ r ∧ r ≤ m ∧ r ≤ mid) ∧ DO lo g n c wr ∧ w.grownBy wr (some g)) (fun u v _ => (intOf v).toNat - (intOf u).toNat)
        case atStart => exact ⟨s, r, rfl, rfl, hsr, h, World.grownBy.refl _ _⟩
        case round =>
          as_aux_lemma =>
            clear h hsr
            obtain ⟨s, r, rfl, rfl, hsr, h, hg⟩ := hrel
            obtain ⟨s1, s2, s3, s4, s5⟩ := hsr.out
            have hr3 : (r : Int) ≤ 1048577 := by omega
            by_cases hlt : s < r
            · have hlt1 : (s : Int) < (r : Int) := by omega
              obtain ⟨k, hk⟩ : ∃ k : Nat, ((s : Int) + (r : Int)) / 2 = (k : Int) := ⟨(s + r) / 2, by omega⟩
              have hk1 : s ≤ k ∧ k < r := by omega
              have hk2 : (0 : Int) ≤ (k : Int) := by omega
              have hk3 : (k : Int) < (n : Int) := by omega
              obtain ⟨u, hu⟩ : ∃ u : Nat, mid + m - 1 - k = u := ⟨_, rfl⟩
              have hu1 : (0 : Int) ≤ (u : Int) := by omega
              have hu2 : (u : Int) < (n : Int) := by omega
              have hu3 : (mid : Int) + (m : Int) - 1 - (k : Int) = (u : Int) := by omega
              obtain ⟨p, c0, c1, c2⟩ := h.at_ (j := k) (by omega)
              obtain ⟨q, d0, d1, d2⟩ := h.at_ (j := u) (by omega)
              have hgz := h.lt.2
              have hB2 := bel_refl wr
              have hwu : IntKind.i64.wrap ((mid : Int) + (m : Int) - 1 - (k : Int)) = (u : Int) := by rw [hu3]; exact IntWalk.i64_in _ (by omega)
              clear hu
              go_wp2_with fail
              (refine wp_region_bel (by kernel_rfl) (by kernel_rfl) ?_; have hD := bel_cells hB2; (repeat (go_big_quiet_step (((go_at_call 79; exact calls_bel (cmpDuty q p _)))))); refine wpQuiet_nil ?_; intro w1 hB1; replace hB2 := bel_trans hB2 hB1; obtain ⟨hC1, hF1⟩ := bcell hB2; clear hD; replace hB1 := hB1)
              clear hk hwu hu3
              rcases hl : decide (cmpD q p < 0) with _ | _
              · go_wp2_with fail
                go_roundw
                case rel => exact ⟨k + 1, r, by go_num, rfl, ⟨by omega, by omega, by omega, by omega, by omega⟩, h.bel hB2, grown_bel hg hB2⟩
                case measure => simp [intOf]; omega
              · go_wp2_with fail
                go_roundw
                case rel => exact ⟨s, k, rfl, rfl, ⟨by omega, by omega, by omega, by omega, by omega⟩, h.bel hB2, grown_bel hg hB2⟩
                case measure => simp [intOf]; omega
            · have hlt1 : ¬ (s : Int) < (r : Int) := by omega
              obtain ⟨en, hen⟩ : ∃ en : Nat, mid + m - s = en := ⟨_, rfl⟩
              have hen1 : (mid : Int) + (m : Int) - (s : Int) = (en : Int) := by omega
              have hen2 : m ≤ en ∧ en ≤ b := by omega
              have hse : (s : Int) ≤ 1048577 := by omega
              have hee : (en : Int) ≤ 1048577 := by omega
              clear hen
              go_upto_region 39 with fail
              clear hen1
              go_cut [185] (fun t wx => ∃ t' : Bool, t = .bool t' ∧ Hid (t' = true → s < m ∧ m < en) ∧ wr = wx)
              case first =>
                as_aux_lemma =>
                  by_cases h1 : (s : Int) < (m : Int)
                  · by_cases h2 : (m : Int) < (en : Int)
                    · go_wp2_with fail
                      go_meet
                      exact ⟨true, rfl, fun _ => by omega, rfl⟩
                    · go_wp2_with fail
                      go_meet
                      exact ⟨false, rfl, (fun h => by cases h), rfl⟩
                  · go_wp2_with fail
                    go_meet
                    exact ⟨false, rfl, (fun h => by cases h), rfl⟩
              case rest =>
                as_aux_lemma =>
                  obtain ⟨t', rfl, ht, rfl⟩ := hcut
                  go_upto_if 185 with fail
                  go_cut [] (fun wx => DO lo g n c wx ∧ w.grownBy wx (some g))
                  case first =>
                    as_aux_lemma =>
                      rcases t' with _ | _
                      · go_wp2_with fail
                        go_meet
                        exact ⟨h, hg⟩
                      · obtain ⟨h1, h2⟩ := ht.out rfl
                        go_wp2_with fail
                        refine (rotateC g n c lo s m en _ h hn h1 h2 (by omega)).mono ?_
                        rintro _ w5 ⟨⟨v, rfl⟩, h5, hg5⟩
                        go_wp2_with fail
                        go_meet
                        exact ⟨h5, gro_tr hg hg5⟩
                  case rest =>
                    as_aux_lemma =>
                      clear h hg ht
                      obtain ⟨h, hg⟩ := hcut
                      go_upto_region 41 with fail
                      go_cut [199] (fun t wx => ∃ t' : Bool, t = .bool t' ∧ Hid (t' = true → a < s ∧ s < mid) ∧ wc = wx)
                      case first =>
                        as_aux_lemma =>
                          by_cases h1 : (a : Int) < (s : Int)
                          · by_cases h2 : (s : Int) < (mid : Int)
                            · go_wp2_with fail
                              go_meet
                              exact ⟨true, rfl, fun _ => by omega, rfl⟩
                            · go_wp2_with fail
                              go_meet
                              exact ⟨false, rfl, (fun h => by cases h), rfl⟩
                          · go_wp2_with fail
                            go_meet
                            exact ⟨false, rfl, (fun h => by cases h), rfl⟩
                      case rest =>
                        as_aux_lemma =>
                          obtain ⟨t', rfl, ht, rfl⟩ := hcut
                          go_upto_if 199 with fail
                          go_cut [] (fun wx => DO lo g n c wx ∧ w.grownBy wx (some g))
                          case first =>
                            as_aux_lemma =>
                              rcases t' with _ | _
                              · go_wp2_with fail
                                go_meet
                                exact ⟨h, hg⟩
                              · obtain ⟨h1, h2⟩ := ht.out rfl
                                go_wp2_with fail
                                refine (ih a s mid _ (by omega) h h1 h2 (by omega)).mono ?_
                                rintro _ w5 ⟨⟨v, rfl⟩, h5, hg5⟩
                                go_wp2_with fail
                                go_meet
                                exact ⟨h5, gro_tr hg hg5⟩
                          case rest =>
                            as_aux_lemma =>
                              clear h hg ht
                              obtain ⟨h, hg⟩ := hcut
                              by_cases h1 : (mid : Int) < (en : Int)
                              · by_cases h2 : (en : Int) < (b : Int)
                                · go_wp2_with fail
                                  refine (ih mid en b _ (by omega) h (by omega) (by omega) hbn).mono ?_
                                  rintro _ w5 ⟨⟨v, rfl⟩, h5, hg5⟩
                                  go_wp2_with fail
                                  exact body_none (by simp [results, Try.results89, go_sem]; rfl) rfl ⟨⟨_, rfl⟩, h5, gro_tr hg hg5⟩
                                · go_wp2_with fail
                                  exact body_none (by simp [results, Try.results89, go_sem]; rfl) rfl ⟨⟨_, rfl⟩, h, hg⟩
                              · go_wp2_with fail
                                exact body_none (by simp [results, Try.results89, go_sem]; rfl) rfl ⟨⟨_, rfl⟩, h, hg⟩
end Go.Proofs.Ytlffolfooiijhaa
