/-
  The law on rosters, walked.
-/
import Derived.Test.YtlffolfooiijhaaRostLawM
import Derived.Test.YtlffolfooiijhaaRostDraw3
import Derived.Test.YtlffolfooiijhaaLawFns2
import Derived.Deep.DeepCutAuto
namespace Go.Proofs.Ytlffolfooiijhaa
open Go.RowKit

set_option maxHeartbeats 8000000 in
set_option maxRecDepth 100000 in
theorem lawRosters (A : Option Addr) (n c : Nat) (cs : List Int) (w : World) (hS : Sl w 1 A n c (cs.map (Value.int .u8))) (hb0 : ∀ (i : Nat) (x : Int), cs[i]? = some x → 0 ≤ x ∧ x ≤ 255) :
    Calls Try.prog 4 #[.slice A n c] w fun e w' => e = .returned (.bool true) ∧ Below w.heap.size w w' := by
  have hmx := Nat.le_trans hS.cap hS.max
  rcases Nat.lt_or_ge 65536 n with hn | hn
  · go_enter Try.func4, Try.ntmps4
    go_wp2_with fail
    refine (rBig A n c w hmx).mono ?_
    rw [decide_eq_true hn]
    rintro _ _ ⟨rfl, rfl⟩
    go_wp2_with fail
    go_ret
    exact ⟨rfl, bel_refl w⟩
  have hC : Code w A n c cs := ⟨hS, hb0, hn⟩
  go_enter Try.func4, Try.ntmps4
  go_wp2_with fail
  refine (rBig A n c w hmx).mono ?_
  rw [decide_eq_false (show ¬ 65536 < n by omega)]
  rintro _ _ ⟨rfl, rfl⟩
  clear hmx hS
  go_wp2_with fail
  refine (drawStints A n c cs w hC).mono ?_
  rintro _ W0 ⟨A1, k, c1, xs, cr, rfl, hO, hk, hcr, hBw⟩
  have hB2 := bel_refl W0
  obtain ⟨ps, hps, hsum, hfine, hpl, hsep, hbd⟩ := stints_law xs cr
  obtain ⟨ok, hok⟩ : ∃ ok, (stintsR xs cr).2 = ok := ⟨_, rfl⟩
  obtain ⟨hr, hhr⟩ : ∃ hr, (hoursOfR xs cr).1 = hr := ⟨_, rfl⟩
  rw [hok] at hfine
  rw [hhr] at hsum
  replace hok := hid hok
  replace hhr := hid hhr
  replace hps := hid hps
  replace hsum := hid hsum
  replace hfine := hid hfine
  replace hsep := hid hsep
  replace hbd := hid hbd
  go_wp2_with fail
  refine (stintsOfI _ _ _ xs cr _ hO.sl (by omega)).mono ?_
  rw [hok.out, hps.out]
  rintro _ w2 ⟨A4, m4, c4, Vs, rfl, hO4, hb⟩
  replace hB2 := bel_trans hB2 hb; obtain ⟨hC1, hF1⟩ := bcell hB2
  go_wp2_with fail
  refine (stintsOfS _ _ _ xs cr _ (hO.sl.bel hB2) (by omega)).mono ?_
  rw [hok.out, hps.out]
  rintro _ w3 ⟨A5, m5, c5, Vs5, rfl, hO5, hb⟩
  replace hB2 := bel_trans hB2 hb; obtain ⟨hC1, hF1⟩ := bcell hB2
  have hS4 := hO4.ss.bel hb
  have hS5 := hO5.ss
  have hl4 := hid (ss_nil_len hO4)
  have hl5 := hid (ss_nil_len hO5)
  obtain rfl : m5 = m4 := hl5.out.symm.trans hl4.out
  have hm5 : m5 ≤ 12 := by have := hl4.out; omega
  clear hO4 hO5 hb
  go_wp2_with fail
  refine (rTable _ _ _ _ _ (pairs ps) _ hS4 hS5 (by omega) (fun l hl => by
    simp only [pairs, List.mem_map] at hl
    obtain ⟨p, _, rfl⟩ := hl
    simp)).mono ?_
  rintro _ w4 ⟨rfl, hb⟩
  replace hB2 := bel_trans hB2 hb; obtain ⟨hC1, hF1⟩ := bcell hB2
  replace hS4 := hS4.bel hb
  clear hS5 hb
  go_wp2_with fail
  refine (hoursOfI _ _ _ xs cr _ (hO.sl.bel hB2) (by omega)).mono ?_
  rw [hhr.out, hfine.out]
  rintro _ w5 ⟨rfl, hb⟩
  replace hB2 := bel_trans hB2 hb; obtain ⟨hC1, hF1⟩ := bcell hB2
  replace hS4 := hS4.bel hb
  go_wp2_with fail
  refine (hoursOfS _ _ _ xs cr _ (hO.sl.bel hB2) (by omega)).mono ?_
  rw [hhr.out, hfine.out]
  rintro _ w6 ⟨rfl, hb⟩
  replace hB2 := bel_trans hB2 hb; obtain ⟨hC1, hF1⟩ := bcell hB2
  replace hS4 := hS4.bel hb
  clear hb
  go_wp2_with fail
  go_loopw [13, 14] (fun a u wr => ∃ i : Nat, i ≤ m5 ∧ u = .int .i64 i ∧ a = .int .i64 (((ps.take i).map fun p => p.2 - p.1).sum) ∧ Below w6.heap.size w6 wr) (fun _ u _ => m5 - (intOf u).toNat)
  case atStart => exact ⟨0, by omega, rfl, by simp, bel_refl _⟩
  case round => as_aux_lemma =>
    clear hC1 hF1
    obtain ⟨i, hi', rfl, rfl, hBr⟩ := hrel
    by_cases hlt : i < m5
    · have hi1 : (i : Int) < (m5 : Int) := by omega
      have hi0 : (0 : Int) ≤ (i : Int) := by omega
      obtain ⟨p, hp⟩ : ∃ p, ps[i]? = some p := get_of_lt (by rw [hl4.out]; exact hlt)
      have hpb := hbd.out p (List.mem_of_getElem? hp)
      obtain ⟨b, o, g, q, d, rfl, hbl, hgl, c0, c1', c2⟩ := (hS4.bel hBr).pair hp
      have hN := hid (diff_next hp)
      have hsb := diff_bd hbd.out i
      obtain ⟨T, hT⟩ : ∃ T, ((ps.take i).map fun p => p.2 - p.1).sum = T := ⟨_, rfl⟩
      rw [hT] at hN hsb ⊢
      clear hT
      have hT2 : 0 ≤ T ∧ T ≤ 6000 := by omega
      have hB6 := hB2
      have hB2 := bel_refl wr
      clear hsb hO hC hBw hB6
      rcases i with _ | j
      · simp only [Nat.add_zero] at c0
        go_wp2_with fail
        (refine wp_region_bel (by kernel_rfl) (by kernel_rfl) ?_; have hD := bel_cells hB2; (repeat (go_big_quiet_step ((fail)))); refine wpQuiet_nil ?_; intro w1 hB1; replace hB2 := bel_trans hB2 hB1; obtain ⟨hC1, hF1⟩ := bcell hB2; clear hD; replace hB1 := hB1)
        go_wp2_with fail
        (refine wp_region_bel (by kernel_rfl) (by kernel_rfl) ?_; have hD := bel_cells hB2; (repeat (go_big_quiet_step ((fail)))); refine wpQuiet_nil ?_; intro w1 hB1; replace hB2 := bel_trans hB2 hB1; obtain ⟨hC1, hF1⟩ := bcell hB2; clear hD; replace hB1 := hB1)
        go_wp2_with fail
        go_roundw
        case rel => exact ⟨1, by omega, by go_num, by rw [hN.out], bel_trans hBr hB2⟩
        case measure => simp [intOf]; omega
      · obtain ⟨p', hp'⟩ : ∃ p', ps[j]? = some p' := get_of_lt (by rw [hl4.out]; omega)
        have hpb' := hbd.out p' (List.mem_of_getElem? hp')
        have hsp := hsep.out j p' p hp' hp
        obtain ⟨b', o', g', q', d', hbo, _, hg', f0, f1, f2⟩ := (hS4.bel hBr).pair hp'
        simp only [Option.some.injEq, Addr.mk.injEq, and_true] at hbo
        obtain ⟨rfl, rfl⟩ := hbo
        clear hp' hp
        have hp0 : ((j + 1 : Nat) : Int) = (j : Int) + 1 := by omega
        rw [hp0] at hi0 hi1 ⊢
        clear hp0
        have hj0 : (0 : Int) ≤ (j : Int) := by omega
        have hj1 : (j : Int) < (m5 : Int) := by omega
        have hjp : (0 : Int) < (j : Int) + 1 := by omega
        have hle : ¬ p.1 ≤ p'.2 := by omega
        go_wp2_with fail
        (refine wp_region_bel (by kernel_rfl) (by kernel_rfl) ?_; have hD := bel_cells hB2; (repeat (go_big_quiet_step ((fail)))); refine wpQuiet_nil ?_; intro w1 hB1; replace hB2 := bel_trans hB2 hB1; obtain ⟨hC1, hF1⟩ := bcell hB2; clear hD; replace hB1 := hB1)
        go_wp2_with fail
        (refine wp_region_bel (by kernel_rfl) (by kernel_rfl) ?_; have hD := bel_cells hB2; (repeat (go_big_quiet_step ((fail)))); refine wpQuiet_nil ?_; intro w1 hB1; replace hB2 := bel_trans hB2 hB1; obtain ⟨hC1, hF1⟩ := bcell hB2; clear hD; replace hB1 := hB1)
        go_wp2_with fail
        go_roundw
        case rel => exact ⟨j + 1 + 1, by omega, by go_num, by rw [hN.out], bel_trans hBr hB2⟩
        case measure => simp [intOf]; omega
    · have hi1 : ¬ (i : Int) < (m5 : Int) := by omega
      have hT : Hid (((ps.take i).map fun p => p.2 - p.1).sum = hr) := by
        show _ = _
        rw [List.take_of_length_le (by rw [hl4.out]; omega), hsum.out]
      rw [hT.out]
      replace hBw := bel_trans (bel_trans hBw hB2) hBr
      clear hB2 hBr hS4 hO hok hhr hps hsum hfine hsep hbd hk hl4 hl5 hT hi' hlt hpl hm5
      go_wp2_with fail
      refine (drawMost A n c cs _ (hC.bel hBw)).mono ?_
      rintro _ W1 ⟨A7, k7, c7, ys, who, sp, rfl, hO, hk, hwho, hsp, hb⟩
      replace hBw := bel_trans hBw hb
      clear hb
      have hB2 := bel_refl W1
      obtain ⟨told, htd⟩ : ∃ told, (mostR ys who sp).2 = told := ⟨_, rfl⟩
      obtain ⟨most, hmo⟩ : ∃ most, (mostR ys who sp).1 = most := ⟨_, rfl⟩
      go_wp2_with fail
      refine (mostTI _ _ _ ys who sp _ hO.sl (by omega)).mono ?_
      rw [htd, hmo]
      rintro _ w12 ⟨rfl, hb⟩
      replace hB2 := bel_trans hB2 hb; obtain ⟨hC1, hF1⟩ := bcell hB2
      go_wp2_with fail
      refine (mostTS _ _ _ ys who sp _ (hO.sl.bel hB2) (by omega)).mono ?_
      rw [htd, hmo]
      rintro _ w13 ⟨rfl, hb⟩
      replace hB2 := bel_trans hB2 hb; obtain ⟨hC1, hF1⟩ := bcell hB2
      replace htd := hid htd
      replace hmo := hid hmo
      go_upto_region 24 with fail
      go_cut [163] (fun s wx => s = .bool false ∧ Hid (Below w13.heap.size w13 wx))
      case first => as_aux_lemma =>
        rcases told with _ | _
        · go_wp2_with fail
          go_meet
          exact ⟨rfl, bel_refl _⟩
        · obtain ⟨h0, h1, h2, -⟩ := most_law htd.out
          rw [hmo.out] at h0 h1
          have hle : ¬ sp < most := by omega
          go_wp2_with fail
          go_meet
          exact ⟨rfl, bel_refl _⟩
      case rest => as_aux_lemma =>
        obtain ⟨rfl, hBx⟩ := hcut
        replace hB2 := bel_trans hB2 hBx.out
        obtain ⟨hC1, hF1⟩ := bcell hB2
        clear hBx
        go_upto_if 164 with fail
        go_cut [] (fun wx => Hid (Below wc.heap.size wc wx))
        case first => as_aux_lemma =>
          rcases told with _ | _
          · go_wp2_with fail
            go_meet
            exact bel_refl _
          · obtain ⟨h0, h1, h2, h3, h4, h5, ps, hst, hpl, hbd, hfull⟩ := most_law htd.out
            rw [hmo.out] at h0 h1 h4
            obtain ⟨al, hal⟩ : ∃ al, (hoursOfR ys who).1 = al := ⟨_, rfl⟩
            rw [hal] at h4 h5 hfull
            rw [hmo.out] at hfull
            replace hal := hid hal
            replace h3 := hid h3
            replace hst := hid hst
            replace hfull := hid hfull
            replace hbd := hid hbd
            have hle : ¬ al < most := by omega
            go_wp2_with fail
            refine (hoursOfI _ _ _ ys who _ (hO.sl.bel hB2) (by omega)).mono ?_
            rw [hal.out, h3.out]
            rintro _ w15 ⟨rfl, hb⟩
            have hBc := hb
            replace hB2 := bel_trans hB2 hb; obtain ⟨hC1, hF1⟩ := bcell hB2
            go_wp2_with fail
            refine (stintsOfI _ _ _ ys who _ (hO.sl.bel hB2) (by omega)).mono ?_
            rw [hst.out]
            rintro _ w16 ⟨A8, m8, c8, Vs8, rfl, hO8, hb⟩
            replace hBc := bel_trans hBc hb
            have hS8 := hO8.ss
            have hl8 := hid (ss_nil_len hO8)
            have hm8 : m8 ≤ 12 := by have := hl8.out; omega
            have hB2 := bel_refl w16
            clear hO8 hb hC1 hF1
            rcases Nat.eq_zero_or_pos m8 with h8 | h8
            · have hi1 : ¬ (0 : Int) < (m8 : Int) := by omega
              go_wp2_with fail
              (refine wp_region_bel (by kernel_rfl) (by kernel_rfl) ?_; have hD := bel_cells hB2; (repeat (go_big_quiet_step ((fail)))); refine wpQuiet_nil ?_; intro w1 hB1; replace hB2 := bel_trans hB2 hB1; obtain ⟨hC1, hF1⟩ := bcell hB2; clear hD; replace hB1 := hB1)
              go_wp2_with fail
              go_meet
              exact bel_trans hBc hB2
            · obtain ⟨r8, rfl⟩ : ∃ r8, m8 = r8 + 1 := ⟨m8 - 1, by omega⟩
              obtain ⟨p, hp⟩ : ∃ p, ps[0]? = some p := get_of_lt (by rw [hl8.out]; omega)
              obtain ⟨q, hq⟩ : ∃ q, ps[r8]? = some q := get_of_lt (by rw [hl8.out]; omega)
              have hpb := hbd.out p (List.mem_of_getElem? hp)
              have hqb := hbd.out q (List.mem_of_getElem? hq)
              have hF := hid (hfull.out p q hp (by rw [hl8.out]; exact hq))
              obtain ⟨b, o, g, y, d, rfl, hbl, hgl, c0, c1', c2⟩ := hS8.pair hp
              obtain ⟨b', o', g', y', d', hbo, _, hgl', f0, f1, f2⟩ := hS8.pair hq
              simp only [Option.some.injEq, Addr.mk.injEq, and_true] at hbo
              obtain ⟨rfl, rfl⟩ := hbo
              simp only [Nat.add_zero] at c0
              have hp0 : ((r8 + 1 : Nat) : Int) = (r8 : Int) + 1 := by omega
              have hi1 : (0 : Int) < (r8 : Int) + 1 := by omega
              have hj0 : (0 : Int) ≤ (r8 : Int) := by omega
              clear hp hq hS8 h8
              by_cases hc : q.2 - p.1 ≤ sp
              · have e := hF.out hc
                subst e
                go_wp2_with fail
                (refine wp_region_bel (by kernel_rfl) (by kernel_rfl) ?_; have hD := bel_cells hB2; (repeat (go_big_quiet_step ((fail)))); refine wpQuiet_nil ?_; intro w1 hB1; replace hB2 := bel_trans hB2 hB1; obtain ⟨hC1, hF1⟩ := bcell hB2; clear hD; replace hB1 := hB1)
                go_wp2_with fail
                go_meet
                exact bel_trans hBc hB2
              · have hc2 : decide (q.2 - p.1 ≤ sp) = false := decide_eq_false hc
                clear hc
                go_wp2_with fail
                (refine wp_region_bel (by kernel_rfl) (by kernel_rfl) ?_; have hD := bel_cells hB2; (repeat (go_big_quiet_step ((fail)))); refine wpQuiet_nil ?_; intro w1 hB1; replace hB2 := bel_trans hB2 hB1; obtain ⟨hC1, hF1⟩ := bcell hB2; clear hD; replace hB1 := hB1)
                go_wp2_with fail
                go_meet
                exact bel_trans hBc hB2
        case rest => as_aux_lemma =>
          replace hBw := bel_trans (bel_trans hBw hB2) hcut.out
          clear hB2 hO hC1 hF1 hcut htd hmo hk
          go_wp2_with fail
          refine (drawAdd A n c cs _ (hC.bel hBw)).mono ?_
          rintro _ W2 ⟨A8, k8, c8, zs, d, rfl, hO, hk, hb⟩
          replace hBw := bel_trans hBw hb
          clear hb
          have hq0 := heap_alloc_new W2 (.cells #[.int .i64 d.crew, .int .i64 d.fr, .int .i64 d.til] 30)
          have hB2 : Below W2.heap.size W2 (W2.alloc (.cells #[.int .i64 d.crew, .int .i64 d.fr, .int .i64 d.til] 30)) := bel_alloc (bel_refl W2)
          have hlx := hid (hO.sl.xs_len Duty.row_len (by omega))
          have hln := addR_len zs d
          have hlaw := hid (add_law (xs := zs) (d := d))
          obtain ⟨kn, hkn⟩ : ∃ kn, (addR zs d).2 = kn := ⟨_, rfl⟩
          obtain ⟨L, hL⟩ : ∃ L, (addR zs d).1 = L := ⟨_, rfl⟩
          rw [hkn, hL, hlx.out] at hlaw
          rw [hL] at hln
          go_wp2_with fail
          refine (addDutyI _ _ _ zs d _ (hO.sl.bel hB2) (by omega)).mono ?_
          rw [hkn, hL]
          rintro _ w22 ⟨A9, n9, c9, rfl, hO9, hb⟩
          replace hB2 := bel_trans hB2 hb; obtain ⟨hC1, hF1⟩ := bcell hB2
          replace hq0 := blk_bel hq0 hb
          have hl9 := hO9.sl.xs_len Duty.row_len (by omega)
          obtain ⟨⟨d0, d1, d2⟩, dz⟩ := cells3 hq0
          clear hq0 hb
          go_wp2_with fail
          refine (addDutyS _ _ _ zs d _ (hO.sl.bel hB2) (by omega)).mono ?_
          rw [hkn, hL]
          rintro _ w23 ⟨A10, n10, c10, rfl, hO10, hb⟩
          replace hB2 := bel_trans hB2 hb; obtain ⟨hC1, hF1⟩ := bcell hB2
          have hl10 := hO10.sl.xs_len Duty.row_len (by omega)
          obtain rfl : n10 = n9 := hl10.symm.trans hl9
          replace hO9 := hO9.bel hb
          replace hkn := hid hkn
          replace hL := hid hL
          have hn9 : n10 ≤ 1048576 := by omega
          clear hb d0 d1 d2 dz hl9 hl10 hln
          go_wp2_with fail
          refine (rDuties _ _ _ _ _ L _ hO9.sl hO10.sl (by omega)).mono ?_
          rintro _ w24 ⟨rfl, hb⟩
          replace hB2 := bel_trans hB2 hb; obtain ⟨hC1, hF1⟩ := bcell hB2
          replace hO9 := hO9.bel hb
          clear hb hO10
          rcases kn with _ | _
          · go_wp2_with fail
            go_ret
            exact ⟨rfl, bel_trans hBw hB2⟩
          · obtain ⟨h1, h2⟩ := hlaw.out rfl
            have hl9 := hO9.sl.xs_len Duty.row_len (by omega)
            have hn10 : (n10 : Int) = (k8 : Int) + 1 := by omega
            go_wp2_with fail
            refine (isRosterI _ _ _ L _ hO9.sl (by omega)).mono ?_
            rw [h1]
            rintro _ w25 ⟨rfl, hb⟩
            replace hB2 := bel_trans hB2 hb; obtain ⟨hC1, hF1⟩ := bcell hB2
            go_wp2_with fail
            go_ret
            exact ⟨ret_bool (by simp [hn10]), bel_trans hBw hB2⟩
end Go.Proofs.Ytlffolfooiijhaa
