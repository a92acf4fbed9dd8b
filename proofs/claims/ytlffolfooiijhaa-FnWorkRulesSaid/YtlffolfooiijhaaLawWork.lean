/-
  The law on work rules, walked.
-/
import Derived.Test.YtlffolfooiijhaaRostLawM2
import Derived.Test.YtlffolfooiijhaaRostDraw5
import Derived.Test.YtlffolfooiijhaaLawFns2
import Derived.Deep.DeepCutAuto
namespace Go.Proofs.Ytlffolfooiijhaa
open Go.RowKit

set_option maxHeartbeats 16000000 in
set_option maxRecDepth 100000 in
theorem lawWorkRules (A : Option Addr) (n c : Nat) (cs : List Int) (w : World) (hS : Sl w 1 A n c (cs.map (Value.int .u8))) (hb0 : ∀ (i : Nat) (x : Int), cs[i]? = some x → 0 ≤ x ∧ x ≤ 255) :
    Calls Try.prog 5 #[.slice A n c] w fun e w' => e = .returned (.bool true) ∧ Below w.heap.size w w' := by
  have hmx := Nat.le_trans hS.cap hS.max
  rcases Nat.lt_or_ge 65536 n with hn | hn
  · go_enter Try.func5, Try.ntmps5
    go_wp2_with fail
    refine (rBig A n c w hmx).mono ?_
    rw [decide_eq_true hn]
    rintro _ _ ⟨rfl, rfl⟩
    go_wp2_with fail
    go_ret
    exact ⟨rfl, bel_refl w⟩
  have hC : Code w A n c cs := ⟨hS, hb0, hn⟩
  go_enter Try.func5, Try.ntmps5
  go_wp2_with fail
  refine (rBig A n c w hmx).mono ?_
  rw [decide_eq_false (show ¬ 65536 < n by omega)]
  rintro _ _ ⟨rfl, rfl⟩
  clear hmx hS
  go_wp2_with fail
  refine (drawMay A n c cs w hC).mono ?_
  rintro _ W0 ⟨A1, k, c1, xs, r, d, rfl, hO, hk, hBw⟩
  have hr0 := blk_bel (heap_alloc_new W0 (.cells #[.int .i64 r.work, .int .i64 r.rest, .int .i64 r.span, .int .i64 r.most] 53)) (bel_alloc (o := .cells #[.int .i64 d.crew, .int .i64 d.fr, .int .i64 d.til] 30) (bel_refl _))
  have hd0 := heap_alloc_new (W0.alloc (.cells #[.int .i64 r.work, .int .i64 r.rest, .int .i64 r.span, .int .i64 r.most] 53)) (.cells #[.int .i64 d.crew, .int .i64 d.fr, .int .i64 d.til] 30)
  rw [show (W0.alloc (.cells #[.int .i64 r.work, .int .i64 r.rest, .int .i64 r.span, .int .i64 r.most] 53)).heap.size = W0.heap.size + 1 by simp] at hd0
  have hS := hO.sl.bel (bel_alloc (o := .cells #[.int .i64 d.crew, .int .i64 d.fr, .int .i64 d.til] 30) (bel_alloc (o := .cells #[.int .i64 r.work, .int .i64 r.rest, .int .i64 r.span, .int .i64 r.most] 53) (bel_refl W0)))
  replace hBw := bel_trans hBw (bel_alloc (o := .cells #[.int .i64 d.crew, .int .i64 d.fr, .int .i64 d.til] 30) (bel_alloc (o := .cells #[.int .i64 r.work, .int .i64 r.rest, .int .i64 r.span, .int .i64 r.most] 53) (bel_refl W0)))
  clear hO
  go_wp2_with fail
  obtain ⟨W1, hW1⟩ : ∃ W1, (W0.alloc (.cells #[.int .i64 r.work, .int .i64 r.rest, .int .i64 r.span, .int .i64 r.most] 53)).alloc (.cells #[.int .i64 d.crew, .int .i64 d.fr, .int .i64 d.til] 30) = W1 := ⟨_, rfl⟩
  obtain ⟨p, hp⟩ : ∃ p, W0.heap.size = p := ⟨_, rfl⟩
  rw [hW1] at hr0 hd0 hS hBw ⊢
  rw [hp] at hr0 hd0 ⊢
  clear hW1 hp
  obtain ⟨⟨d0, d1, d2⟩, dz⟩ := cells3 hd0
  obtain ⟨⟨k0, k1, k2, k3⟩, kz⟩ := cells4 hr0
  have hp1 := lt_of_block hr0
  have hp2 := lt_of_block hd0
  clear hr0 hd0
  have hB2 := bel_refl W1
  have hmay := hid (fun h => And.intro (may_all (xs := xs) (r := r) (d := d) h) (And.intro (may_add h) (may_broken h)))
  obtain ⟨may, hm1⟩ : ∃ may, (mayR xs r d).1 = may := ⟨_, rfl⟩
  obtain ⟨ok, hm2⟩ : ∃ ok, (mayR xs r d).2 = ok := ⟨_, rfl⟩
  rw [hm1] at hmay
  refine (mayRI _ _ _ xs r d _ hS (by omega)).mono ?_
  rw [hm1, hm2]
  rintro _ w2 ⟨rfl, hb⟩
  replace hB2 := bel_trans hB2 hb; obtain ⟨hC1, hF1⟩ := bcell hB2
  go_wp2_with fail
  refine (mayRS _ _ _ xs r d _ (hS.bel hB2) (by omega)).mono ?_
  rw [hm1, hm2]
  rintro _ w3 ⟨rfl, hb⟩
  replace hB2 := bel_trans hB2 hb; obtain ⟨hC1, hF1⟩ := bcell hB2
  replace hm1 := hid hm1
  replace hm2 := hid hm2
  go_upto_if 83 with fail
  go_cut [] (fun wx => Hid (Below w3.heap.size w3 wx))
  case first => as_aux_lemma =>
    rcases may with _ | _
    · go_wp2_with fail
      go_meet
      exact bel_refl w3
    · obtain ⟨⟨-, -, -, h4, -⟩, ha, hbr⟩ := hmay.out rfl
      have h2 : (addR xs d).2 = true := by rw [ha]
      have hL : (addR xs d).1 = insS d xs := by rw [ha]
      have h3 : (brokenR (insS d xs) d.crew r).2 = true := by rw [hbr]
      have hW : (brokenR (insS d xs) d.crew r).1 = [] := by rw [hbr]
      have hlen := rosterB_len h4
      have hB3 := bel_refl w3
      go_wp2_with fail
      refine (addDutyI _ _ _ xs d _ (hS.bel hB2) (by omega)).mono ?_
      rw [h2, hL]
      rintro _ w4 ⟨A9, n9, c9, rfl, hO9, hb⟩
      replace hB3 := bel_trans hB3 hb
      replace hB2 := bel_trans hB2 hb; obtain ⟨hC1, hF1⟩ := bcell hB2
      have hl9 := hO9.sl.xs_len Duty.row_len (by omega)
      go_wp2_with fail
      refine (brokenRI _ _ _ (insS d xs) d.crew r _ hO9.sl (by omega)).mono ?_
      rw [h3, hW]
      rintro _ w5 ⟨A8, n8, c8, rfl, hO8, hb⟩
      replace hB3 := bel_trans hB3 hb
      have hl8 := hO8.sl.str_len
      obtain rfl : n8 = 0 := by simpa using hl8.symm
      go_wp2_with fail
      go_meet
      exact hB3
  case rest => as_aux_lemma =>
    replace hBw := bel_trans (bel_trans hBw hB2) hcut.out
    clear hB2 hS hC1 hF1 hcut hm1 hm2 hk hmay d0 d1 d2 dz k0 k1 k2 k3 kz hp1 hp2 hb
    go_wp2_with fail
    refine (drawBroken A n c cs _ (hC.bel hBw)).mono ?_
    rintro _ W2 ⟨A2, k2, c2, ys, cr, r, rfl, hO, hk, hcr, hb⟩
    replace hBw := bel_trans hBw hb
    clear hb
    have hr0 := heap_alloc_new W2 (.cells #[.int .i64 r.work, .int .i64 r.rest, .int .i64 r.span, .int .i64 r.most] 53)
    have hS := hO.sl.bel (bel_alloc (o := .cells #[.int .i64 r.work, .int .i64 r.rest, .int .i64 r.span, .int .i64 r.most] 53) (bel_refl W2))
    replace hBw := bel_trans hBw (bel_alloc (o := .cells #[.int .i64 r.work, .int .i64 r.rest, .int .i64 r.span, .int .i64 r.most] 53) (bel_refl W2))
    clear hO
    go_wp2_with fail
    obtain ⟨W3, hW3⟩ : ∃ W3, W2.alloc (.cells #[.int .i64 r.work, .int .i64 r.rest, .int .i64 r.span, .int .i64 r.most] 53) = W3 := ⟨_, rfl⟩
    obtain ⟨p, hp⟩ : ∃ p, W2.heap.size = p := ⟨_, rfl⟩
    rw [hW3] at hr0 hS hBw ⊢
    rw [hp] at hr0 ⊢
    clear hW3 hp
    obtain ⟨⟨q0, q1, q2, q3⟩, qz⟩ := cells4 hr0
    have hp1 := lt_of_block hr0
    clear hr0
    have hB2 := bel_refl W3
    have hok := hid (broken_ok (xs := ys) (cr := cr) (r := r))
    have hlw := brokenR_len ys cr r
    obtain ⟨fine, hf⟩ : ∃ fine, (brokenR ys cr r).2 = fine := ⟨_, rfl⟩
    obtain ⟨L, hL⟩ : ∃ L, (brokenR ys cr r).1 = L := ⟨_, rfl⟩
    rw [hL] at hlw
    refine (brokenRI _ _ _ ys cr r _ hS (by omega)).mono ?_
    rw [hf, hL]
    rintro _ w4 ⟨A4, m4, c4, rfl, hO4, hb⟩
    replace hB2 := bel_trans hB2 hb; obtain ⟨hC1, hF1⟩ := bcell hB2
    go_wp2_with fail
    refine (brokenRS _ _ _ ys cr r _ (hS.bel hB2) (by omega)).mono ?_
    rw [hf, hL]
    rintro _ w5 ⟨A5, m5, c5, rfl, hO5, hb⟩
    replace hB2 := bel_trans hB2 hb; obtain ⟨hC1, hF1⟩ := bcell hB2
    replace hO4 := hO4.bel hb
    have hl4 := hO4.sl.str_len
    have hl5 := hO5.sl.str_len
    obtain rfl : m5 = m4 := hl5.symm.trans hl4
    replace hL := hid hL
    replace hf := hid hf
    have hm5 : m5 ≤ 1048576 := by omega
    clear hl4 hl5 hlw hb
    go_wp2_with fail
    refine (rTexts _ _ _ _ _ L _ hO4.sl hO5.sl (by omega)).mono ?_
    rintro _ w6 ⟨rfl, hb⟩
    replace hB2 := bel_trans hB2 hb; obtain ⟨hC1, hF1⟩ := bcell hB2
    replace hO4 := hO4.bel hb
    clear hb hO5
    go_upto_if 138 with fail
    go_cut [] (fun wx => Hid (Below w6.heap.size w6 wx))
    case first => as_aux_lemma =>
      rcases fine with _ | _
      · go_wp2_with fail
        go_meet
        exact bel_refl w6
      · obtain ⟨e1, e2⟩ := hok.out hf.out
        have e3 : (mostR ys cr r.span).1 = mostN ys cr r.span := by rw [e2]
        have e4 : (mostR ys cr r.span).2 = true := by rw [e2]
        have hsp := broken_span ys cr r
        have hLb : L = brokenL ys cr r := by rw [← hL.out, e1]
        rw [← hLb] at hsp
        obtain ⟨mo, hmo⟩ : ∃ mo, mostN ys cr r.span = mo := ⟨_, rfl⟩
        rw [hmo] at e3 hsp
        clear e1 e2 hLb hmo hok hf hL
        go_wp2_with fail
        refine (mostTI _ _ _ ys cr r.span _ (hS.bel hB2) (by omega)).mono ?_
        rw [e3, e4]
        rintro _ w7 ⟨rfl, hb⟩
        have hB3 := hid hb
        replace hB2 := bel_trans hB2 hb; obtain ⟨hC1, hF1⟩ := bcell hB2
        replace hO4 := hO4.bel hb
        clear hb e3 e4
        rcases hd : decide (r.most < mo) with _ | _
        all_goals (
          have hT : ∀ ww, Sl ww 1 A4 m5 c4 (strs L) → Calls Try.prog 34 #[.slice A4 m5 c4, .string wSpan] ww fun e w' => e = .returned (.bool (decide (r.most < mo))) ∧ ww = w' := fun ww h => by
            have := rHasText A4 m5 c4 L wSpan ww h hm5
            rw [hsp] at this
            exact this
          rw [hd] at hT
          replace hT := hid hT
          clear hsp
          go_wp2_with fail
          (refine wp_region_bel (by kernel_rfl) (by kernel_rfl) ?_; have hD := bel_cells hB2; (repeat (go_big_quiet_step (((go_at_call 34; exact calls_bel_same (hT.out _ (hO4.sl.bel (Bel.prop _)))))))); refine wpQuiet_nil ?_; intro w1 hB1; replace hB2 := bel_trans hB2 hB1; obtain ⟨hC1, hF1⟩ := bcell hB2; clear hD; replace hB1 := hB1)
          go_wp2_with fail
          go_meet
          exact bel_trans hB3.out hB1)
    case rest => as_aux_lemma =>
      replace hBw := bel_trans (bel_trans hBw hB2) hcut.out
      clear hB2 hS hC1 hF1 hcut hk hcr hok hf hL hm5 hO4 q0 q1 q2 q3 qz hp1
      go_wp2_with fail
      refine (drawNext A n c cs _ (hC.bel hBw)).mono ?_
      rintro _ W4 ⟨A6, k6, c6, us, r, who, f, hh, rfl, hO, hk, hwho, hf, hhh, hb⟩
      replace hBw := bel_trans hBw hb
      clear hb
      have hr0 := heap_alloc_new W4 (.cells #[.int .i64 r.work, .int .i64 r.rest, .int .i64 r.span, .int .i64 r.most] 53)
      have hS := hO.sl.bel (bel_alloc (o := .cells #[.int .i64 r.work, .int .i64 r.rest, .int .i64 r.span, .int .i64 r.most] 53) (bel_refl W4))
      replace hBw := bel_trans hBw (bel_alloc (o := .cells #[.int .i64 r.work, .int .i64 r.rest, .int .i64 r.span, .int .i64 r.most] 53) (bel_refl W4))
      clear hO
      go_wp2_with fail
      obtain ⟨W5, hW5⟩ : ∃ W5, W4.alloc (.cells #[.int .i64 r.work, .int .i64 r.rest, .int .i64 r.span, .int .i64 r.most] 53) = W5 := ⟨_, rfl⟩
      obtain ⟨p, hp⟩ : ∃ p, W4.heap.size = p := ⟨_, rfl⟩
      rw [hW5] at hr0 hS hBw ⊢
      rw [hp] at hr0 ⊢
      clear hW5 hp
      obtain ⟨⟨q0, q1, q2, q3⟩, qz⟩ := cells4 hr0
      have hp1 := lt_of_block hr0
      clear hr0
      have hB2 := bel_refl W5
      have hnx := hid (next_ok (xs := us) (r := r) (cr := who) (f := f) (hh := hh))
      obtain ⟨told, htd⟩ : ∃ told, (nextR us r who f hh).2 = told := ⟨_, rfl⟩
      obtain ⟨H, hH⟩ : ∃ H, (nextR us r who f hh).1 = H := ⟨_, rfl⟩
      rw [htd, hH] at hnx
      refine (nextRI _ _ _ us r who f hh _ hS (by omega)).mono ?_
      rw [htd, hH]
      rintro _ w7 ⟨rfl, hb⟩
      replace hB2 := bel_trans hB2 hb; obtain ⟨hC1, hF1⟩ := bcell hB2
      go_wp2_with fail
      refine (nextRS _ _ _ us r who f hh _ (hS.bel hB2) (by omega)).mono ?_
      rw [htd, hH]
      rintro _ w8 ⟨rfl, hb⟩
      replace hB2 := bel_trans hB2 hb; obtain ⟨hC1, hF1⟩ := bcell hB2
      clear hb htd hH
      go_upto_if 192 with fail
      go_cut [] (fun wx => Hid (Below w8.heap.size w8 wx))
      case first => as_aux_lemma =>
        rcases told with _ | _
        · go_wp2_with fail
          go_meet
          exact bel_refl w8
        · obtain ⟨b0, b1, b2, b3, b4, hM1, hM2⟩ := hnx.out rfl
          have g1 : (mayR us r ⟨who, H, H + hh⟩).1 = true := by rw [hM1]
          have g2 : (mayR us r ⟨who, H, H + hh⟩).2 = true := by rw [hM1]
          have hlt : decide (H < f) = false := decide_eq_false (by omega)
          have hB3 := bel_refl w8
          replace hM2 := hid hM2
          clear hM1 hnx
          go_wp2_with fail
          refine (mayRI _ _ _ us r ⟨who, H, H + hh⟩ _ (hS.bel hB2) (by omega)).mono ?_
          rw [g1, g2]
          rintro _ w9 ⟨rfl, hb⟩
          replace hB3 := bel_trans hB3 hb
          replace hB2 := bel_trans hB2 hb; obtain ⟨hC1, hF1⟩ := bcell hB2
          clear g1 g2 hb
          go_wp2_with fail
          refine (mayRI _ _ _ us r ⟨who, H - 1, H - 1 + hh⟩ _ (hS.bel hB2) (by omega)).mono ?_
          rcases hd : decide (f < H) with _ | _
          · obtain ⟨e, he⟩ : ∃ e, (mayR us r ⟨who, H - 1, H - 1 + hh⟩).1 = e := ⟨_, rfl⟩
            obtain ⟨o, ho⟩ : ∃ o, (mayR us r ⟨who, H - 1, H - 1 + hh⟩).2 = o := ⟨_, rfl⟩
            rw [he, ho]
            clear he ho
            rintro _ w10 ⟨rfl, hb⟩
            replace hB3 := hid (bel_trans hB3 hb)
            replace hB2 := bel_trans hB2 hb; obtain ⟨hC1, hF1⟩ := bcell hB2
            go_wp2_with fail
            go_meet
            exact hB3
          · have hMM := hM2.out (of_decide_eq_true hd)
            rw [hMM]
            rintro _ w10 ⟨rfl, hb⟩
            replace hB3 := hid (bel_trans hB3 hb)
            replace hB2 := bel_trans hB2 hb; obtain ⟨hC1, hF1⟩ := bcell hB2
            clear hMM
            go_wp2_with fail
            go_meet
            exact hB3
      case rest => as_aux_lemma =>
        replace hBw := bel_trans (bel_trans hBw hB2) hcut.out
        clear hB2 hS hC1 hF1 hcut hk hwho hf hhh hnx q0 q1 q2 q3 qz hp1
        go_wp2_with fail
        refine (drawThin A n c cs _ (hC.bel hBw)).mono ?_
        rintro _ W6 ⟨A7, k7, c7, vs, ta, tb, tl, rfl, hO, hk, hta, htb, htl, hb⟩
        replace hBw := bel_trans hBw hb
        clear hb
        have hB2 := bel_refl W6
        have hS := hO.sl
        clear hO
        have hth := hid (fun (i : Nat) (ll : List Int) => thin_ok (xs := vs) (f := ta) (t := tb) (l := tl) (i := i) (ll := ll))
        have hLl := thin_len2 (xs := vs) (f := ta) (t := tb) (l := tl)
        have hLm := hid (thinR_bd vs ta tb tl).2.1
        obtain ⟨kn, hkn⟩ : ∃ kn, (thinR vs ta tb tl).2 = kn := ⟨_, rfl⟩
        obtain ⟨LL, hLL⟩ : ∃ LL, (thinR vs ta tb tl).1 = LL := ⟨_, rfl⟩
        rw [hLL] at hth hLl hLm
        go_wp2_with fail
        refine (thinI _ _ _ vs ta tb tl _ hS (by omega)).mono ?_
        rw [hkn, hLL]
        rintro _ w11 ⟨A8, m8, c8, V8, rfl, hO8, hb⟩
        replace hB2 := bel_trans hB2 hb; obtain ⟨hC1, hF1⟩ := bcell hB2
        go_wp2_with fail
        refine (thinS _ _ _ vs ta tb tl _ (hS.bel hB2) (by omega)).mono ?_
        rw [hkn, hLL]
        rintro _ w12 ⟨A9, m9, c9, V9, rfl, hO9, hb⟩
        replace hB2 := bel_trans hB2 hb; obtain ⟨hC1, hF1⟩ := bcell hB2
        have hS8 := hO8.ss.bel hb
        have hS9 := hO9.ss
        have hl8 := hid (rows_len LL ▸ hS8.len)
        have hl9 := hid (rows_len LL ▸ hS9.len)
        obtain rfl : m9 = m8 := hl9.out.symm.trans hl8.out
        have hm9 : m9 ≤ 500 := by have := hl8.out; omega
        clear hO8 hO9 hb hkn hLL
        go_wp2_with fail
        refine (rTable _ _ _ _ _ LL _ hS8 hS9 (by omega) hLm.out).mono ?_
        rintro _ w13 ⟨rfl, hb⟩
        replace hB2 := bel_trans hB2 hb; obtain ⟨hC1, hF1⟩ := bcell hB2
        replace hS8 := hS8.bel hb
        clear hS9 hb
        go_wp2_with fail
        go_loopw [44] (fun u wr => ∃ i : Nat, i ≤ m9 ∧ u = .int .i64 i ∧ Below w13.heap.size w13 wr) (fun u _ => m9 - (intOf u).toNat)
        case atStart => exact ⟨0, by omega, rfl, bel_refl _⟩
        case round => as_aux_lemma =>
          clear hC1 hF1
          obtain ⟨i, hi', rfl, hBr⟩ := hrel
          by_cases hlt : i < m9
          · have hi1 : (i : Int) < (m9 : Int) := by omega
            have hi0 : (0 : Int) ≤ (i : Int) := by omega
            obtain ⟨ll, hl⟩ : ∃ ll, LL[i]? = some ll := get_of_lt (by rw [hl8.out]; exact hlt)
            obtain ⟨a, b, rfl, hat, hal⟩ := hth.out i ll hl
            obtain ⟨bl, o, rfl, hbl, a2, m2, e2, c0, hs2⟩ := (hS8.bel hBr).at_ (rows_get hl)
            have hm2 : m2 = 2 := by have := hs2.len; simp [ints] at this; omega
            subst hm2
            obtain ⟨b2, o2, rfl, hbl2, hcc⟩ := hs2.at_ (by omega)
            have e0 := hcc 0 (.int .i64 a) rfl
            simp only [Nat.add_zero] at e0
            have g1 : (atR vs a).1 = atL vs a := by rw [hat]
            have g2 : (atR vs a).2 = true := by rw [hat]
            clear hl hcc hs2 hat
            go_wp2_with fail
            refine (atTI _ _ _ vs a _ (hS.bel (bel_trans hB2 hBr)) (by omega)).mono ?_
            rw [g1, g2]
            rintro _ w14 ⟨A5, m5, c5, rfl, hO5, hb⟩
            have hl5 := hO5.sl.int_len
            have hge : ¬ tl ≤ (m5 : Int) := by omega
            go_wp2_with fail
            go_roundw
            case rel => exact ⟨i + 1, by omega, by go_num, bel_trans hBr hb⟩
            case measure => simp [intOf]; omega
          · have hi1 : ¬ (i : Int) < (m9 : Int) := by omega
            replace hBw := bel_trans (bel_trans hBw hB2) hBr
            clear hB2 hBr hS hS8 hth hLm hl8 hl9 hk hta htb htl hi' hlt
            go_wp2_with fail
            refine (drawWork A n c cs _ (hC.bel hBw)).mono ?_
            rintro _ W7 ⟨A3, k3, c3, ws, h, rfl, hO, hk, hh, hb⟩
            replace hBw := bel_trans hBw hb
            clear hb
            have hB2 := bel_refl W7
            obtain ⟨gd, hgd⟩ : ∃ gd, (atR ws h).2 = gd := ⟨_, rfl⟩
            obtain ⟨L, hL⟩ : ∃ L, (atR ws h).1 = L := ⟨_, rfl⟩
            have hLn := atR_len ws h
            rw [hL] at hLn
            go_wp2_with fail
            refine (atTI _ _ _ ws h _ hO.sl (by omega)).mono ?_
            rw [hgd, hL]
            rintro _ w21 ⟨A4, m4, c4, rfl, hO4, hb⟩
            replace hB2 := bel_trans hB2 hb; obtain ⟨hC1, hF1⟩ := bcell hB2
            go_wp2_with fail
            refine (atTS _ _ _ ws h _ (hO.sl.bel hB2) (by omega)).mono ?_
            rw [hgd, hL]
            rintro _ w22 ⟨A5, m5, c5, rfl, hO5, hb⟩
            replace hB2 := bel_trans hB2 hb; obtain ⟨hC1, hF1⟩ := bcell hB2
            have hl4 := hO4.sl.int_len
            have hl5 := hO5.sl.int_len
            obtain rfl : m5 = m4 := hl5.symm.trans hl4
            replace hO4 := hO4.bel hb
            have hm5 : m5 ≤ 1048576 := by omega
            clear hb hl4 hl5 hLn hgd hL
            go_wp2_with fail
            refine (rInts _ _ _ _ _ L _ hO4.sl hO5.sl (by omega)).mono ?_
            rintro _ w23 ⟨rfl, hb⟩
            replace hB2 := bel_trans hB2 hb; obtain ⟨hC1, hF1⟩ := bcell hB2
            go_wp2_with fail
            go_ret
            exact ⟨ret_bool (by simp), bel_trans hBw hB2⟩
end Go.Proofs.Ytlffolfooiijhaa
