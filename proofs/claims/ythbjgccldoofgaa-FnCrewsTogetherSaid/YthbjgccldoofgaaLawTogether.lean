/-
  The law on crews that work together, walked.
-/
import Derived.Test.YthbjgccldoofgaaTogetherM
import Derived.Test.YthbjgccldoofgaaCrewDraw2
import Derived.Test.YthbjgccldoofgaaLawFns
import Derived.Deep.DeepCutAuto
namespace Go.Proofs.Ythbjgccldoofgaa
open Go.RowKit

set_option maxHeartbeats 8000000 in
set_option maxRecDepth 100000 in
theorem lawCrewsTogether (A : Option Addr) (n c : Nat) (cs : List Int) (w : World) (hS : Sl w 1 A n c (cs.map (Value.int .u8))) (hb0 : ∀ (i : Nat) (x : Int), cs[i]? = some x → 0 ≤ x ∧ x ≤ 255) :
    Calls Try.prog 4 #[.slice A n c] w fun e w' => e = .returned (.bool true) ∧ Below w.heap.size w w' := by
  have hmx := Nat.le_trans hS.cap hS.max
  rcases Nat.lt_or_ge 65536 n with hn | hn
  · go_enter Try.func4, Try.ntmps4
    go_wp2_with fail
    refine (rBig A n c w hmx).mono ?_
    rw [decide_eq_true hn]
    rintro _ _ ⟨rfl, rfl⟩
    go_wp2_with fail
    go_ret
    exact ⟨rfl, bel_refl w⟩
  have hC : Code w A n c cs := ⟨hS, hb0, hn⟩
  go_enter Try.func4, Try.ntmps4
  go_wp2_with fail
  refine (rBig A n c w hmx).mono ?_
  rw [decide_eq_false (show ¬ 65536 < n by omega)]
  rintro _ _ ⟨rfl, rfl⟩
  clear hmx hS
  go_wp2_with fail
  refine (drawShare A n c cs w hC).mono ?_
  rintro _ W0 ⟨A1, k, c1, xs, m, rfl, hO, hk, hm, hBw⟩
  have hB2 := bel_refl W0
  have hlh := hid (hO.sl.xs_len Crew.row_len (by omega))
  obtain ⟨ok, hok⟩ : ∃ ok, (shareR xs m).2 = ok := ⟨_, rfl⟩
  obtain ⟨L, hLd⟩ : ∃ L, (shareR xs m).1 = L := ⟨_, rfl⟩
  obtain ⟨hr, hhr⟩ : ∃ hr, (hoursTR xs m).1 = hr := ⟨_, rfl⟩
  have htk := share_ok xs m
  rw [hok] at htk
  replace htk := hid htk
  go_wp2_with fail
  refine (shareI _ _ _ xs m _ hO.sl (by omega)).mono ?_
  rw [hok, hLd]
  rintro _ w2 ⟨A4, m4, c4, rfl, hO4, hb⟩
  replace hB2 := bel_trans hB2 hb; obtain ⟨hC1, hF1⟩ := bcell hB2
  go_wp2_with fail
  refine (shareS _ _ _ xs m _ (hO.sl.bel hB2) (by omega)).mono ?_
  rw [hok, hLd]
  rintro _ w3 ⟨A5, m5, c5, rfl, hO5, hb⟩
  replace hB2 := bel_trans hB2 hb; obtain ⟨hC1, hF1⟩ := bcell hB2
  replace hO4 := hO4.bel hb
  have hl1 := hO4.sl.int_len
  have hl2 := hO5.sl.int_len
  obtain rfl : m5 = m4 := hl2.symm.trans hl1
  have hLl : Hid (m5 ≤ 1000 ∧ (m5 = if ok then k else 0)) := by
    have h1 := share_len xs m
    rw [hok, hLd, hl1, hlh.out] at h1
    refine ⟨?_, h1⟩
    rw [h1]
    split <;> omega
  replace hok := hid hok
  replace hLd := hid hLd
  replace hhr := hid hhr
  clear hl1 hl2
  go_upto_region 6 with fail
  go_cut [72] (fun s wx => s = .bool false ∧ Hid (Below w3.heap.size w3 wx))
  case first =>
    go_wp2_with fail
    refine (rInts _ _ _ _ _ _ _ hO4.sl hO5.sl (by have := hLl.out.1; omega)).mono ?_
    rintro _ w4 ⟨rfl, hb⟩
    rcases ok with _ | _
    · go_wp2_with fail
      go_meet
      exact ⟨rfl, hb⟩
    · have hsum := share_sum hok.out
      rw [hLd.out] at hsum
      replace hsum := hid hsum
      have hmm : (m != m) = false := by simp
      go_wp2_with fail
      refine (rSum _ _ _ _ _ (hO4.bel hb).sl (by have := hLl.out.1; omega) (fun z hz => by
        obtain ⟨i, hi⟩ := List.getElem?_of_mem hz
        have hi2 := (List.getElem?_eq_some_iff.1 hi).1
        have hl := hO4.sl.int_len
        have h2 := hLl.out.2
        obtain ⟨x, hx⟩ : ∃ x, xs[i]? = some x := get_of_lt (by rw [hlh.out]; simp at h2; omega)
        obtain ⟨s, h3, h4, h5, h6⟩ := share_at hok.out hx
        rw [hLd.out, hi] at h3
        simp only [Option.some.injEq] at h3
        subst h3
        obtain ⟨g1, g2, g3⟩ := built_h h6
        rw [built_ok g1 g2 g3] at h5
        have h7 := builtN_bd g1 (hoursTR xs m).1.toNat
        have h5' : z ≤ builtN x (hoursTR xs m).1.toNat := h5
        omega)).mono ?_
      rw [hsum.out]
      rintro _ _ ⟨rfl, rfl⟩
      go_wp2_with fail
      go_meet
      exact ⟨rfl, hb⟩
  case rest =>
    obtain ⟨rfl, hBx⟩ := hcut
    replace hB2 := bel_trans hB2 hBx.out
    obtain ⟨hC1, hF1⟩ := bcell hB2
    replace hO4 := hO4.bel hBx.out
    clear hO5 hBx
    go_wp2_with fail
    refine (hoursTogetherI _ _ _ xs m _ (hO.sl.bel hB2) (by omega)).mono ?_
    rw [hhr.out, ← htk.out]
    rintro _ w5 ⟨rfl, hb⟩
    replace hB2 := bel_trans hB2 hb; obtain ⟨hC1, hF1⟩ := bcell hB2
    replace hO4 := hO4.bel hb
    go_wp2_with fail
    refine (hoursTogetherS _ _ _ xs m _ (hO.sl.bel hB2) (by omega)).mono ?_
    rw [hhr.out, ← htk.out]
    rintro _ w6 ⟨rfl, hb⟩
    replace hB2 := bel_trans hB2 hb; obtain ⟨hC1, hF1⟩ := bcell hB2
    replace hO4 := hO4.bel hb
    go_wp2_with fail
    have hB6 := hB2
    go_loopw [13] (fun u wr => ∃ i : Nat, i ≤ m5 ∧ u = .int .i64 i ∧ Below w6.heap.size w6 wr) (fun u _ => m5 - (intOf u).toNat)
    case atStart => exact ⟨0, by omega, rfl, bel_refl _⟩
    case round =>
      clear hC1 hF1
      obtain ⟨i, hi', rfl, hBr⟩ := hrel
      by_cases hlt : i < m5
      · have hi1 : (i : Int) < (m5 : Int) := by omega
        have hi0 : (0 : Int) ≤ (i : Int) := by omega
        obtain ⟨hm5, hmk⟩ := hLl.out
        have hokt : ok = true := by
          rcases ok with _ | _
          · simp at hmk; omega
          · rfl
        subst hokt
        have hmk2 : m5 = k := by simpa using hmk
        have hi2 : (i : Int) < (k : Int) := by omega
        obtain ⟨x, hx⟩ : ∃ x, xs[i]? = some x := get_of_lt (by rw [hlh.out]; omega)
        obtain ⟨s, hs, hs0, hsb, hsok⟩ := share_at hok.out hx
        rw [hLd.out] at hs
        rw [hhr.out] at hsb hsok
        obtain ⟨bl, o, rfl, hbl, c0, c1', c2, c3, c4'⟩ := (hO.sl.bel (bel_trans hB2 hBr)).crew hx
        obtain ⟨b2, o2, rfl, hbl2, e0⟩ := (hO4.sl.bel hBr).int_at hs
        obtain ⟨bv, hbv⟩ : ∃ bv, (builtR x hr).1 = bv := ⟨_, rfl⟩
        rw [hbv] at hsb
        replace hbv := hid hbv
        replace hsok := hid hsok
        have hg1 : ¬ bv < s := by omega
        have hg2 : ¬ s < 0 := by omega
        clear hmk hmk2 hx hs hm5 hsb hs0
        go_wp2_with fail
        refine (builtByI x hr _).mono ?_
        rw [hbv.out, hsok.out]
        rintro _ w31 ⟨rfl, hb⟩
        have e1 := (hb.cell (p := ⟨b2, o2 + i, none⟩) hbl2).trans e0
        go_wp2_with fail
        go_roundw
        case rel => exact ⟨i + 1, by omega, by go_num, bel_trans hBr hb⟩
        case measure => simp [intOf]; omega
      · have hi1 : ¬ (i : Int) < (m5 : Int) := by omega
        replace hBw := bel_trans (bel_trans hBw hB2) hBr
        clear hB2 hB6 hBr hO4 hO hok hLd hhr htk hLl hk hm hlh hb hi' hlt
        go_wp2_with fail
        refine (drawTogether A n c cs _ (hC.bel hBw)).mono ?_
        rintro _ W1 ⟨A7, k7, c7, ys, v, rfl, hO, hk, hv, hb⟩
        replace hBw := bel_trans hBw hb
        clear hb
        have hB2 := bel_refl W1
        have hlh := hid (hO.sl.xs_len Crew.row_len (by omega))
        obtain ⟨sm, hsm⟩ : ∃ sm, (togetherR ys v).1 = sm := ⟨_, rfl⟩
        obtain ⟨told, htd⟩ : ∃ told, (togetherR ys v).2 = told := ⟨_, rfl⟩
        go_wp2_with fail
        refine (togetherByI _ _ _ ys v _ hO.sl (by omega)).mono ?_
        rw [hsm, htd]
        rintro _ w12 ⟨rfl, hb⟩
        replace hB2 := bel_trans hB2 hb; obtain ⟨hC1, hF1⟩ := bcell hB2
        go_wp2_with fail
        refine (togetherByS _ _ _ ys v _ (hO.sl.bel hB2) (by omega)).mono ?_
        rw [hsm, htd]
        rintro _ w13 ⟨rfl, hb⟩
        replace hB2 := bel_trans hB2 hb; obtain ⟨hC1, hF1⟩ := bcell hB2
        replace hsm := hid hsm
        replace htd := hid htd
        go_upto_if 155 with fail
        go_cut [] (fun wx => Hid (Below w13.heap.size w13 wx))
        case first =>
          rcases told with _ | _
          · go_wp2_with fail
            go_meet
            exact bel_refl w13
          · obtain ⟨hl, hv0, hv1, hse⟩ := together_ok htd.out
            rw [hsm.out] at hse
            have hg := hid (listC_all hl)
            replace hse := hid hse
            clear hl
            go_wp2_with fail
            go_loopw [22, 23] (fun a u wr => ∃ i : Nat, i ≤ k7 ∧ u = .int .i64 i ∧ a = .int .i64 (togetherN (ys.take i) v.toNat) ∧ Below w13.heap.size w13 wr) (fun _ u _ => k7 - (intOf u).toNat)
            case atStart => exact ⟨0, by omega, rfl, by simp [togetherN], bel_refl _⟩
            case round =>
              clear hC1 hF1
              obtain ⟨i, hi', rfl, rfl, hBr⟩ := hrel
              by_cases hlt : i < k7
              · have hi1 : (i : Int) < (k7 : Int) := by omega
                have hi0 : (0 : Int) ≤ (i : Int) := by omega
                obtain ⟨x, hx⟩ : ∃ x, ys[i]? = some x := get_of_lt (by rw [hlh.out]; exact hlt)
                obtain ⟨bl, o, rfl, hbl, c0, c1', c2, c3, c4'⟩ := (hO.sl.bel (bel_trans hB2 hBr)).crew hx
                have hgx := hg.out i x hx
                have hN := hid (togetherN_snoc (H := v.toNat) hx)
                have hbd := togetherN_bd (xs := ys) (i := i) (H := v.toNat) hg.out (by omega)
                have hbx := builtN_bd hgx v.toNat
                have hbo := hid (built_ok hgx hv0 hv1)
                obtain ⟨T, hT⟩ : ∃ T, togetherN (ys.take i) v.toNat = T := ⟨_, rfl⟩
                obtain ⟨bv, hbv⟩ : ∃ bv, builtN x v.toNat = bv := ⟨_, rfl⟩
                rw [hT] at hN hbd ⊢
                rw [hbv] at hN hbx hbo
                clear hT hbv hx hgx
                have hbd2 : 0 ≤ T ∧ T ≤ 2000000 := by omega
                have hbx2 : 0 ≤ bv ∧ bv ≤ 200000 := by omega
                clear hbd hbx
                go_wp2_with fail
                refine (builtByI x v _).mono ?_
                rw [hbo.out]
                rintro _ w31 ⟨rfl, hb⟩
                go_wp2_with fail
                go_roundw
                case rel => exact ⟨i + 1, by omega, by go_num, by rw [← hN.out], bel_trans hBr hb⟩
                case measure => simp [intOf]; omega
              · have hi1 : ¬ (i : Int) < (k7 : Int) := by omega
                have hT : Hid (togetherN (ys.take i) v.toNat = sm) := by
                  show _ = _
                  rw [hse.out, List.take_of_length_le (by rw [hlh.out]; omega)]
                rw [hT.out]
                go_wp2_with fail
                go_meet
                exact hBr
        case rest =>
          replace hBw := bel_trans (bel_trans hBw hB2) hcut.out
          clear hB2 hO hC1 hF1 hcut hsm htd hlh hk hv hb
          go_wp2_with fail
          refine (drawWithout A n c cs _ (hC.bel hBw)).mono ?_
          rintro _ W2 ⟨A8, k8, c8, zs, v8, rfl, hO, hk, hv, hb⟩
          replace hBw := bel_trans hBw hb
          clear hb
          have hB2 := bel_refl W2
          obtain ⟨id, hid'⟩ : ∃ id, (outR zs v8).1 = id := ⟨_, rfl⟩
          obtain ⟨most, hmo⟩ : ∃ most, (outR zs v8).2.1 = most := ⟨_, rfl⟩
          obtain ⟨known, hkn⟩ : ∃ known, (outR zs v8).2.2 = known := ⟨_, rfl⟩
          go_wp2_with fail
          refine (withoutI _ _ _ zs v8 _ hO.sl (by omega)).mono ?_
          rw [hid', hmo, hkn]
          rintro _ w22 ⟨rfl, hb⟩
          replace hB2 := bel_trans hB2 hb; obtain ⟨hC1, hF1⟩ := bcell hB2
          go_wp2_with fail
          refine (withoutS _ _ _ zs v8 _ (hO.sl.bel hB2) (by omega)).mono ?_
          rw [hid', hmo, hkn]
          rintro _ w23 ⟨rfl, hb⟩
          replace hB2 := bel_trans hB2 hb; obtain ⟨hC1, hF1⟩ := bcell hB2
          replace hid' := hid hid'
          replace hmo := hid hmo
          replace hkn := hid hkn
          rcases known with _ | _
          · go_wp2_with fail
            go_ret
            exact ⟨rfl, bel_trans hBw hB2⟩
          · obtain ⟨h1, h2⟩ := without_ok hkn.out
            rw [hmo.out] at h2
            obtain ⟨wh, hwh⟩ : ∃ wh, (hoursTR zs v8).1 = wh := ⟨_, rfl⟩
            rw [hwh] at h2
            replace hwh := hid hwh
            replace h1 := hid h1
            go_wp2_with fail
            refine (hoursTogetherI _ _ _ zs v8 _ (hO.sl.bel hB2) (by omega)).mono ?_
            rw [hwh.out, h1.out]
            rintro _ w24 ⟨rfl, hb⟩
            replace hB2 := bel_trans hB2 hb; obtain ⟨hC1, hF1⟩ := bcell hB2
            go_wp2_with fail
            go_ret
            exact ⟨ret_bool (by first | rfl | simpa using h2), bel_trans hBw hB2⟩
end Go.Proofs.Ythbjgccldoofgaa
