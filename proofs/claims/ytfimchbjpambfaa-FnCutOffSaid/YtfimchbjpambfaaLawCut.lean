/-
  The law on cut places and key roads that are drawn, walked.
-/
import Derived.Test.YtfimchbjpambfaaCutLaw
import Derived.Test.YtfimchbjpambfaaCutDraw
import Derived.Test.YtfimchbjpambfaaRoadCut
import Derived.Test.YtfimchbjpambfaaRoadTripTopI
import Derived.Test.YtfimchbjpambfaaLawFns
import Derived.Test.YtfimchbjpambfaaAppend
import Derived.Deep.DeepCutAuto
namespace Go.Proofs.Ytfimchbjpambfaa
open Go.RowKit

set_option maxHeartbeats 8000000 in
set_option maxRecDepth 100000 in
theorem lawCutOffD (A : Option Addr) (n c : Nat) (cs : List Int) (w : World) (hS : Sl w 1 A n c (cs.map (Value.int .u8))) (hb0 : ∀ (i : Nat) (x : Int), cs[i]? = some x → 0 ≤ x ∧ x ≤ 255) :
    Calls Try.prog 4 #[.slice A n c] w fun e w' => e = .returned (.bool true) ∧ Below w.heap.size w w' := by
  have hmx := Nat.le_trans hS.cap hS.max
  rcases Nat.lt_or_ge 65536 n with hn | hn
  · go_enter Try.func4, Try.ntmps4
    go_wp2_with fail
    refine (vBig A n c w hmx).mono ?_
    rw [decide_eq_true hn]
    rintro _ _ ⟨rfl, rfl⟩
    go_wp2_with fail
    go_ret
    exact ⟨rfl, bel_refl w⟩
  have hC : Code w A n c cs := ⟨hS, hb0, hn⟩
  go_enter Try.func4, Try.ntmps4
  go_wp2_with fail
  refine (vBig A n c w hmx).mono ?_
  rw [decide_eq_false (show ¬ 65536 < n by omega)]
  rintro _ _ ⟨rfl, rfl⟩
  clear hmx hS
  go_wp2_with fail
  refine (drawCutOff A n c cs w hC).mono ?_
  rintro _ W0 ⟨p, A1, k, c1, xs, A2, q, c2, vs, v, rfl, hp, hO, hk, hV, hq, hv, hb⟩
  have hBw := hb
  clear hb
  have hB2 := bel_refl W0
  obtain ⟨s, hsd⟩ : ∃ s, (cutR p xs vs v).1 = s := ⟨_, rfl⟩
  obtain ⟨ok, hok⟩ : ∃ ok, (cutR p xs vs v).2 = ok := ⟨_, rfl⟩
  have hsl := cutR_len p xs vs v
  rw [hsd] at hsl
  go_wp2_with fail
  refine (cutI p _ _ _ xs _ _ _ vs v _ hO.sl (by omega) hV.sl (by omega)).mono ?_
  rw [hsd, hok]
  rintro _ w1 ⟨A3, m2, c3, rfl, hO2, hb⟩
  replace hB2 := bel_trans hB2 hb; obtain ⟨hC1, hF1⟩ := bcell hB2
  go_wp2_with fail
  refine (cutS p _ _ _ xs _ _ _ vs v _ (hO.sl.bel hB2) (by omega) (hV.sl.bel hB2) (by omega)).mono ?_
  rw [hsd, hok]
  rintro _ w2 ⟨A4, m3, c4, rfl, hO3, hb⟩
  replace hB2 := bel_trans hB2 hb; obtain ⟨hC1, hF1⟩ := bcell hB2
  replace hO2 := hO2.bel hb
  have hl1 := hO2.sl.int_len
  have hl2 := hO3.sl.int_len
  obtain rfl : m3 = m2 := hl2.symm.trans hl1
  have hm3 : m3 ≤ 1048576 := by omega
  clear hl2 hsl hl1
  replace hsd := hid hsd
  replace hok := hid hok
  go_wp2_with fail
  refine (vInts _ _ _ _ _ _ _ hO2.sl hO3.sl hm3).mono ?_
  rintro _ W1 ⟨rfl, hb⟩
  replace hB2 := bel_trans hB2 hb; obtain ⟨hC1, hF1⟩ := bcell hB2
  replace hO2 := hO2.bel hb
  clear hO3 hb hC1 hF1
  have hOs := hO.sl.bel hB2
  have hVs := hV.sl.bel hB2
  have hO2s := hO2.sl
  clear hO hV hO2
  go_wp2_with fail
  go_loopw [11] (fun u wr => ∃ i : Nat, (i : Int) ≤ p ∧ u = .int .i64 i ∧ Below W1.heap.size W1 wr) (fun u _ => p.toNat - (intOf u).toNat)
  case atStart => exact ⟨0, by omega, rfl, bel_refl _⟩
  case round =>
    obtain ⟨i, hi', rfl, hBr⟩ := hrel
    go_upto_region 9 with fail
    go_cut [76] (fun t wx => ∃ t' : Bool, t = .bool t' ∧ Hid (t' = true → (i : Int) < p ∧ ok = true) ∧ wx = wr)
    case first =>
      by_cases hlt : (i : Int) < p
      · rcases ok with _ | _
        · go_wp2_with fail
          go_meet
          exact ⟨false, rfl, hid (fun h => by cases h), rfl⟩
        · go_wp2_with fail
          go_meet
          exact ⟨true, rfl, hid (fun _ => ⟨hlt, by simp⟩), rfl⟩
      · go_wp2_with fail
        go_meet
        exact ⟨false, rfl, hid (fun h => by cases h), rfl⟩
    case rest =>
      obtain ⟨t', rfl, ht', rfl⟩ := hcut
      rcases t' with _ | _
      · replace hBw := bel_trans (bel_trans hBw hB2) hBr
        clear hB2 hBr hOs hVs hO2s ht' hi' hsd hok hm3 hp hk hq hv
        go_wp2_with fail
        refine (drawLast A n c cs _ (hC.bel hBw)).mono ?_
        rintro _ W2 ⟨p2, A1, k, c1, ys, A2, q, c2, us, f2, rfl, hp, hO, hk, hV, hq, hf, hb⟩
        replace hBw := bel_trans hBw hb
        clear hb
        have hB2 := bel_refl W2
        obtain ⟨s2, hsd⟩ : ∃ s, (lastR p2 ys f2 us).1 = s := ⟨_, rfl⟩
        obtain ⟨told, hok⟩ : ∃ ok, (lastR p2 ys f2 us).2 = ok := ⟨_, rfl⟩
        go_wp2_with fail
        refine (lastForI p2 _ _ _ ys f2 _ _ _ us _ hO.sl (by omega) hV.sl (by omega)).mono ?_
        rw [hsd, hok]
        rintro _ w1 ⟨rfl, hb⟩
        replace hB2 := bel_trans hB2 hb; obtain ⟨hC1, hF1⟩ := bcell hB2
        go_wp2_with fail
        refine (lastForS p2 _ _ _ ys f2 _ _ _ us _ (hO.sl.bel hB2) (by omega) (hV.sl.bel hB2) (by omega)).mono ?_
        rw [hsd, hok]
        rintro _ w2 ⟨rfl, hb⟩
        replace hB2 := bel_trans hB2 hb; obtain ⟨hC1, hF1⟩ := bcell hB2
        replace hBw := bel_trans hBw hB2
        clear hB2 hC1 hF1 hO hV hp hk hq hf hb hsd hok
        go_wp2_with fail
        refine (drawKey A n c cs _ (hC.bel hBw)).mono ?_
        rintro _ W3 ⟨p3, A1, k, c1, zs, f3, t3, v3, rfl, hp, hO, hk, hf, ht, hv, hb⟩
        replace hBw := bel_trans hBw hb
        clear hb
        have hB2 := bel_refl W3
        obtain ⟨R, hsd⟩ : ∃ s, (keyR p3 zs f3 t3 v3).1 = s := ⟨_, rfl⟩
        obtain ⟨fine, hok⟩ : ∃ ok, (keyR p3 zs f3 t3 v3).2 = ok := ⟨_, rfl⟩
        have hsl := keyR_len p3 zs f3 t3 v3
        rw [hsd] at hsl
        go_wp2_with fail
        refine (keyI p3 _ _ _ zs f3 t3 v3 _ hO.sl (by omega)).mono ?_
        rw [hsd, hok]
        rintro _ w4 ⟨A2, m2, c2, rfl, hO2, hb⟩
        replace hB2 := bel_trans hB2 hb; obtain ⟨hC1, hF1⟩ := bcell hB2
        go_wp2_with fail
        refine (keyS p3 _ _ _ zs f3 t3 v3 _ (hO.sl.bel hB2) (by omega)).mono ?_
        rw [hsd, hok]
        rintro _ w5 ⟨A3, m3, c3, rfl, hO3, hb⟩
        replace hB2 := bel_trans hB2 hb; obtain ⟨hC1, hF1⟩ := bcell hB2
        replace hO2 := hO2.bel hb
        have hl1 := hO2.sl.int_len
        have hl2 := hO3.sl.int_len
        obtain rfl : m3 = m2 := hl2.symm.trans hl1
        have hm3 : m3 ≤ 1048576 := by omega
        clear hl2 hsl hl1
        replace hsd := hid hsd
        replace hok := hid hok
        go_wp2_with fail
        refine (vInts _ _ _ _ _ _ _ hO2.sl hO3.sl hm3).mono ?_
        rintro _ w6 ⟨rfl, hb⟩
        replace hB2 := bel_trans hB2 hb; obtain ⟨hC1, hF1⟩ := bcell hB2
        replace hO2 := hO2.bel hb
        clear hO3 hb
        have hOs := hO.sl.bel hB2
        have hO2s := hO2.sl
        clear hO hO2
        rcases fine with _ | _
        · go_wp2_with fail
          go_ret
          exact ⟨rfl, bel_trans hBw hB2⟩
        obtain ⟨P, F, T, hP, hF, hT, hFP, hTP, hk12, hv9, hnet, hRe, htr⟩ := key_law hok.out
        rw [hsd.out] at hRe
        replace hP := hid hP
        replace hF := hid hF
        replace hT := hid hT
        replace hnet := hid hnet
        replace hRe := hid hRe
        replace htr := hid htr
        have hlh := hid (hOs.xs_len Road.row_len (by omega))
        have hkk : k ≤ 12 := by rw [← hlh.out]; exact hk12
        clear hk12
        go_wp2_with fail
        refine (tripI p3 _ _ _ zs f3 t3 v3 _ hOs (by omega)).mono ?_
        rw [htr.out]
        rintro _ W4 ⟨A4, m4, c4, rfl, -, hb⟩
        replace hOs := hOs.bel hb
        replace hO2s := hO2s.bel hb
        replace hBw := bel_trans (bel_trans hBw hB2) hb
        clear hB2 hC1 hF1 hb
        go_wp2_with fail
        go_loopw [33] (fun u wr => ∃ i : Nat, i ≤ k ∧ u = .int .i64 i ∧ Below W4.heap.size W4 wr) (fun u _ => k - (intOf u).toNat)
        case atStart => exact ⟨0, by omega, rfl, bel_refl _⟩
        case round =>
          obtain ⟨i, hi', rfl, hBr⟩ := hrel
          by_cases hlt : i < k
          · have hi0 : (0 : Int) ≤ (i : Int) := by omega
            have hi1 : (i : Int) < (k : Int) := by omega
            have hcap := hOs.cap
            have hmx := hOs.max
            have hi2 : (i : Int) + 1 ≤ (k : Int) := by omega
            have hi3 : (i : Int) ≤ (c1 : Int) := by omega
            have hi4 : (0 : Int) ≤ (i : Int) + 1 := by omega
            have hi5 : (k : Int) ≤ (c1 : Int) := by omega
            have htn : ((i : Int) + 1).toNat = i + 1 := by omega
            have hwr : IntKind.i64.wrap ((i : Int) + 1) = (i : Int) + 1 := IntWalk.i64_in _ (by omega)
            obtain ⟨hs, hhs⟩ : ∃ hs, (R.any fun x => x == (i : Int)) = hs := ⟨_, rfl⟩
            have htwo : Hid ((tripR p3 (without zs i) f3 t3 v3).2 = !hs) := by
              show _ = _
              rw [hP.out, hF.out, hT.out, key_two hnet.out hFP hTP hv9 (by rw [hlh.out]; exact hlt), ← hRe.out, hhs]
            replace hhs := hid hhs
            go_wp2_with fail
            have hB2 := bel_refl wr
            (refine wp_region_planB (.free 1 (.free 2 (.free 3 (.free 5 (.free 6 (.free 7 (.free 8 (.one 0 (.one 4 (.one 9 (.free 10 (.stop)))))))))))) (by kernel_rfl) (by kernel_rfl) ?_; have hD := bel_cells hB2; simp only [Plan.ops, List.getElem?_cons_zero, List.getElem?_cons_succ, Option.getD_some])
            (iterate 7 (refine p_free rfl (by rintro w' ⟨d, rfl⟩; obtain ⟨hDc, hDf⟩ := hD d; (go_simp; first | done | rfl)) ?_; (try simp only [Act.put, List.setIfInBounds_toArray, List.set_cons_zero, List.set_cons_succ])))
            have hSr := hOs.bel hBr
            have hL := hSr.to hi'
            have hM := hSr.tail (show i + 1 ≤ k by omega)
            rw [← flat_take Road.row_len] at hL
            rw [← flat_drop Road.row_len] at hM
            try simp only [Option.map_some, Addr.add_lit] at hM
            generalize hX : (if c1 = i + 1 then (_ : Option Addr) else _) = X at hM ⊢
            clear hX
            have hb := bel_drew (bel_refl wr)
            refine p_val rfl (by (go_simp; first | done | rfl | exact ⟨rfl, rfl⟩)) ⟨⟨_, ?_⟩, rfl⟩ ?_
            · exact bel_alloc hb
            (try simp only [Act.put, List.setIfInBounds_toArray, List.set_cons_zero, List.set_cons_succ])
            replace hb := bel_alloc (o := .cells #[] 39) hb
            refine p_app rfl (.tmp 201) (.tmp 204) 24 rfl wr.heap.size 39 (.agg #[.int .i64 0, .int .i64 0, .int .i64 0, .int .i64 0]) 4 32 Try.underlying24 info_Road rfl (by omega) _ _ _ _ rfl (by simpa using own_bel (own_empty (w := wr) (base := wr.heap.size) (size := 4) (e := 39) (by simp)) (bel_drew (bel_refl _))) _ _ _ _ rfl (hL.bel hb) (oneCell_roads _) (by omega) (by omega) hb.size ?_
            intro A5 c5 w5 hown hb3 _
            replace hb := Below.trans hb hb3
            refine ⟨⟨⟨_, hb⟩, rfl⟩, ?_⟩
            (try simp only [Act.put, List.setIfInBounds_toArray, List.set_cons_zero, List.set_cons_succ])
            refine p_app rfl (.tmp 205) (.tmp 209) 24 rfl wr.heap.size 39 (.agg #[.int .i64 0, .int .i64 0, .int .i64 0, .int .i64 0]) 4 32 Try.underlying24 info_Road rfl (by omega) _ _ _ _ rfl hown _ _ _ _ rfl (hM.bel hb) (oneCell_roads _) (by omega) (by omega) hb.size ?_
            intro A6 c6 w6 hown2 hb4 _
            replace hb := Below.trans hb hb4
            refine ⟨⟨⟨_, hb⟩, rfl⟩, ?_⟩
            (try simp only [Act.put, List.setIfInBounds_toArray, List.set_cons_zero, List.set_cons_succ])
            (iterate 1 (refine p_free rfl (by rintro w' ⟨d, rfl⟩; obtain ⟨hDc, hDf⟩ := hD d; (go_simp; first | done | rfl)) ?_; (try simp only [Act.put, List.setIfInBounds_toArray, List.set_cons_zero, List.set_cons_succ])))
            refine p_stop ?_
            (try simp only [Act.put, List.setIfInBounds_toArray, List.set_cons_zero, List.set_cons_succ])
            have hO6 : Sl w6 4 A6 (i + (k - (i + 1))) c6 ((without zs i).flatMap Road.row) := by rw [without_flat]; simpa using Sl.of_own hown2
            replace hb := bel_trans hBr hb
            clear hown hown2 hb3 hb4 hL hM hSr hwr htn
            have hn9 : i + (k - (i + 1)) ≤ 1048576 := by omega
            go_wp2_with fail
            refine (tripI p3 _ _ _ (without zs i) f3 t3 v3 _ hO6 hn9).mono ?_
            rw [htwo.out]
            rintro _ w7 ⟨A7, m7, c7, rfl, -, hb7⟩
            replace hb := bel_trans hb hb7
            go_wp2_with fail
            refine (vHas A2 m3 c2 R i w7 (hO2s.bel hb) hm3).mono ?_
            rw [hhs.out]
            rintro _ _ ⟨rfl, rfl⟩
            rcases hs with _ | _
            · go_wp2_with fail
              go_roundw
              case rel => exact ⟨i + 1, by omega, by go_num, hb⟩
              case measure => simp [intOf]; omega
            · go_wp2_with fail
              go_roundw
              case rel => exact ⟨i + 1, by omega, by go_num, hb⟩
              case measure => simp [intOf]; omega
          · have hi1 : ¬ (i : Int) < (k : Int) := by omega
            go_wp2_with fail
            go_ret
            exact ⟨rfl, bel_trans hBw hBr⟩
      · obtain ⟨hlt, hokT⟩ := ht'.out rfl
        replace hokT := hid hokT
        obtain ⟨P, hP, hP7, hv9, hnet, hpl, hri, hse⟩ := cut_law (hok.out.trans hokT.out)
        rw [hsd.out] at hse
        have hiP : i < P := by omega
        have hhas : Hid ((s.any fun x => x == (i : Int)) = cutB P xs vs v i) := by rw [hse, cutL]; exact hid (any_filter _ _ _ hiP)
        have hself := hid (last_self (xs := xs) (vs := vs) hnet hpl hiP)
        have hly := hid (last_yes (xs := xs) (vs := vs) hnet hpl hri hiP)
        have hln := hid (last_no (P := P) (a := i) (xs := xs) (vs := vs))
        clear hse
        replace hP := hid hP
        obtain ⟨h, hh⟩ : ∃ h, (vs.any fun x => x == (i : Int)) = h := ⟨_, rfl⟩
        obtain ⟨L, hL⟩ : ∃ L, lastL P xs i vs = L := ⟨_, rfl⟩
        have hcB : Hid (cutB P xs vs v i = (!h && decide (L < v))) := by show _ = _; rw [cutB, hL, ← hh]; rfl
        rw [hL] at hly hln hself
        rw [hh] at hself
        replace hhas := hid (hhas.out.trans hcB.out)
        replace hh := hid hh
        clear hL hcB
        have hLR : Hid (lastR p xs i vs = (if 0 ≤ L then L else 0, decide (0 ≤ L))) := by
          rw [hP.out]
          by_cases h0 : 0 ≤ L
          · rw [if_pos h0, decide_eq_true h0]; exact hid (hly.out h0)
          · rw [if_neg h0, decide_eq_false h0]; exact hid (hln.out (by omega))
        clear hly hln
        have hi0 : (0 : Int) ≤ (i : Int) := by omega
        go_wp2_with fail
        refine (lastForI p _ _ _ xs i _ _ _ vs _ (hOs.bel hBr) (by omega) (hVs.bel hBr) (by omega)).mono ?_
        rw [hLR.out]
        rintro _ w6 ⟨rfl, hb⟩
        have hsS := hO2s.bel (hBr.trans (hb.mono hBr.size))
        have hsV := hVs.bel (hBr.trans (hb.mono hBr.size))
        rcases h with _ | _
        · by_cases h0 : 0 ≤ L
          · have d0 : decide (0 ≤ L) = true := decide_eq_true h0
            rcases d1 : decide (L < v) with _ | _
            · rw [d1] at hhas
              rw [if_pos h0, d0]
              (go_wp2_with fail; refine (vHas A3 m3 c3 s i w6 hsS hm3).mono ?_; rw [hhas.out]; rintro _ _ ⟨rfl, rfl⟩; go_wp2_with fail; refine (vHas A2 q c2 vs i w6 hsV (by omega)).mono ?_; rw [hh.out]; rintro _ _ ⟨rfl, rfl⟩; go_wp2_with fail; refine (vHas A2 q c2 vs i w6 hsV (by omega)).mono ?_; rw [hh.out]; rintro _ _ ⟨rfl, rfl⟩; go_wp2_with fail; go_roundw; (case rel => exact ⟨i + 1, by omega, by go_num, bel_trans hBr hb⟩); (case measure => simp [intOf]; omega))
            · rw [d1] at hhas
              rw [if_pos h0, d0]
              (go_wp2_with fail; refine (vHas A3 m3 c3 s i w6 hsS hm3).mono ?_; rw [hhas.out]; rintro _ _ ⟨rfl, rfl⟩; go_wp2_with fail; refine (vHas A2 q c2 vs i w6 hsV (by omega)).mono ?_; rw [hh.out]; rintro _ _ ⟨rfl, rfl⟩; go_wp2_with fail; refine (vHas A2 q c2 vs i w6 hsV (by omega)).mono ?_; rw [hh.out]; rintro _ _ ⟨rfl, rfl⟩; go_wp2_with fail; go_roundw; (case rel => exact ⟨i + 1, by omega, by go_num, bel_trans hBr hb⟩); (case measure => simp [intOf]; omega))
          · have d0 : decide (0 ≤ L) = false := decide_eq_false h0
            have d1 : decide (L < v) = true := decide_eq_true (by omega)
            rw [d1] at hhas
            rw [if_neg h0, d0]
            (go_wp2_with fail; refine (vHas A3 m3 c3 s i w6 hsS hm3).mono ?_; rw [hhas.out]; rintro _ _ ⟨rfl, rfl⟩; go_wp2_with fail; refine (vHas A2 q c2 vs i w6 hsV (by omega)).mono ?_; rw [hh.out]; rintro _ _ ⟨rfl, rfl⟩; go_wp2_with fail; refine (vHas A2 q c2 vs i w6 hsV (by omega)).mono ?_; rw [hh.out]; rintro _ _ ⟨rfl, rfl⟩; go_wp2_with fail; go_roundw; (case rel => exact ⟨i + 1, by omega, by go_num, bel_trans hBr hb⟩); (case measure => simp [intOf]; omega))
        · have h9 := hself.out rfl
          subst h9
          rw [if_pos (by omega), decide_eq_true (by omega)]
          (go_wp2_with fail; refine (vHas A3 m3 c3 s i w6 hsS hm3).mono ?_; rw [hhas.out]; rintro _ _ ⟨rfl, rfl⟩; go_wp2_with fail; refine (vHas A2 q c2 vs i w6 hsV (by omega)).mono ?_; rw [hh.out]; rintro _ _ ⟨rfl, rfl⟩; go_wp2_with fail; refine (vHas A2 q c2 vs i w6 hsV (by omega)).mono ?_; rw [hh.out]; rintro _ _ ⟨rfl, rfl⟩; go_wp2_with fail; go_roundw; (case rel => exact ⟨i + 1, by omega, by go_num, bel_trans hBr hb⟩); (case measure => simp [intOf]; omega))
end Go.Proofs.Ytfimchbjpambfaa
