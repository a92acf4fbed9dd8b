/-
  The law on roads that are drawn, walked.
-/
import Derived.Test.YtfimchbjpambfaaRoadTripLaw
import Derived.Test.YtfimchbjpambfaaRoadTripTopI
import Derived.Test.YtfimchbjpambfaaRoadOpen
import Derived.Test.YtfimchbjpambfaaLawFnsRoad
import Derived.Test.YtfimchbjpambfaaLawFns
import Derived.Deep.DeepCutAuto
namespace Go.Proofs.Ytfimchbjpambfaa
open Go.RowKit

theorem cells4 {w : World} {p : Nat} {a b c d : Value} {T : TypeId} (h : w.heap[p]? = some (.cells #[a, b, c, d] T (0, 0))) : w.cell? ⟨p, 0, none⟩ = some a ∧ w.cell? ⟨p, 1, none⟩ = some b ∧ w.cell? ⟨p, 2, none⟩ = some c ∧ w.cell? ⟨p, 3, none⟩ = some d :=
  ⟨cell_of_row w p 0 _ _ _ h, cell_of_row w p 1 _ _ _ h, cell_of_row w p 2 _ _ _ h, cell_of_row w p 3 _ _ _ h⟩
set_option maxHeartbeats 8000000 in
set_option maxRecDepth 100000 in
theorem lawRoads (A : Option Addr) (n c : Nat) (cs : List Int) (w : World) (hS : Sl w 1 A n c (cs.map (Value.int .u8))) (hb0 : ∀ (i : Nat) (x : Int), cs[i]? = some x → 0 ≤ x ∧ x ≤ 255) :
    Calls Try.prog 3 #[.slice A n c] w fun e w' => e = .returned (.bool true) ∧ Below w.heap.size w w' := by
  have hmx := Nat.le_trans hS.cap hS.max
  rcases Nat.lt_or_ge 65536 n with hn | hn
  · go_enter Try.func3, Try.ntmps3
    go_wp2_with fail
    refine (vBig A n c w hmx).mono ?_
    rw [decide_eq_true hn]
    rintro _ _ ⟨rfl, rfl⟩
    go_wp2_with fail
    go_ret
    exact ⟨rfl, bel_refl w⟩
  have hC : Code w A n c cs := ⟨hS, hb0, hn⟩
  go_enter Try.func3, Try.ntmps3
  go_wp2_with fail
  refine (vBig A n c w hmx).mono ?_
  rw [decide_eq_false (show ¬ 65536 < n by omega)]
  rintro _ _ ⟨rfl, rfl⟩
  clear hmx hS
  go_wp2_with fail
  refine (drawArrivals A n c cs w hC).mono ?_
  rintro _ W0 ⟨p, A1, k, c1, xs, f, v, rfl, hp, hO, hk, hf, hv, hb⟩
  have hBw := hb
  clear hb
  have hB2 := bel_refl W0
  obtain ⟨s, hsd⟩ : ∃ s, (arrR p xs f v).1 = s := ⟨_, rfl⟩
  obtain ⟨ok, hok⟩ : ∃ ok, (arrR p xs f v).2 = ok := ⟨_, rfl⟩
  have hsl := arrR_len p xs f v
  rw [hsd] at hsl
  go_wp2_with fail
  refine (arrivalsI p _ _ _ xs f v _ hO.sl (by omega)).mono ?_
  rw [hsd, hok]
  rintro _ w1 ⟨A2, m2, c2, rfl, hO2, hb⟩
  replace hB2 := bel_trans hB2 hb; obtain ⟨hC1, hF1⟩ := bcell hB2
  go_wp2_with fail
  refine (arrivalsS p _ _ _ xs f v _ (hO.sl.bel hB2) (by omega)).mono ?_
  rw [hsd, hok]
  rintro _ w2 ⟨A3, m3, c3, rfl, hO3, hb⟩
  replace hB2 := bel_trans hB2 hb; obtain ⟨hC1, hF1⟩ := bcell hB2
  replace hO2 := hO2.bel hb
  have hl1 := hO2.sl.int_len
  have hl2 := hO3.sl.int_len
  obtain rfl : m3 = m2 := hl2.symm.trans hl1
  have hm3 : m3 ≤ 1048576 := by omega
  replace hl1 := hid hl1
  clear hl2 hsl
  replace hsd := hid hsd
  replace hok := hid hok
  go_wp2_with fail
  refine (vInts _ _ _ _ _ _ _ hO2.sl hO3.sl hm3).mono ?_
  rintro _ w3 ⟨rfl, hb⟩
  replace hB2 := bel_trans hB2 hb; obtain ⟨hC1, hF1⟩ := bcell hB2
  replace hO2 := hO2.bel hb
  clear hO3
  go_wp2_with fail
  refine (isNetworkI p _ _ _ xs _ (hO.sl.bel hB2) (by omega)).mono ?_
  rintro _ w4 ⟨rfl, hb⟩
  replace hB2 := bel_trans hB2 hb; obtain ⟨hC1, hF1⟩ := bcell hB2
  replace hO2 := hO2.bel hb
  go_wp2_with fail
  refine (isNetworkS p _ _ _ xs _ (hO.sl.bel hB2) (by omega)).mono ?_
  rintro _ w5 ⟨rfl, hb⟩
  replace hB2 := bel_trans hB2 hb; obtain ⟨hC1, hF1⟩ := bcell hB2
  replace hO2 := hO2.bel hb
  go_upto_if 87 with fail
  go_cut [] (fun wx => Hid (Below W0.heap.size W0 wx))
  case first => as_aux_lemma =>
    rcases ok with _ | _
    · go_wp2_with fail
      go_meet
      exact hB2
    · obtain ⟨P, F, hP, hF, hFP, hP7, hv9, hnet, hse, hsP⟩ := arr_law hok.out
      rw [hsd.out] at hse
      rw [← hse, hl1.out] at hsP
      replace hP := hid hP
      replace hF := hid hF
      replace hnet := hid hnet
      replace hse := hid hse
      replace hsP := hid hsP
      have hf0 : 0 ≤ f := by rw [hF.out]; omega
      have hfp : f.toNat < P := by rw [hF.out]; omega
      have hp0 : 0 ≤ p := by omega
      obtain ⟨W1, hW1⟩ : ∃ W1, w5 = W1 := ⟨_, rfl⟩
      rw [hW1] at hB2 hO2 hC1 ⊢
      clear hW1 hF1 hC1
      go_wp2_with fail
      go_loopw [11] (fun u wr => ∃ i : Nat, i ≤ P ∧ u = .int .i64 i ∧ Below W1.heap.size W1 wr) (fun u _ => P - (intOf u).toNat)
      case atStart => exact ⟨0, by omega, rfl, bel_refl _⟩
      case round =>
        obtain ⟨i, hi', rfl, hBr⟩ := hrel
        have hBq := bel_trans hB2 hBr
        by_cases hlt : i < P
        · have hi1 : (i : Int) < p := by rw [hP.out]; omega
          have hi0 : (0 : Int) ≤ (i : Int) := by omega
          have hdep := hid (show depR p xs i = (arrD P xs i 999, true) by rw [hP.out]; exact dep_law hnet.out hlt)
          have hdu := hid (dual (good_mem (netB_all hnet.out)) hFP hlt hv9)
          have hdl := hid (arrD_len (good_mem (netB_all hnet.out)) hlt)
          go_wp2_with fail
          refine (departuresI p _ _ _ xs i _ (hO.sl.bel hBq) (by omega)).mono ?_
          rw [hdep.out]
          rintro _ w6 ⟨A4, m4, c4, rfl, hO4, hb⟩
          have hm4 := hO4.sl.int_len
          rw [hdl.out] at hm4
          obtain rfl : m4 = P := hm4.symm
          obtain rfl : m3 = m4 := hsP.out
          have ho2 := hO2.bel (hBr.trans (hb.mono hBr.size))
          obtain ⟨g2, rfl, hg2l, hg2h⟩ := own_form ho2.own (by omega)
          obtain ⟨g4, rfl, hg4l, hg4h⟩ := own_form hO4.own (by omega)
          have d0 := own_gi ho2.own hlt
          have d1 := own_gi hO4.own hfp
          rw [hse.out] at d0
          have hdu2 : Hid (0 ≤ gi (arrA m3 xs F v) i ↔ v ≤ gi (arrD m3 xs i 999) (f.toNat : Int)) := by rw [hF.out]; exact hdu.out
          clear hdu hdl hm4
          obtain ⟨x, hx⟩ : ∃ x, gi (arrA m3 xs F v) i = x := ⟨_, rfl⟩
          obtain ⟨y, hy⟩ : ∃ y, gi (arrD m3 xs i 999) (f.toNat : Int) = y := ⟨_, rfl⟩
          rw [hx, hy] at hdu2
          rw [hx] at d0
          rw [hy] at d1
          clear hx hy ho2 hO4 hdep
          have hB9 := bel_trans hBr hb
          obtain ⟨W3, hW3⟩ : ∃ W3, w6 = W3 := ⟨_, rfl⟩
          rw [hW3] at hB9 d0 d1 hg2h hg4h ⊢
          clear hW3 hb hBq
          have hB2 := bel_refl W3
          have hflt : f < (m3 : Int) := by omega
          have hilt : (i : Int) < (m3 : Int) := by omega
          rcases hl : decide (0 ≤ x) with _ | _
          · have hl2 : decide (v ≤ y) = false := decide_eq_false fun h => absurd (hdu2.out.2 h) (of_decide_eq_false hl)
            go_wp2_with fail
            (refine wp_region_bel (by kernel_rfl) (by kernel_rfl) ?_; have hD := bel_cells hB2; (repeat (go_big_quiet_step ((fail)))); refine wpQuiet_nil ?_; intro w1 hB1; replace hB2 := bel_trans hB2 hB1; obtain ⟨hC1, hF1⟩ := bcell hB2; clear hD; replace hB1 := hB1)
            go_wp2_with fail
            go_roundw
            case rel => exact ⟨i + 1, by omega, by go_num, by (repeat' (first | (with_reducible exact bel_refl _) | (with_reducible assumption) | (with_reducible refine bel_drew ?_) | (with_reducible refine bel_drewN ?_) | (with_reducible refine bel_alloc ?_) | (with_reducible refine bel_set ?_ ?_) | (with_reducible refine bel_trans ?_ (by with_reducible assumption)) | omega | (simp; done) | (simp; omega)))⟩
            case measure => simp [intOf]; omega
          · have hl2 : decide (v ≤ y) = true := decide_eq_true (hdu2.out.1 (of_decide_eq_true hl))
            go_wp2_with fail
            (refine wp_region_bel (by kernel_rfl) (by kernel_rfl) ?_; have hD := bel_cells hB2; (repeat (go_big_quiet_step ((fail)))); refine wpQuiet_nil ?_; intro w1 hB1; replace hB2 := bel_trans hB2 hB1; obtain ⟨hC1, hF1⟩ := bcell hB2; clear hD; replace hB1 := hB1)
            go_wp2_with fail
            go_roundw
            case rel => exact ⟨i + 1, by omega, by go_num, by (repeat' (first | (with_reducible exact bel_refl _) | (with_reducible assumption) | (with_reducible refine bel_drew ?_) | (with_reducible refine bel_drewN ?_) | (with_reducible refine bel_alloc ?_) | (with_reducible refine bel_set ?_ ?_) | (with_reducible refine bel_trans ?_ (by with_reducible assumption)) | omega | (simp; done) | (simp; omega)))⟩
            case measure => simp [intOf]; omega
        · have hi1 : ¬ (i : Int) < p := by rw [hP.out]; omega
          go_wp2_with fail
          go_meet
          exact hBq
  case rest => as_aux_lemma =>
    replace hBw := bel_trans hBw hcut.out
    clear hB2 hC1 hF1 hcut hO hO2 hsd hok hm3 hl1 hp hf hv hk
    go_wp2_with fail
    refine (drawDepartures A n c cs _ (hC.bel hBw)).mono ?_
    rintro _ W1 ⟨p2, A1, k, c1, ys, f2, rfl, hp, hO, hk, hf, hb⟩
    replace hBw := bel_trans hBw hb
    clear hb
    have hB2 := bel_refl W1
    obtain ⟨s2, hsd⟩ : ∃ s, (depR p2 ys f2).1 = s := ⟨_, rfl⟩
    obtain ⟨told, hok⟩ : ∃ ok, (depR p2 ys f2).2 = ok := ⟨_, rfl⟩
    have hsl := depR_len p2 ys f2
    rw [hsd] at hsl
    go_wp2_with fail
    refine (departuresI p2 _ _ _ ys f2 _ hO.sl (by omega)).mono ?_
    rw [hsd, hok]
    rintro _ w1 ⟨A2, m2, c2, rfl, hO2, hb⟩
    replace hB2 := bel_trans hB2 hb; obtain ⟨hC1, hF1⟩ := bcell hB2
    go_wp2_with fail
    refine (departuresS p2 _ _ _ ys f2 _ (hO.sl.bel hB2) (by omega)).mono ?_
    rw [hsd, hok]
    rintro _ w2 ⟨A3, m3, c3, rfl, hO3, hb⟩
    replace hB2 := bel_trans hB2 hb; obtain ⟨hC1, hF1⟩ := bcell hB2
    replace hO2 := hO2.bel hb
    have hl1 := hO2.sl.int_len
    have hl2 := hO3.sl.int_len
    obtain rfl : m3 = m2 := hl2.symm.trans hl1
    have hm3 : m3 ≤ 1048576 := by omega
    clear hl2 hsl hl1 hsd hok
    go_wp2_with fail
    refine (vInts _ _ _ _ _ _ _ hO2.sl hO3.sl hm3).mono ?_
    rintro _ w3 ⟨rfl, hb⟩
    replace hB2 := bel_trans hB2 hb; obtain ⟨hC1, hF1⟩ := bcell hB2
    replace hBw := bel_trans hBw hB2
    clear hO2 hO3 hB2 hC1 hF1 hO hm3 hp hk hf hb
    go_wp2_with fail
    refine (drawTrip A n c cs _ (hC.bel hBw)).mono ?_
    rintro _ W2 ⟨p3, A1, k, c1, zs, f3, t3, v3, rfl, hp, hO, hk, hf, ht, hv, hb⟩
    replace hBw := bel_trans hBw hb
    clear hb
    have hB2 := bel_refl W2
    obtain ⟨R, hsd⟩ : ∃ s, (tripR p3 zs f3 t3 v3).1 = s := ⟨_, rfl⟩
    obtain ⟨fine, hok⟩ : ∃ ok, (tripR p3 zs f3 t3 v3).2 = ok := ⟨_, rfl⟩
    have hsl := tripR_len p3 zs f3 t3 v3
    rw [hsd] at hsl
    go_wp2_with fail
    refine (tripI p3 _ _ _ zs f3 t3 v3 _ hO.sl (by omega)).mono ?_
    rw [hsd, hok]
    rintro _ w4 ⟨A2, m2, c2, rfl, hO2, hb⟩
    replace hB2 := bel_trans hB2 hb; obtain ⟨hC1, hF1⟩ := bcell hB2
    go_wp2_with fail
    refine (tripS p3 _ _ _ zs f3 t3 v3 _ (hO.sl.bel hB2) (by omega)).mono ?_
    rw [hsd, hok]
    rintro _ w5 ⟨A3, m3, c3, rfl, hO3, hb⟩
    replace hB2 := bel_trans hB2 hb; obtain ⟨hC1, hF1⟩ := bcell hB2
    replace hO2 := hO2.bel hb
    have hl1 := hO2.sl.int_len
    have hl2 := hO3.sl.int_len
    obtain rfl : m3 = m2 := hl2.symm.trans hl1
    have hm3 : m3 ≤ 1048576 := by omega
    replace hl1 := hid hl1
    clear hl2 hsl
    replace hsd := hid hsd
    replace hok := hid hok
    go_wp2_with fail
    refine (vInts _ _ _ _ _ _ _ hO2.sl hO3.sl hm3).mono ?_
    rintro _ w6 ⟨rfl, hb⟩
    replace hB2 := bel_trans hB2 hb; obtain ⟨hC1, hF1⟩ := bcell hB2
    replace hO2 := hO2.bel hb
    clear hO3 hb
    go_upto_if 187 with fail
    go_cut [] (fun wx => Hid (Below W2.heap.size W2 wx))
    case first => as_aux_lemma =>
      rcases fine with _ | _
      · go_wp2_with fail
        go_meet
        exact hB2
      · obtain ⟨P, F, T, hP, hF, hT, hFP, hTP, hP7, hv9, hnet, hRe, h0T, harr⟩ := trip_law hok.out
        rw [hsd.out] at hRe
        obtain ⟨hto, hhd, hlen⟩ := trip_ok hnet hFP hTP hv9 h0T
        rw [← hRe] at hto hhd hlen
        have hfirst := arr_first (good_mem (netB_all hnet)) hFP hv9
        have hAr := arrA_arr (good_mem (netB_all hnet)) hFP hv9
        obtain ⟨s, hs⟩ : ∃ s, arrA P zs F v3 = s := ⟨_, rfl⟩
        rw [hs] at hto harr hfirst hAr
        have hbd : Hid (∀ u : Int, -1 ≤ gi s u ∧ gi s u ≤ 999) := fun u => hAr.bd u
        have hlenP := hid hAr.len
        clear hAr hs hRe
        rw [hl1.out] at hlen
        obtain ⟨q, rfl⟩ : ∃ q, m3 = q + 1 := by
          rcases R with _ | ⟨a, R⟩
          · simp at hhd
          · exact ⟨R.length, by rw [← hl1.out]; rfl⟩
        have hR0 : R[0]? = some (F : Int) := by rw [← List.head?_eq_getElem?]; exact hhd
        have hRq : Hid (R[q]? = some (T : Int)) := by show _; rw [← hto.last, List.getLast?_eq_getElem?, hl1.out]; rfl
        have hch := hid hto.chain
        have hnn := hid hto.nn
        clear hhd hto h0T hm3
        replace hP := hid hP
        replace hF := hid hF
        replace hT := hid hT
        replace hnet := hid hnet
        replace harr := hid harr
        replace hfirst := hid hfirst
        replace hR0 := hid hR0
        go_wp2_with fail
        refine (arrivalsS p3 _ _ _ zs f3 v3 _ (hO.sl.bel hB2) (by omega)).mono ?_
        rw [harr.out]
        rintro _ w7 ⟨A4, m4, c4, rfl, hO4, hb⟩
        replace hB2 := bel_trans hB2 hb
        replace hO2 := hO2.bel hb
        have hm4 := hO4.sl.int_len
        rw [hlenP.out] at hm4
        obtain rfl : m4 = P := hm4.symm
        obtain ⟨g2, rfl, hg2l, hg2h⟩ := own_form hO2.own (by omega)
        obtain ⟨g4, rfl, hg4l, hg4h⟩ := own_form hO4.own (by omega)
        have hRc : Hid (∀ (i : Nat) (x : Int), R[i]? = some x → w7.cell? ⟨g2, i, none⟩ = some (.int .i64 x)) := fun i x hx => by
          have := own_cells hO2.own i _ (ints_get hx)
          rw [Addr.add_lit, Nat.zero_add] at this
          exact this
        have hTc : Hid (w7.cell? ⟨g4, t3.toNat, none⟩ = some (.int .i64 (gi s T))) := by
          show _
          have := own_gi hO4.own hTP
          rw [show t3.toNat = T by rw [hT.out]; rfl]
          exact this
        have hOz := hO.sl.bel hB2
        have hlh := hid (hOz.xs_len Road.row_len (by omega))
        clear hb hO2 hO4 hm4 hO hC1 hF1
        obtain ⟨W3, hW3⟩ : ∃ W3, w7 = W3 := ⟨_, rfl⟩
        rw [hW3] at hB2 hRc hTc hg2h hg4h hOz ⊢
        clear hW3
        go_wp2_with fail
        go_loopw [32, 33] (fun u v wr => ∃ (j : Nat) (a : Int), j ≤ q ∧ R[j]? = some a ∧ u = .int .i64 (gi s a) ∧ v = .int .i64 ((j : Int) + 1) ∧ Below W3.heap.size W3 wr) (fun _ v _ => q + 1 - (intOf v).toNat)
        case atStart => exact ⟨0, F, by omega, hR0.out, by rw [hfirst.out], rfl, bel_refl _⟩
        case round => as_aux_lemma =>
          obtain ⟨j, a, hj, haR, rfl, rfl, hBr⟩ := hrel
          obtain ⟨W5, hW5⟩ : ∃ W5, wr = W5 := ⟨_, rfl⟩
          rw [hW5] at hBr ⊢
          clear hW5
          by_cases hlt : j < q
          · obtain ⟨b, hbR⟩ : ∃ b, R[j + 1]? = some b := get_of_lt (by rw [hl1.out]; omega)
            obtain ⟨k0, r0, hr0, hm0, hadd, hcl, huq⟩ := hch.out j a b haR hbR
            have ha0 := hnn.out a (List.mem_of_getElem? haR)
            have ha9 := (hbd.out a).2
            have hb9 := (hbd.out b).2
            obtain ⟨x0, hx0⟩ : ∃ x0, gi s a = x0 := ⟨_, rfl⟩
            obtain ⟨x1, hx1⟩ : ∃ x1, gi s b = x1 := ⟨_, rfl⟩
            rw [hx0] at hadd ha0 ha9 ⊢
            rw [hx1] at hadd hcl hb9
            replace hx0 := hid hx0
            replace hx1 := hid hx1
            have hcA := (bcell hBr).1 g2 j hg2h
            have hcB := (bcell hBr).1 g2 (j + 1) hg2h
            rw [hRc.out _ _ haR] at hcA
            rw [hRc.out _ _ hbR] at hcB
            have hk0 : k0 < k := by rw [← hlh.out]; exact (List.getElem?_eq_some_iff.1 hr0).1
            have hj0 : (0 : Int) ≤ (j : Int) := by omega
            have hj1 : (j : Int) < (q : Int) := by omega
            replace hr0 := hid hr0
            replace hm0 := hid hm0
            replace hadd := hid hadd
            replace hcl := hid hcl
            replace huq := hid huq
            replace haR := hid haR
            replace hbR := hid hbR
            have hg2r : g2 < W5.heap.size := Nat.lt_of_lt_of_le hg2h hBr.size
            have hOr := hOz.bel hBr
            go_wp2_with fail
            go_loopw [32, 34, 35] (fun u fd v wi => ∃ (i : Nat) (d : Bool), i ≤ k ∧ Hid (d = decide (k0 < i)) ∧ u = .int .i64 (if d then x1 else x0) ∧ fd = .bool d ∧ v = .int .i64 i ∧ Below W5.heap.size W5 wi) (fun _ _ v _ => k - (intOf v).toNat)
            case atStart => exact ⟨0, false, by omega, hid (by simp), rfl, rfl, rfl, bel_refl _⟩
            case round => as_aux_lemma =>
              obtain ⟨i, d, hi, hd, rfl, rfl, rfl, hBi⟩ := hrel
              by_cases hlt2 : i < k
              · obtain ⟨x, hx⟩ : ∃ x, zs[i]? = some x := get_of_lt (by rw [hlh.out]; exact hlt2)
                obtain ⟨bl, o, rfl, hbl, c0, c1', c2', c3'⟩ := (hOr.bel hBi).road hx
                have hgx := goodR_bd (netB_all hnet.out _ _ hx)
                have hcAi := ((bcell hBi).1 g2 j hg2r).trans hcA
                have hcBi := ((bcell hBi).1 g2 (j + 1) hg2r).trans hcB
                have hi0 : (0 : Int) ≤ (i : Int) := by omega
                have hi1 : (i : Int) < (k : Int) := by omega
                obtain ⟨W4, hW4⟩ : ∃ W4, wr = W4 := ⟨_, rfl⟩
                rw [hW4] at hBi c0 c1' c2' c3' hcAi hcBi hbl ⊢
                have hg2i : g2 < W4.heap.size := Nat.lt_of_lt_of_le hg2r hBi.size
                clear hW4
                have hB2 := bel_refl W4
                have hxa := hgx.2.1
                have hxm := hgx.2.2.2.1
                have hxn := hgx.2.2.2.2.1
                clear hgx
                by_cases hik : i = k0
                · subst hik
                  obtain rfl : d = false := by rw [hd.out]; simp
                  obtain rfl : x = r0 := by have := hr0.out; rw [hx] at this; exact Option.some.inj this
                  have hs9 : 0 ≤ x0 + x.minutes ∧ x0 + x.minutes ≤ 1099 := by omega
                  rcases hm0.out with ⟨e1, e2⟩ | ⟨e1, e2⟩
                  · have q1 : (x.a == a) = true := by simpa using e1
                    have q2 : (x.b == b) = true := by simpa using e2
                    clear e1 e2 hx
                    go_wp2_with fail
                    have hq := heap_alloc_new W4 (.cells #[.int .i64 x.a, .int .i64 x.b, .int .i64 x.minutes, .int .i64 x.closes] 39)
                    obtain ⟨W6, hW6⟩ : ∃ W6, W4.alloc (.cells #[.int .i64 x.a, .int .i64 x.b, .int .i64 x.minutes, .int .i64 x.closes] 39) = W6 := ⟨_, rfl⟩
                    have hB6 : Below W4.heap.size W4 W6 := hW6 ▸ bel_alloc (bel_refl W4)
                    have k0 := ((bcell hB6).1 g2 j hg2i).trans hcAi
                    have k1 := ((bcell hB6).1 g2 (j + 1) hg2i).trans hcBi
                    rw [hW6] at hq ⊢
                    obtain ⟨z6, hz6⟩ : ∃ z6, W4.heap.size = z6 := ⟨_, rfl⟩
                    rw [hz6] at hq ⊢
                    obtain ⟨e0, e1, e2, e3⟩ := cells4 hq
                    have hql := lt_of_block hq
                    clear hW6 hq
                    have hBj := bel_trans hBi hB6
                    have hg6 : g2 < W6.heap.size := Nat.lt_of_lt_of_le hg2i hB6.size
                    clear hz6 hcAi hcBi hg2i hB6 c0 c1' c2' c3' hbl hB2
                    have hB2 := bel_refl W6
                    (refine wp_region_bel (by kernel_rfl) (by kernel_rfl) ?_; have hD := bel_cells hB2; (repeat (go_big_quiet_step ((fail)))); refine wpQuiet_nil ?_; intro w1 hB1; replace hB2 := bel_trans hB2 hB1; obtain ⟨hC1, hF1⟩ := bcell hB2; clear hD; replace hB1 := hB1)
                    go_wp2_with fail
                    go_roundw
                    case rel => exact ⟨i + 1, true, by omega, hid (by simp), by show _ = Value.int .i64 x1; rw [hadd.out], by rw [hadd.out]; simpa using hcl.out, by go_num, bel_trans hBj (by (repeat' (first | (with_reducible exact bel_refl _) | (with_reducible assumption) | (with_reducible refine bel_drew ?_) | (with_reducible refine bel_drewN ?_) | (with_reducible refine bel_alloc ?_) | (with_reducible refine bel_set ?_ ?_) | (with_reducible refine bel_trans ?_ (by with_reducible assumption)) | omega | (simp; done) | (simp; omega))))⟩
                    case measure => simp [intOf]; omega
                  · have q1 : (x.b == a) = true := by simpa using e1
                    have q2 : (x.a == b) = true := by simpa using e2
                    have q3 : (x.a == a) = false := by rw [beq_eq_false_iff_ne]; omega
                    clear e1 e2 hx
                    go_wp2_with fail
                    have hq := heap_alloc_new W4 (.cells #[.int .i64 x.a, .int .i64 x.b, .int .i64 x.minutes, .int .i64 x.closes] 39)
                    obtain ⟨W6, hW6⟩ : ∃ W6, W4.alloc (.cells #[.int .i64 x.a, .int .i64 x.b, .int .i64 x.minutes, .int .i64 x.closes] 39) = W6 := ⟨_, rfl⟩
                    have hB6 : Below W4.heap.size W4 W6 := hW6 ▸ bel_alloc (bel_refl W4)
                    have k0 := ((bcell hB6).1 g2 j hg2i).trans hcAi
                    have k1 := ((bcell hB6).1 g2 (j + 1) hg2i).trans hcBi
                    rw [hW6] at hq ⊢
                    obtain ⟨z6, hz6⟩ : ∃ z6, W4.heap.size = z6 := ⟨_, rfl⟩
                    rw [hz6] at hq ⊢
                    obtain ⟨e0, e1, e2, e3⟩ := cells4 hq
                    have hql := lt_of_block hq
                    clear hW6 hq
                    have hBj := bel_trans hBi hB6
                    have hg6 : g2 < W6.heap.size := Nat.lt_of_lt_of_le hg2i hB6.size
                    clear hz6 hcAi hcBi hg2i hB6 c0 c1' c2' c3' hbl hB2
                    have hB2 := bel_refl W6
                    (refine wp_region_bel (by kernel_rfl) (by kernel_rfl) ?_; have hD := bel_cells hB2; (repeat (go_big_quiet_step ((fail)))); refine wpQuiet_nil ?_; intro w1 hB1; replace hB2 := bel_trans hB2 hB1; obtain ⟨hC1, hF1⟩ := bcell hB2; clear hD; replace hB1 := hB1)
                    go_wp2_with fail
                    go_roundw
                    case rel => exact ⟨i + 1, true, by omega, hid (by simp), by show _ = Value.int .i64 x1; rw [hadd.out], by rw [hadd.out]; simpa using hcl.out, by go_num, bel_trans hBj (by (repeat' (first | (with_reducible exact bel_refl _) | (with_reducible assumption) | (with_reducible refine bel_drew ?_) | (with_reducible refine bel_drewN ?_) | (with_reducible refine bel_alloc ?_) | (with_reducible refine bel_set ?_ ?_) | (with_reducible refine bel_trans ?_ (by with_reducible assumption)) | omega | (simp; done) | (simp; omega))))⟩
                    case measure => simp [intOf]; omega
                · have hno : ¬ mt x a b := fun hm => hik (huq.out i x hx hm)
                  have hd2 : Hid (d = decide (k0 < i + 1)) := by rw [hd.out]; exact hid (by rw [decide_eq_decide]; omega)
                  obtain ⟨z, hz⟩ : ∃ z, (if d then x1 else x0) = z := ⟨_, rfl⟩
                  rw [hz]
                  replace hz := hid hz
                  clear hx
                  rcases q1 : (x.a == a) with _ | _
                  · rcases q3 : (x.b == a) with _ | _
                    · skip
                      go_wp2_with fail
                      have hq := heap_alloc_new W4 (.cells #[.int .i64 x.a, .int .i64 x.b, .int .i64 x.minutes, .int .i64 x.closes] 39)
                      obtain ⟨W6, hW6⟩ : ∃ W6, W4.alloc (.cells #[.int .i64 x.a, .int .i64 x.b, .int .i64 x.minutes, .int .i64 x.closes] 39) = W6 := ⟨_, rfl⟩
                      have hB6 : Below W4.heap.size W4 W6 := hW6 ▸ bel_alloc (bel_refl W4)
                      have k0 := ((bcell hB6).1 g2 j hg2i).trans hcAi
                      have k1 := ((bcell hB6).1 g2 (j + 1) hg2i).trans hcBi
                      rw [hW6] at hq ⊢
                      obtain ⟨z6, hz6⟩ : ∃ z6, W4.heap.size = z6 := ⟨_, rfl⟩
                      rw [hz6] at hq ⊢
                      obtain ⟨e0, e1, e2, e3⟩ := cells4 hq
                      have hql := lt_of_block hq
                      clear hW6 hq
                      have hBj := bel_trans hBi hB6
                      have hg6 : g2 < W6.heap.size := Nat.lt_of_lt_of_le hg2i hB6.size
                      clear hz6 hcAi hcBi hg2i hB6 c0 c1' c2' c3' hbl hB2
                      have hB2 := bel_refl W6
                      (refine wp_region_bel (by kernel_rfl) (by kernel_rfl) ?_; have hD := bel_cells hB2; (repeat (go_big_quiet_step ((fail)))); refine wpQuiet_nil ?_; intro w1 hB1; replace hB2 := bel_trans hB2 hB1; obtain ⟨hC1, hF1⟩ := bcell hB2; clear hD; replace hB1 := hB1)
                      go_wp2_with fail
                      go_roundw
                      case rel => exact ⟨i + 1, d, by omega, hd2, by show _ = Value.int .i64 (if d then x1 else x0); rw [hz.out], rfl, by go_num, bel_trans hBj (by (repeat' (first | (with_reducible exact bel_refl _) | (with_reducible assumption) | (with_reducible refine bel_drew ?_) | (with_reducible refine bel_drewN ?_) | (with_reducible refine bel_alloc ?_) | (with_reducible refine bel_set ?_ ?_) | (with_reducible refine bel_trans ?_ (by with_reducible assumption)) | omega | (simp; done) | (simp; omega))))⟩
                      case measure => simp [intOf]; omega
                    · have q2 : (x.a == b) = false := by
                        rw [beq_eq_false_iff_ne]; intro h; exact hno (Or.inr ⟨by simpa using q3, h⟩)
                      go_wp2_with fail
                      have hq := heap_alloc_new W4 (.cells #[.int .i64 x.a, .int .i64 x.b, .int .i64 x.minutes, .int .i64 x.closes] 39)
                      obtain ⟨W6, hW6⟩ : ∃ W6, W4.alloc (.cells #[.int .i64 x.a, .int .i64 x.b, .int .i64 x.minutes, .int .i64 x.closes] 39) = W6 := ⟨_, rfl⟩
                      have hB6 : Below W4.heap.size W4 W6 := hW6 ▸ bel_alloc (bel_refl W4)
                      have k0 := ((bcell hB6).1 g2 j hg2i).trans hcAi
                      have k1 := ((bcell hB6).1 g2 (j + 1) hg2i).trans hcBi
                      rw [hW6] at hq ⊢
                      obtain ⟨z6, hz6⟩ : ∃ z6, W4.heap.size = z6 := ⟨_, rfl⟩
                      rw [hz6] at hq ⊢
                      obtain ⟨e0, e1, e2, e3⟩ := cells4 hq
                      have hql := lt_of_block hq
                      clear hW6 hq
                      have hBj := bel_trans hBi hB6
                      have hg6 : g2 < W6.heap.size := Nat.lt_of_lt_of_le hg2i hB6.size
                      clear hz6 hcAi hcBi hg2i hB6 c0 c1' c2' c3' hbl hB2
                      have hB2 := bel_refl W6
                      (refine wp_region_bel (by kernel_rfl) (by kernel_rfl) ?_; have hD := bel_cells hB2; (repeat (go_big_quiet_step ((fail)))); refine wpQuiet_nil ?_; intro w1 hB1; replace hB2 := bel_trans hB2 hB1; obtain ⟨hC1, hF1⟩ := bcell hB2; clear hD; replace hB1 := hB1)
                      go_wp2_with fail
                      go_roundw
                      case rel => exact ⟨i + 1, d, by omega, hd2, by show _ = Value.int .i64 (if d then x1 else x0); rw [hz.out], rfl, by go_num, bel_trans hBj (by (repeat' (first | (with_reducible exact bel_refl _) | (with_reducible assumption) | (with_reducible refine bel_drew ?_) | (with_reducible refine bel_drewN ?_) | (with_reducible refine bel_alloc ?_) | (with_reducible refine bel_set ?_ ?_) | (with_reducible refine bel_trans ?_ (by with_reducible assumption)) | omega | (simp; done) | (simp; omega))))⟩
                      case measure => simp [intOf]; omega
                  · have e1 : x.a = a := by simpa using q1
                    have q2 : (x.b == b) = false := by
                      rw [beq_eq_false_iff_ne]; intro h; exact hno (Or.inl ⟨e1, h⟩)
                    have q3 : (x.b == a) = false := by rw [beq_eq_false_iff_ne]; omega
                    clear e1
                    go_wp2_with fail
                    have hq := heap_alloc_new W4 (.cells #[.int .i64 x.a, .int .i64 x.b, .int .i64 x.minutes, .int .i64 x.closes] 39)
                    obtain ⟨W6, hW6⟩ : ∃ W6, W4.alloc (.cells #[.int .i64 x.a, .int .i64 x.b, .int .i64 x.minutes, .int .i64 x.closes] 39) = W6 := ⟨_, rfl⟩
                    have hB6 : Below W4.heap.size W4 W6 := hW6 ▸ bel_alloc (bel_refl W4)
                    have k0 := ((bcell hB6).1 g2 j hg2i).trans hcAi
                    have k1 := ((bcell hB6).1 g2 (j + 1) hg2i).trans hcBi
                    rw [hW6] at hq ⊢
                    obtain ⟨z6, hz6⟩ : ∃ z6, W4.heap.size = z6 := ⟨_, rfl⟩
                    rw [hz6] at hq ⊢
                    obtain ⟨e0, e1, e2, e3⟩ := cells4 hq
                    have hql := lt_of_block hq
                    clear hW6 hq
                    have hBj := bel_trans hBi hB6
                    have hg6 : g2 < W6.heap.size := Nat.lt_of_lt_of_le hg2i hB6.size
                    clear hz6 hcAi hcBi hg2i hB6 c0 c1' c2' c3' hbl hB2
                    have hB2 := bel_refl W6
                    (refine wp_region_bel (by kernel_rfl) (by kernel_rfl) ?_; have hD := bel_cells hB2; (repeat (go_big_quiet_step ((fail)))); refine wpQuiet_nil ?_; intro w1 hB1; replace hB2 := bel_trans hB2 hB1; obtain ⟨hC1, hF1⟩ := bcell hB2; clear hD; replace hB1 := hB1)
                    go_wp2_with fail
                    go_roundw
                    case rel => exact ⟨i + 1, d, by omega, hd2, by show _ = Value.int .i64 (if d then x1 else x0); rw [hz.out], rfl, by go_num, bel_trans hBj (by (repeat' (first | (with_reducible exact bel_refl _) | (with_reducible assumption) | (with_reducible refine bel_drew ?_) | (with_reducible refine bel_drewN ?_) | (with_reducible refine bel_alloc ?_) | (with_reducible refine bel_set ?_ ?_) | (with_reducible refine bel_trans ?_ (by with_reducible assumption)) | omega | (simp; done) | (simp; omega))))⟩
                    case measure => simp [intOf]; omega
              · have hi1 : ¬ (i : Int) < (k : Int) := by omega
                obtain rfl : d = true := by rw [hd.out]; simp; omega
                go_wp2_with fail
                go_roundw
                case rel => exact ⟨j + 1, b, by omega, hbR.out, by show Value.int .i64 x1 = _; rw [hx1.out], by go_num, bel_trans hBr hBi⟩
                case measure => simp [intOf]; omega
          · obtain rfl : j = q := by omega
            have hjl : ¬ (j : Int) + 1 < (j : Int) + 1 := by omega
            obtain rfl : a = (T : Int) := by have := hRq.out; rw [haR] at this; exact Option.some.inj this
            have hcT := (bcell hBr).1 g4 t3.toNat hg4h
            rw [hTc.out] at hcT
            have hcF := (bcell hBr).1 g2 0 hg2h
            rw [hRc.out _ _ hR0.out] at hcF
            have hcL := (bcell hBr).1 g2 j hg2h
            rw [hRc.out _ _ haR] at hcL
            have qF : ((F : Int) != f3) = false := by rw [hF.out]; simp
            have qT : ((T : Int) != t3) = false := by rw [hT.out]; simp
            have ht0 : 0 ≤ t3 := by rw [hT.out]; omega
            have ht1 : t3 < (m4 : Int) := by rw [hT.out]; omega
            have hg2r : g2 < W5.heap.size := Nat.lt_of_lt_of_le hg2h hBr.size
            clear hch hnn hbd hRc hTc hlh hOz
            go_wp2_with fail
            go_meet
            exact bel_trans hB2 hBr
    case rest => as_aux_lemma =>
      replace hBw := bel_trans hBw hcut.out
      clear hB2 hC1 hF1 hcut hO hO2 hsd hok hm3 hl1 hp hf ht hv hk
      go_wp2_with fail
      refine (drawOpen A n c cs _ (hC.bel hBw)).mono ?_
      rintro _ W3 ⟨p4, A1, k, c1, zs, v4, rfl, hp, hO, hk, hv, hb⟩
      replace hBw := bel_trans hBw hb
      clear hb
      have hB2 := bel_refl W3
      obtain ⟨L, hsd⟩ : ∃ s, (openR p4 zs v4).1 = s := ⟨_, rfl⟩
      obtain ⟨known, hok⟩ : ∃ ok, (openR p4 zs v4).2 = ok := ⟨_, rfl⟩
      have hsl := openR_len p4 zs v4
      rw [hsd] at hsl
      go_wp2_with fail
      refine (openRoadsI p4 _ _ _ zs v4 _ hO.sl (by omega)).mono ?_
      rw [hsd, hok]
      rintro _ w1 ⟨A2, m2, c2, rfl, hO2, hb⟩
      replace hB2 := bel_trans hB2 hb; obtain ⟨hC1, hF1⟩ := bcell hB2
      go_wp2_with fail
      refine (openRoadsS p4 _ _ _ zs v4 _ (hO.sl.bel hB2) (by omega)).mono ?_
      rw [hsd, hok]
      rintro _ w2 ⟨A3, m3, c3, rfl, hO3, hb⟩
      replace hB2 := bel_trans hB2 hb; obtain ⟨hC1, hF1⟩ := bcell hB2
      replace hO2 := hO2.bel hb
      have hl1 := hO2.sl.xs_len Road.row_len (by omega)
      have hl2 := hO3.sl.xs_len Road.row_len (by omega)
      obtain rfl : m3 = m2 := hl2.symm.trans hl1
      have hm3 : m3 ≤ 1048576 := by omega
      clear hl2 hsl hl1 hsd hok
      go_wp2_with fail
      refine (vRoads _ _ _ _ _ L _ hO2.sl hO3.sl hm3).mono ?_
      rintro _ w3 ⟨rfl, hb⟩
      replace hB2 := bel_trans hB2 hb; obtain ⟨hC1, hF1⟩ := bcell hB2
      replace hBw := bel_trans hBw hB2
      go_wp2_with fail
      go_ret
      exact ⟨rfl, hBw⟩
end Go.Proofs.Ytfimchbjpambfaa
