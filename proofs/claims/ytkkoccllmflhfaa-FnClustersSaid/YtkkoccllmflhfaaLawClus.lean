/-
  The law on clusters, walked.
-/
import Derived.Test.YtkkoccllmflhfaaSpotLawM
import Derived.Test.YtkkoccllmflhfaaSpotDraw2
import Derived.Test.YtkkoccllmflhfaaSpotLastS
import Derived.Test.YtkkoccllmflhfaaSpotLaws5
import Derived.Test.YtkkoccllmflhfaaSpotLaws6
import Derived.Test.YtkkoccllmflhfaaLawTable
import Derived.Test.YtkkoccllmflhfaaSpotMay
import Derived.Deep.DeepCutAuto
import Derived.Deep.CutBlock
namespace Go.Proofs.Ytkkoccllmflhfaa
open Go.RowKit

theorem clusR_snd (xs : List Hotspot) : (clusR xs).2 = listH xs := by
  unfold clusR
  cases listH xs <;> rfl
theorem hullR_snd (xs : List Hotspot) : (hullR xs).2 = (listH xs && decide (0 < xs.length)) := by
  unfold hullR
  cases (listH xs && decide (0 < xs.length)) <;> rfl
theorem centreR_snd (xs : List Hotspot) : (centreR xs).2.2.2 = (listH xs && decide (0 < xs.length)) := by
  unfold centreR
  cases (listH xs && decide (0 < xs.length)) <;> rfl
theorem rHasP (A : Option Addr) (n c : Nat) (xs : List Int) (v : Int) (p : Bool) (w : World) (hS : Sl w 1 A n c (ints xs)) (hn : n ≤ 1048576) (he : (xs.any fun x => x == v) = p) :
    Calls Try.prog 29 #[.slice A n c, .int .i64 v] w fun e w' => e = .returned (.bool p) ∧ w = w' := he ▸ rHas A n c xs v w hS hn
theorem mayP (a b : Hotspot) (p : Bool) (w : World) (he : mayR a b = (p, true)) :
    Calls Try.prog 30 #[.agg #[.int .i64 a.id, .int .i64 a.x, .int .i64 a.y, .int .i64 a.err, .int .i64 a.tick, .int .i64 a.heat], .agg #[.int .i64 b.id, .int .i64 b.x, .int .i64 b.y, .int .i64 b.err, .int .i64 b.tick, .int .i64 b.heat]] w fun e w' => e = .returned (.tuple #[.bool p, .bool true]) ∧ Below w.heap.size w w' := by
  have h := mayI a b w
  rw [he] at h
  exact h
theorem Sl.hotAt {w : World} {b o n c : Nat} {xs : List Hotspot} (h : Sl w 6 (some ⟨b, o, none⟩) n c (xs.flatMap Hotspot.row)) {i : Nat} {x : Hotspot} (hx : xs[i]? = some x) :
    b < w.heap.size ∧ w.cell? ⟨b, o + i * 6, none⟩ = some (.int .i64 x.id) ∧ w.cell? ⟨b, o + i * 6 + 1, none⟩ = some (.int .i64 x.x) ∧ w.cell? ⟨b, o + i * 6 + 2, none⟩ = some (.int .i64 x.y) ∧ w.cell? ⟨b, o + i * 6 + 3, none⟩ = some (.int .i64 x.err) ∧ w.cell? ⟨b, o + i * 6 + 4, none⟩ = some (.int .i64 x.tick) ∧ w.cell? ⟨b, o + i * 6 + 5, none⟩ = some (.int .i64 x.heat) := by
  obtain ⟨b', o', e, hh⟩ := h.hotspot hx
  cases e
  exact hh
theorem SS.atA {w : World} {b o n c : Nat} {LL : List (List Value)} (h : SS w (some ⟨b, o, none⟩) n c LL) {i : Nat} {l : List Value} (hl : LL[i]? = some l) :
    b < w.heap.size ∧ ∃ a m d, w.cell? ⟨b, o + i, none⟩ = some (.slice a m d) ∧ Sl w 1 a m d l := by
  obtain ⟨b', o', e, hh⟩ := h.at_ hl
  cases e
  exact hh
theorem mayR_good {x y : Hotspot} (hx : goodH x = true) (hy : goodH y = true) {p : Bool} (h : sameB x y = p) : mayR x y = (p, true) := by simp [mayR, hx, hy, h]
set_option maxHeartbeats 8000000 in
set_option maxRecDepth 100000 in
theorem lawClusters (A : Option Addr) (n c : Nat) (cs : List Int) (w : World) (hS : Sl w 1 A n c (cs.map (Value.int .u8))) (hb0 : ∀ (i : Nat) (x : Int), cs[i]? = some x → 0 ≤ x ∧ x ≤ 255) :
    Calls Try.prog 5 #[.slice A n c] w fun e w' => e = .returned (.bool true) ∧ Below w.heap.size w w' := by
  have hmx := Nat.le_trans hS.cap hS.max
  rcases Nat.lt_or_ge 65536 n with hn | hn
  · go_enter Try.func5, Try.ntmps5
    go_wp2_with fail
    refine (rBig A n c w hmx).mono ?_
    rw [decide_eq_true hn]
    rintro _ _ ⟨rfl, rfl⟩
    go_wp2_with fail
    go_ret
    exact ⟨rfl, bel_refl w⟩
  have hC : Code w A n c cs := ⟨hS, hb0, hn⟩
  go_enter Try.func5, Try.ntmps5
  go_wp2_with fail
  refine (rBig A n c w hmx).mono ?_
  rw [decide_eq_false (show ¬ 65536 < n by omega)]
  rintro _ _ ⟨rfl, rfl⟩
  clear hmx hS
  go_wp2_with fail
  refine (drawClusters A n c cs w hC).mono ?_
  rintro _ W0 ⟨A1, k, c1, xs, rfl, hO, hk, hBw⟩
  have hB2 := bel_refl W0
  have hlx := hid (hO.sl.xs_len Hotspot.row_len (by omega))
  obtain ⟨hbd1, hbd2, -⟩ := clusR_bd xs
  have hokE := clusR_snd xs
  have hfnE := hullR_snd xs
  have htdE := centreR_snd xs
  obtain ⟨ok, hok⟩ : ∃ ok, listH xs = ok := ⟨_, rfl⟩
  obtain ⟨fine, hfine⟩ : ∃ fine, (ok && decide (0 < xs.length)) = fine := ⟨_, rfl⟩
  obtain ⟨LL, hLL⟩ : ∃ LL, (clusR xs).1 = LL := ⟨_, rfl⟩
  obtain ⟨bx, hbx⟩ : ∃ bx, (hullR xs).1 = bx := ⟨_, rfl⟩
  obtain ⟨X, hX⟩ : ∃ X, (centreR xs).1 = X := ⟨_, rfl⟩
  obtain ⟨Y, hY⟩ : ∃ Y, (centreR xs).2.1 = Y := ⟨_, rfl⟩
  obtain ⟨H, hH⟩ : ∃ H, (centreR xs).2.2.1 = H := ⟨_, rfl⟩
  have hbxl : bx.length ≤ 1048576 := by rw [← hbx]; exact hullR_len xs
  rw [hok] at hokE hfnE htdE
  rw [hfine] at hfnE htdE
  rw [hLL] at hbd1 hbd2
  replace hok := hid hok
  replace hfine := hid hfine
  replace hLL := hid hLL
  replace hbx := hid hbx
  replace hX := hid hX
  replace hY := hid hY
  replace hH := hid hH
  replace hokE := hid hokE
  replace hfnE := hid hfnE
  replace htdE := hid htdE
  replace hbd2 := hid hbd2
  go_wp2_with fail
  refine (clustersOfI _ _ _ xs _ hO.sl (by omega)).mono ?_
  rw [hokE.out, hLL.out]
  rintro _ w2 ⟨A4, m4, c4, Vs, rfl, hO4, hb⟩
  replace hB2 := bel_trans hB2 hb; obtain ⟨hC1, hF1⟩ := bcell hB2
  go_wp2_with fail
  refine (clustersOfS _ _ _ xs _ (hO.sl.bel hB2) (by omega)).mono ?_
  rw [hokE.out, hLL.out]
  rintro _ w3 ⟨A5, m5, c5, Vs5, rfl, hO5, hb⟩
  replace hB2 := bel_trans hB2 hb; obtain ⟨hC1, hF1⟩ := bcell hB2
  have hS4 := hO4.ss.bel hb
  have hS5 := hO5.ss
  have hl4 := hid (rows_len LL ▸ hS4.len)
  have hl5 := hid (rows_len LL ▸ hS5.len)
  obtain rfl : m5 = m4 := hl5.out.symm.trans hl4.out
  have hm5 : m5 ≤ 1048576 := by have := hl4.out; omega
  clear hO4 hO5 hb hl5
  go_wp2_with fail
  refine (rTable _ _ _ _ _ LL _ hS4 hS5 (by omega) hbd2.out).mono ?_
  rintro _ w4 ⟨rfl, hb⟩
  replace hB2 := bel_trans hB2 hb; obtain ⟨hC1, hF1⟩ := bcell hB2
  replace hS4 := hS4.bel hb
  clear hS5 hb
  go_wp2_with fail
  refine (areHotspotsI _ _ _ xs _ (hO.sl.bel hB2) (by omega)).mono ?_
  rw [hok.out]
  rintro _ w5 ⟨rfl, hb⟩
  replace hB2 := bel_trans hB2 hb; obtain ⟨hC1, hF1⟩ := bcell hB2
  replace hS4 := hS4.bel hb
  go_wp2_with fail
  refine (boxOfI _ _ _ xs _ (hO.sl.bel hB2) (by omega)).mono ?_
  rw [hfnE.out, hbx.out]
  rintro _ w6 ⟨A6, m6, c6, rfl, hO6, hb⟩
  replace hB2 := bel_trans hB2 hb; obtain ⟨hC1, hF1⟩ := bcell hB2
  replace hS4 := hS4.bel hb
  go_wp2_with fail
  refine (boxOfS _ _ _ xs _ (hO.sl.bel hB2) (by omega)).mono ?_
  rw [hfnE.out, hbx.out]
  rintro _ w7 ⟨A7, m7, c7, rfl, hO7, hb⟩
  replace hB2 := bel_trans hB2 hb; obtain ⟨hC1, hF1⟩ := bcell hB2
  replace hS4 := hS4.bel hb
  have hS6 := hO6.sl.bel hb
  have hl6 := hid hS6.int_len
  have hl7 := hO7.sl.int_len
  obtain rfl : m7 = m6 := hl7.symm.trans hl6.out
  have hm7 : m7 ≤ 1048576 := by omega
  clear hl7 hO6 hb
  go_wp2_with fail
  refine (rInts _ _ _ _ _ bx _ hS6 hO7.sl (by omega)).mono ?_
  rintro _ w8 ⟨rfl, hb⟩
  replace hB2 := bel_trans hB2 hb; obtain ⟨hC1, hF1⟩ := bcell hB2
  replace hS4 := hS4.bel hb
  replace hS6 := hS6.bel hb
  clear hO7 hb
  go_wp2_with fail
  refine (centreI _ _ _ xs _ (hO.sl.bel hB2) (by omega)).mono ?_
  rw [htdE.out, hX.out, hY.out, hH.out]
  rintro _ w9 ⟨rfl, hb⟩
  replace hB2 := bel_trans hB2 hb; obtain ⟨hC1, hF1⟩ := bcell hB2
  replace hS4 := hS4.bel hb
  replace hS6 := hS6.bel hb
  go_wp2_with fail
  refine (centreS _ _ _ xs _ (hO.sl.bel hB2) (by omega)).mono ?_
  rw [htdE.out, hX.out, hY.out, hH.out]
  rintro _ w10 ⟨rfl, hb⟩
  replace hB2 := bel_trans hB2 hb; obtain ⟨hC1, hF1⟩ := bcell hB2
  replace hS4 := hS4.bel hb
  replace hS6 := hS6.bel hb
  clear hb
  go_upto_block 0 with fail
  go_cut [] (fun wx => Hid (Below w10.heap.size w10 wx))
  case first =>
    clear hC1 hF1
    go_wp2_with fail
    go_loopw [20] (fun v wr => ∃ i : Nat, i ≤ k ∧ v = .int .i64 i ∧ Below w10.heap.size w10 wr) (fun v _ => k - (intOf v).toNat)
    case atStart => exact ⟨0, by omega, rfl, bel_refl _⟩
    case round =>
      obtain ⟨i, hi', rfl, hBr⟩ := hrel
      obtain ⟨wo, rfl⟩ : ∃ wo, wo = wr := ⟨_, rfl⟩
      by_cases hlt : i < k
      · have hi0 : (0 : Int) ≤ (i : Int) := by omega
        have hi1 : (i : Int) < (k : Int) := by omega
        rcases ok with _ | _
        · go_wp2_with fail
          go_meet
          exact hid hBr
        · have hlist := hok.out
          have hLe : LL = (clusL xs).map (idsH xs) := by
            have h1 := hLL.out
            unfold clusR at h1
            rw [if_pos hlist] at h1
            exact h1.symm
          have hall := listH_all hlist
          have hm5c : (clusL xs).length = m5 := by rw [← hl4.out, hLe, List.length_map]
          have hm10 : m5 ≤ 10 := by rw [← hm5c]; exact Nat.le_trans (clusU_len xs xs.length) (listH_len hlist)
          obtain ⟨x, hx⟩ : ∃ x, xs[i]? = some x := get_of_lt (by rw [hlx.out]; exact hlt)
          have hx10 : xs.length ≤ 10 := listH_len hlist
          have hone := hid (cnt_all (xs := xs) (i := i) (by rw [hlx.out]; exact hlt))
          have hSo := hO.sl.bel (bel_trans hB2 hBr)
          have hS4o := hS4.bel hBr
          obtain ⟨b, o, rfl, -⟩ := hSo.hotspot hx
          replace hx := hid hx
          rw [hLe] at hS4o
          go_wp2_with fail
          go_loopw [21, 22] (fun a v wk => ∃ q : Nat, q ≤ m5 ∧ v = .int .i64 q ∧ a = .int .i64 (cnt (clusL xs) i q) ∧ Below wo.heap.size wo wk) (fun _ v _ => m5 - (intOf v).toNat)
          case atStart => exact ⟨0, by omega, rfl, by rw [cnt_zero]; rfl, bel_refl _⟩
          case round =>
            obtain ⟨q, hq', rfl, rfl, hBk⟩ := hrel
            obtain ⟨wk, rfl⟩ : ∃ wk, wk = wr := ⟨_, rfl⟩
            have hSk := hSo.bel hBk
            have hS4k := hS4o.bel hBk
            have hS6k := hS6.bel (bel_trans hBr hBk)
            clear hB2
            have hB2 := bel_refl wk
            by_cases hq : q < m5
            · have hq0 : (0 : Int) ≤ (q : Int) := by omega
              have hq1 : (q : Int) < (m5 : Int) := by omega
              obtain ⟨l, hl⟩ : ∃ l, (clusL xs)[q]? = some l := get_of_lt (by rw [hm5c]; exact hq)
              have hlm := List.mem_of_getElem? hl
              have hLq : (rows ((clusL xs).map (idsH xs)))[q]? = some (ints (idsH xs l)) := rows_get (by simp [hl])
              obtain ⟨b4, o4, rfl, hb4, a, m, d, c40, hsl⟩ := hS4k.at_ hLq
              obtain ⟨hbl, z0, z1, z2, z3, z4, z5⟩ := hSk.hotAt hx.out
              have hm10' : m ≤ 1048576 := by rw [← hsl.int_len]; simp only [idsH, List.length_map]; exact Nat.le_trans (List.length_filterMap_le _ _) (Nat.le_trans (clusL_len hlm) (by omega))
              obtain ⟨p, hp⟩ : ∃ p, decide (i ∈ l) = p := ⟨_, rfl⟩
              have hhas := (ids_has hlist (l := l) hx.out).trans hp
              have hcb := cnt_le (clusL xs) i q
              replace hlm := hid hlm
              rcases p with _ | _
              · have hN := hid (cnt_no hl (of_decide_eq_false hp))
                clear hp hl hLq
                go_wp2_with fail
                (refine wp_region_bel (by kernel_rfl) (by kernel_rfl) ?_; have hD := bel_cells hB2; (repeat (go_big_quiet_step (((go_at_call 29; exact calls_bel_same (rHasP _ _ _ _ _ false _ (hsl.bel (Bel.prop _)) hm10' hhas)))))); refine wpQuiet_nil ?_; intro w1 hB1; replace hB2 := bel_trans hB2 hB1; obtain ⟨hC1, hF1⟩ := bcell hB2; clear hD; replace hB1 := hB1)
                go_wp2_with fail
                refine ⟨⟨q + 1, hq, by go_num, by rw [hN.out], bel_trans hBk hB2⟩, ?_⟩
                exact meas hq
              · have hN := hid (cnt_yes hl (of_decide_eq_true hp))
                have hil := hid (of_decide_eq_true hp)
                have hLh := hid hLq
                clear hp hl hLq
                go_wp2_with fail
                (refine wp_region_bel (by kernel_rfl) (by kernel_rfl) ?_; have hD := bel_cells hB2; (repeat (go_big_quiet_step (((go_at_call 29; exact calls_bel_same (rHasP _ _ _ _ _ true _ (hsl.bel (Bel.prop _)) hm10' hhas)))))); refine wpQuiet_nil ?_; intro w1 hB1; replace hB2 := bel_trans hB2 hB1; obtain ⟨hC1, hF1⟩ := bcell hB2; clear hD; replace hB1 := hB1)
                go_wp2_with fail
                clear hhas c40 hsl z0 z1 z2 z3 z4 z5 hC1 hF1
                go_loopw [23] (fun v wz => ∃ j : Nat, j ≤ k ∧ v = .int .i64 j ∧ Below wk.heap.size wk wz) (fun v _ => k - (intOf v).toNat)
                case atStart => exact ⟨0, by omega, rfl, hB2⟩
                case round =>
                  clear hB1 hB2
                  obtain ⟨j, hj', rfl, hBz⟩ := hrel
                  obtain ⟨wz, rfl⟩ : ∃ wz, wz = wr := ⟨_, rfl⟩
                  by_cases hj : j < k
                  · have hj0 : (0 : Int) ≤ (j : Int) := by omega
                    have hj1 : (j : Int) < (k : Int) := by omega
                    obtain ⟨y, hy⟩ : ∃ y, xs[j]? = some y := get_of_lt (by rw [hlx.out]; exact hj)
                    have hSz := hSk.bel hBz
                    obtain ⟨hbl, x0, x1, x2, x3, x4, x5⟩ := hSz.hotAt hx.out
                    obtain ⟨-, y0, y1, y2, y3, y4, y5⟩ := hSz.hotAt hy
                    obtain ⟨hb4, a2, m2, d2, c40, hsl⟩ := (hS4k.bel hBz).atA hLh.out
                    have hm2 : m2 ≤ 1048576 := by rw [← hsl.int_len]; simp only [idsH, List.length_map]; exact Nat.le_trans (List.length_filterMap_le _ _) (Nat.le_trans (clusL_len hlm.out) (by omega))
                    obtain ⟨pm, hpm⟩ : ∃ pm, sameB x y = pm := ⟨_, rfl⟩
                    have hmay := mayR_good (hall i x hx.out) (hall j y hy) hpm
                    have hB2 := bel_refl wz
                    rcases pm with _ | _
                    · clear hy hpm hsl
                      go_wp2_with fail
                      (refine wp_region_bel (by kernel_rfl) (by kernel_rfl) ?_; have hD := bel_cells hB2; (repeat (go_big_quiet_step (((go_at_call 30; exact calls_bel (mayP x y false _ hmay)))))); refine wpQuiet_nil ?_; intro w1 hB1; replace hB2 := bel_trans hB2 hB1; obtain ⟨hC1, hF1⟩ := bcell hB2; clear hD; replace hB1 := hB1)
                      go_wp2_with fail
                      (refine wp_region_bel (by kernel_rfl) (by kernel_rfl) ?_; have hD := bel_cells hB2; (repeat (go_big_quiet_step ((fail)))); refine wpQuiet_nil ?_; intro w1 hB1; replace hB2 := bel_trans hB2 hB1; obtain ⟨hC1, hF1⟩ := bcell hB2; clear hD; replace hB1 := hB1)
                      go_wp2_with fail
                      refine ⟨⟨j + 1, hj, by go_num, bel_trans hBz hB2⟩, ?_⟩
                      exact meas hj
                    · have hjl := near_in hlm.out hil.out hx.out hy hpm
                      have hhas : ((idsH xs l).any fun u => u == y.id) = true := by rw [ids_has hlist (l := l) hy]; exact decide_eq_true hjl
                      clear hy hpm hjl
                      go_wp2_with fail
                      (refine wp_region_bel (by kernel_rfl) (by kernel_rfl) ?_; have hD := bel_cells hB2; (repeat (go_big_quiet_step (((go_at_call 30; exact calls_bel (mayP x y true _ hmay)))))); refine wpQuiet_nil ?_; intro w1 hB1; replace hB2 := bel_trans hB2 hB1; obtain ⟨hC1, hF1⟩ := bcell hB2; clear hD; replace hB1 := hB1)
                      go_wp2_with fail
                      replace hsl := hsl.bel hB2
                      (refine wp_region_bel (by kernel_rfl) (by kernel_rfl) ?_; have hD := bel_cells hB2; (repeat (go_big_quiet_step (((go_at_call 29; exact calls_bel_same (rHasP _ _ _ _ _ true _ (hsl.bel (Bel.prop _)) hm2 hhas)))))); refine wpQuiet_nil ?_; intro w1 hB1; replace hB2 := bel_trans hB2 hB1; obtain ⟨hC1, hF1⟩ := bcell hB2; clear hD; replace hB1 := hB1)
                      go_wp2_with fail
                      refine ⟨⟨j + 1, hj, by go_num, bel_trans hBz hB2⟩, ?_⟩
                      exact meas hj
                  · have hj1 : ¬ (j : Int) < (k : Int) := by omega
                    go_wp2_with fail
                    refine ⟨⟨q + 1, hq, by go_num, by rw [hN.out]; go_num, bel_trans hBk hBz⟩, ?_⟩
                    exact meas hq
            · have hq1 : ¬ (q : Int) < (m5 : Int) := by omega
              obtain rfl : q = m5 := by omega
              rw [← hm5c, hone.out]
              obtain ⟨i1, i2, i3, i4, -⟩ := hull_in hall x (List.mem_of_getElem? hx.out)
              obtain ⟨hbl, z0, z1, z2, z3, z4, z5⟩ := hSk.hotAt hx.out
              have hbxe : bx = (hullQ xs).list := by
                rw [← hbx.out, hullR, hlist, Bool.true_and, decide_eq_true (show 0 < xs.length by rw [hlx.out]; omega)]
                rfl
              rw [hbxe] at hS6k
              have hl6' : m7 = 4 := by have := hS6k.int_len; simpa [Box.list] using this.symm
              obtain ⟨Q, hQ⟩ : ∃ Q, hullQ xs = Q := ⟨_, rfl⟩
              rw [hQ] at i1 i2 i3 i4 hS6k
              subst hl6'
              obtain ⟨b6, o6, rfl, hb6, hc6⟩ := hS6k.at_ (by omega)
              have f0 : wk.cell? ⟨b6, o6, none⟩ = some (.int .i64 Q.a) := hc6 0 _ rfl
              have f1 : wk.cell? ⟨b6, o6 + 1, none⟩ = some (.int .i64 Q.b) := hc6 1 _ rfl
              have f2 : wk.cell? ⟨b6, o6 + 2, none⟩ = some (.int .i64 Q.c) := hc6 2 _ rfl
              have f3 : wk.cell? ⟨b6, o6 + 3, none⟩ = some (.int .i64 Q.d) := hc6 3 _ rfl
              have k1 : decide (x.x < Q.a) = false := decide_eq_false (by omega)
              have k2 : decide (Q.b < x.x) = false := decide_eq_false (by omega)
              have k3 : decide (x.y < Q.c) = false := decide_eq_false (by omega)
              have k4 : decide (Q.d < x.y) = false := decide_eq_false (by omega)
              clear hc6 i1 i2 i3 i4 hQ hbxe
              go_wp2_with fail
              (refine wp_region_bel (by kernel_rfl) (by kernel_rfl) ?_; have hD := bel_cells hB2; (repeat (go_big_quiet_step ((fail)))); refine wpQuiet_nil ?_; intro w1 hB1; replace hB2 := bel_trans hB2 hB1; obtain ⟨hC1, hF1⟩ := bcell hB2; clear hD; replace hB1 := hB1)
              go_wp2_with fail
              refine ⟨⟨i + 1, hlt, by go_num, bel_trans hBr (bel_trans hBk hB2)⟩, ?_⟩
              exact meas hlt
      · have hi1 : ¬ (i : Int) < (k : Int) := by omega
        go_wp2_with fail
        go_meet
        exact hid hBr
  case rest =>
    replace hB2 := bel_trans hB2 hcut.out
    replace hS6 := hS6.bel hcut.out
    clear hcut hC1 hF1 hS4
    obtain ⟨wd, rfl⟩ : ∃ wd, wd = wc := ⟨_, rfl⟩
    go_upto_region 33 with fail
    go_cut [263] (fun s wx => s = .bool false ∧ Hid (Below wd.heap.size wd wx))
    case first =>
      rcases fine with _ | _
      · go_wp2_with fail
        go_meet
        exact ⟨rfl, hid (bel_refl _)⟩
      · have h1 := hfine.out
        rw [Bool.and_eq_true, decide_eq_true_eq] at h1
        have hlist : listH xs = true := by rw [hok.out]; exact h1.1
        obtain ⟨x, y, h, he, p1, p2, p3, p4, q1, q2, q3, q4⟩ := centre_law hlist h1.2
        have e1 : x = X := by rw [← hX.out, he]
        have e2 : y = Y := by rw [← hY.out, he]
        have e3 : h = H := by rw [← hH.out, he]
        rw [e1] at p1 p2
        rw [e2] at p3 p4
        rw [e3] at p1 p2 p3 p4 q1 q2 q3 q4
        have hbxe : bx = (hullQ xs).list := by
          rw [← hbx.out, hullR, hlist, Bool.true_and, decide_eq_true h1.2]
          rfl
        rw [hbxe] at hS6
        obtain ⟨Q, hQ⟩ : ∃ Q, hullQ xs = Q := ⟨_, rfl⟩
        rw [hQ] at p1 p2 p3 p4 q1 q2 q3 q4 hS6
        have hm4 : m7 = 4 := by have := hS6.int_len; simpa [Box.list] using this.symm
        obtain ⟨b6, o6, rfl, hb6, hc6⟩ := hS6.at_ (by omega)
        have f0 : wd.cell? ⟨b6, o6, none⟩ = some (.int .i64 Q.a) := hc6 0 _ rfl
        have f1 : wd.cell? ⟨b6, o6 + 1, none⟩ = some (.int .i64 Q.b) := hc6 1 _ rfl
        have f2 : wd.cell? ⟨b6, o6 + 2, none⟩ = some (.int .i64 Q.c) := hc6 2 _ rfl
        have f3 : wd.cell? ⟨b6, o6 + 3, none⟩ = some (.int .i64 Q.d) := hc6 3 _ rfl
        have g0 : (0 : Int) < (m7 : Int) := by omega
        have g1 : (1 : Int) < (m7 : Int) := by omega
        have g2 : (2 : Int) < (m7 : Int) := by omega
        have g3 : (3 : Int) < (m7 : Int) := by omega
        have v1 : IntKind.i64.wrap (Q.a * H) = Q.a * H := IntWalk.i64_in _ (by omega)
        have v2 : IntKind.i64.wrap (Q.b * H) = Q.b * H := IntWalk.i64_in _ (by omega)
        have v3 : IntKind.i64.wrap (Q.c * H) = Q.c * H := IntWalk.i64_in _ (by omega)
        have v4 : IntKind.i64.wrap (Q.d * H) = Q.d * H := IntWalk.i64_in _ (by omega)
        have k1 : ¬ X < Q.a * H := by omega
        have k2 : ¬ Q.b * H < X := by omega
        have k3 : ¬ Y < Q.c * H := by omega
        have k4 : ¬ Q.d * H < Y := by omega
        clear hm4 hc6 p1 p2 p3 p4 q1 q2 q3 q4 hQ e1 e2 e3 he h1 hlist hbxe
        go_wp2_with fail
        go_meet
        exact ⟨rfl, hid (bel_refl _)⟩
    case rest =>
      obtain ⟨rfl, hBx⟩ := hcut
      replace hBw := bel_trans (bel_trans hBw hB2) hBx.out
      clear hB2 hBx hS6 hO hlx hok hfine hLL hbx hX hY hH hokE hfnE htdE hbd2 hl4 hl6
      go_wp2_with fail
      refine (drawLatest A n c cs _ (hC.bel hBw)).mono ?_
      rintro _ W1 ⟨A8, k8, c8, ys, t, rfl, hO8, hk8, hb⟩
      replace hBw := bel_trans hBw hb
      clear hb
      have hB2 := bel_refl W1
      have hll := latR_len ys t
      obtain ⟨kn, hkn⟩ : ∃ kn, (latR ys t).2 = kn := ⟨_, rfl⟩
      obtain ⟨L, hL⟩ : ∃ L, (latR ys t).1 = L := ⟨_, rfl⟩
      rw [hL] at hll
      replace hkn := hid hkn
      replace hL := hid hL
      go_wp2_with fail
      refine (latestI _ _ _ ys t _ hO8.sl (by omega)).mono ?_
      rw [hkn.out, hL.out]
      rintro _ w21 ⟨A9, n9, c9, rfl, hO9, hb⟩
      replace hB2 := bel_trans hB2 hb; obtain ⟨hC1, hF1⟩ := bcell hB2
      go_wp2_with fail
      refine (latestS _ _ _ ys t _ (hO8.sl.bel hB2) (by omega)).mono ?_
      rw [hkn.out, hL.out]
      rintro _ w22 ⟨A10, n10, c10, rfl, hO10, hb⟩
      replace hB2 := bel_trans hB2 hb; obtain ⟨hC1, hF1⟩ := bcell hB2
      have hS9 := hO9.sl.bel hb
      have hl9 := hS9.int_len
      obtain rfl : n10 = n9 := hO10.sl.int_len.symm.trans hl9
      have hn9 : n10 ≤ 1048576 := by omega
      clear hO9 hb hl9
      go_wp2_with fail
      refine (rInts _ _ _ _ _ L _ hS9 hO10.sl hn9).mono ?_
      rintro _ w23 ⟨rfl, hb⟩
      replace hB2 := bel_trans hB2 hb; obtain ⟨hC1, hF1⟩ := bcell hB2
      go_wp2_with fail
      go_ret
      exact ⟨ret_bool (by simp), bel_trans hBw hB2⟩
end Go.Proofs.Ytkkoccllmflhfaa
