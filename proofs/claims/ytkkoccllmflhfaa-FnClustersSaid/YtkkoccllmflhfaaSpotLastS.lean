/-
  The latest hot spot of each cluster, the reference's way, walked.
-/
import Derived.Test.YtkkoccllmflhfaaSpotLast
import Derived.Test.YtkkoccllmflhfaaClusTopS
namespace Go.Proofs.Ytkkoccllmflhfaa
open Go.RowKit

set_option maxHeartbeats 4000000 in
theorem latestS (A : Option Addr) (n c : Nat) (xs : List Hotspot) (t : Int) (w : World) (hS : Sl w 6 A n c (xs.flatMap Hotspot.row)) (hn : n ≤ 1048576) :
    Calls Try.prog 7 #[.slice A n c, .int .i64 t] w fun e w' => ∃ A' n' c', e = .returned (.tuple #[.slice A' n' c', .bool (latR xs t).2]) ∧ Own w.heap.size w'.heap.size w' 3 1 A' n' c' (ints (latR xs t).1) ∧ Below w.heap.size w w' := by
  have hlh := hid (hS.xs_len Hotspot.row_len (by omega))
  have hB2 := bel_refl w
  rcases hg : listH xs with _ | _
  · have hR := hid (latR_no (xs := xs) (t := t) (by rw [hg]; rfl))
    go_enter Try.func7, Try.ntmps7
    go_wp2_with (first | (go_at_call 32; refine (l7Good _ _ _ _ _ (hS.bel (by (repeat' (first | (with_reducible exact bel_refl _) | (with_reducible assumption) | (with_reducible refine bel_drew ?_) | (with_reducible refine bel_drewN ?_) | (with_reducible refine bel_alloc ?_) | (with_reducible refine bel_set ?_ ?_) | (with_reducible refine bel_trans ?_ (by with_reducible assumption)) | omega | (simp; done) | (simp; omega))))) hn).mono ?_; rintro _ w1 ⟨rfl, hB1⟩; (first | (with_reducible replace hB2 := bel_trans hB2 hB1) | (with_reducible replace hB2 := bel_trans (bel_alloc hB2) hB1)); obtain ⟨hC1, hF1⟩ := bcell hB2; replace hB1 := hB1) | (go_at_call 33; refine (l4Tick _ _).mono ?_; rintro _ w1 ⟨rfl, rfl⟩))
    go_ret2
    exact ⟨some ⟨w.heap.size, 0, none⟩, 0, 0, by rw [hR.out]; rfl, by rw [hR.out]; exact ((Own.mk_ (own_empty (w := w) (Nat.le_refl _))).bel hB1).high hB1.size, hB2⟩
  · rcases hg2 : inB t 0 9999 with _ | _
    · have hR := hid (latR_no (xs := xs) (t := t) (by rw [hg2, Bool.and_false]))
      go_enter Try.func7, Try.ntmps7
      go_wp2_with (first | (go_at_call 32; refine (l7Good _ _ _ _ _ (hS.bel (by (repeat' (first | (with_reducible exact bel_refl _) | (with_reducible assumption) | (with_reducible refine bel_drew ?_) | (with_reducible refine bel_drewN ?_) | (with_reducible refine bel_alloc ?_) | (with_reducible refine bel_set ?_ ?_) | (with_reducible refine bel_trans ?_ (by with_reducible assumption)) | omega | (simp; done) | (simp; omega))))) hn).mono ?_; rintro _ w1 ⟨rfl, hB1⟩; (first | (with_reducible replace hB2 := bel_trans hB2 hB1) | (with_reducible replace hB2 := bel_trans (bel_alloc hB2) hB1)); obtain ⟨hC1, hF1⟩ := bcell hB2; replace hB1 := hB1) | (go_at_call 33; refine (l4Tick _ _).mono ?_; rintro _ w1 ⟨rfl, rfl⟩))
      go_ret2
      exact ⟨some ⟨w.heap.size, 0, none⟩, 0, 0, by rw [hR.out]; rfl, by rw [hR.out]; exact ((Own.mk_ (own_empty (w := w) (Nat.le_refl _))).bel hB1).high hB1.size, hB2⟩
    · have hR := hid (latR_yes (t := t) hg hg2)
      have hn10 : n ≤ 10 := by rw [← hlh.out]; exact listH_len hg
      have ha := hid (freshH_all (t := t) (listH_all hg))
      have hfl := hid (show (freshH t xs).length ≤ 10 from Nat.le_trans (freshH_len _ _) (by rw [hlh.out]; exact hn10))
      go_enter Try.func7, Try.ntmps7
      go_wp2_with (first | (go_at_call 32; refine (l7Good _ _ _ _ _ (hS.bel (by (repeat' (first | (with_reducible exact bel_refl _) | (with_reducible assumption) | (with_reducible refine bel_drew ?_) | (with_reducible refine bel_drewN ?_) | (with_reducible refine bel_alloc ?_) | (with_reducible refine bel_set ?_ ?_) | (with_reducible refine bel_trans ?_ (by with_reducible assumption)) | omega | (simp; done) | (simp; omega))))) hn).mono ?_; rintro _ w1 ⟨rfl, hB1⟩; (first | (with_reducible replace hB2 := bel_trans hB2 hB1) | (with_reducible replace hB2 := bel_trans (bel_alloc hB2) hB1)); obtain ⟨hC1, hF1⟩ := bcell hB2; replace hB1 := hB1) | (go_at_call 33; refine (l4Tick _ _).mono ?_; rintro _ w1 ⟨rfl, rfl⟩))
      clear hg hg2
      have hout := own_bel (own_empty (w := w) (base := w.heap.size) (size := 1) (e := 3) (Nat.le_refl _)) hB1
      have hE := own_empty (w := w1) (base := w1.heap.size) (size := 6) (e := 49) (Nat.le_refl _)
      have hb0 := bel_alloc (o := .cells #[] 49) (bel_refl w1)
      have hww : w.heap.size ≤ w1.heap.size := hB2.size
      go_loopw [7, 8] (fun q v wr => ∃ i : Nat, i ≤ n ∧ v = .int .i64 i ∧ (∃ A' k c', q = .slice A' k c' ∧ wr.ownsRow w1.heap.size 49 6 (.slice A' k c') k ((freshH t (xs.take i)).flatMap Hotspot.row)) ∧ Below w1.heap.size w1 wr) (fun _ v _ => n - (intOf v).toNat)
      case atStart => exact ⟨0, by omega, rfl, ⟨_, _, _, rfl, hE⟩, hb0⟩
      case round =>
        clear hE hb0
        obtain ⟨i, hi', rfl, ⟨A', k, c', rfl, hown⟩, hBk⟩ := hrel
        by_cases hlt : i < n
        · have hi1 : (i : Int) < (n : Int) := by omega
          have hi0 : (0 : Int) ≤ (i : Int) := by omega
          obtain ⟨x, hx⟩ : ∃ x, xs[i]? = some x := get_of_lt (by rw [hlh.out]; exact hlt)
          obtain ⟨b, o, rfl, hb, c0, c1, c2, c3, c4, c5⟩ := (hS.bel (bel_trans hB2 hBk)).hotspot hx
          have hX := hid hx
          clear hx
          have hk : k ≤ i := by
            have h2 := hown.1
            rw [flat_len Hotspot.row_len] at h2
            have h3 := freshH_len (xs.take i) t
            have h4 := List.length_take_le i xs
            omega
          by_cases hw : x.tick ≤ t
          · go_wp2_with (at_builtin; refine wpList_push rfl (.tmp 37) (.tmp 42) 27 rfl w1.heap.size 49 (.agg #[.int .i64 0, .int .i64 0, .int .i64 0, .int .i64 0, .int .i64 0, .int .i64 0]) 6 48 Try.underlying27 info_Hotspot rfl (by omega) A' k c' _ [.int .i64 x.id, .int .i64 x.x, .int .i64 x.y, .int .i64 x.err, .int .i64 x.tick, .int .i64 x.heat] 49 rfl hown (by first | rfl | exact slice_at (by simp)) rfl (oneCell_hot x) (by omega) (by omega) hBk.size ?_; intro A'' c'' w3 hown2 hb3 hg3)
            refine ⟨⟨i + 1, hlt, by go_num, ⟨_, _, _, rfl, by rw [← fresh_yes hX.out hw]; exact hown2⟩, hBk.trans hb3⟩, ?_⟩
            exact meas hlt
          · go_wp2_with fail
            refine ⟨⟨i + 1, hlt, by go_num, ⟨_, _, _, rfl, by rw [← fresh_no hX.out (by omega)]; exact hown⟩, hBk⟩, ?_⟩
            exact meas hlt
        · have hi1 : ¬ (i : Int) < (n : Int) := by omega
          obtain rfl : i = n := by omega
          rw [List.take_of_length_le (by rw [hlh.out]; omega)] at hown
          obtain ⟨ys, hys⟩ : ∃ ys, freshH t xs = ys := ⟨_, rfl⟩
          rw [hys] at ha hfl hR hown
          clear hys
          obtain ⟨wc, rfl⟩ : ∃ wc, wc = wr := ⟨_, rfl⟩
          have hY0 := Sl.of_own hown
          have hlY := hid (hY0.xs_len Hotspot.row_len (by omega))
          have hk10 : k ≤ 10 := by rw [← hlY.out]; exact hfl.out
          have hout2 := own_bel hout hBk
          have hBc := bel_trans hB2 hBk
          clear hown hout hBk hB1
          go_wp2_with (go_at_call 34; refine (l7ClustersS _ _ _ ys _ hY0 hk10 ha.out).mono ?_; rintro _ w3 ⟨A1, n1, c1, Vs1, rfl, hO, hB4⟩)
          have hn1 : (clusL ys).length = n1 := by have := hO.rr.len; simpa [cellsN] using this
          have hn11 : n1 ≤ 10 := by rw [← hn1]; exact Nat.le_trans (clusU_len ys ys.length) hfl.out
          have hY := hY0.bel hB4
          have hE := own_bel hout2 hB4
          have hb2 : Below w.heap.size w w3 := bel_trans hBc hB4
          have hOr := hO.rr
          clear hY0 hout2 hB4 hBc hO
          go_loopw [6, 10] (fun q v wr => ∃ i : Nat, i ≤ n1 ∧ v = .int .i64 i ∧ (∃ A' m' c' zs, q = .slice A' m' c' ∧ m' ≤ i ∧ Rise zs ((bests ys).take i) ∧ wr.ownsRow w.heap.size 3 1 (.slice A' m' c') m' (ints zs)) ∧ Below w3.heap.size w3 wr ∧ Below w.heap.size w wr) (fun _ v _ => n1 - (intOf v).toNat)
          case atStart => exact ⟨0, by omega, rfl, ⟨_, _, _, [], rfl, Nat.le_refl _, ⟨List.Pairwise.nil, by simp⟩, hE⟩, bel_refl _, hb2⟩
          case round =>
            clear hE hb2 hB2
            obtain ⟨i, hi', rfl, ⟨A', m', c', zs, rfl, hmi, hZ, hQ⟩, hB3, hBw⟩ := hrel
            obtain ⟨wo, rfl⟩ : ∃ wo, wo = wr := ⟨_, rfl⟩
            by_cases hlt : i < n1
            · obtain ⟨l, hl⟩ : ∃ l, (clusL ys)[i]? = some l := get_of_lt (by omega)
              have hil1 : (i : Int) < (n1 : Int) := by omega
              have hi0 : (0 : Int) ≤ (i : Int) := by omega
              have hlm := hid (clusL_mem (List.mem_of_getElem? hl))
              have hm10 : l.length ≤ 10 := Nat.le_trans (clusL_len (List.mem_of_getElem? hl)) hfl.out
              have hBi := hid (bests_snoc hl)
              have hpp := pick_pos hl
              rw [pick_all hlm.out] at hpp
              obtain ⟨b, o, rfl, hb, a, m, d, hc, hr⟩ := (hOr.bel hB3).at_ (cellsN_at hl)
              obtain rfl : l.length = m := by have := hr.int_len; simpa [nats] using this
              obtain ⟨y, hy⟩ : ∃ y, l[0]? = some y := get_of_lt hpp
              obtain ⟨z, hz⟩ : ∃ z, ys[y]? = some z := get_of_lt (hlm.out y (List.mem_of_getElem? hy))
              obtain ⟨bi, oi, rfl, hbi, d0⟩ := hr.int_at (nats_get hy)
              rw [Nat.add_zero] at d0
              have hl0 : (0 : Int) < (l.length : Int) := by omega
              have hN0 := hid (pick_next hy hz)
              have hfirst : Hid ((pickH ys l)[0]? = some z) := by
                show _ = _
                rw [← List.take_append_drop 1 l]
                have h1 := hN0.out
                simp only [Nat.zero_add, List.take_zero] at h1
                simp only [pickH, List.filterMap_append] at h1 ⊢
                rw [h1]
                simp
              have hI0 : Hid (bestF z (pickH ys (l.take 1)) = z) := by
                show _ = _
                have h1 := hN0.out
                simp only [Nat.zero_add, List.take_zero] at h1
                rw [h1]
                exact bestF_self z
              replace hl := hid hl
              replace hy := hid hy
              replace hz := hid hz
              go_wp2_with fail
              go_loopw [11, 12] (fun q v wk => ∃ j bi : Nat, j ≤ l.length ∧ 1 ≤ j ∧ v = .int .i64 j ∧ q = .int .i64 bi ∧ ys[bi]? = some (bestF z (pickH ys (l.take j))) ∧ Below wo.heap.size wo wk) (fun _ v _ => l.length - (intOf v).toNat)
              case atStart => exact ⟨1, y, hpp, Nat.le_refl _, rfl, rfl, by rw [hI0.out]; exact hz.out, bel_refl _⟩
              case round =>
                clear d0 hc hb hbi
                obtain ⟨j, bs, hj, hj1, rfl, rfl, hbs, hBk⟩ := hrel
                obtain ⟨B, hBe⟩ : ∃ B, bestF z (pickH ys (l.take j)) = B := ⟨_, rfl⟩
                rw [hBe] at hbs
                have hbs0 : (0 : Int) ≤ (bs : Int) := by omega
                have hbs1 : (bs : Int) < (k : Int) := by have := (List.getElem?_eq_some_iff.1 hbs).1; have := hlY.out; omega
                obtain ⟨b2, o2, eb, hb, a', m2, d2, hc, hr2⟩ := (hOr.bel (bel_trans hB3 hBk)).at_ (cellsN_at hl.out)
                simp only [Option.some.injEq, Addr.mk.injEq, and_true] at eb
                obtain ⟨rfl, rfl⟩ := eb
                obtain rfl : l.length = m2 := by have := hr2.int_len; simpa [nats] using this
                obtain ⟨bl, p, rfl, hbl, e0, e1, e2, e3, e4, e5⟩ := (hY.bel (bel_trans hB3 hBk)).hotspot hbs
                have hwr : Hid (Below w3.heap.size w3 wr) := bel_trans hB3 hBk
                replace hBe := hid hBe
                by_cases hlj : j < l.length
                · have hlj1 : (j : Int) < (l.length : Int) := by omega
                  have hj0 : (0 : Int) ≤ (j : Int) := by omega
                  obtain ⟨y2, hy2⟩ : ∃ y2, l[j]? = some y2 := get_of_lt hlj
                  obtain ⟨x, hx⟩ : ∃ x, ys[y2]? = some x := get_of_lt (hlm.out y2 (List.mem_of_getElem? hy2))
                  have hyk := hlm.out y2 (List.mem_of_getElem? hy2)
                  have hN : Hid (bestF z (pickH ys (l.take (j + 1))) = upB B x) := by
                    show _ = _
                    rw [pick_next hy2 hx, ← hBe.out]
                    exact bestF_snoc _ _ _
                  obtain ⟨bi, oi, rfl, hbi, d0⟩ := hr2.int_at (nats_get hy2)
                  have hy0 : (0 : Int) ≤ (y2 : Int) := by omega
                  have hy1 : (y2 : Int) < (k : Int) := by have := hlY.out; omega
                  obtain ⟨bl', p', e', hbl', z0, z1, z2, z3, z4, z5⟩ := (hY.bel hwr.out).hotspot hx
                  simp only [Option.some.injEq, Addr.mk.injEq, and_true] at e'
                  obtain ⟨rfl, rfl⟩ := e'
                  replace hx := hid hx
                  replace hbs := hid hbs
                  clear hy2
                  have hB2 := bel_refl wr
                  rcases hw : decide (B.tick < x.tick) with _ | _
                  · go_wp2_with fail
                    (refine wp_region_bel (by kernel_rfl) (by kernel_rfl) ?_; have hD := bel_cells hB2; (repeat (go_big_quiet_step ((fail)))); refine wpQuiet_nil ?_; intro w1 hB1; replace hB2 := bel_trans hB2 hB1; obtain ⟨hC1, hF1⟩ := bcell hB2; clear hD; replace hB1 := hB1)
                    go_wp2_with fail
                    refine ⟨⟨j + 1, bs, hlj, by omega, by go_num, rfl, ?_, by (repeat' (first | (with_reducible exact bel_refl _) | (with_reducible assumption) | (with_reducible refine bel_drew ?_) | (with_reducible refine bel_drewN ?_) | (with_reducible refine bel_alloc ?_) | (with_reducible refine bel_set ?_ ?_) | (with_reducible refine bel_trans ?_ (by with_reducible assumption)) | omega | (simp; done) | (simp; omega)))⟩, ?_⟩
                    · rw [hN.out, upB_no (of_decide_eq_false hw)]
                      exact hbs.out
                    · exact meas hlj
                  · go_wp2_with fail
                    (refine wp_region_bel (by kernel_rfl) (by kernel_rfl) ?_; have hD := bel_cells hB2; (repeat (go_big_quiet_step ((fail)))); refine wpQuiet_nil ?_; intro w1 hB1; replace hB2 := bel_trans hB2 hB1; obtain ⟨hC1, hF1⟩ := bcell hB2; clear hD; replace hB1 := hB1)
                    go_wp2_with fail
                    refine ⟨⟨j + 1, y2, hlj, by omega, by go_num, rfl, ?_, by (repeat' (first | (with_reducible exact bel_refl _) | (with_reducible assumption) | (with_reducible refine bel_drew ?_) | (with_reducible refine bel_drewN ?_) | (with_reducible refine bel_alloc ?_) | (with_reducible refine bel_set ?_ ?_) | (with_reducible refine bel_trans ?_ (by with_reducible assumption)) | omega | (simp; done) | (simp; omega)))⟩, ?_⟩
                    · rw [hN.out, upB_yes (of_decide_eq_true hw)]
                      exact hx.out
                    · exact meas hlj
                · have hlj1 : ¬ (j : Int) < (l.length : Int) := by omega
                  obtain rfl : j = l.length := by omega
                  have hBid : Hid (bestId (pickH ys l) = B.id) := by
                    show _ = _
                    rw [bestId_of hfirst.out, ← hBe.out, List.take_of_length_le (Nat.le_refl _)]
                  have hQ1 := own_bel hQ hBk
                  have hw3 := hwr.out.size
                  go_wp2_with (go_at_call 35; refine (l1Put A' m' c' w.heap.size zs _ _ hQ1 (bel_trans hBw hBk).size (Sl.of_own hQ1) (by omega)).mono ?_; rintro _ w5 ⟨A6, n6, c6, zs', rfl, hP, hn6, hQ6, hb6⟩)
                  have hZ2 := put_rise hP hZ
                  rw [← hBid.out, ← hBi.out] at hZ2
                  refine ⟨⟨i + 1, hlt, by go_num, ⟨_, _, _, _, rfl, by omega, hZ2, hQ6⟩, bel_trans (bel_trans hB3 hBk) hb6, bel_trans (bel_trans hBw hBk) hb6⟩, ?_⟩
                  exact meas hlt
            · have hil1 : ¬ (i : Int) < (n1 : Int) := by omega
              obtain rfl : i = n1 := by omega
              have hbn : (bests ys).length = i := by rw [bests, List.length_map]; exact hn1
              rw [List.take_of_length_le (Nat.le_of_eq hbn)] at hZ
              have hz := rise_sortD hZ
              go_wp2_with fail
              go_ret2
              refine ⟨_, _, _, by rw [hR.out]; rfl, ?_, hBw⟩
              rw [hR.out, ← hz]
              exact Own.mk_ hQ
end Go.Proofs.Ytkkoccllmflhfaa
