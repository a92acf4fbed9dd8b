/-
  One unit more through a net (the reference's), walked.
-/
import Derived.Test.YtcdgkiiokplidaaFlowMem
import Derived.Test.YtcdgkiiokplidaaTerrB
import Derived.Deep.LoopGhost
import Derived.Deep.DeepCutAuto
namespace Go.Proofs.Ytcdgkiiokplidaa
open Go.RowKit

set_option maxHeartbeats 16000000 in
set_option maxRecDepth 100000 in
theorem l9Push (lo hi gA N c s t : Nat) (LL : List (List Int)) (Vs : List Value) (C : Nat → Nat → Int) (k : Int) (w : World) (hM : Mat lo hi w gA N c LL Vs) (hhi : hi ≤ w.heap.size) (hs : (N : Int) - 2 = s) (ht : (N : Int) - 1 = t) (hN : N ≤ 52) (hF : FlowSt N s t C (matF LL) k) (hC : ∀ u v, C u v ≤ 1) :
    Calls Try.prog 25 #[.slice (some ⟨gA, 0, none⟩) N c] w (PushR lo hi gA N c s t C k Vs w) := by
  replace hC := hid hC
  replace hF := hid hF
  have hN0 : (N : Int) ≤ 52 := by omega
  have hN2 : (2 : Int) ≤ N := by omega
  have hsN : s < N := by omega
  have htN : t < N := by omega
  go_enter Try.func25, Try.ntmps25
  go_wp2_with fail
  go_loopw [4, 5] (fun q v wr => ∃ i : Nat, i ≤ N ∧ v = .int .i64 i ∧ (∃ A' c', q = .slice A' i c' ∧ wr.ownsRow w.heap.size 3 1 (.slice A' i c') i (ints (List.replicate i (-1)))) ∧ Below w.heap.size w wr) (fun _ v _ => N - (intOf v).toNat)
  case atStart => exact ⟨0, by omega, rfl, ⟨_, _, rfl, by simpa [ints] using own_empty (w := w) (size := 1) (e := 3) (Nat.le_refl _)⟩, by (repeat' (first | (with_reducible exact bel_refl _) | (with_reducible assumption) | (with_reducible refine bel_drew ?_) | (with_reducible refine bel_drewN ?_) | (with_reducible refine bel_alloc ?_) | (with_reducible refine bel_set ?_ ?_) | (with_reducible refine bel_trans ?_ (by with_reducible assumption)) | omega | (simp; done) | (simp; omega)))⟩
  case round =>
    obtain ⟨i, hi', rfl, ⟨A', c', rfl, hown⟩, hB2⟩ := hrel
    by_cases hlt : i < N
    · have hi1 : (i : Int) < (N : Int) := by omega
      have hi0 : (0 : Int) ≤ (i : Int) := by omega
      go_wp2_with (at_builtin; refine wpList_push rfl (.tmp 19) (.tmp 20) 22 rfl w.heap.size 3 (.int .i64 0) 1 8 Try.underlying22 info_int' rfl (by omega) A' i c' _ [.int .i64 (-1)] 3 rfl hown (by first | rfl | exact slice_at (by simp)) rfl (oneCell_int _) (by omega) (by omega) hB2.size ?_; intro A'' c'' w3 hown2 hb3 hg3)
      go_roundw
      case rel => exact ⟨i + 1, by omega, by go_num, ⟨_, _, rfl, by rw [ints_snoc, ← List.replicate_succ'] at hown2; exact hown2⟩, Below.trans hB2 hb3⟩
      case measure => simp [intOf]; omega
    · have hi1 : ¬ (i : Int) < (N : Int) := by omega
      have e : i = N := by omega
      rw [e] at hown hi1 ⊢
      obtain ⟨g, rfl, hg1, hg2⟩ := own_form hown (by omega)
      have c0 : wr.cell? ⟨g, s, none⟩ = some (.int .i64 (-1)) := own_at_int hown (by rw [List.getElem?_replicate, if_pos hsN])
      have hfz := own_fz hown
      have hs0 : (0 : Int) ≤ (s : Int) := by omega
      have hs1 : (s : Int) < (N : Int) := by omega
      obtain ⟨q0, hq⟩ : ∃ q0, wr.heap.size = q0 := ⟨_, rfl⟩
      have hgq : g < q0 := by omega
      have hb0 : Below w.heap.size w ((wr.setCell ⟨g, s, none⟩ (.int .i64 (s : Int))).alloc (.cells #[.int .i64 (s : Int)] 3)) := bel_alloc (bel_set hB2 hg1)
      have hS0 : Srh w.heap.size q0 g c' N ((List.replicate N (-1)).set s (s : Int)) [s] (.slice (some ⟨wr.heap.size, 0, none⟩) 1 1) ((wr.setCell ⟨g, s, none⟩ (.int .i64 (s : Int))).alloc (.cells #[.int .i64 (s : Int)] 3)) :=
        ⟨⟨_, 1, 1, rfl, by have h := Que.lit (lo := q0) (wr.setCell ⟨g, s, none⟩ (.int .i64 (s : Int))) (s : Int) 3 (by rw [← hq]; exact (gro_cell wr g s _).size); rwa [show (wr.setCell ⟨g, s, none⟩ (.int .i64 (s : Int))).heap.size = wr.heap.size by simp] at h⟩, own_bel (own_seti (s : Int) hown) (bel_alloc (bel_refl _)), by rw [← hq]; exact Nat.le_trans (gro_cell wr g s (.int .i64 (s : Int))).size (by simp)⟩
      have hf0 := hid (Bfs.start hsN (matF LL))
      replace hq := hid hq
      clear hown hB2 hlt hi'
      go_wp2_with fail
      clear c0 hfz hg2
      go_loopg [6] (2 * N + 1) (fun gk q wr => ∃ B Q, Srh w.heap.size q0 g c' N B Q q wr ∧ Hid (Bfs N s (matF LL) B Q gk) ∧ Below w.heap.size w wr ∧ gk ≤ 105)
      case atStart => exact ⟨_, [s], hS0, hf0, hb0, by omega⟩
      case round =>
        clear hS0 hf0 hb0
        obtain ⟨B, Q, hS, hf, hBw, hgk⟩ := hrel
        obtain ⟨A, n, cq, rfl, hQ⟩ := hS.que
        rcases Q with _ | ⟨x, Q⟩
        · obtain rfl : n = 0 := by have := hQ.len; simpa [natsI] using this.symm
          obtain ⟨b, hb⟩ : ∃ b, B[t]? = some b := get_of_lt (by rw [hf.out.len]; exact htN)
          have hown := hS.own
          have c0 := own_at_int hown hb
          have ht0 : (0 : Int) ≤ (t : Int) := by omega
          have ht1 : (t : Int) < (N : Int) := by omega
          by_cases hb0 : b < 0
          · have hcert := hid (hf.out.cert hF.out hb hb0)
            clear hb
            go_wp2_with fail
            go_ret
            exact ⟨false, LL, rfl, hM.bel hBw, grownIn_bel lo hi hBw, by simp, fun _ => hcert.out⟩
          · obtain ⟨l, hl⟩ := hf.out.back hF.out htN hb (by omega)
            have hval := hid hf.out.val
            replace hl := hid hl
            clear hb hf hQ hS
            go_wp2_with fail
            clear c0
            go_loopg [9] l.length (fun gk v wr => ∃ (y : Nat) (l : List Nat) (LL' : List (List Int)), v = .int .i64 y ∧ l.length = gk ∧ Hid (Back N s t C k B (matF LL') y l) ∧ Mat lo hi wr gA N c LL' Vs ∧ wr.ownsRow w.heap.size 3 1 (.slice (some ⟨g, 0, none⟩) N c') N (ints B) ∧ GrownIn lo hi w wr)
            case atStart => exact ⟨t, l, LL, rfl, rfl, hl, hM.bel hBw, hown, grownIn_bel lo hi hBw⟩
            case round =>
              clear hown hBw hl
              obtain ⟨y, l, LL', rfl, hlen, hbk, hM', hown, hG⟩ := hrel
              replace hlen := hid hlen
              by_cases hys : y = s
              · have he : (y : Int) = (s : Int) := by omega
                have hfin : Hid (FlowSt N s t C (matF LL') (k + 1)) := by rw [hys] at hbk; exact hbk.out.mid.done
                clear hys
                go_wp2_with fail
                go_ret
                exact ⟨true, LL', rfl, hM', hG, fun _ => hfin.out, by simp⟩
              · have hne : ¬ (y : Int) = (s : Int) := by omega
                obtain ⟨x, l', rfl, hb, hxN, hxy, hr1, hnext⟩ := hbk.out.next hval.out hys
                have hyN := hbk.out.lt
                have c0 := own_at_int hown hb
                have hrl := hbk.out.mid.le hC.out hxN hyN
                have hrl2 := hbk.out.mid.le hC.out hyN hxN
                obtain ⟨hA1, hA2, hA3, ga, d, hV, hne1, hga1, hga2, hga3, e0, e1, hfz⟩ := hM'.at_ hxN
                obtain ⟨r, hr⟩ : ∃ r, matF LL' x y = r := ⟨_, rfl⟩
                have e2 := e1 y hyN
                have hpush := mat_push hM' hxN hyN hxy hV
                rw [hr] at e2 hrl hpush
                have hx0 : (0 : Int) ≤ (x : Int) := by omega
                have hx1 : (x : Int) < (N : Int) := by omega
                have hy0 : (0 : Int) ≤ (y : Int) := by omega
                have hy1 : (y : Int) < (N : Int) := by omega
                replace hr := hid hr
                replace hb := hid hb
                replace hnext := hid hnext
                replace hV := hid hV
                replace hpush := hid hpush
                clear hys hxy hr1 e1
                have hd2 : Below wr.heap.size wr wr.drew := bel_drew (bel_refl wr)
                have hw1 : IntKind.i64.wrap (r - 1) = r - 1 := by rw [IntKind.wrap_i64]; omega
                go_wp2_with fail
                have hSd : (fun w' : World => w'.cell? ⟨gA, x, none⟩ = some (.slice (some ⟨ga, 0, none⟩) N d) ∧ True) wr.drew := ⟨by simpa using e0, trivial⟩
                (refine wp_region_plan (fun w' : World => w'.cell? ⟨gA, x, none⟩ = some (.slice (some ⟨ga, 0, none⟩) N d) ∧ True) (.free 0 (.free 1 (.free 2 (.free 3 (.free 4 (.free 5 (.free 6 (.free 7 (.free 8 (.free 9 (.free 10 (.one 11 (.free 12 (.free 13 (.one 14 (.stop)))))))))))))))) (by kernel_rfl) (by kernel_rfl) hSd ?_; simp only [Plan.ops, List.getElem?_cons_zero, List.getElem?_cons_succ, Option.getD_some]); (iterate 11 (refine p_free rfl (by rintro w' ⟨hw', -⟩; (go_simp; first | done | rfl)) ?_; (try simp only [Act.put, List.setIfInBounds_toArray, List.set_cons_zero, List.set_cons_succ]))); refine p_val rfl (by (go_simp; first | done | rfl | exact ⟨rfl, rfl⟩)) hSd ?_; (try simp only [Act.put, List.setIfInBounds_toArray, List.set_cons_zero, List.set_cons_succ]); (iterate 2 (refine p_free rfl (by rintro w' ⟨hw', -⟩; (go_simp; first | done | rfl)) ?_; (try simp only [Act.put, List.setIfInBounds_toArray, List.set_cons_zero, List.set_cons_succ]))); refine p_store rfl (by (go_simp; first | done | rfl)) ⟨(World.cell?_setCell_other _ ⟨ga, y, none⟩ ⟨gA, x, none⟩ _ (by simp only [ne_eq, Addr.mk.injEq]; omega)).trans hSd.1, trivial⟩ ?_; (try simp only [Act.put])
                refine p_stop ?_
                (try simp only [Act.put, List.setIfInBounds_toArray, List.set_cons_zero, List.set_cons_succ])
                clear hw1
                have hM1 := (hM'.bel hd2).put (y := y) hxN hV.out (r - 1)
                have hG1 := grownIn_set (o := y) (v := .int .i64 (r - 1)) (hG.trans (grownIn_bel lo hi hd2)) hga1 hga2
                have hown1 := own_bel hown hd2 |>.kept (gro_cell wr.drew ga y (.int .i64 (r - 1))) (.inr (by simp only [Value.ownBlock, ne_eq, Option.some.injEq]; omega))
                obtain ⟨w1, hw1'⟩ : ∃ w1, wr.drew.setCell ⟨ga, y, none⟩ (.int .i64 (r - 1)) = w1 := ⟨_, rfl⟩
                rw [hw1'] at hM1 hG1 hown1 ⊢
                clear hw1' hM' hG hown e0 e2 hfz hd2 hSd c0 hne1 hga1 hga2 hga3 hA1 hA2 hA3
                obtain ⟨hA1, hA2, hA3, gb, d2, hV2, hne1, hga1, hga2, hga3, e0, e1, hfz⟩ := hM1.at_ hyN
                obtain ⟨r2, hr2⟩ : ∃ r2, matF LL' y x = r2 := ⟨_, rfl⟩
                have e2 := e1 x hxN
                have hp1 := hpush.out.1
                have hp2 := hpush.out.2
                rw [hp1] at e2
                rw [hr2] at e2 hrl2 hp2
                have hw2 : IntKind.i64.wrap (r2 + 1) = r2 + 1 := by rw [IntKind.wrap_i64]; omega
                have c0 := own_at_int hown1 hb.out
                have hd2 : Below w1.heap.size w1 w1.drew := bel_drew (bel_refl w1)
                replace hr2 := hid hr2
                replace hV2 := hid hV2
                replace hp2 := hid hp2
                clear hp1 e1
                go_wp2_with fail
                have hSd : (fun w' : World => w'.cell? ⟨gA, y, none⟩ = some (.slice (some ⟨gb, 0, none⟩) N d2) ∧ True) w1.drew := ⟨by simpa using e0, trivial⟩
                (refine wp_region_plan (fun w' : World => w'.cell? ⟨gA, y, none⟩ = some (.slice (some ⟨gb, 0, none⟩) N d2) ∧ True) (.free 0 (.free 1 (.free 2 (.free 3 (.free 4 (.free 5 (.free 6 (.free 7 (.free 8 (.free 9 (.free 10 (.one 11 (.free 12 (.free 13 (.one 14 (.stop)))))))))))))))) (by kernel_rfl) (by kernel_rfl) hSd ?_; simp only [Plan.ops, List.getElem?_cons_zero, List.getElem?_cons_succ, Option.getD_some]); (iterate 11 (refine p_free rfl (by rintro w' ⟨hw', -⟩; (go_simp; first | done | rfl)) ?_; (try simp only [Act.put, List.setIfInBounds_toArray, List.set_cons_zero, List.set_cons_succ]))); refine p_val rfl (by (go_simp; first | done | rfl | exact ⟨rfl, rfl⟩)) hSd ?_; (try simp only [Act.put, List.setIfInBounds_toArray, List.set_cons_zero, List.set_cons_succ]); (iterate 2 (refine p_free rfl (by rintro w' ⟨hw', -⟩; (go_simp; first | done | rfl)) ?_; (try simp only [Act.put, List.setIfInBounds_toArray, List.set_cons_zero, List.set_cons_succ]))); refine p_store rfl (by (go_simp; first | done | rfl)) ⟨(World.cell?_setCell_other _ ⟨gb, x, none⟩ ⟨gA, y, none⟩ _ (by simp only [ne_eq, Addr.mk.injEq]; omega)).trans hSd.1, trivial⟩ ?_; (try simp only [Act.put])
                refine p_stop ?_
                (try simp only [Act.put, List.setIfInBounds_toArray, List.set_cons_zero, List.set_cons_succ])
                have hM2 := (hM1.bel hd2).put (y := x) hyN hV2.out (r2 + 1)
                have hG2 := grownIn_set (o := x) (v := .int .i64 (r2 + 1)) (hG1.trans (grownIn_bel lo hi hd2)) hga1 hga2
                have hown2 := own_bel hown1 hd2 |>.kept (gro_cell w1.drew gb x (.int .i64 (r2 + 1))) (.inr (by simp only [Value.ownBlock, ne_eq, Option.some.injEq]; omega))
                obtain ⟨w2, hw2'⟩ : ∃ w2, w1.drew.setCell ⟨gb, x, none⟩ (.int .i64 (r2 + 1)) = w2 := ⟨_, rfl⟩
                rw [hw2'] at hM2 hG2 hown2 ⊢
                clear hw2' hM1 hG1 hown1 e0 e2 hfz hd2 hSd c0 hne1 hga1 hga2 hga3 hA1 hA2 hA3 hw2 hrl2
                have c0 := own_at_int hown2 hb.out
                replace hnext := hid (show Back N s t C k B (matF (putM (putM LL' x y (r - 1)) y x (r2 + 1))) x l' from by rw [hp2.out]; exact hnext.out)
                go_wp2_with fail
                go_roundg l'.length
                case measure => have := hlen.out; simp only [List.length_cons] at this; omega
                case rel => exact ⟨x, l', _, rfl, rfl, hnext, hM2, hown2, hG2⟩
        · obtain ⟨gq, oq, rfl, -, hgq2, d0⟩ := hQ.front
          have hnl := hQ.len
          have hnc := hQ.cap
          have hcm := hQ.max
          simp only [natsI, List.length_map, List.length_cons] at hnl
          have hn0 : (0 : Int) < (n : Int) := by omega
          have hn1 : (1 : Int) ≤ (n : Int) := by omega
          have hnc1 : (n : Int) ≤ (cq : Int) := by omega
          have hP1 : Hid (cq = 1 → Que q0 wr (some ⟨gq, oq, none⟩) (n - 1) 0 (natsI Q)) := hid (fun h => by have := hQ.pop; rw [if_pos h] at this; rw [h] at this; exact this)
          have hP2 : Hid (¬ cq = 1 → Que q0 wr (some ⟨gq, oq + 1, none⟩) (n - 1) (cq - 1) (natsI Q)) := hid (fun h => by have := hQ.pop; rw [if_neg h] at this; exact this)
          have hxN := hf.out.in_lt (List.mem_cons_self ..)
          obtain ⟨kk, hkk, hsc⟩ := hf.out.pop
          replace hsc := hid hsc
          replace hnl := hid hnl
          have hown := hS.own
          have hle := hS.le
          clear hS hQ hf
          go_upto_region 11 with fail
          go_cut [6] (fun q wx => ∃ A n' c2, q = .slice A n' c2 ∧ Que q0 wx A n' c2 (natsI Q) ∧ wr = wx)
          case first =>
            go_wp2_with fail
            all_goals go_meet
            all_goals exact ⟨_, _, _, rfl, by first | exact hP1.out (by assumption) | exact hP2.out (by assumption), rfl⟩
          case rest =>
            obtain ⟨A, n', c2, rfl, hQ, rfl⟩ := hcut
            have hS : Srh w.heap.size q0 g c' N B Q (.slice A n' c2) wr := ⟨⟨_, _, _, rfl, hQ⟩, hown, hle⟩
            clear hP1 hP2 hQ hown hle d0 hgq2 hn0 hn1 hnc1 hnc hcm hnl
            go_wp2_with fail
            go_loopw [6, 8] (fun q v wm => ∃ (y : Nat) (B : List Int) (Q : List Nat), y ≤ N ∧ v = .int .i64 y ∧ Srh w.heap.size q0 g c' N B Q q wm ∧ Hid (Scan N s (matF LL) B Q x y kk) ∧ Below w.heap.size w wm) (fun _ v _ => N - (intOf v).toNat)
            case atStart => exact ⟨0, B, Q, by omega, rfl, hS, hsc, hBw⟩
            case round =>
              clear hS hsc hBw
              obtain ⟨y, B, Q, hyN, rfl, hS, hsc, hBw⟩ := hrel
              obtain ⟨A, n, cq, rfl, hQ⟩ := hS.que
              have hown := hS.own
              have hle := hS.le
              by_cases hy : y < N
              · obtain ⟨hA1, hA2, hA3, ga, d, hV, hne1, hga1, hga2, hga3, e0, e1, hfz⟩ := (hM.bel hBw).at_ hxN
                obtain ⟨r, hr⟩ : ∃ r, matF LL x y = r := ⟨_, rfl⟩
                have e2 := e1 y hy
                rw [hr] at e2
                obtain ⟨b, hb⟩ : ∃ b, B[y]? = some b := get_of_lt (by rw [hsc.out.len]; exact hy)
                have c0 := own_at_int hown hb
                have c1 := own_fz hown
                have hx0 : (0 : Int) ≤ (x : Int) := by omega
                have hx1 : (x : Int) < (N : Int) := by omega
                have hy0 : (0 : Int) ≤ (y : Int) := by omega
                have hy1 : (y : Int) < (N : Int) := by omega
                have hnq : n ≤ 1048576 := by
                  have h1 := hsc.out.cnt
                  have h2 := hQ.len
                  simp only [natsI, List.length_map] at h2
                  omega
                clear hV hfz e1
                by_cases hr0 : 0 < r
                · by_cases hb0 : b < 0
                  · have hN' := hid (hsc.out.push hy (by rw [hr]; exact hr0) hb hb0)
                    have hQ2 := hQ.grown (gro_cell wr g y (.int .i64 (x : Int))) hgq
                    have hown2 := own_seti (i := y) (x : Int) hown
                    have hb2 : Below w.heap.size w (wr.setCell ⟨g, y, none⟩ (.int .i64 (x : Int))) := bel_set hBw hg1
                    have hle2 : q0 ≤ (wr.setCell ⟨g, y, none⟩ (.int .i64 (x : Int))).heap.size := Nat.le_trans hle (gro_cell wr g y _).size
                    replace hr := hid hr
                    replace hb := hid hb
                    clear hsc
                    go_wp2_with (at_builtin; refine wpList_que rfl (.tmp 63) (.tmp 65) 22 rfl q0 3 Try.underlying22 info_int' A n cq _ (y : Int) 3 rfl hQ2 (by first | rfl | exact slice_at (by simp)) hnq hle2 ?_; intro A3 c3 w3 hQ3 hg3)
                    go_roundw
                    case rel => exact ⟨y + 1, _, _, by omega, by go_num, ⟨⟨A3, n + 1, c3, rfl, by simpa [natsI] using hQ3⟩, hg3.own hown2 (fun q hq => by cases hq; exact .inl hgq), Nat.le_trans hle2 hg3.size⟩, hN', hg3.bel hb2 (by omega)⟩
                    case measure => simp [intOf]; omega
                  · have hN' := hid (hsc.out.skip (fun _ => is_mark hsc.out.val hb (by omega)))
                    replace hr := hid hr
                    replace hb := hid hb
                    clear hsc
                    go_wp2_with fail
                    go_roundw
                    case rel => exact ⟨y + 1, _, _, by omega, by go_num, hS, hN', hBw⟩
                    case measure => simp [intOf]; omega
                · have hN' := hid (hsc.out.skip (fun h => absurd (by rw [hr] at h; exact h) hr0))
                  replace hr := hid hr
                  replace hb := hid hb
                  clear hsc
                  go_wp2_with fail
                  go_roundw
                  case rel => exact ⟨y + 1, _, _, by omega, by go_num, hS, hN', hBw⟩
                  case measure => simp [intOf]; omega
              · have hy1 : ¬ (y : Int) < (N : Int) := by omega
                have hN' := hid (hsc.out.done (by omega))
                clear hsc
                go_wp2_with fail
                go_roundg kk
                case measure => exact hkk
                case rel => exact ⟨B, Q, hS, hN', hBw, by omega⟩
end Go.Proofs.Ytcdgkiiokplidaa
