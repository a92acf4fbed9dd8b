/-
  The net of the reference, walked.
-/
import Derived.Test.YtcdgkiiokplidaaNetSame
namespace Go.Proofs.Ytcdgkiiokplidaa
open Go.RowKit

theorem info_intsC : (Try.prog.info? 22).map (fun i => (i.zero, i.size, i.bytes)) = some (some (.slice none 0 0), 1, 24) := by kernel_rfl
theorem l9TouchT (t : Terr) (B : Option Addr) (m d : Nat) (ass : List Int) (x : Int) (v : Bool) (w : World) (h : touchC t x ass = v) (hT : TOk w t) (hg : goodT t = true) (hM : Sl w 1 B m d (ints ass)) (hm : m ≤ 1048576) (hx : 0 ≤ x ∧ x < t.n) :
    Calls Try.prog 23 #[.agg #[.int .i64 t.W, .int .i64 t.H, .slice t.A t.n t.c], .int .i64 x, .slice B m d] w fun e w' => e = .returned (.bool v) ∧ Below w.heap.size w w' := by
  obtain ⟨bb, oo, hA⟩ := terr_addr hT hg
  rw [hA]
  exact l9TouchP t bb oo B m d ass x v w h hA hT hg hM hm hx
theorem l9FreeP (t : Terr) (A B : Option Addr) (n c m d : Nat) (so ass : List Int) (x : Int) (v : Bool) (w : World) (h : freeB t so ass x = v) (hT : TOk w t) (hg : goodT t = true) (hS : Sl w 1 A n c (ints so)) (hn : n ≤ 1048576) (hM : Sl w 1 B m d (ints ass)) (hm : m ≤ 1048576) (hx : 0 ≤ x ∧ x < t.n) :
    Calls Try.prog 41 #[.agg #[.int .i64 t.W, .int .i64 t.H, .slice t.A t.n t.c], .slice A n c, .slice B m d, .int .i64 x] w fun e w' => e = .returned (.bool v) ∧ Below w.heap.size w w' := by
  rw [← h]
  exact l9Free t A B n c m d so ass x w hT hg hS hn hM hm hx
theorem nearS_no {t : Terr} {so ass : List Int} {c k : Int} (h : freeB t so ass k = false) : nearS t so ass c k = [] := by
  unfold nearS
  rw [h, if_neg (by simp)]
theorem nearS_yes {t : Terr} {so ass : List Int} {c k : Int} (h : freeB t so ass k = true) : nearS t so ass c k = [(2 * c.toNat + 1, 2 * k.toNat)] := by
  unfold nearS
  rw [if_pos h]
theorem arcS_no {t : Terr} {so ass : List Int} {i : Nat} (h : freeB t so ass i = false) : (List.range (i + 1)).flatMap (arcS t so ass) = (List.range i).flatMap (arcS t so ass) := by
  rw [List.range_succ, List.flatMap_append]
  simp [arcS, h]
theorem arcS_yes {t : Terr} {so ass : List Int} {i : Nat} (h : freeB t so ass i = true) : (List.range (i + 1)).flatMap (arcS t so ass) = (((List.range i).flatMap (arcS t so ass) ++ [(2 * i, 2 * i + 1)]) ++ (if touchC t i so = true then [(2 * t.n, 2 * i)] else []) ++ (if touchC t i ass = true then [(2 * i + 1, 2 * t.n + 1)] else [])) ++ (nearL t i).flatMap (nearS t so ass i) := by
  rw [List.range_succ, List.flatMap_append]
  simp [arcS, h, arcsS]
/-- What the reference's net is: a matrix of its own, in new memory. -/
def CapsR (es : List (Nat × Nat)) (N : Nat) (w : World) (e : Ending) (w' : World) : Prop :=
  ∃ (gA c : Nat) (LL : List (List Int)) (Vs : List Value), e = .returned (.slice (some ⟨gA, 0, none⟩) N c) ∧ Mat w.heap.size w'.heap.size w' gA N c LL Vs ∧ matF LL = ones es ∧ Below w.heap.size w w'
set_option maxHeartbeats 16000000 in
set_option maxRecDepth 100000 in
theorem l9Caps (t : Terr) (A B : Option Addr) (n c m d : Nat) (so ass : List Int) (w : World) (hT : TOk w t) (hg : goodT t = true) (hS : Sl w 1 A n c (ints so)) (hn : n ≤ 1048576) (hM : Sl w 1 B m d (ints ass)) (hm : m ≤ 1048576) :
    Calls Try.prog 24 #[.agg #[.int .i64 t.W, .int .i64 t.H, .slice t.A t.n t.c], .slice A n c, .slice B m d] w (CapsR (netS t so ass) (2 * t.n + 2) w) := by
  obtain ⟨hWb, -, -, htn1, htn, -⟩ := goodT_bd hg
  obtain ⟨W, hW⟩ : ∃ W, w.alloc (.cells #[.int .i64 t.W, .int .i64 t.H, .slice t.A t.n t.c] 28) = W := ⟨_, rfl⟩
  have hbW : Below w.heap.size w W := by rw [← hW]; exact bel_alloc (bel_refl w)
  have k0 : W.cell? ⟨w.heap.size, 0, none⟩ = some (.int .i64 t.W) := by rw [← hW]; simp [go_sem]
  have k1 : W.cell? ⟨w.heap.size, 1, none⟩ = some (.int .i64 t.H) := by rw [← hW]; simp [go_sem]
  have k2 : W.cell? ⟨w.heap.size, 2, none⟩ = some (.slice t.A t.n t.c) := by rw [← hW]; simp [go_sem]
  have hwW : w.heap.size < W.heap.size := by rw [← hW]; simp
  replace hT := hT.bel hbW
  replace hS := hS.bel hbW
  replace hM := hM.bel hbW
  obtain ⟨s2, hs2⟩ : ∃ s2 : Nat, s2 = 2 * t.n := ⟨_, rfl⟩
  obtain ⟨t2, ht2⟩ : ∃ t2 : Nat, t2 = 2 * t.n + 1 := ⟨_, rfl⟩
  obtain ⟨N, hNe⟩ : ∃ N : Nat, 2 * t.n + 2 = N := ⟨_, rfl⟩
  have hs2i : 2 * (t.n : Int) = (s2 : Int) := by omega
  have ht2i : (s2 : Int) + 1 = (t2 : Int) := by omega
  have hNi : (s2 : Int) + 2 = (N : Int) := by omega
  have hN52 : N ≤ 52 := by omega
  have hN52i : (N : Int) ≤ 52 := by omega
  have hs2b : (s2 : Int) ≤ 50 := by omega
  have hs20 : (0 : Int) ≤ (s2 : Int) := by omega
  have ht20 : (0 : Int) ≤ (t2 : Int) := by omega
  have hs2N : (s2 : Int) < (N : Int) := by omega
  have ht2N : (t2 : Int) < (N : Int) := by omega
  have htni : (t.n : Int) ≤ 25 := by omega
  have htn0 : (0 : Int) ≤ (t.n : Int) := by omega
  rw [hNe]
  replace hs2 := hid hs2
  replace ht2 := hid ht2
  replace hNe := hid hNe
  obtain ⟨i0, hi0, hz0, hz1, hz2⟩ := info_parts info_int'
  have hmz := matF_zero N
  replace hmz := hid hmz
  go_enter Try.func24, Try.ntmps24
  go_upto_region 1 with fail
  (try rw [hW])
  clear hW
  go_wp2_with fail
  go_loopw [8, 9] (fun q v wr => ∃ (i : Nat) (A' : Option Addr) (c' : Nat) (Vs : List Value), i ≤ N ∧ v = .int .i64 i ∧ q = .slice A' i c' ∧ OwnSS W.heap.size wr.heap.size wr 22 3 A' i c' (rows (List.replicate i (List.replicate N 0))) Vs ∧ Below W.heap.size W wr) (fun _ v _ => N - (intOf v).toNat)
  case atStart => exact ⟨0, _, _, [], by omega, rfl, rfl, own_nil (Own.mk_ (own_empty (Nat.le_refl _))), bel_alloc (bel_refl W)⟩
  case round =>
    obtain ⟨i, A', c', Vs, hi', rfl, rfl, hO, hB⟩ := hrel
    by_cases hlt : i < N
    · have hi1 : (i : Int) < (N : Int) := by omega
      have hi0' : (0 : Int) ≤ (i : Int) := by omega
      go_wp2_with (first | (at_make; refine wpList_make_full _ rfl _ _ 22 rfl wr.heap.size 3 i0 _ 1 Try.underlying22 hi0 hz0 hz1 _ _ _ _ N rfl rfl rfl rfl (by rw [hz2]; omega) (by simp [maxLen]; omega) (Nat.le_refl _) ?_; intro w1 ho1 hg1; rw [made_int] at ho1; have hb1 : Below wr.heap.size wr w1 := (Below.refl _ _).grown hg1 (Nat.le_refl _) (by simp); have hBw1 := bel_trans hB hb1; have hQ1 := hO.bel hb1) | (at_builtin; refine wpList_push rfl (.tmp 24) (.tmp 29) 40 rfl W.heap.size 22 (.slice none 0 0) 1 24 Try.underlying40 info_intsC rfl (by omega) A' i c' Vs [.slice (some ⟨wr.heap.size, 0, none⟩) N N] 22 rfl hQ1.out.own (by first | rfl | exact slice_at (by simp)) rfl (by intro u hu; rw [List.mem_singleton.1 hu]; rfl) (by omega) (by omega) hBw1.size ?_; intro A6 c6 w6 hO6 hb6 hg6))
      have hHo : Own wr.heap.size w6.heap.size w1 3 1 (some ⟨wr.heap.size, 0, none⟩) (ints (List.replicate N 0)).length N (ints (List.replicate N 0)) := by rw [ints_len, List.length_replicate]; exact (Own.mk_ ho1).high hg6.size
      have hO7 := hQ1.push (l := ints (List.replicate N 0)) (Nat.le_trans hb1.size hg6.size) (by decide) hHo (by rw [ints_len, List.length_replicate]; exact Own.mk_ hO6) hg6 hB.size
      rw [rows_snoc, ← List.replicate_succ'] at hO7
      have hB7 := hBw1.grown hg6 hBw1.size fun q hq => (hQ1.out.own.lt q hq).1
      refine ⟨⟨i + 1, A6, c6, _, by omega, by go_num, rfl, hO7, hB7⟩, ?_⟩
      simp [intOf]; omega
    · have hi1 : ¬ (i : Int) < (N : Int) := by omega
      have e : i = N := by omega
      rw [e] at hO hi1 ⊢
      obtain ⟨gA, rfl, hgA1, hgA2⟩ := own_form hO.out.own (by omega)
      have hMt : Mat W.heap.size wr.heap.size wr gA N c' (List.replicate N (List.replicate N 0)) Vs := ⟨hO, by simp, fun l hl => by rw [List.eq_of_mem_replicate hl]; simp⟩
      obtain ⟨Z, hZ⟩ : ∃ Z, wr = Z := ⟨_, rfl⟩
      rw [hZ] at hMt hB hgA2 ⊢
      clear hZ hO hlt hi' e hi0 hz0 hz1 hz2
      replace hmz := hid (show matF (List.replicate N (List.replicate N 0)) = ones ((List.range 0).flatMap (arcS t so ass)) from hmz.out)
      go_wp2_with fail
      go_loopw [10] (fun v wr => ∃ (i : Nat) (LL : List (List Int)), i ≤ t.n ∧ v = .int .i64 i ∧ Mat W.heap.size Z.heap.size wr gA N c' LL Vs ∧ Hid (matF LL = ones ((List.range i).flatMap (arcS t so ass))) ∧ GrownIn W.heap.size Z.heap.size Z wr) (fun v _ => t.n - (intOf v).toNat)
      case atStart => exact ⟨0, _, by omega, rfl, hMt, hmz, GrownIn.refl _ _ _⟩
      case round =>
        clear hMt hmz
        obtain ⟨i, LL, hi', rfl, hMt, hF, hG⟩ := hrel
        have hBW := hG.bel hB (Nat.le_refl _)
        by_cases hlt : i < t.n
        · have hi1 : (i : Int) < (t.n : Int) := by omega
          have hi0' : (0 : Int) ≤ (i : Int) := by omega
          have k0r := ((bcell hBW).1 _ 0 hwW).trans k0
          have k1r := ((bcell hBW).1 _ 1 hwW).trans k1
          have k2r := ((bcell hBW).1 _ 2 hwW).trans k2
          rcases hfr : freeB t so ass (i : Int) with _ | _
          · go_wp2_with fail
            refine (l9FreeP t A B n c m d so ass (i : Int) false _ hfr (hT.bel hBW) hg (hS.bel hBW) hn (hM.bel hBW) hm ⟨hi0', hi1⟩).mono ?_
            rintro _ w3 ⟨rfl, hb3⟩
            go_wp2_with fail
            go_roundw
            case rel => exact ⟨i + 1, LL, by omega, by go_num, hMt.bel hb3, by rw [arcS_no hfr]; exact hF, hG.trans (grownIn_bel _ _ hb3)⟩
            case measure => simp [intOf]; omega
          · go_wp2_with fail
            refine (l9FreeP t A B n c m d so ass (i : Int) true _ hfr (hT.bel hBW) hg (hS.bel hBW) hn (hM.bel hBW) hm ⟨hi0', hi1⟩).mono ?_
            rintro _ w3 ⟨rfl, hb3⟩
            replace hMt := hMt.bel hb3
            replace hG := hG.trans (grownIn_bel _ _ hb3)
            obtain ⟨e0, he0⟩ : ∃ e0 : Nat, e0 = 2 * i := ⟨_, rfl⟩
            obtain ⟨o0, ho0⟩ : ∃ o0 : Nat, o0 = 2 * i + 1 := ⟨_, rfl⟩
            have he0i : 2 * (i : Int) = (e0 : Int) := by omega
            have ho0i : (e0 : Int) + 1 = (o0 : Int) := by omega
            have he0N : e0 < N := by omega
            have ho0N : o0 < N := by omega
            have he00 : (0 : Int) ≤ (e0 : Int) := by omega
            have ho00 : (0 : Int) ≤ (o0 : Int) := by omega
            have he01 : (e0 : Int) < (N : Int) := by omega
            have ho01 : (o0 : Int) < (N : Int) := by omega
            have hs2N' : s2 < N := by omega
            have ht2N' : t2 < N := by omega
            obtain ⟨hA1, hA2, hA3, ga, d1, hV, hne1, hga1, hga2, hga3, e0c, e1, hfz⟩ := hMt.at_ he0N
            have e2 := e1 o0 ho0N
            replace he0 := hid he0
            replace ho0 := hid ho0
            replace hV := hid hV
            clear e1 k0r k1r k2r hBW hb3
            go_upto_region 12 with fail
            have hM1 := hMt.put (y := o0) he0N hV.out 1
            have hF1 := hid (put_one hMt hF.out he0N ho0N)
            have hG1 := grownIn_set (o := o0) (v := .int .i64 1) hG hga1 hga2
            obtain ⟨w4, hw4⟩ : ∃ w4, w3.setCell ⟨ga, o0, none⟩ (.int .i64 1) = w4 := ⟨_, rfl⟩
            obtain ⟨LL1, hLL1⟩ : ∃ LL1, putM LL e0 o0 1 = LL1 := ⟨_, rfl⟩
            obtain ⟨es, hes⟩ : ∃ es, (List.range i).flatMap (arcS t so ass) ++ [(e0, o0)] = es := ⟨_, rfl⟩
            rw [hw4, hLL1] at hM1
            rw [hLL1, hes] at hF1
            rw [hw4] at hG1 ⊢
            replace hes := hid hes
            clear hw4 hLL1 hMt hF hG hA1 hA2 hA3 hV hne1 hga1 hga2 hga3 e0c e2 hfz
            have hBW := hG1.bel hB (Nat.le_refl _)
            have k0r := ((bcell hBW).1 _ 0 hwW).trans k0
            have k1r := ((bcell hBW).1 _ 1 hwW).trans k1
            have k2r := ((bcell hBW).1 _ 2 hwW).trans k2
            obtain ⟨b1, hb1⟩ : ∃ b1, touchC t (i : Int) so = b1 := ⟨_, rfl⟩
            go_wp2_with fail
            refine (l9TouchT t A n c so (i : Int) b1 _ hb1 (hT.bel hBW) hg (hS.bel hBW) hn ⟨hi0', hi1⟩).mono ?_
            rintro _ w5 ⟨rfl, hb5⟩
            replace hM1 := hM1.bel hb5
            replace hG1 := hG1.trans (grownIn_bel _ _ hb5)
            replace hb1 := hid hb1
            clear hBW k0r k1r k2r hb5
            go_upto_if 54 with fail
            go_cut [] (fun wx => ∃ LL' : List (List Int), Mat W.heap.size Z.heap.size wx gA N c' LL' Vs ∧ Hid (matF LL' = ones (es ++ if b1 = true then [(s2, e0)] else [])) ∧ GrownIn W.heap.size Z.heap.size Z wx)
            case first =>
              rcases b1 with _ | _
              · go_wp2_with fail
                go_meet
                exact ⟨LL1, hM1, hid (by rw [hF1.out]; simp), hG1⟩
              · obtain ⟨hA1, hA2, hA3, ga, d1, hV, hne1, hga1, hga2, hga3, e0c, e1, hfz⟩ := hM1.at_ hs2N'
                have e2 := e1 e0 he0N
                replace hV := hid hV
                clear e1
                go_wp2_with fail
                go_meet
                exact ⟨_, hM1.put (y := e0) hs2N' hV.out 1, hid (by rw [put_one hM1 hF1.out hs2N' he0N]; simp), grownIn_set (o := e0) (v := .int .i64 1) hG1 hga1 hga2⟩
            case rest =>
              clear hM1 hF1 hG1
              obtain ⟨LL2, hMt, hF, hG⟩ := hcut
              obtain ⟨es2, hes2⟩ : ∃ es2, es ++ (if b1 = true then [(s2, e0)] else []) = es2 := ⟨_, rfl⟩
              rw [hes2] at hF
              replace hes2 := hid hes2
              have hBW := hG.bel hB (Nat.le_refl _)
              have k0r := ((bcell hBW).1 _ 0 hwW).trans k0
              have k1r := ((bcell hBW).1 _ 1 hwW).trans k1
              have k2r := ((bcell hBW).1 _ 2 hwW).trans k2
              obtain ⟨b2, hb2⟩ : ∃ b2, touchC t (i : Int) ass = b2 := ⟨_, rfl⟩
              go_wp2_with fail
              refine (l9TouchT t B m d ass (i : Int) b2 _ hb2 (hT.bel hBW) hg (hM.bel hBW) hm ⟨hi0', hi1⟩).mono ?_
              rintro _ w5 ⟨rfl, hb5⟩
              replace hMt := hMt.bel hb5
              replace hG := hG.trans (grownIn_bel _ _ hb5)
              replace hb2 := hid hb2
              clear hBW k0r k1r k2r hb5
              go_upto_if 66 with fail
              go_cut [] (fun wx => ∃ LL' : List (List Int), Mat W.heap.size Z.heap.size wx gA N c' LL' Vs ∧ Hid (matF LL' = ones (es2 ++ if b2 = true then [(o0, t2)] else [])) ∧ GrownIn W.heap.size Z.heap.size Z wx)
              case first =>
                rcases b2 with _ | _
                · go_wp2_with fail
                  go_meet
                  exact ⟨LL2, hMt, hid (by rw [hF.out]; simp), hG⟩
                · obtain ⟨hA1, hA2, hA3, ga, d1, hV, hne1, hga1, hga2, hga3, e0c, e1, hfz⟩ := hMt.at_ ho0N
                  have e2 := e1 t2 ht2N'
                  replace hV := hid hV
                  clear e1
                  go_wp2_with fail
                  go_meet
                  exact ⟨_, hMt.put (y := t2) ho0N hV.out 1, hid (by rw [put_one hMt hF.out ho0N ht2N']; simp), grownIn_set (o := t2) (v := .int .i64 1) hG hga1 hga2⟩
              case rest =>
                clear hMt hF hG
                obtain ⟨LL3, hMt, hF, hG⟩ := hcut
                obtain ⟨es3, hes3⟩ : ∃ es3, es2 ++ (if b2 = true then [(o0, t2)] else []) = es3 := ⟨_, rfl⟩
                rw [hes3] at hF
                replace hes3 := hid hes3
                have hBW := hG.bel hB (Nat.le_refl _)
                have hwr := hG.size
                have k0r := ((bcell hBW).1 _ 0 hwW).trans k0
                have k1r := ((bcell hBW).1 _ 1 hwW).trans k1
                have k2r := ((bcell hBW).1 _ 2 hwW).trans k2
                go_wp2_with fail
                refine (l2Near t (i : Int) _ hg ⟨hi0', hi1⟩).mono ?_
                rintro _ w6 ⟨A2, m2, c2, rfl, hO2, hb6⟩
                obtain ⟨xs, hxs⟩ : ∃ xs, nearL t (i : Int) = xs := ⟨_, rfl⟩
                rw [hxs] at hO2
                have hlh2 := hid hO2.sl.int_len
                have hfx2 := hid (show ∀ x ∈ xs, ∃ k : Nat, x = k ∧ k < t.n from fun x hx => by
                  rw [← hxs] at hx
                  obtain ⟨k, h1, h2, -⟩ := cellsL_mem.1 hx
                  exact ⟨k, h1, h2⟩)
                have hml2 := hid (show xs.length ≤ 25 by rw [← hxs]; exact Nat.le_trans (cellsL_len _ _) htn)
                replace hxs := hid hxs
                replace hMt := hMt.bel hb6
                replace hG := hG.trans (grownIn_bel _ _ hb6)
                replace hF := hid (show matF LL3 = ones (es3 ++ (xs.take 0).flatMap (nearS t so ass (i : Int))) from by rw [hF.out]; simp)
                clear k0r k1r k2r hBW hb6
                go_wp2_with fail
                go_loopw [12] (fun v wm => ∃ (j : Nat) (LL : List (List Int)), j ≤ m2 ∧ v = .int .i64 j ∧ Mat W.heap.size Z.heap.size wm gA N c' LL Vs ∧ Hid (matF LL = ones (es3 ++ (xs.take j).flatMap (nearS t so ass (i : Int)))) ∧ GrownIn W.heap.size Z.heap.size w6 wm) (fun v _ => m2 - (intOf v).toNat)
                case atStart => exact ⟨0, _, by omega, rfl, hMt, hF, GrownIn.refl _ _ _⟩
                case round =>
                  clear hMt hF
                  obtain ⟨j, LL, hj', rfl, hMt, hF, hG2⟩ := hrel
                  have hm2 : m2 ≤ 25 := by rw [← hlh2.out]; exact hml2.out
                  have hGx := hG.trans hG2
                  have hBW := hGx.bel hB (Nat.le_refl _)
                  by_cases hlj : j < m2
                  · obtain ⟨x, hx⟩ : ∃ x, xs[j]? = some x := get_of_lt (by rw [hlh2.out]; exact hlj)
                    obtain ⟨k, rfl, hkn⟩ := hfx2.out x (List.mem_of_getElem? hx)
                    obtain ⟨b3, o3, rfl, hb3', d0⟩ := (hO2.grownIn hG2 (.inr hwr)).sl.int_at hx
                    have hY := hid hx
                    have hj0 : (0 : Int) ≤ (j : Int) := by omega
                    have hj1 : (j : Int) < (m2 : Int) := by omega
                    have hk0 : (0 : Int) ≤ (k : Int) := by omega
                    have hkn1 : (k : Int) < (t.n : Int) := by omega
                    obtain ⟨ek, hek⟩ : ∃ ek : Nat, ek = 2 * k := ⟨_, rfl⟩
                    have heki : 2 * (k : Int) = (ek : Int) := by omega
                    have hekN : ek < N := by omega
                    have hek0 : (0 : Int) ≤ (ek : Int) := by omega
                    have hek1 : (ek : Int) < (N : Int) := by omega
                    have k0r := ((bcell hBW).1 _ 0 hwW).trans k0
                    have k1r := ((bcell hBW).1 _ 1 hwW).trans k1
                    have k2r := ((bcell hBW).1 _ 2 hwW).trans k2
                    have hwr' : w.heap.size < wr.heap.size := Nat.lt_of_lt_of_le hwW hBW.size
                    have hB2 := bel_refl wr
                    have hTr := hT.bel hBW
                    have hSr := hS.bel hBW
                    have hMr := hM.bel hBW
                    replace hek := hid hek
                    clear hx
                    rcases hbk : freeB t so ass (k : Int) with _ | _
                    · go_wp2_with fail
                      (refine wp_region_bel (by kernel_rfl) (by kernel_rfl) ?_; have hD := bel_cells hB2; (repeat (go_big_quiet_step (((go_at_call 41; exact calls_bel (l9FreeP t A B n c m d so ass (k : Int) false _ hbk (hTr.bel (Bel.prop _)) hg (hSr.bel (Bel.prop _)) hn (hMr.bel (Bel.prop _)) hm ⟨hk0, hkn1⟩)))))); refine wpQuiet_nil ?_; intro w1 hB1; replace hB2 := bel_trans hB2 hB1; obtain ⟨hC1, hF1⟩ := bcell hB2; clear hD; replace hB1 := hB1)
                      go_wp2_with fail
                      go_roundw
                      case rel => exact ⟨j + 1, LL, by omega, by go_num, hMt.bel hB2, hid (none_next hF.out hY.out (nearS_no hbk)), hG2.trans (grownIn_bel _ _ hB2)⟩
                      case measure => simp [intOf]; omega
                    · go_wp2_with fail
                      (refine wp_region_bel (by kernel_rfl) (by kernel_rfl) ?_; have hD := bel_cells hB2; (repeat (go_big_quiet_step (((go_at_call 41; exact calls_bel (l9FreeP t A B n c m d so ass (k : Int) true _ hbk (hTr.bel (Bel.prop _)) hg (hSr.bel (Bel.prop _)) hn (hMr.bel (Bel.prop _)) hm ⟨hk0, hkn1⟩)))))); refine wpQuiet_nil ?_; intro w1 hB1; replace hB2 := bel_trans hB2 hB1; obtain ⟨hC1, hF1⟩ := bcell hB2; clear hD; replace hB1 := hB1)
                      replace hMt := hMt.bel hB2
                      replace hG2 := hG2.trans (grownIn_bel _ _ hB2)
                      have hb3w : b3 < wr.heap.size := hb3'
                      have d2 := (hC1 b3 (o3 + j) hb3w).trans d0
                      have hN := hid (put_next hMt hF.out hY.out (by rw [nearS_yes (c := (i : Int)) hbk, Int.toNat_natCast, Int.toNat_natCast, ← ho0.out, ← hek.out]) ho0N hekN)
                      obtain ⟨hA1, hA2, hA3, ga, d1, hV, hne1, hga1, hga2, hga3, e0c, e1, hfz⟩ := hMt.at_ ho0N
                      have e2 := e1 ek hekN
                      have hw1 : IntKind.i64.wrap (e0 : Int) = (e0 : Int) := by rw [IntKind.wrap_i64]; omega
                      have hw2 : IntKind.i64.wrap (o0 : Int) = (o0 : Int) := by rw [IntKind.wrap_i64]; omega
                      have hw3 : IntKind.i64.wrap (ek : Int) = (ek : Int) := by rw [IntKind.wrap_i64]; omega
                      replace hV := hid hV
                      clear e1 k0r k1r k2r d0 hC1 hF1 hTr hSr hMr hBW hGx hB2 hF
                      go_wp2_with fail
                      (refine wp_region_plan (fun _ => True) (.free 0 (.free 1 (.free 2 (.free 3 (.free 4 (.here 5 (.free 6 (.free 7 (.free 8 (.here 9 (.free 10 (.free 11 (.one 12 (.stop)))))))))))))) (by kernel_rfl) (by kernel_rfl) trivial ?_; simp only [Plan.ops, List.getElem?_cons_zero, List.getElem?_cons_succ, Option.getD_some])
                      (iterate 5 (refine p_free rfl (by intro w' _; (go_simp; first | done | rfl)) ?_; (try simp only [Act.put, List.setIfInBounds_toArray, List.set_cons_zero, List.set_cons_succ])))
                      (iterate 1 (refine p_here rfl (by (go_simp; first | done | rfl)) ?_; (try simp only [Act.put, List.setIfInBounds_toArray, List.set_cons_zero, List.set_cons_succ])))
                      (iterate 3 (refine p_free rfl (by intro w' _; (go_simp; first | done | rfl)) ?_; (try simp only [Act.put, List.setIfInBounds_toArray, List.set_cons_zero, List.set_cons_succ])))
                      (iterate 1 (refine p_here rfl (by (go_simp; first | done | rfl)) ?_; (try simp only [Act.put, List.setIfInBounds_toArray, List.set_cons_zero, List.set_cons_succ])))
                      (iterate 2 (refine p_free rfl (by intro w' _; (go_simp; first | done | rfl)) ?_; (try simp only [Act.put, List.setIfInBounds_toArray, List.set_cons_zero, List.set_cons_succ])))
                      refine p_store rfl (by (go_simp; first | done | rfl)) trivial ?_
                      (try simp only [Act.put])
                      refine p_stop ?_
                      (try simp only [Act.put, List.setIfInBounds_toArray, List.set_cons_zero, List.set_cons_succ])
                      clear hw1 hw2 hw3
                      have hM4 := (hMt.bel (bel_drew (bel_refl w1))).put (y := ek) ho0N hV.out 1
                      have hG4 := grownIn_set (o := ek) (v := .int .i64 1) (hG2.trans (grownIn_bel _ _ (bel_drew (bel_refl w1)))) hga1 hga2
                      replace hM4 := hid hM4
                      replace hG4 := hid hG4
                      go_wp2_with fail
                      go_roundw
                      case rel => exact ⟨j + 1, _, by omega, by go_num, hM4.out, hN, hG4.out⟩
                      case measure => simp [intOf]; omega
                  · have hj1 : ¬ (j : Int) < (m2 : Int) := by omega
                    have hend := hid (show matF LL = ones ((List.range (i + 1)).flatMap (arcS t so ass)) from by
                      rw [hF.out, List.take_of_length_le (by rw [hlh2.out]; omega), arcS_yes hfr, ← hes3.out, ← hes2.out, ← hes.out, ← hxs.out, hb1.out, hb2.out, he0.out, ho0.out, hs2.out, ht2.out])
                    go_wp2_with fail
                    go_roundw
                    case rel => exact ⟨i + 1, LL, by omega, by go_num, hMt, hend, hGx⟩
                    case measure => simp [intOf]; omega
        · have hi1 : ¬ (i : Int) < (t.n : Int) := by omega
          have e : i = t.n := by omega
          rw [e] at hF
          clear hlt hi'
          go_wp2_with fail
          go_ret
          exact ⟨gA, c', LL, Vs, rfl, ⟨(hMt.own.low hbW.size).high hG.size, hMt.len, hMt.row⟩, hF.out, bel_trans hbW hBW⟩
end Go.Proofs.Ytcdgkiiokplidaa
