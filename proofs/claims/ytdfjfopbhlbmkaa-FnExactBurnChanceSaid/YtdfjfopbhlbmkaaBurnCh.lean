/-
  The chance that a cell burns: of the program and of the reference, walked.
-/
import Derived.Test.YtdfjfopbhlbmkaaChBurn
import Derived.OwnWalk
namespace Go.Proofs.Ytdfjfopbhlbmkaa
open Go.RowKit


def okB (t : Terr) (xs : List Scen) (so : List Int) (st tick cells : Int) : Bool := askB t xs so st && inB tick 0 9999 && inB cells 0 ((t.n : Int) - 1)
noncomputable def hitA (t : Terr) (xs : List Scen) (so : List Int) (st tick cells : Int) : (Int × Int) × Bool := chA (okB t xs so st tick cells) (hitP t so st tick cells) xs
theorem hitA_no {t : Terr} {xs : List Scen} {so : List Int} {st tick cells : Int} (h : okB t xs so st tick cells = false) : hitA t xs so st tick cells = ((0, 0), false) := by
  unfold hitA; rw [h]; rfl
theorem hitA_yes {t : Terr} {xs : List Scen} {so : List Int} {st tick cells : Int} (h : okB t xs so st tick cells = true) : hitA t xs so st tick cells = (fracA (sumN (chW (hitP t so st tick cells)) xs xs.length) (sumN wtN xs xs.length), true) := by
  unfold hitA; rw [h]; rfl
set_option maxHeartbeats 4000000 in
set_option maxRecDepth 100000 in
theorem hitScI (t : Terr) (A : Option Addr) (n c : Nat) (xs : List Scen) (B : Option Addr) (m d : Nat) (so : List Int) (st : Int) (tick cells : Int) (w : World) (hT : TOk w t) (ht : t.n ≤ 1048576) (hS : Sl w 2 A n c (xs.flatMap Scen.row)) (hO : ScOk w xs) (hN : ∀ (i : Nat) (x : Scen), xs[i]? = some x → x.n ≤ 1048576) (hn : n ≤ 1048576) (hM : Sl w 1 B m d (ints so)) (hm : m ≤ 1048576) :
    Calls Try.prog 34 #[.agg #[.int .i64 t.W, .int .i64 t.H, .slice t.A t.n t.c], .slice A n c, .slice B m d, .int .i64 st, .int .i64 tick, .int .i64 cells] w fun e w' => e = .returned (.tuple #[.int .i64 (hitA t xs so st tick cells).1.1, .int .i64 (hitA t xs so st tick cells).1.2, .bool (hitA t xs so st tick cells).2]) ∧ Below w.heap.size w w' := by
  have hlh := hid (hS.xs_len Scen.row_len (by omega))
  obtain ⟨Z, hZ⟩ : ∃ Z, (((((w.alloc (.cells #[.int .i64 t.W, .int .i64 t.H, .slice t.A t.n t.c] 30))).alloc (.cells #[.slice B m d] 22)).alloc (.cells #[.int .i64 st] 3)).alloc (.cells #[.int .i64 tick] 3)).alloc (.cells #[.int .i64 cells] 3) = Z := ⟨_, rfl⟩
  have hZb : Below w.heap.size w Z := by rw [← hZ]; exact bel_alloc (bel_alloc (bel_alloc (bel_alloc (bel_alloc (bel_refl w)))))
  have k0 : Z.cell? ⟨w.heap.size, 0, none⟩ = some (.int .i64 t.W) := by rw [← hZ]; simp [go_sem]
  have k1 : Z.cell? ⟨w.heap.size, 1, none⟩ = some (.int .i64 t.H) := by rw [← hZ]; simp [go_sem]
  have k2 : Z.cell? ⟨w.heap.size, 2, none⟩ = some (.slice t.A t.n t.c) := by rw [← hZ]; simp [go_sem]
  have c2 : Z.cell? ⟨w.heap.size + 1, 0, none⟩ = some (.slice B m d) := by rw [← hZ]; simp [go_sem]
  have c3 : Z.cell? ⟨w.heap.size + 1 + 1, 0, none⟩ = some (.int .i64 st) := by rw [← hZ]; simp [go_sem]
  have c4 : Z.cell? ⟨w.heap.size + 1 + 1 + 1, 0, none⟩ = some (.int .i64 tick) := by rw [← hZ]; simp [go_sem]
  have c5 : Z.cell? ⟨w.heap.size + 1 + 1 + 1 + 1, 0, none⟩ = some (.int .i64 cells) := by rw [← hZ]; simp [go_sem]
  have hzs : w.heap.size + 1 + 1 + 1 + 1 < Z.heap.size := by rw [← hZ]; simp
  have q1 : w.heap.size < Z.heap.size := by omega
  have q2 : w.heap.size + 1 < Z.heap.size := by omega
  have q3 : w.heap.size + 1 + 1 < Z.heap.size := by omega
  have q4 : w.heap.size + 1 + 1 + 1 < Z.heap.size := by omega
  have hTz := hT.bel hZb
  have hMz := hM.bel hZb
  have hSz := hS.bel hZb
  have hOz := hO.bel hZb
  have hB2 := bel_refl Z
  rcases hask : askB t xs so st with _ | _
  · have hR := hid (hitA_no (t := t) (xs := xs) (so := so) (st := st) (tick := tick) (cells := cells) (by rw [okB, hask]; rfl))
    go_enter Try.func34, Try.ntmps34
    go_wp2_with (go_at_call 45; (try rw [hZ]); refine (isBlaze t _ _ _ xs _ _ _ so st _ hTz ht hSz hOz hN hn hMz hm).mono ?_; rw [hask]; rintro _ w1 ⟨rfl, hB1⟩; replace hB2 := bel_trans hB2 hB1; obtain ⟨hC1, hF1⟩ := bcell hB2)
    go_ret3
    exact ⟨by rw [hR.out]; rfl, bel_trans hZb hB2⟩
  · rcases htk : inB tick 0 9999 with _ | _
    · have hR := hid (hitA_no (t := t) (xs := xs) (so := so) (st := st) (tick := tick) (cells := cells) (by rw [okB, hask, htk]; rfl))
      go_enter Try.func34, Try.ntmps34
      go_wp2_with (first | (go_at_call 45; (try rw [hZ]); refine (isBlaze t _ _ _ xs _ _ _ so st _ hTz ht hSz hOz hN hn hMz hm).mono ?_; rw [hask]; rintro _ w1 ⟨rfl, hB1⟩; replace hB2 := bel_trans hB2 hB1; obtain ⟨hC1, hF1⟩ := bcell hB2) | (go_at_call 46; refine (isTick tick _).mono ?_; rw [htk]; rintro _ w2 ⟨rfl, rfl⟩) | (go_at_call 61; refine (isCell t cells _ ht).mono ?_; rw [hcl]; rintro _ w6 ⟨rfl, hb6⟩; replace hB2 := bel_trans hB2 hb6; obtain ⟨hC1, hF1⟩ := bcell hB2))
      go_ret3
      exact ⟨by rw [hR.out]; rfl, bel_trans hZb hB2⟩
    · rcases hcl : inB cells 0 ((t.n : Int) - 1) with _ | _
      · have hR := hid (hitA_no (t := t) (xs := xs) (so := so) (st := st) (tick := tick) (cells := cells) (by rw [okB, hcl, Bool.and_false]))
        go_enter Try.func34, Try.ntmps34
        go_wp2_with (first | (go_at_call 45; (try rw [hZ]); refine (isBlaze t _ _ _ xs _ _ _ so st _ hTz ht hSz hOz hN hn hMz hm).mono ?_; rw [hask]; rintro _ w1 ⟨rfl, hB1⟩; replace hB2 := bel_trans hB2 hB1; obtain ⟨hC1, hF1⟩ := bcell hB2) | (go_at_call 46; refine (isTick tick _).mono ?_; rw [htk]; rintro _ w2 ⟨rfl, rfl⟩) | (go_at_call 61; refine (isCell t cells _ ht).mono ?_; rw [hcl]; rintro _ w6 ⟨rfl, hb6⟩; replace hB2 := bel_trans hB2 hb6; obtain ⟨hC1, hF1⟩ := bcell hB2))
        go_ret3
        exact ⟨by rw [hR.out]; rfl, bel_trans hZb hB2⟩
      · have hR := hid (hitA_yes (t := t) (xs := xs) (so := so) (st := st) (tick := tick) (cells := cells) (by rw [okB, hask, htk, hcl]; rfl))
        rw [hlh.out] at hR
        obtain ⟨hg, hens, hso, hst⟩ := askB_parts hask
        obtain ⟨-, -, hgs⟩ := ensB_parts hens
        have hpr : ∀ x ∈ xs, Sl Z 2 x.A x.n x.c (x.ps.flatMap Phase.row) ∧ x.n ≤ 1048576 ∧ goodSc x = true := fun x hx => by
          obtain ⟨i, hi⟩ := List.getElem?_of_mem hx
          exact ⟨hOz i x hi, hN i x hi, hgs i x hi⟩
        replace hpr := hid hpr
        go_enter Try.func34, Try.ntmps34
        go_wp2_with (first | (go_at_call 52; refine (chanceBurn _ _ _ xs _ _ _ _ _ (hitP t so st tick cells) _ (hSz.bel hB2) hens (fun x w' hx hb' => cloChance t x B m d so st tick cells _ _ _ _ _ w' ((hTz.bel hB2).bel hb') hg (((hpr.out x hx).1.bel hB2).bel hb') (hpr.out x hx).2.1 (hpr.out x hx).2.2 ((hMz.bel hB2).bel hb') hm hso hst (((bcell (bel_trans hB2 hb')).1 _ 0 q1).trans k0) (((bcell (bel_trans hB2 hb')).1 _ 1 q1).trans k1) (((bcell (bel_trans hB2 hb')).1 _ 2 q1).trans k2) (((bcell (bel_trans hB2 hb')).1 _ 0 q2).trans c2) (((bcell (bel_trans hB2 hb')).1 _ 0 q3).trans c3) (((bcell (bel_trans hB2 hb')).1 _ 0 q4).trans c4) (((bcell (bel_trans hB2 hb')).1 _ 0 hzs).trans c5))).mono ?_; rintro _ w3 ⟨rfl, hB3⟩) | (go_at_call 45; (try rw [hZ]); refine (isBlaze t _ _ _ xs _ _ _ so st _ hTz ht hSz hOz hN hn hMz hm).mono ?_; rw [hask]; rintro _ w1 ⟨rfl, hB1⟩; replace hB2 := bel_trans hB2 hB1; obtain ⟨hC1, hF1⟩ := bcell hB2) | (go_at_call 46; refine (isTick tick _).mono ?_; rw [htk]; rintro _ w2 ⟨rfl, rfl⟩) | (go_at_call 61; refine (isCell t cells _ ht).mono ?_; rw [hcl]; rintro _ w6 ⟨rfl, hb6⟩; replace hB2 := bel_trans hB2 hb6; obtain ⟨hC1, hF1⟩ := bcell hB2))
        go_ret3
        exact ⟨by rw [hR.out]; rfl, bel_trans hZb (bel_trans hB2 hB3)⟩
set_option maxHeartbeats 4000000 in
set_option maxRecDepth 100000 in
theorem hitScS (t : Terr) (A : Option Addr) (n c : Nat) (xs : List Scen) (B : Option Addr) (m d : Nat) (so : List Int) (st : Int) (tick cells : Int) (w : World) (hT : TOk w t) (ht : t.n ≤ 1048576) (hS : Sl w 2 A n c (xs.flatMap Scen.row)) (hO : ScOk w xs) (hN : ∀ (i : Nat) (x : Scen), xs[i]? = some x → x.n ≤ 1048576) (hn : n ≤ 1048576) (hM : Sl w 1 B m d (ints so)) (hm : m ≤ 1048576) :
    Calls Try.prog 33 #[.agg #[.int .i64 t.W, .int .i64 t.H, .slice t.A t.n t.c], .slice A n c, .slice B m d, .int .i64 st, .int .i64 tick, .int .i64 cells] w fun e w' => e = .returned (.tuple #[.int .i64 (hitA t xs so st tick cells).1.1, .int .i64 (hitA t xs so st tick cells).1.2, .bool (hitA t xs so st tick cells).2]) ∧ Below w.heap.size w w' := by
  have hlh := hid (hS.xs_len Scen.row_len (by omega))
  have hTz := (hT.bel (bel_alloc (o := .cells #[.int .i64 t.W, .int .i64 t.H, .slice t.A t.n t.c] 30) (bel_refl w)))
  have hMz := (hM.bel (bel_alloc (o := .cells #[.int .i64 t.W, .int .i64 t.H, .slice t.A t.n t.c] 30) (bel_refl w)))
  have hSz := (hS.bel (bel_alloc (o := .cells #[.int .i64 t.W, .int .i64 t.H, .slice t.A t.n t.c] 30) (bel_refl w)))
  have hOz := (hO.bel (bel_alloc (o := .cells #[.int .i64 t.W, .int .i64 t.H, .slice t.A t.n t.c] 30) (bel_refl w)))
  have hB2 := bel_refl (w.alloc (.cells #[.int .i64 t.W, .int .i64 t.H, .slice t.A t.n t.c] 30))
  rcases hask : askB t xs so st with _ | _
  · have hR := hid (hitA_no (t := t) (xs := xs) (so := so) (st := st) (tick := tick) (cells := cells) (by rw [okB, hask]; rfl))
    go_enter Try.func33, Try.ntmps33
    go_wp2_with (go_at_call 41; refine (l8Asked t _ _ _ xs _ _ _ so st _ hTz ht hSz hOz hN hn hMz hm).mono ?_; rw [hask]; rintro _ w1 ⟨rfl, hB1⟩; replace hB2 := bel_trans hB2 hB1; obtain ⟨hC1, hF1⟩ := bcell hB2)
    go_ret3
    exact ⟨by rw [hR.out]; rfl, bel_trans (bel_alloc (bel_refl w)) hB2⟩
  · rcases htk : inB tick 0 9999 with _ | _
    · have hR := hid (hitA_no (t := t) (xs := xs) (so := so) (st := st) (tick := tick) (cells := cells) (by rw [okB, hask, htk]; rfl))
      go_enter Try.func33, Try.ntmps33
      go_wp2_with (first | (go_at_call 41; refine (l8Asked t _ _ _ xs _ _ _ so st _ hTz ht hSz hOz hN hn hMz hm).mono ?_; rw [hask]; rintro _ w1 ⟨rfl, hB1⟩; replace hB2 := bel_trans hB2 hB1; obtain ⟨hC1, hF1⟩ := bcell hB2) | (go_at_call 42; refine (l4Tick tick _).mono ?_; rw [htk]; rintro _ w2 ⟨rfl, rfl⟩) | (go_at_call 59; refine (l2Cell t cells _ (hTz.bel hB2) ht).mono ?_; rw [(askB_parts hask).1, hcl]; rintro _ w6 ⟨rfl, hb6⟩; replace hB2 := bel_trans hB2 hb6))
      go_ret3
      exact ⟨by rw [hR.out]; rfl, bel_trans (bel_alloc (bel_refl w)) hB2⟩
    · rcases hcl : inB cells 0 ((t.n : Int) - 1) with _ | _
      · have hR := hid (hitA_no (t := t) (xs := xs) (so := so) (st := st) (tick := tick) (cells := cells) (by rw [okB, hcl, Bool.and_false]))
        go_enter Try.func33, Try.ntmps33
        go_wp2_with (first | (go_at_call 41; refine (l8Asked t _ _ _ xs _ _ _ so st _ hTz ht hSz hOz hN hn hMz hm).mono ?_; rw [hask]; rintro _ w1 ⟨rfl, hB1⟩; replace hB2 := bel_trans hB2 hB1; obtain ⟨hC1, hF1⟩ := bcell hB2) | (go_at_call 42; refine (l4Tick tick _).mono ?_; rw [htk]; rintro _ w2 ⟨rfl, rfl⟩) | (go_at_call 59; refine (l2Cell t cells _ (hTz.bel hB2) ht).mono ?_; rw [(askB_parts hask).1, hcl]; rintro _ w6 ⟨rfl, hb6⟩; replace hB2 := bel_trans hB2 hb6))
        go_ret3
        exact ⟨by rw [hR.out]; rfl, bel_trans (bel_alloc (bel_refl w)) hB2⟩
      · have hR := hid (hitA_yes (t := t) (xs := xs) (so := so) (st := st) (tick := tick) (cells := cells) (by rw [okB, hask, htk, hcl]; rfl))
        rw [hlh.out] at hR
        obtain ⟨hg, hens, hso, hst⟩ := askB_parts hask
        have htn := (goodT_bd hg).2.2.2.2.1
        obtain ⟨hl1, hl4, hgs⟩ := ensB_parts hens
        have hn4 : (n : Int) ≤ 4 := by have := hlh.out; omega
        have hsb := hid (sumN_bd (f := wtN) (xs := xs) (k := 100) (fun i x hx => by have := goodSc_parts (hgs i x hx); unfold wtN; omega))
        have hmb := hid (sumN_bd (f := chW (hitP t so st tick cells)) (xs := xs) (k := 100) (fun i x hx => chW_bd (hgs i x hx)))
        have hwp : Hid (0 < sumN wtN xs n) := by have := wt_pos hens; rw [hlh.out] at this; exact this
        have hgs := hid hgs
        replace hens := hid hens
        clear hl1 hl4
        obtain ⟨p, hpd⟩ : ∃ p, hitP t so st tick cells = p := ⟨_, rfl⟩
        rw [hpd] at hR hmb
        have hpv : Hid (∀ x, ((burnL t x.ps so st tick).any fun y => y == cells) = p x) := fun x => by rw [← hpd]; rfl
        clear hpd
        go_enter Try.func33, Try.ntmps33
        go_wp2_with (first | (go_at_call 41; refine (l8Asked t _ _ _ xs _ _ _ so st _ hTz ht hSz hOz hN hn hMz hm).mono ?_; rw [hask]; rintro _ w1 ⟨rfl, hB1⟩; replace hB2 := bel_trans hB2 hB1; obtain ⟨hC1, hF1⟩ := bcell hB2) | (go_at_call 42; refine (l4Tick tick _).mono ?_; rw [htk]; rintro _ w2 ⟨rfl, rfl⟩) | (go_at_call 59; refine (l2Cell t cells _ (hTz.bel hB2) ht).mono ?_; rw [(askB_parts hask).1, hcl]; rintro _ w6 ⟨rfl, hb6⟩; replace hB2 := bel_trans hB2 hb6))
        clear hask htk
        go_loopw [15, 16] (fun q v wr => ∃ i : Nat, i ≤ n ∧ v = .int .i64 i ∧ q = .int .i64 (sumN (chW p) xs i : Nat) ∧ Below ((w.alloc (.cells #[.int .i64 t.W, .int .i64 t.H, .slice t.A t.n t.c] 30))).heap.size ((w.alloc (.cells #[.int .i64 t.W, .int .i64 t.H, .slice t.A t.n t.c] 30))) wr) (fun _ v _ => n - (intOf v).toNat)
        case atStart => exact ⟨0, by omega, rfl, by simp [sumN], hB2⟩
        case round =>
          clear hB2
          obtain ⟨i, hi', rfl, rfl, hBo⟩ := hrel
          have hs1 := hmb.out i
          have hs3 : sumN (chW p) xs i ≤ 400 := by omega
          clear hs1
          by_cases hlt : i < n
          · obtain ⟨x, hx⟩ : ∃ x, xs[i]? = some x := get_of_lt (by rw [hlh.out]; exact hlt)
            obtain ⟨b, o, rfl, hb, c0, c1⟩ := (hSz.bel hBo).scen hx
            have hph := hOz i x hx
            have hxn := hid (hN i x hx)
            have hgx := hid (hgs.out i x hx)
            have hwx := (goodSc_parts hgx.out).2
            have hN1 := hid (sumN_next (f := chW p) hx)
            clear hx
            have hi0 : (0 : Int) ≤ (i : Int) := by omega
            have hi1 : (i : Int) < (n : Int) := by omega
            obtain ⟨S, hSd⟩ : ∃ S, sumN (chW p) xs i = S := ⟨_, rfl⟩
            rw [hSd] at hN1 hs3 ⊢
            obtain ⟨k0, k1, k2⟩ := box_at hBo
            have hpx := hpv.out x
            have hkb : Hid (∀ k : Nat, k = cntS t so st tick x → k ≤ 1048576) := fun k hk => by
              have h2 := cntS_le t so st tick x
              omega
            have hsz := hBo.size
            have hgw : w.heap.size < wr.heap.size := by simp at hsz; omega
            clear hsz
            have hB2 := bel_refl wr
            rcases hc : p x with _ | _
            · have hq : Hid (chW p x = 0) := by show _ = _; unfold chW; rw [hc]; rfl
              rw [hc] at hpx
              go_wp2_with fail; (refine wp_region_planB (.free 0 (.free 1 (.free 2 (.free 3 (.free 4 (.free 5 (.free 6 (.free 7 (.free 9 (.one 8 (.one 10 (.stop)))))))))))) (by kernel_rfl) (by kernel_rfl) ?_; have hD := bel_cells hB2; simp only [Plan.ops, List.getElem?_cons_zero, List.getElem?_cons_succ, Option.getD_some]); (iterate 9 (refine p_free rfl (by rintro w' ⟨d, rfl⟩; obtain ⟨hDc, hDf⟩ := hD d; (go_simp; first | done | rfl)) ?_; (try simp only [Act.put, List.setIfInBounds_toArray, List.set_cons_zero, List.set_cons_succ]))); refine p_call rfl (by (go_simp; first | done | exact ⟨rfl, rfl⟩ | rfl)) ?_; refine (l8Burned t x B m d so st tick _ ((hTz.bel hBo).bel (bel_drew (bel_refl _))) hg ((hph.bel hBo).bel (bel_drew (bel_refl _))) hxn.out hgx.out ((hMz.bel hBo).bel (bel_drew (bel_refl _))) hm hso hst).mono ?_; rintro _ w2 ⟨A2, k, c3, rfl, hO2, hB3⟩; have hk : k ≤ 1048576 := hkb.out _ (cnt_own hO2); have hBz := bel_trans (bel_drew (bel_refl _)) hB3; refine ⟨_, rfl, ⟨⟨_, hBz⟩, rfl⟩, ?_⟩; obtain ⟨hC1, hF1⟩ := bcell hBz; (try simp only [Act.put, List.setIfInBounds_toArray, List.set_cons_zero, List.set_cons_succ]); refine p_call rfl (by (go_simp; first | done | exact ⟨rfl, rfl⟩ | rfl)) ?_; refine (l1Has _ _ _ _ cells _ hO2.sl hk).mono ?_; rw [hpx]; rintro _ w3 ⟨rfl, rfl⟩; refine ⟨_, rfl, ⟨⟨_, hBz⟩, rfl⟩, ?_⟩; (try simp only [Act.put, List.setIfInBounds_toArray, List.set_cons_zero, List.set_cons_succ]); refine p_stop ?_; (try simp only [Act.put, List.setIfInBounds_toArray, List.set_cons_zero, List.set_cons_succ]); replace hBo := bel_trans hBo hBz
              go_wp2_with fail
              go_roundw
              case rel => exact ⟨i + 1, by omega, by go_num, by rw [hN1.out, hq.out]; rfl, hBo⟩
              case measure => simp [intOf]; omega
            · have hq : Hid (chW p x = wtN x) := by show _ = _; unfold chW; rw [hc]; rfl
              rw [hc] at hpx
              go_wp2_with fail; (refine wp_region_planB (.free 0 (.free 1 (.free 2 (.free 3 (.free 4 (.free 5 (.free 6 (.free 7 (.free 9 (.one 8 (.one 10 (.stop)))))))))))) (by kernel_rfl) (by kernel_rfl) ?_; have hD := bel_cells hB2; simp only [Plan.ops, List.getElem?_cons_zero, List.getElem?_cons_succ, Option.getD_some]); (iterate 9 (refine p_free rfl (by rintro w' ⟨d, rfl⟩; obtain ⟨hDc, hDf⟩ := hD d; (go_simp; first | done | rfl)) ?_; (try simp only [Act.put, List.setIfInBounds_toArray, List.set_cons_zero, List.set_cons_succ]))); refine p_call rfl (by (go_simp; first | done | exact ⟨rfl, rfl⟩ | rfl)) ?_; refine (l8Burned t x B m d so st tick _ ((hTz.bel hBo).bel (bel_drew (bel_refl _))) hg ((hph.bel hBo).bel (bel_drew (bel_refl _))) hxn.out hgx.out ((hMz.bel hBo).bel (bel_drew (bel_refl _))) hm hso hst).mono ?_; rintro _ w2 ⟨A2, k, c3, rfl, hO2, hB3⟩; have hk : k ≤ 1048576 := hkb.out _ (cnt_own hO2); have hBz := bel_trans (bel_drew (bel_refl _)) hB3; refine ⟨_, rfl, ⟨⟨_, hBz⟩, rfl⟩, ?_⟩; obtain ⟨hC1, hF1⟩ := bcell hBz; (try simp only [Act.put, List.setIfInBounds_toArray, List.set_cons_zero, List.set_cons_succ]); refine p_call rfl (by (go_simp; first | done | exact ⟨rfl, rfl⟩ | rfl)) ?_; refine (l1Has _ _ _ _ cells _ hO2.sl hk).mono ?_; rw [hpx]; rintro _ w3 ⟨rfl, rfl⟩; refine ⟨_, rfl, ⟨⟨_, hBz⟩, rfl⟩, ?_⟩; (try simp only [Act.put, List.setIfInBounds_toArray, List.set_cons_zero, List.set_cons_succ]); refine p_stop ?_; (try simp only [Act.put, List.setIfInBounds_toArray, List.set_cons_zero, List.set_cons_succ]); replace hBo := bel_trans hBo hBz
              go_wp2_with fail
              go_roundw
              case rel => exact ⟨i + 1, by omega, by go_num, by rw [hN1.out, hq.out]; congr 1; unfold wtN; omega, hBo⟩
              case measure => simp [intOf]; omega
          · have hi1 : ¬ (i : Int) < (n : Int) := by omega
            have e : i = n := by omega
            subst e
            have hs2 := hsb.out i
            have hs4 : sumN wtN xs i ≤ 400 := by omega
            clear hs2
            go_wp2_with (first | (go_at_call 50; refine (l8All _ _ _ xs _ (hSz.bel hBo) hens.out).mono ?_; rw [hlh.out]; rintro _ w7 ⟨rfl, rfl⟩) | (go_at_call 49; refine (l8Reduce _ _ _ (by omega) (by omega) hwp.out).mono ?_; rintro _ w8 ⟨rfl, hB8⟩))
            go_ret3
            exact ⟨by rw [hR.out]; rfl, bel_trans (bel_alloc (bel_refl w)) (bel_trans hBo hB8)⟩
end Go.Proofs.Ytdfjfopbhlbmkaa
