/-
  The mean number of burned cells: of the program and of the reference, walked.
-/
import Derived.Test.YtdfjfopbhlbmkaaFrac
import Derived.OwnWalk
namespace Go.Proofs.Ytdfjfopbhlbmkaa
open Go.RowKit


noncomputable def meanN (t : Terr) (so : List Int) (st tick : Int) (x : Scen) : Nat := x.weight.toNat * cntS t so st tick x
noncomputable def meanA (t : Terr) (xs : List Scen) (so : List Int) (st tick : Int) : (Int × Int) × Bool := if askB t xs so st && inB tick 0 9999 then (fracA (sumN (meanN t so st tick) xs xs.length) (sumN wtN xs xs.length), true) else ((0, 0), false)
theorem meanN_bd {t : Terr} {so : List Int} {st tick : Int} {x : Scen} (hx : goodSc x = true) (hn : t.n ≤ 25) : meanN t so st tick x ≤ 2500 := by
  have h1 := goodSc_parts hx
  have h2 := cntS_le t so st tick x
  exact Nat.mul_le_mul (show x.weight.toNat ≤ 100 by omega) (show cntS t so st tick x ≤ 25 by omega)
theorem ret3 {a b c a' b' c' : Value} (h : a = a') (h1 : b = b') (h2 : c = c') : Ending.returned (.tuple #[a, b, c]) = .returned (.tuple #[a', b', c']) := by rw [h, h1, h2]
set_option maxHeartbeats 4000000 in
set_option maxRecDepth 100000 in
theorem meanScI (t : Terr) (A : Option Addr) (n c : Nat) (xs : List Scen) (B : Option Addr) (m d : Nat) (so : List Int) (st : Int) (tick : Int) (w : World) (hT : TOk w t) (ht : t.n ≤ 1048576) (hS : Sl w 2 A n c (xs.flatMap Scen.row)) (hO : ScOk w xs) (hN : ∀ (i : Nat) (x : Scen), xs[i]? = some x → x.n ≤ 1048576) (hn : n ≤ 1048576) (hM : Sl w 1 B m d (ints so)) (hm : m ≤ 1048576) :
    Calls Try.prog 22 #[.agg #[.int .i64 t.W, .int .i64 t.H, .slice t.A t.n t.c], .slice A n c, .slice B m d, .int .i64 st, .int .i64 tick] w fun e w' => e = .returned (.tuple #[.int .i64 (meanA t xs so st tick).1.1, .int .i64 (meanA t xs so st tick).1.2, .bool (meanA t xs so st tick).2]) ∧ Below w.heap.size w w' := by
  have hlh := hid (hS.xs_len Scen.row_len (by omega))
  have hTz := (hT.bel (bel_alloc (o := .cells #[.int .i64 t.W, .int .i64 t.H, .slice t.A t.n t.c] 30) (bel_refl w)))
  have hMz := (hM.bel (bel_alloc (o := .cells #[.int .i64 t.W, .int .i64 t.H, .slice t.A t.n t.c] 30) (bel_refl w)))
  have hSz := (hS.bel (bel_alloc (o := .cells #[.int .i64 t.W, .int .i64 t.H, .slice t.A t.n t.c] 30) (bel_refl w)))
  have hOz := (hO.bel (bel_alloc (o := .cells #[.int .i64 t.W, .int .i64 t.H, .slice t.A t.n t.c] 30) (bel_refl w)))
  have hB2 := bel_refl (w.alloc (.cells #[.int .i64 t.W, .int .i64 t.H, .slice t.A t.n t.c] 30))
  rcases hask : askB t xs so st with _ | _
  · have hR : Hid (meanA t xs so st tick = ((0, 0), false)) := by show _ = _; rw [meanA, hask]; rfl
    go_enter Try.func22, Try.ntmps22
    go_wp2_with (go_at_call 45; refine (isBlaze t _ _ _ xs _ _ _ so st _ hTz ht hSz hOz hN hn hMz hm).mono ?_; rw [hask]; rintro _ w1 ⟨rfl, hB1⟩; replace hB2 := bel_trans hB2 hB1)
    go_ret3
    exact ⟨by rw [hR.out]; rfl, bel_trans (bel_alloc (bel_refl w)) hB2⟩
  · rcases htk : inB tick 0 9999 with _ | _
    · have hR : Hid (meanA t xs so st tick = ((0, 0), false)) := by show _ = _; rw [meanA, hask, htk]; rfl
      go_enter Try.func22, Try.ntmps22
      go_wp2_with (first | (go_at_call 45; refine (isBlaze t _ _ _ xs _ _ _ so st _ hTz ht hSz hOz hN hn hMz hm).mono ?_; rw [hask]; rintro _ w1 ⟨rfl, hB1⟩; replace hB2 := bel_trans hB2 hB1) | (go_at_call 46; refine (isTick tick _).mono ?_; rw [htk]; rintro _ w2 ⟨rfl, rfl⟩))
      go_ret3
      exact ⟨by rw [hR.out]; rfl, bel_trans (bel_alloc (bel_refl w)) hB2⟩
    · have hR : Hid (meanA t xs so st tick = (fracA (sumN (meanN t so st tick) xs n) (sumN wtN xs n), true)) := by show _ = _; rw [meanA, hask, htk, hlh.out]; rfl
      obtain ⟨hg, hens, hso, hst⟩ := askB_parts hask
      have htn := (goodT_bd hg).2.2.2.2.1
      obtain ⟨hl1, hl4, hgs⟩ := ensB_parts hens
      have hn4 : (n : Int) ≤ 4 := by have := hlh.out; omega
      have hsb := hid (sumN_bd (f := wtN) (xs := xs) (k := 100) (fun i x hx => by have := goodSc_parts (hgs i x hx); unfold wtN; omega))
      have hmb := hid (sumN_bd (f := meanN t so st tick) (xs := xs) (k := 2500) (fun i x hx => meanN_bd (hgs i x hx) htn))
      have hwp : Hid (0 < sumN wtN xs n) := by have := wt_pos hens; rw [hlh.out] at this; exact this
      have hgs := hid hgs
      replace hens := hid hens
      clear hl1 hl4
      go_enter Try.func22, Try.ntmps22
      go_wp2_with (first | (go_at_call 45; refine (isBlaze t _ _ _ xs _ _ _ so st _ hTz ht hSz hOz hN hn hMz hm).mono ?_; rw [hask]; rintro _ w1 ⟨rfl, hB1⟩; replace hB2 := bel_trans hB2 hB1) | (go_at_call 46; refine (isTick tick _).mono ?_; rw [htk]; rintro _ w2 ⟨rfl, rfl⟩))
      clear hask htk
      go_loopw [13, 14, 30] (fun q u v wr => ∃ i : Nat, i ≤ n ∧ v = .int .i64 i ∧ q = .int .i64 (sumN (meanN t so st tick) xs i : Nat) ∧ u = .int .i64 (sumN wtN xs i : Nat) ∧ Below ((w.alloc (.cells #[.int .i64 t.W, .int .i64 t.H, .slice t.A t.n t.c] 30))).heap.size ((w.alloc (.cells #[.int .i64 t.W, .int .i64 t.H, .slice t.A t.n t.c] 30))) wr) (fun _ _ v _ => n - (intOf v).toNat)
      case atStart => exact ⟨0, by omega, rfl, by simp [sumN], by simp [sumN], hB2⟩
      case round =>
        clear hB2
        obtain ⟨i, hi', rfl, rfl, rfl, hBo⟩ := hrel
        by_cases hlt : i < n
        · obtain ⟨x, hx⟩ : ∃ x, xs[i]? = some x := get_of_lt (by rw [hlh.out]; exact hlt)
          obtain ⟨b, o, rfl, hb, c0, c1⟩ := (hSz.bel hBo).scen hx
          have hph := hOz i x hx
          have hxn := hid (hN i x hx)
          have hgx := hid (hgs.out i x hx)
          have hwx := (goodSc_parts hgx.out).2
          have hN1 := hid (sumN_next (f := meanN t so st tick) hx)
          have hN2 := hid (sumN_next (f := wtN) hx)
          have hs1 := hmb.out i
          have hs2 := hsb.out i
          clear hx
          have hi0 : (0 : Int) ≤ (i : Int) := by omega
          have hi1 : (i : Int) < (n : Int) := by omega
          have hs3 : sumN (meanN t so st tick) xs i ≤ 10000 := by omega
          have hs4 : sumN wtN xs i ≤ 400 := by omega
          clear hs1 hs2
          obtain ⟨S, hSd⟩ : ∃ S, sumN (meanN t so st tick) xs i = S := ⟨_, rfl⟩
          obtain ⟨U, hUd⟩ : ∃ U, sumN wtN xs i = U := ⟨_, rfl⟩
          rw [hSd] at hN1 hs3 ⊢
          rw [hUd] at hN2 hs4
          try rw [hUd]
          obtain ⟨k0, k1, k2⟩ := box_at hBo
          obtain ⟨N, hN0⟩ : ∃ N : Nat, cntS t so st tick x = N := ⟨_, rfl⟩
          have hNb : N ≤ 25 := by have := cntS_le t so st tick x; omega
          have hmn : Hid ((meanN t so st tick x : Int) = x.weight * (N : Int)) := by
            show _ = _
            unfold meanN
            rw [hN0]
            push_cast
            rw [Int.toNat_of_nonneg (by omega)]
          have hpb : 0 ≤ x.weight * (N : Int) ∧ x.weight * (N : Int) ≤ 2500 := by
            constructor
            · exact Int.mul_nonneg (by omega) (by omega)
            · exact Int.mul_le_mul (b := (N : Int)) (c := 100) (d := 25) hwx.2 (by omega) (by omega) (by omega)
          have hw1 : IntKind.i64.wrap (x.weight * (N : Int)) = x.weight * (N : Int) := IntWalk.i64_in _ (by omega)
          have hw2 : IntKind.i64.wrap ((S : Int) + x.weight * (N : Int)) = (S : Int) + x.weight * (N : Int) := IntWalk.i64_in _ (by omega)
          have hsz := hBo.size
          have hgw : w.heap.size < wr.heap.size := by simp at hsz; omega
          clear hsz
          replace hN0 := hid hN0
          obtain ⟨Z, hZ⟩ : ∃ Z, wr.alloc (.cells #[.slice x.A x.n x.c, .int .i64 x.weight] 57) = Z := ⟨_, rfl⟩
          have hZb : Below wr.heap.size wr Z := by rw [← hZ]; first | exact bel_refl _ | exact bel_alloc (bel_refl _)
          have e0 : Z.cell? ⟨wr.heap.size, 0, none⟩ = some (.slice x.A x.n x.c) := by rw [← hZ]; simp [go_sem]
          have e1 : Z.cell? ⟨wr.heap.size, 1, none⟩ = some (.int .i64 x.weight) := by rw [← hZ]; simp [go_sem]
          have hzs : wr.heap.size < Z.heap.size := by rw [← hZ]; simp
          have hgz : w.heap.size < Z.heap.size := by omega
          replace k0 := ((bcell hZb).1 _ 0 hgw).trans k0
          replace k1 := ((bcell hZb).1 _ 1 hgw).trans k1
          replace k2 := ((bcell hZb).1 _ 2 hgw).trans k2
          have hB2 := bel_refl Z
          go_wp2_with fail; (try rw [hZ]); (refine wp_region_planB (.free 0 (.free 1 (.free 2 (.free 3 (.free 4 (.free 5 (.free 6 (.free 7 (.free 8 (.one 9 (.free 10 (.free 11 (.free 12 (.free 13 (.stop))))))))))))))) (by kernel_rfl) (by kernel_rfl) ?_; have hD := bel_cells hB2; simp only [Plan.ops, List.getElem?_cons_zero, List.getElem?_cons_succ, Option.getD_some]); (iterate 9 (refine p_free rfl (by rintro w' ⟨d, rfl⟩; obtain ⟨hDc, hDf⟩ := hD d; (go_simp; first | done | rfl)) ?_; (try simp only [Act.put, List.setIfInBounds_toArray, List.set_cons_zero, List.set_cons_succ]))); refine p_call rfl (by (go_simp; first | done | exact ⟨rfl, rfl⟩ | rfl)) ?_; refine (burned t x.A x.n x.c x.ps B m d so st _ (((hTz.bel hBo).bel hZb).bel (bel_drew (bel_refl _))) hg (((hph.bel hBo).bel hZb).bel (bel_drew (bel_refl _))) hxn.out (goodSc_parts hgx.out).1 (((hMz.bel hBo).bel hZb).bel (bel_drew (bel_refl _))) hm hso hst tick).mono ?_; rintro _ w2 ⟨A2, k, c3, rfl, hO2, hB3⟩; obtain rfl : k = N := (cnt_own hO2).trans hN0.out; have hBz := bel_trans (bel_drew (bel_refl _)) hB3; refine ⟨_, rfl, ⟨⟨_, hBz⟩, rfl⟩, ?_⟩; (try simp only [Act.put, List.setIfInBounds_toArray, List.set_cons_zero, List.set_cons_succ]); (iterate 4 (refine p_free rfl (by rintro w' ⟨d, rfl⟩; obtain ⟨hDc, hDf⟩ := hD d; (go_simp; first | done | rfl)) ?_; (try simp only [Act.put, List.setIfInBounds_toArray, List.set_cons_zero, List.set_cons_succ]))); refine p_stop ?_; (try simp only [Act.put, List.setIfInBounds_toArray, List.set_cons_zero, List.set_cons_succ]); replace hBo := bel_trans (bel_trans hBo hZb) hBz; obtain ⟨hC1, hF1⟩ := bcell hBz
          go_wp2_with fail
          go_roundw
          case rel => exact ⟨i + 1, by omega, by go_num, by rw [hN1.out]; congr 1; push_cast; rw [hmn.out], by rw [hN2.out]; congr 1; unfold wtN; omega, hBo⟩
          case measure => simp [intOf]; omega
        · have hi1 : ¬ (i : Int) < (n : Int) := by omega
          have e : i = n := by omega
          subst e
          have hs1 := hmb.out i
          have hs2 := hsb.out i
          have hs3 : sumN (meanN t so st tick) xs i ≤ 10000 := by omega
          have hs4 : sumN wtN xs i ≤ 400 := by omega
          clear hs1 hs2
          go_wp2_with (go_at_call 51; refine (fraction _ _ _ (by omega) (by omega) hwp.out).mono ?_; rintro _ w8 ⟨rfl, hB8⟩)
          go_ret3
          exact ⟨by rw [hR.out]; rfl, bel_trans (bel_alloc (bel_refl w)) (bel_trans hBo hB8)⟩
set_option maxHeartbeats 4000000 in
set_option maxRecDepth 100000 in
theorem meanScS (t : Terr) (A : Option Addr) (n c : Nat) (xs : List Scen) (B : Option Addr) (m d : Nat) (so : List Int) (st : Int) (tick : Int) (w : World) (hT : TOk w t) (ht : t.n ≤ 1048576) (hS : Sl w 2 A n c (xs.flatMap Scen.row)) (hO : ScOk w xs) (hN : ∀ (i : Nat) (x : Scen), xs[i]? = some x → x.n ≤ 1048576) (hn : n ≤ 1048576) (hM : Sl w 1 B m d (ints so)) (hm : m ≤ 1048576) :
    Calls Try.prog 21 #[.agg #[.int .i64 t.W, .int .i64 t.H, .slice t.A t.n t.c], .slice A n c, .slice B m d, .int .i64 st, .int .i64 tick] w fun e w' => e = .returned (.tuple #[.int .i64 (meanA t xs so st tick).1.1, .int .i64 (meanA t xs so st tick).1.2, .bool (meanA t xs so st tick).2]) ∧ Below w.heap.size w w' := by
  have hlh := hid (hS.xs_len Scen.row_len (by omega))
  have hTz := (hT.bel (bel_alloc (o := .cells #[.int .i64 t.W, .int .i64 t.H, .slice t.A t.n t.c] 30) (bel_refl w)))
  have hMz := (hM.bel (bel_alloc (o := .cells #[.int .i64 t.W, .int .i64 t.H, .slice t.A t.n t.c] 30) (bel_refl w)))
  have hSz := (hS.bel (bel_alloc (o := .cells #[.int .i64 t.W, .int .i64 t.H, .slice t.A t.n t.c] 30) (bel_refl w)))
  have hOz := (hO.bel (bel_alloc (o := .cells #[.int .i64 t.W, .int .i64 t.H, .slice t.A t.n t.c] 30) (bel_refl w)))
  have hB2 := bel_refl (w.alloc (.cells #[.int .i64 t.W, .int .i64 t.H, .slice t.A t.n t.c] 30))
  rcases hask : askB t xs so st with _ | _
  · have hR : Hid (meanA t xs so st tick = ((0, 0), false)) := by show _ = _; rw [meanA, hask]; rfl
    go_enter Try.func21, Try.ntmps21
    go_wp2_with (go_at_call 41; refine (l8Asked t _ _ _ xs _ _ _ so st _ hTz ht hSz hOz hN hn hMz hm).mono ?_; rw [hask]; rintro _ w1 ⟨rfl, hB1⟩; replace hB2 := bel_trans hB2 hB1)
    go_ret3
    exact ⟨by rw [hR.out]; rfl, bel_trans (bel_alloc (bel_refl w)) hB2⟩
  · rcases htk : inB tick 0 9999 with _ | _
    · have hR : Hid (meanA t xs so st tick = ((0, 0), false)) := by show _ = _; rw [meanA, hask, htk]; rfl
      go_enter Try.func21, Try.ntmps21
      go_wp2_with (first | (go_at_call 41; refine (l8Asked t _ _ _ xs _ _ _ so st _ hTz ht hSz hOz hN hn hMz hm).mono ?_; rw [hask]; rintro _ w1 ⟨rfl, hB1⟩; replace hB2 := bel_trans hB2 hB1) | (go_at_call 42; refine (l4Tick tick _).mono ?_; rw [htk]; rintro _ w2 ⟨rfl, rfl⟩))
      go_ret3
      exact ⟨by rw [hR.out]; rfl, bel_trans (bel_alloc (bel_refl w)) hB2⟩
    · have hR : Hid (meanA t xs so st tick = (fracA (sumN (meanN t so st tick) xs n) (sumN wtN xs n), true)) := by show _ = _; rw [meanA, hask, htk, hlh.out]; rfl
      obtain ⟨hg, hens, hso, hst⟩ := askB_parts hask
      have htn := (goodT_bd hg).2.2.2.2.1
      obtain ⟨hl1, hl4, hgs⟩ := ensB_parts hens
      have hn4 : (n : Int) ≤ 4 := by have := hlh.out; omega
      have hsb := hid (sumN_bd (f := wtN) (xs := xs) (k := 100) (fun i x hx => by have := goodSc_parts (hgs i x hx); unfold wtN; omega))
      have hmb := hid (sumN_bd (f := meanN t so st tick) (xs := xs) (k := 2500) (fun i x hx => meanN_bd (hgs i x hx) htn))
      have hwp : Hid (0 < sumN wtN xs n) := by have := wt_pos hens; rw [hlh.out] at this; exact this
      have hgs := hid hgs
      replace hens := hid hens
      clear hl1 hl4
      go_enter Try.func21, Try.ntmps21
      go_wp2_with (first | (go_at_call 41; refine (l8Asked t _ _ _ xs _ _ _ so st _ hTz ht hSz hOz hN hn hMz hm).mono ?_; rw [hask]; rintro _ w1 ⟨rfl, hB1⟩; replace hB2 := bel_trans hB2 hB1) | (go_at_call 42; refine (l4Tick tick _).mono ?_; rw [htk]; rintro _ w2 ⟨rfl, rfl⟩))
      clear hask htk
      go_loopw [13, 14] (fun q v wr => ∃ i : Nat, i ≤ n ∧ v = .int .i64 i ∧ q = .int .i64 (sumN (meanN t so st tick) xs i : Nat) ∧ Below ((w.alloc (.cells #[.int .i64 t.W, .int .i64 t.H, .slice t.A t.n t.c] 30))).heap.size ((w.alloc (.cells #[.int .i64 t.W, .int .i64 t.H, .slice t.A t.n t.c] 30))) wr) (fun _ v _ => n - (intOf v).toNat)
      case atStart => exact ⟨0, by omega, rfl, by simp [sumN], hB2⟩
      case round =>
        clear hB2
        obtain ⟨i, hi', rfl, rfl, hBo⟩ := hrel
        by_cases hlt : i < n
        · obtain ⟨x, hx⟩ : ∃ x, xs[i]? = some x := get_of_lt (by rw [hlh.out]; exact hlt)
          obtain ⟨b, o, rfl, hb, c0, c1⟩ := (hSz.bel hBo).scen hx
          have hph := hOz i x hx
          have hxn := hid (hN i x hx)
          have hgx := hid (hgs.out i x hx)
          have hwx := (goodSc_parts hgx.out).2
          have hN1 := hid (sumN_next (f := meanN t so st tick) hx)
          have hN2 := hid (sumN_next (f := wtN) hx)
          have hs1 := hmb.out i
          have hs2 := hsb.out i
          clear hx
          have hi0 : (0 : Int) ≤ (i : Int) := by omega
          have hi1 : (i : Int) < (n : Int) := by omega
          have hs3 : sumN (meanN t so st tick) xs i ≤ 10000 := by omega
          have hs4 : sumN wtN xs i ≤ 400 := by omega
          clear hs1 hs2
          obtain ⟨S, hSd⟩ : ∃ S, sumN (meanN t so st tick) xs i = S := ⟨_, rfl⟩
          obtain ⟨U, hUd⟩ : ∃ U, sumN wtN xs i = U := ⟨_, rfl⟩
          rw [hSd] at hN1 hs3 ⊢
          rw [hUd] at hN2 hs4
          try rw [hUd]
          obtain ⟨k0, k1, k2⟩ := box_at hBo
          obtain ⟨N, hN0⟩ : ∃ N : Nat, cntS t so st tick x = N := ⟨_, rfl⟩
          have hNb : N ≤ 25 := by have := cntS_le t so st tick x; omega
          have hmn : Hid ((meanN t so st tick x : Int) = x.weight * (N : Int)) := by
            show _ = _
            unfold meanN
            rw [hN0]
            push_cast
            rw [Int.toNat_of_nonneg (by omega)]
          have hpb : 0 ≤ x.weight * (N : Int) ∧ x.weight * (N : Int) ≤ 2500 := by
            constructor
            · exact Int.mul_nonneg (by omega) (by omega)
            · exact Int.mul_le_mul (b := (N : Int)) (c := 100) (d := 25) hwx.2 (by omega) (by omega) (by omega)
          have hw1 : IntKind.i64.wrap (x.weight * (N : Int)) = x.weight * (N : Int) := IntWalk.i64_in _ (by omega)
          have hw2 : IntKind.i64.wrap ((S : Int) + x.weight * (N : Int)) = (S : Int) + x.weight * (N : Int) := IntWalk.i64_in _ (by omega)
          have hsz := hBo.size
          have hgw : w.heap.size < wr.heap.size := by simp at hsz; omega
          clear hsz
          replace hN0 := hid hN0
          obtain ⟨Z, hZ⟩ : ∃ Z, wr = Z := ⟨_, rfl⟩
          have hZb : Below wr.heap.size wr Z := by rw [← hZ]; first | exact bel_refl _ | exact bel_alloc (bel_refl _)
          subst hZ
          have hB2 := bel_refl wr
          go_wp2_with fail; (refine wp_region_planB (.free 0 (.free 1 (.free 2 (.free 3 (.free 4 (.free 5 (.free 6 (.free 7 (.free 8 (.free 9 (.free 10 (.free 11 (.free 12 (.free 13 (.one 14 (.free 15 (.free 16 (.free 17 (.free 18 (.stop)))))))))))))))))))) (by kernel_rfl) (by kernel_rfl) ?_; have hD := bel_cells hB2; simp only [Plan.ops, List.getElem?_cons_zero, List.getElem?_cons_succ, Option.getD_some]); (iterate 14 (refine p_free rfl (by rintro w' ⟨d, rfl⟩; obtain ⟨hDc, hDf⟩ := hD d; (go_simp; first | done | rfl)) ?_; (try simp only [Act.put, List.setIfInBounds_toArray, List.set_cons_zero, List.set_cons_succ]))); refine p_call rfl (by (go_simp; first | done | exact ⟨rfl, rfl⟩ | rfl)) ?_; refine (l8Burned t x B m d so st tick _ (((hTz.bel hBo).bel hZb).bel (bel_drew (bel_refl _))) hg (((hph.bel hBo).bel hZb).bel (bel_drew (bel_refl _))) hxn.out hgx.out (((hMz.bel hBo).bel hZb).bel (bel_drew (bel_refl _))) hm hso hst).mono ?_; rintro _ w2 ⟨A2, k, c3, rfl, hO2, hB3⟩; obtain rfl : k = N := (cnt_own hO2).trans hN0.out; have hBz := bel_trans (bel_drew (bel_refl _)) hB3; refine ⟨_, rfl, ⟨⟨_, hBz⟩, rfl⟩, ?_⟩; (try simp only [Act.put, List.setIfInBounds_toArray, List.set_cons_zero, List.set_cons_succ]); (iterate 4 (refine p_free rfl (by rintro w' ⟨d, rfl⟩; obtain ⟨hDc, hDf⟩ := hD d; (go_simp; first | done | rfl)) ?_; (try simp only [Act.put, List.setIfInBounds_toArray, List.set_cons_zero, List.set_cons_succ]))); refine p_stop ?_; (try simp only [Act.put, List.setIfInBounds_toArray, List.set_cons_zero, List.set_cons_succ]); replace hBo := bel_trans (bel_trans hBo hZb) hBz
          go_wp2_with fail
          go_roundw
          case rel => exact ⟨i + 1, by omega, by go_num, by rw [hN1.out]; congr 1; push_cast; rw [hmn.out], hBo⟩
          case measure => simp [intOf]; omega
        · have hi1 : ¬ (i : Int) < (n : Int) := by omega
          have e : i = n := by omega
          subst e
          have hs1 := hmb.out i
          have hs2 := hsb.out i
          have hs3 : sumN (meanN t so st tick) xs i ≤ 10000 := by omega
          have hs4 : sumN wtN xs i ≤ 400 := by omega
          clear hs1 hs2
          go_wp2_with (first | (go_at_call 50; refine (l8All _ _ _ xs _ (hSz.bel hBo) hens.out).mono ?_; rw [hlh.out]; rintro _ w7 ⟨rfl, rfl⟩) | (go_at_call 49; refine (l8Reduce _ _ _ (by omega) (by omega) hwp.out).mono ?_; rintro _ w8 ⟨rfl, hB8⟩))
          go_ret3
          exact ⟨by rw [hR.out]; rfl, bel_trans (bel_alloc (bel_refl w)) (bel_trans hBo hB8)⟩
end Go.Proofs.Ytdfjfopbhlbmkaa
