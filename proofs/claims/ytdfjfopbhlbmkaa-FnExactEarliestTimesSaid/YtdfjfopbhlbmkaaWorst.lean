/-
  The worst scenario: of the program and of the reference, walked.
-/
import Derived.Test.YtdfjfopbhlbmkaaBurned
import Derived.OwnWalk
namespace Go.Proofs.Ytdfjfopbhlbmkaa
open Go.RowKit

theorem askB_parts {t : Terr} {xs : List Scen} {so : List Int} {st : Int} (h : askB t xs so st = true) : goodT t = true ∧ ensB xs = true ∧ setT t so = true ∧ 0 ≤ st ∧ st ≤ 1000 := by
  simp only [askB, Bool.and_eq_true, inB_iff] at h
  exact ⟨h.1.1.1, h.1.1.2, h.1.2, h.2⟩
theorem ensB_parts {xs : List Scen} (h : ensB xs = true) : 1 ≤ xs.length ∧ xs.length ≤ 4 ∧ ∀ (i : Nat) (x : Scen), xs[i]? = some x → goodSc x = true := by
  simp only [ensB, Bool.and_eq_true, inB_iff] at h
  exact ⟨by omega, by omega, fun i x hx => List.all_eq_true.1 h.2 x (List.mem_of_getElem? hx)⟩
noncomputable def cntS (t : Terr) (so : List Int) (st tick : Int) (x : Scen) : Nat := (burnL t x.ps so st tick).length
theorem cntS_le (t : Terr) (so : List Int) (st tick : Int) (x : Scen) : cntS t so st tick x ≤ t.n := cellsL_len _ _
theorem cnt_own {t : Terr} {so : List Int} {st tick : Int} {x : Scen} {lo hi k c : Nat} {w : World} {A : Option Addr} (h : Own lo hi w 3 1 A k c (ints (burnL t x.ps so st tick))) : k = cntS t so st tick x := by
  have := h.own.1
  rw [ints_len] at this
  unfold cntS
  omega
def worstI (f : Scen → Nat) (xs : List Scen) : Nat → Int × Int
  | 0 => (0, -1)
  | i + 1 => match xs[i]? with
    | some x => if (worstI f xs i).2 < (f x : Int) then ((i : Int), (f x : Int)) else worstI f xs i
    | none => worstI f xs i
theorem worst_next {f : Scen → Nat} {xs : List Scen} {i : Nat} {x : Scen} (hx : xs[i]? = some x) : worstI f xs (i + 1) = if (worstI f xs i).2 < (f x : Int) then ((i : Int), (f x : Int)) else worstI f xs i := by
  rw [worstI, hx]
noncomputable def worstA (t : Terr) (xs : List Scen) (so : List Int) (st tick : Int) : (Int × Int) × Bool := if askB t xs so st && inB tick 0 9999 then (worstI (cntS t so st tick) xs xs.length, true) else ((0, 0), false)
set_option maxHeartbeats 4000000 in
set_option maxRecDepth 100000 in
theorem worstScI (t : Terr) (A : Option Addr) (n c : Nat) (xs : List Scen) (B : Option Addr) (m d : Nat) (so : List Int) (st : Int) (tick : Int) (w : World) (hT : TOk w t) (ht : t.n ≤ 1048576) (hS : Sl w 2 A n c (xs.flatMap Scen.row)) (hO : ScOk w xs) (hN : ∀ (i : Nat) (x : Scen), xs[i]? = some x → x.n ≤ 1048576) (hn : n ≤ 1048576) (hM : Sl w 1 B m d (ints so)) (hm : m ≤ 1048576) :
    Calls Try.prog 17 #[.agg #[.int .i64 t.W, .int .i64 t.H, .slice t.A t.n t.c], .slice A n c, .slice B m d, .int .i64 st, .int .i64 tick] w fun e w' => e = .returned (.tuple #[.int .i64 (worstA t xs so st tick).1.1, .int .i64 (worstA t xs so st tick).1.2, .bool (worstA t xs so st tick).2]) ∧ Below w.heap.size w w' := by
  have hlh := hid (hS.xs_len Scen.row_len (by omega))
  have hTz := (hT.bel (bel_alloc (o := .cells #[.int .i64 t.W, .int .i64 t.H, .slice t.A t.n t.c] 30) (bel_refl w)))
  have hMz := (hM.bel (bel_alloc (o := .cells #[.int .i64 t.W, .int .i64 t.H, .slice t.A t.n t.c] 30) (bel_refl w)))
  have hSz := (hS.bel (bel_alloc (o := .cells #[.int .i64 t.W, .int .i64 t.H, .slice t.A t.n t.c] 30) (bel_refl w)))
  have hOz := (hO.bel (bel_alloc (o := .cells #[.int .i64 t.W, .int .i64 t.H, .slice t.A t.n t.c] 30) (bel_refl w)))
  have hB2 := bel_refl (w.alloc (.cells #[.int .i64 t.W, .int .i64 t.H, .slice t.A t.n t.c] 30))
  rcases hask : askB t xs so st with _ | _
  · have hR : Hid (worstA t xs so st tick = ((0, 0), false)) := by show _ = _; rw [worstA, hask]; rfl
    go_enter Try.func17, Try.ntmps17
    go_wp2_with (go_at_call 45; refine (isBlaze t _ _ _ xs _ _ _ so st _ hTz ht hSz hOz hN hn hMz hm).mono ?_; rw [hask]; rintro _ w1 ⟨rfl, hB1⟩; replace hB2 := bel_trans hB2 hB1)
    go_ret3
    exact ⟨by rw [hR.out]; rfl, bel_trans (bel_alloc (bel_refl w)) hB2⟩
  · rcases htk : inB tick 0 9999 with _ | _
    · have hR : Hid (worstA t xs so st tick = ((0, 0), false)) := by show _ = _; rw [worstA, hask, htk]; rfl
      go_enter Try.func17, Try.ntmps17
      go_wp2_with (first | (go_at_call 45; refine (isBlaze t _ _ _ xs _ _ _ so st _ hTz ht hSz hOz hN hn hMz hm).mono ?_; rw [hask]; rintro _ w1 ⟨rfl, hB1⟩; replace hB2 := bel_trans hB2 hB1) | (go_at_call 46; refine (isTick tick _).mono ?_; rw [htk]; rintro _ w2 ⟨rfl, rfl⟩))
      go_ret3
      exact ⟨by rw [hR.out]; rfl, bel_trans (bel_alloc (bel_refl w)) hB2⟩
    · have hR : Hid (worstA t xs so st tick = (worstI (cntS t so st tick) xs xs.length, true)) := by show _ = _; rw [worstA, hask, htk]; rfl
      obtain ⟨hg, hens, hso, hst⟩ := askB_parts hask
      obtain ⟨hl1, hl4, hgs⟩ := ensB_parts hens
      have hn4 : (n : Int) ≤ 4 := by have := hlh.out; omega
      have hgs := hid hgs
      clear hl1 hl4 hens
      go_enter Try.func17, Try.ntmps17
      go_wp2_with (first | (go_at_call 45; refine (isBlaze t _ _ _ xs _ _ _ so st _ hTz ht hSz hOz hN hn hMz hm).mono ?_; rw [hask]; rintro _ w1 ⟨rfl, hB1⟩; replace hB2 := bel_trans hB2 hB1) | (go_at_call 46; refine (isTick tick _).mono ?_; rw [htk]; rintro _ w2 ⟨rfl, rfl⟩))
      clear hask htk
      go_loopw [13, 14, 31] (fun bv mv v wr => ∃ i : Nat, i ≤ n ∧ v = .int .i64 i ∧ bv = .int .i64 (worstI (cntS t so st tick) xs i).1 ∧ mv = .int .i64 (worstI (cntS t so st tick) xs i).2 ∧ Below ((w.alloc (.cells #[.int .i64 t.W, .int .i64 t.H, .slice t.A t.n t.c] 30))).heap.size ((w.alloc (.cells #[.int .i64 t.W, .int .i64 t.H, .slice t.A t.n t.c] 30))) wr) (fun _ _ v _ => n - (intOf v).toNat)
      case atStart => exact ⟨0, by omega, rfl, rfl, rfl, hB2⟩
      case round =>
        clear hB2
        obtain ⟨i, hi', rfl, rfl, rfl, hBo⟩ := hrel
        by_cases hlt : i < n
        · obtain ⟨x, hx⟩ : ∃ x, xs[i]? = some x := get_of_lt (by rw [hlh.out]; exact hlt)
          obtain ⟨b, o, rfl, hb, c0, c1⟩ := (hSz.bel hBo).scen hx
          have hph := hOz i x hx
          have hxn := hid (hN i x hx)
          have hgx := hid (hgs.out i x hx)
          have hW := hid (worst_next (f := cntS t so st tick) hx)
          clear hx
          have hi0 : (0 : Int) ≤ (i : Int) := by omega
          have hi1 : (i : Int) < (n : Int) := by omega
          obtain ⟨k0, k1, k2⟩ := box_at hBo
          obtain ⟨P, hP⟩ : ∃ P, worstI (cntS t so st tick) xs i = P := ⟨_, rfl⟩
          rw [hP] at hW ⊢
          obtain ⟨N, hN0⟩ : ∃ N : Nat, cntS t so st tick x = N := ⟨_, rfl⟩
          have hsz := hBo.size
          have hgw : w.heap.size < wr.heap.size := by simp at hsz; omega
          clear hsz
          have hB2 := bel_refl wr
          by_cases hc : P.2 < (N : Int)
          · have hN1 : Hid (worstI (cntS t so st tick) xs (i + 1) = ((i : Int), (N : Int))) := by show _ = _; rw [hW.out, hN0, if_pos hc]
            replace hN0 := hid hN0
            go_wp2_with (go_at_call 47; refine (burned t x.A x.n x.c x.ps B m d so st _ ((hTz.bel hBo).bel (bel_alloc (bel_refl _))) hg ((hph.bel hBo).bel (bel_alloc (bel_refl _))) hxn.out (goodSc_parts hgx.out).1 ((hMz.bel hBo).bel (bel_alloc (bel_refl _))) hm hso hst tick).mono ?_; rintro _ w2 ⟨A2, k, c3, rfl, hO2, hB3⟩; obtain rfl : k = N := (cnt_own hO2).trans hN0.out; have hBn := bel_trans (bel_trans hBo (bel_alloc (bel_refl _))) hB3)
            go_roundw
            case rel => exact ⟨i + 1, by omega, by go_num, by rw [hN1.out], by rw [hN1.out], hBn⟩
            case measure => simp [intOf]; omega
          · have hN1 : Hid (worstI (cntS t so st tick) xs (i + 1) = P) := by show _ = _; rw [hW.out, hN0, if_neg hc]
            replace hN0 := hid hN0
            go_wp2_with (go_at_call 47; refine (burned t x.A x.n x.c x.ps B m d so st _ ((hTz.bel hBo).bel (bel_alloc (bel_refl _))) hg ((hph.bel hBo).bel (bel_alloc (bel_refl _))) hxn.out (goodSc_parts hgx.out).1 ((hMz.bel hBo).bel (bel_alloc (bel_refl _))) hm hso hst tick).mono ?_; rintro _ w2 ⟨A2, k, c3, rfl, hO2, hB3⟩; obtain rfl : k = N := (cnt_own hO2).trans hN0.out; have hBn := bel_trans (bel_trans hBo (bel_alloc (bel_refl _))) hB3)
            go_roundw
            case rel => exact ⟨i + 1, by omega, by go_num, by rw [hN1.out], by rw [hN1.out], hBn⟩
            case measure => simp [intOf]; omega
        · have hi1 : ¬ (i : Int) < (n : Int) := by omega
          have e : i = n := by omega
          go_wp2_with fail
          go_ret3
          exact ⟨by rw [hR.out, hlh.out]; rfl, bel_trans (bel_alloc (bel_refl w)) hBo⟩

set_option maxHeartbeats 4000000 in
set_option maxRecDepth 100000 in
theorem worstScS (t : Terr) (A : Option Addr) (n c : Nat) (xs : List Scen) (B : Option Addr) (m d : Nat) (so : List Int) (st : Int) (tick : Int) (w : World) (hT : TOk w t) (ht : t.n ≤ 1048576) (hS : Sl w 2 A n c (xs.flatMap Scen.row)) (hO : ScOk w xs) (hN : ∀ (i : Nat) (x : Scen), xs[i]? = some x → x.n ≤ 1048576) (hn : n ≤ 1048576) (hM : Sl w 1 B m d (ints so)) (hm : m ≤ 1048576) :
    Calls Try.prog 13 #[.agg #[.int .i64 t.W, .int .i64 t.H, .slice t.A t.n t.c], .slice A n c, .slice B m d, .int .i64 st, .int .i64 tick] w fun e w' => e = .returned (.tuple #[.int .i64 (worstA t xs so st tick).1.1, .int .i64 (worstA t xs so st tick).1.2, .bool (worstA t xs so st tick).2]) ∧ Below w.heap.size w w' := by
  have hlh := hid (hS.xs_len Scen.row_len (by omega))
  have hTz := (hT.bel (bel_alloc (o := .cells #[.int .i64 t.W, .int .i64 t.H, .slice t.A t.n t.c] 30) (bel_refl w)))
  have hMz := (hM.bel (bel_alloc (o := .cells #[.int .i64 t.W, .int .i64 t.H, .slice t.A t.n t.c] 30) (bel_refl w)))
  have hSz := (hS.bel (bel_alloc (o := .cells #[.int .i64 t.W, .int .i64 t.H, .slice t.A t.n t.c] 30) (bel_refl w)))
  have hOz := (hO.bel (bel_alloc (o := .cells #[.int .i64 t.W, .int .i64 t.H, .slice t.A t.n t.c] 30) (bel_refl w)))
  have hB2 := bel_refl (w.alloc (.cells #[.int .i64 t.W, .int .i64 t.H, .slice t.A t.n t.c] 30))
  rcases hask : askB t xs so st with _ | _
  · have hR : Hid (worstA t xs so st tick = ((0, 0), false)) := by show _ = _; rw [worstA, hask]; rfl
    go_enter Try.func13, Try.ntmps13
    go_wp2_with (go_at_call 41; refine (l8Asked t _ _ _ xs _ _ _ so st _ hTz ht hSz hOz hN hn hMz hm).mono ?_; rw [hask]; rintro _ w1 ⟨rfl, hB1⟩; replace hB2 := bel_trans hB2 hB1)
    go_ret3
    exact ⟨by rw [hR.out]; rfl, bel_trans (bel_alloc (bel_refl w)) hB2⟩
  · rcases htk : inB tick 0 9999 with _ | _
    · have hR : Hid (worstA t xs so st tick = ((0, 0), false)) := by show _ = _; rw [worstA, hask, htk]; rfl
      go_enter Try.func13, Try.ntmps13
      go_wp2_with (first | (go_at_call 41; refine (l8Asked t _ _ _ xs _ _ _ so st _ hTz ht hSz hOz hN hn hMz hm).mono ?_; rw [hask]; rintro _ w1 ⟨rfl, hB1⟩; replace hB2 := bel_trans hB2 hB1) | (go_at_call 42; refine (l4Tick tick _).mono ?_; rw [htk]; rintro _ w2 ⟨rfl, rfl⟩))
      go_ret3
      exact ⟨by rw [hR.out]; rfl, bel_trans (bel_alloc (bel_refl w)) hB2⟩
    · have hR : Hid (worstA t xs so st tick = (worstI (cntS t so st tick) xs xs.length, true)) := by show _ = _; rw [worstA, hask, htk]; rfl
      obtain ⟨hg, hens, hso, hst⟩ := askB_parts hask
      obtain ⟨hl1, hl4, hgs⟩ := ensB_parts hens
      have hn4 : (n : Int) ≤ 4 := by have := hlh.out; omega
      have hgs := hid hgs
      clear hl1 hl4 hens
      go_enter Try.func13, Try.ntmps13
      go_wp2_with (first | (go_at_call 41; refine (l8Asked t _ _ _ xs _ _ _ so st _ hTz ht hSz hOz hN hn hMz hm).mono ?_; rw [hask]; rintro _ w1 ⟨rfl, hB1⟩; replace hB2 := bel_trans hB2 hB1) | (go_at_call 42; refine (l4Tick tick _).mono ?_; rw [htk]; rintro _ w2 ⟨rfl, rfl⟩))
      clear hask htk
      go_loopw [13, 14, 15] (fun bv mv v wr => ∃ i : Nat, i ≤ n ∧ v = .int .i64 i ∧ bv = .int .i64 (worstI (cntS t so st tick) xs i).1 ∧ mv = .int .i64 (worstI (cntS t so st tick) xs i).2 ∧ Below ((w.alloc (.cells #[.int .i64 t.W, .int .i64 t.H, .slice t.A t.n t.c] 30))).heap.size ((w.alloc (.cells #[.int .i64 t.W, .int .i64 t.H, .slice t.A t.n t.c] 30))) wr) (fun _ _ v _ => n - (intOf v).toNat)
      case atStart => exact ⟨0, by omega, rfl, rfl, rfl, hB2⟩
      case round =>
        clear hB2
        obtain ⟨i, hi', rfl, rfl, rfl, hBo⟩ := hrel
        by_cases hlt : i < n
        · obtain ⟨x, hx⟩ : ∃ x, xs[i]? = some x := get_of_lt (by rw [hlh.out]; exact hlt)
          obtain ⟨b, o, rfl, hb, c0, c1⟩ := (hSz.bel hBo).scen hx
          have hph := hOz i x hx
          have hxn := hid (hN i x hx)
          have hgx := hid (hgs.out i x hx)
          have hW := hid (worst_next (f := cntS t so st tick) hx)
          clear hx
          have hi0 : (0 : Int) ≤ (i : Int) := by omega
          have hi1 : (i : Int) < (n : Int) := by omega
          obtain ⟨k0, k1, k2⟩ := box_at hBo
          obtain ⟨P, hP⟩ : ∃ P, worstI (cntS t so st tick) xs i = P := ⟨_, rfl⟩
          rw [hP] at hW ⊢
          obtain ⟨N, hN0⟩ : ∃ N : Nat, cntS t so st tick x = N := ⟨_, rfl⟩
          have hsz := hBo.size
          have hgw : w.heap.size < wr.heap.size := by simp at hsz; omega
          clear hsz
          have hB2 := bel_refl wr
          by_cases hc : P.2 < (N : Int)
          · have hN1 : Hid (worstI (cntS t so st tick) xs (i + 1) = ((i : Int), (N : Int))) := by show _ = _; rw [hW.out, hN0, if_pos hc]
            replace hN0 := hid hN0
            go_wp2_with fail; (refine wp_region_planB (.free 0 (.free 1 (.free 2 (.free 3 (.free 4 (.free 5 (.free 6 (.free 7 (.one 8 (.free 9 (.free 10 (.stop)))))))))))) (by kernel_rfl) (by kernel_rfl) ?_; have hD := bel_cells hB2; simp only [Plan.ops, List.getElem?_cons_zero, List.getElem?_cons_succ, Option.getD_some]); (iterate 8 (refine p_free rfl (by rintro w' ⟨d, rfl⟩; obtain ⟨hDc, hDf⟩ := hD d; (go_simp; first | done | rfl)) ?_; (try simp only [Act.put, List.setIfInBounds_toArray, List.set_cons_zero, List.set_cons_succ]))); refine p_call rfl (by (go_simp; first | done | exact ⟨rfl, rfl⟩ | rfl)) ?_; refine (l8Burned t x B m d so st tick _ ((hTz.bel hBo).bel (bel_drew (bel_refl _))) hg ((hph.bel hBo).bel (bel_drew (bel_refl _))) hxn.out hgx.out ((hMz.bel hBo).bel (bel_drew (bel_refl _))) hm hso hst).mono ?_; rintro _ w2 ⟨A2, k, c3, rfl, hO2, hB3⟩; obtain rfl : k = N := (cnt_own hO2).trans hN0.out; refine ⟨_, rfl, ⟨⟨_, bel_trans (bel_drew (bel_refl _)) hB3⟩, rfl⟩, ?_⟩; have hBn := bel_trans (bel_trans hBo (bel_drew (bel_refl _))) hB3; (try simp only [Act.put, List.setIfInBounds_toArray, List.set_cons_zero, List.set_cons_succ]); (iterate 2 (refine p_free rfl (by rintro w' ⟨d, rfl⟩; obtain ⟨hDc, hDf⟩ := hD d; (go_simp; first | done | rfl)) ?_; (try simp only [Act.put, List.setIfInBounds_toArray, List.set_cons_zero, List.set_cons_succ]))); refine p_stop ?_; (try simp only [Act.put, List.setIfInBounds_toArray, List.set_cons_zero, List.set_cons_succ]); go_wp2_with fail
            go_roundw
            case rel => exact ⟨i + 1, by omega, by go_num, by rw [hN1.out], by rw [hN1.out], hBn⟩
            case measure => simp [intOf]; omega
          · have hN1 : Hid (worstI (cntS t so st tick) xs (i + 1) = P) := by show _ = _; rw [hW.out, hN0, if_neg hc]
            replace hN0 := hid hN0
            go_wp2_with fail; (refine wp_region_planB (.free 0 (.free 1 (.free 2 (.free 3 (.free 4 (.free 5 (.free 6 (.free 7 (.one 8 (.free 9 (.free 10 (.stop)))))))))))) (by kernel_rfl) (by kernel_rfl) ?_; have hD := bel_cells hB2; simp only [Plan.ops, List.getElem?_cons_zero, List.getElem?_cons_succ, Option.getD_some]); (iterate 8 (refine p_free rfl (by rintro w' ⟨d, rfl⟩; obtain ⟨hDc, hDf⟩ := hD d; (go_simp; first | done | rfl)) ?_; (try simp only [Act.put, List.setIfInBounds_toArray, List.set_cons_zero, List.set_cons_succ]))); refine p_call rfl (by (go_simp; first | done | exact ⟨rfl, rfl⟩ | rfl)) ?_; refine (l8Burned t x B m d so st tick _ ((hTz.bel hBo).bel (bel_drew (bel_refl _))) hg ((hph.bel hBo).bel (bel_drew (bel_refl _))) hxn.out hgx.out ((hMz.bel hBo).bel (bel_drew (bel_refl _))) hm hso hst).mono ?_; rintro _ w2 ⟨A2, k, c3, rfl, hO2, hB3⟩; obtain rfl : k = N := (cnt_own hO2).trans hN0.out; refine ⟨_, rfl, ⟨⟨_, bel_trans (bel_drew (bel_refl _)) hB3⟩, rfl⟩, ?_⟩; have hBn := bel_trans (bel_trans hBo (bel_drew (bel_refl _))) hB3; (try simp only [Act.put, List.setIfInBounds_toArray, List.set_cons_zero, List.set_cons_succ]); (iterate 2 (refine p_free rfl (by rintro w' ⟨d, rfl⟩; obtain ⟨hDc, hDf⟩ := hD d; (go_simp; first | done | rfl)) ?_; (try simp only [Act.put, List.setIfInBounds_toArray, List.set_cons_zero, List.set_cons_succ]))); refine p_stop ?_; (try simp only [Act.put, List.setIfInBounds_toArray, List.set_cons_zero, List.set_cons_succ]); go_wp2_with fail
            go_roundw
            case rel => exact ⟨i + 1, by omega, by go_num, by rw [hN1.out], by rw [hN1.out], hBn⟩
            case measure => simp [intOf]; omega
        · have hi1 : ¬ (i : Int) < (n : Int) := by omega
          have e : i = n := by omega
          go_wp2_with fail
          go_ret3
          exact ⟨by rw [hR.out, hlh.out]; rfl, bel_trans (bel_alloc (bel_refl w)) hBo⟩

end Go.Proofs.Ytdfjfopbhlbmkaa
