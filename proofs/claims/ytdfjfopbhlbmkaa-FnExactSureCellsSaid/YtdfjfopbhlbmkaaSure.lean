/-
  Cells that burn in all scenarios: of the program and of the reference, walked.
-/
import Derived.Test.YtdfjfopbhlbmkaaPossibleS
namespace Go.Proofs.Ytdfjfopbhlbmkaa
open Go.RowKit



theorem addL_cells (s : List Int) (q : Nat → Bool) (v : Nat) : ∀ i : Nat, i ≤ s.length → gI (addL s (cellsL i q)) v = gI s v + (if v < i ∧ q v = true then 1 else 0)
  | 0, _ => by simp [cellsL, addL]
  | i + 1, h => by
    have ih := addL_cells s q v i (by omega)
    rcases hq : q i with _ | _
    · rw [cellsL_no hq, ih]
      by_cases e : v = i
      · subst e; simp [hq]
      · by_cases h1 : v < i
        · simp [h1, show v < i + 1 by omega]
        · simp [h1, show ¬ v < i + 1 by omega]
    · rw [← cellsL_yes hq, addL_snoc, Int.toNat_natCast, gI_set (by rw [addL_len]; omega)]
      by_cases e : v = i
      · subst e
        rw [if_pos rfl, ih]
        simp [hq]
      · rw [if_neg e, ih]
        by_cases h1 : v < i
        · simp [h1, show v < i + 1 by omega]
        · simp [h1, show ¬ v < i + 1 by omega]
theorem cntI_le (t : Terr) (so : List Int) (st tick : Int) (xs : List Scen) (v : Nat) (hv : v < t.n) : ∀ i : Nat, gI (cntI t so st tick xs i) v ≤ i
  | 0 => by rw [cntI, gI_get (x := 0) (by rw [List.getElem?_replicate, if_pos hv])]; simp
  | i + 1 => by
    have ih := cntI_le t so st tick xs v hv i
    rcases hx : xs[i]? with _ | x
    · have e : cntI t so st tick xs (i + 1) = cntI t so st tick xs i := by rw [cntI, hx]
      rw [e]; push_cast; omega
    · rw [cntI_next hx, burnL, addL_cells _ _ _ _ (by rw [cntI_len]; exact Nat.le_refl _)]
      push_cast
      split <;> omega
theorem cells_congr {n : Nat} {p q : Nat → Bool} (h : ∀ v, v < n → p v = q v) : cellsL n p = cellsL n q := by
  unfold cellsL
  congr 1
  exact List.filter_congr fun v hv => h v (List.mem_range.1 hv)
noncomputable def sureL (t : Terr) (xs : List Scen) (so : List Int) (st tick : Int) : List Int := cellsL t.n fun v => decide ((xs.length : Int) ≤ gI (cntI t so st tick xs xs.length) v)
noncomputable def sureR (t : Terr) (xs : List Scen) (so : List Int) (st tick : Int) : List Int := if okT t xs so st tick then sureL t xs so st tick else []
set_option maxHeartbeats 1000000 in
theorem cloSure (x gT gL n c : Nat) (A : Option Addr) (s : List Int) (B : Option Addr) (m d : Nat) (w : World) (hx : x < n) (hn : n ≤ 25) (_hm : m ≤ 1048576) (hS : Sl w 1 A n c (ints s)) (c0 : w.cell? ⟨gT, 0, none⟩ = some (.slice A n c)) (d0 : w.cell? ⟨gL, 0, none⟩ = some (.slice B m d)) :
    Calls Try.prog 68 #[.int .i64 (x : Int), .pointer (some ⟨gT, 0, none⟩), .pointer (some ⟨gL, 0, none⟩)] w fun e w' => e = .returned (.bool (gI s x == (m : Int))) ∧ Below w.heap.size w w' := by
  have hB2 := bel_refl w
  have hl := hS.int_len
  obtain ⟨y, hy⟩ := get_of_lt (xs := s) (i := x) (by omega)
  have hR := hid (gI_get hy)
  obtain ⟨b, o, rfl, hb, e0⟩ := hS.int_at hy
  have hgT := World.block_lt_of_cell? w _ c0
  have hgL := World.block_lt_of_cell? w _ d0
  simp only [] at hgT hgL
  have hx0 : (0 : Int) ≤ (x : Int) := by omega
  have hx1 : (x : Int) < (n : Int) := by omega
  have hn1 : (n : Int) ≤ 25 := by omega
  go_enter Try.func68, Try.ntmps68
  go_wp2_with fail
  (refine wp_region_bel (by kernel_rfl) (by kernel_rfl) ?_; have hD := bel_cells hB2; (repeat (go_big_quiet_step ((fail)))); refine wpQuiet_nil ?_; intro w1 hB1; replace hB2 := bel_trans hB2 hB1; obtain ⟨hC1, hF1⟩ := bcell hB2; clear hD; replace hB1 := hB1)
  go_wp2
  go_ret
  exact ⟨ret_bool (by rw [hR.out]; try simp), by (repeat' (first | (with_reducible exact bel_refl _) | (with_reducible assumption) | (with_reducible refine bel_drew ?_) | (with_reducible refine bel_drewN ?_) | (with_reducible refine bel_alloc ?_) | (with_reducible refine bel_set ?_ ?_) | (with_reducible refine bel_trans ?_ (by with_reducible assumption)) | omega | (simp; done) | (simp; omega)))⟩
set_option maxHeartbeats 4000000 in
set_option maxRecDepth 100000 in
theorem sureI (t : Terr) (A : Option Addr) (n c : Nat) (xs : List Scen) (B : Option Addr) (m d : Nat) (so : List Int) (st : Int) (tick : Int) (w : World) (hT : TOk w t) (ht : t.n ≤ 1048576) (hS : Sl w 2 A n c (xs.flatMap Scen.row)) (hO : ScOk w xs) (hN : ∀ (i : Nat) (x : Scen), xs[i]? = some x → x.n ≤ 1048576) (hn : n ≤ 1048576) (hM : Sl w 1 B m d (ints so)) (hm : m ≤ 1048576) :
    Calls Try.prog 38 #[.agg #[.int .i64 t.W, .int .i64 t.H, .slice t.A t.n t.c], .slice A n c, .slice B m d, .int .i64 st, .int .i64 tick] w fun e w' => ∃ A' k c', e = .returned (.tuple #[.slice A' k c', .bool (okT t xs so st tick)]) ∧ Own w.heap.size w'.heap.size w' 3 1 A' k c' (ints (sureR t xs so st tick)) ∧ Below w.heap.size w w' := by
  have hlh := hid (hS.xs_len Scen.row_len (by omega))
  obtain ⟨Z, hZ⟩ : ∃ Z, (((w.alloc (.cells #[.int .i64 t.W, .int .i64 t.H, .slice t.A t.n t.c] 30))).alloc (.cells #[.slice A n c] 32)) = Z := ⟨_, rfl⟩
  have hZb : Below w.heap.size w Z := by rw [← hZ]; exact bel_alloc (bel_alloc (bel_refl w))
  have k0 : Z.cell? ⟨w.heap.size, 0, none⟩ = some (.int .i64 t.W) := by rw [← hZ]; simp [go_sem]
  have k1 : Z.cell? ⟨w.heap.size, 1, none⟩ = some (.int .i64 t.H) := by rw [← hZ]; simp [go_sem]
  have k2 : Z.cell? ⟨w.heap.size, 2, none⟩ = some (.slice t.A t.n t.c) := by rw [← hZ]; simp [go_sem]
  have c9 : Z.cell? ⟨w.heap.size + 1, 0, none⟩ = some (.slice A n c) := by rw [← hZ]; simp [go_sem]
  have hzs : w.heap.size + 1 < Z.heap.size := by rw [← hZ]; simp
  have q1 : w.heap.size < Z.heap.size := by omega
  have hTz := hT.bel hZb
  have hMz := hM.bel hZb
  have hSz := hS.bel hZb
  have hOz := hO.bel hZb
  have hB2 := bel_refl Z
  rcases hask : askB t xs so st with _ | _
  · have hk : Hid (okT t xs so st tick = false) := by show _ = _; rw [okT, hask]; rfl
    have hR : Hid (sureR t xs so st tick = []) := by show _ = _; rw [sureR, hk.out]; rfl
    go_enter Try.func38, Try.ntmps38
    go_wp2_with (go_at_call 45; (try rw [hZ]); refine (isBlaze t _ _ _ xs _ _ _ so st _ hTz ht hSz hOz hN hn hMz hm).mono ?_; rw [hask]; rintro _ w1 ⟨rfl, hB1⟩; replace hB2 := bel_trans hB2 hB1; obtain ⟨hC1, hF1⟩ := bcell hB2)
    go_ret2
    exact ⟨none, 0, 0, by rw [hk.out]; rfl, by rw [hR.out]; exact ⟨⟨rfl, Or.inl ⟨rfl, rfl⟩⟩, fun g hg => by simp [Value.ownBlock] at hg⟩, bel_trans hZb hB2⟩
  · rcases htk : inB tick 0 9999 with _ | _
    · have hk : Hid (okT t xs so st tick = false) := by show _ = _; rw [okT, hask, htk]; rfl
      have hR : Hid (sureR t xs so st tick = []) := by show _ = _; rw [sureR, hk.out]; rfl
      go_enter Try.func38, Try.ntmps38
      go_wp2_with (first | (go_at_call 45; (try rw [hZ]); refine (isBlaze t _ _ _ xs _ _ _ so st _ hTz ht hSz hOz hN hn hMz hm).mono ?_; rw [hask]; rintro _ w1 ⟨rfl, hB1⟩; replace hB2 := bel_trans hB2 hB1; obtain ⟨hC1, hF1⟩ := bcell hB2) | (go_at_call 46; refine (isTick tick _).mono ?_; rw [htk]; rintro _ w2 ⟨rfl, rfl⟩))
      go_ret2
      exact ⟨none, 0, 0, by rw [hk.out]; rfl, by rw [hR.out]; exact ⟨⟨rfl, Or.inl ⟨rfl, rfl⟩⟩, fun g hg => by simp [Value.ownBlock] at hg⟩, bel_trans hZb hB2⟩
    · have hk : Hid (okT t xs so st tick = true) := by show _ = _; rw [okT, hask, htk]; rfl
      have hR : Hid (sureR t xs so st tick = sureL t xs so st tick) := by show _ = _; rw [sureR, hk.out]; rfl
      have hg := (askB_parts hask).1
      have htn := (goodT_bd hg).2.2.2.2.1
      go_enter Try.func38, Try.ntmps38
      go_wp2_with (first
        | (go_at_call 66; refine (cellsSure t _ _ (fun v => gI (cntI t so st tick xs n) v == (n : Int)) _ htn (fun x w' hx hb' => cloSure x _ _ t.n c1' A1 _ A n c w' hx htn hn (hO2.sl.bel (bel_trans (bel_alloc (bel_refl _)) hb')) (((bcell hb').1 _ 0 (by simp)).trans (by simp [go_sem])) (((bcell (bel_trans (bel_trans hB2 (bel_alloc (bel_refl _))) hb')).1 _ 0 hzs).trans c9))).mono ?_; rintro _ w5 ⟨A3, k3, c3, rfl, hO3, hB5⟩)
        | (go_at_call 65; refine (burnedIn t A n c xs B m d so st tick _ (hTz.bel hB2) (hSz.bel hB2) (hOz.bel hB2) hN (hMz.bel hB2) hm hask).mono ?_; rintro _ w3 ⟨A1, c1', rfl, hO2, hB3⟩; replace hB2 := bel_trans hB2 hB3; obtain ⟨hC1, hF1⟩ := bcell hB2; have hzz := hB2.size; have hgw : w.heap.size < w3.heap.size := by omega)
        | (go_at_call 45; (try rw [hZ]); refine (isBlaze t _ _ _ xs _ _ _ so st _ hTz ht hSz hOz hN hn hMz hm).mono ?_; rw [hask]; rintro _ w1 ⟨rfl, hB1⟩; replace hB2 := bel_trans hB2 hB1; obtain ⟨hC1, hF1⟩ := bcell hB2) | (go_at_call 46; refine (isTick tick _).mono ?_; rw [htk]; rintro _ w2 ⟨rfl, rfl⟩))
      go_ret2
      refine ⟨A3, k3, c3, by rw [hk.out]; rfl, ?_, bel_trans hZb (bel_trans hB2 (bel_trans (bel_alloc (bel_refl _)) hB5))⟩
      rw [hR.out, sureL, hlh.out, ← cells_congr (p := fun v => gI (cntI t so st tick xs n) v == (n : Int)) (fun v hv => by
        have := cntI_le t so st tick xs v hv n
        rw [Bool.eq_iff_iff, beq_iff_eq, decide_eq_true_eq]
        omega)]
      exact hO3.low (by have := hZb.size; simp; omega)
set_option maxHeartbeats 4000000 in
set_option maxRecDepth 100000 in
theorem sureS (t : Terr) (A : Option Addr) (n c : Nat) (xs : List Scen) (B : Option Addr) (m d : Nat) (so : List Int) (st : Int) (tick : Int) (w : World) (hT : TOk w t) (ht : t.n ≤ 1048576) (hS : Sl w 2 A n c (xs.flatMap Scen.row)) (hO : ScOk w xs) (hN : ∀ (i : Nat) (x : Scen), xs[i]? = some x → x.n ≤ 1048576) (hn : n ≤ 1048576) (hM : Sl w 1 B m d (ints so)) (hm : m ≤ 1048576) :
    Calls Try.prog 37 #[.agg #[.int .i64 t.W, .int .i64 t.H, .slice t.A t.n t.c], .slice A n c, .slice B m d, .int .i64 st, .int .i64 tick] w fun e w' => ∃ A' k c', e = .returned (.tuple #[.slice A' k c', .bool (okT t xs so st tick)]) ∧ Own w.heap.size w'.heap.size w' 3 1 A' k c' (ints (sureR t xs so st tick)) ∧ Below w.heap.size w w' := by
  have hlh := hid (hS.xs_len Scen.row_len (by omega))
  have hTz := (hT.bel (bel_alloc (o := .cells #[.int .i64 t.W, .int .i64 t.H, .slice t.A t.n t.c] 30) (bel_refl w)))
  have hMz := (hM.bel (bel_alloc (o := .cells #[.int .i64 t.W, .int .i64 t.H, .slice t.A t.n t.c] 30) (bel_refl w)))
  have hSz := (hS.bel (bel_alloc (o := .cells #[.int .i64 t.W, .int .i64 t.H, .slice t.A t.n t.c] 30) (bel_refl w)))
  have hOz := (hO.bel (bel_alloc (o := .cells #[.int .i64 t.W, .int .i64 t.H, .slice t.A t.n t.c] 30) (bel_refl w)))
  have hB2 := bel_refl (w.alloc (.cells #[.int .i64 t.W, .int .i64 t.H, .slice t.A t.n t.c] 30))
  rcases hask : askB t xs so st with _ | _
  · have hk : Hid (okT t xs so st tick = false) := by show _ = _; rw [okT, hask]; rfl
    have hR : Hid (sureR t xs so st tick = []) := by show _ = _; rw [sureR, hk.out]; rfl
    go_enter Try.func37, Try.ntmps37
    go_wp2_with (go_at_call 41; refine (l8Asked t _ _ _ xs _ _ _ so st _ hTz ht hSz hOz hN hn hMz hm).mono ?_; rw [hask]; rintro _ w1 ⟨rfl, hB1⟩; replace hB2 := bel_trans hB2 hB1; obtain ⟨hC1, hF1⟩ := bcell hB2)
    go_ret2
    refine ⟨_, _, _, by rw [hk.out]; rfl, ?_, bel_trans (bel_alloc (bel_refl w)) (bel_alloc hB2)⟩
    rw [hR.out]
    exact Own.mk_ (own_low (by simpa [ints] using own_empty (size := 1) (e := 3) (Nat.le_refl _)) (by have := hB2.size; simp at this; omega))
  · rcases htk : inB tick 0 9999 with _ | _
    · have hk : Hid (okT t xs so st tick = false) := by show _ = _; rw [okT, hask, htk]; rfl
      have hR : Hid (sureR t xs so st tick = []) := by show _ = _; rw [sureR, hk.out]; rfl
      go_enter Try.func37, Try.ntmps37
      go_wp2_with (first | (go_at_call 41; refine (l8Asked t _ _ _ xs _ _ _ so st _ hTz ht hSz hOz hN hn hMz hm).mono ?_; rw [hask]; rintro _ w1 ⟨rfl, hB1⟩; replace hB2 := bel_trans hB2 hB1; obtain ⟨hC1, hF1⟩ := bcell hB2) | (go_at_call 42; refine (l4Tick tick _).mono ?_; rw [htk]; rintro _ w2 ⟨rfl, rfl⟩))
      go_ret2
      refine ⟨_, _, _, by rw [hk.out]; rfl, ?_, bel_trans (bel_alloc (bel_refl w)) (bel_alloc hB2)⟩
      rw [hR.out]
      exact Own.mk_ (own_low (by simpa [ints] using own_empty (size := 1) (e := 3) (Nat.le_refl _)) (by have := hB2.size; simp at this; omega))
    · have hk : Hid (okT t xs so st tick = true) := by show _ = _; rw [okT, hask, htk]; rfl
      have hR : Hid (sureR t xs so st tick = sureL t xs so st tick) := by show _ = _; rw [sureR, hk.out]; rfl
      go_enter Try.func37, Try.ntmps37
      go_wp2_with (first
        | (go_at_call 64; refine (l8Cells t A n c xs B m d so st tick n _ (hTz.bel hB2) (hSz.bel hB2) (hOz.bel hB2) hN (hMz.bel hB2) hm hask).mono ?_; rintro _ w3 ⟨A3, k3, c3, rfl, hO3, hB3⟩)
        | (go_at_call 41; refine (l8Asked t _ _ _ xs _ _ _ so st _ hTz ht hSz hOz hN hn hMz hm).mono ?_; rw [hask]; rintro _ w1 ⟨rfl, hB1⟩; replace hB2 := bel_trans hB2 hB1; obtain ⟨hC1, hF1⟩ := bcell hB2) | (go_at_call 42; refine (l4Tick tick _).mono ?_; rw [htk]; rintro _ w2 ⟨rfl, rfl⟩))
      go_ret2
      refine ⟨A3, k3, c3, by rw [hk.out]; rfl, ?_, bel_trans (bel_alloc (bel_refl w)) (bel_trans hB2 hB3)⟩
      rw [hR.out, sureL, hlh.out]
      exact hO3.low (by have := hB2.size; simp at this; omega)
end Go.Proofs.Ytdfjfopbhlbmkaa
