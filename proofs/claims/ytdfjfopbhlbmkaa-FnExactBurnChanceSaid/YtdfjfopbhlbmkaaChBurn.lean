/-
  Whether a cell burns in a scenario: the closure and the loop, walked.
-/
import Derived.Test.YtdfjfopbhlbmkaaAbove
namespace Go.Proofs.Ytdfjfopbhlbmkaa
open Go.RowKit


noncomputable def hitP (t : Terr) (so : List Int) (st tick cell : Int) (x : Scen) : Bool := (burnL t x.ps so st tick).any fun y => y == cell
set_option maxHeartbeats 1000000 in
theorem indexI (A : Option Addr) (n c : Nat) (xs : List Int) (v : Int) (w : World) (hS : Sl w 1 A n c (ints xs)) (hn : n ≤ 1048576) :
    Calls Try.prog 106 #[.slice A n c, .int .i64 v] w fun e w' => ∃ k : Int, e = .returned (.int .i64 k) ∧ decide (0 ≤ k) = (xs.any fun y => y == v) ∧ w = w' := by
  have hlh := hid hS.int_len
  go_enter Try.func106, Try.ntmps106
  go_wp2
  go_loopw [8] (fun u wr => ∃ i : Nat, i ≤ n ∧ u = .int .i64 i ∧ (Hid (∀ r, r < i → ∀ u, xs[r]? = some u → (u == v) = false)) ∧ w = wr) (fun v _ => n - (intOf v).toNat)
  case atStart => exact ⟨0, by omega, rfl, fun r hr => absurd hr (by omega), rfl⟩
  case round =>
    obtain ⟨i, hi', rfl, hall, rfl⟩ := hrel
    by_cases hlt : i < n
    · obtain ⟨x, hx⟩ : ∃ x, xs[i]? = some x := get_of_lt (by rw [hlh.out]; exact hlt)
      obtain ⟨b, o, rfl, hb, c0⟩ := hS.int_at hx
      have hX := hid hx
      clear hx
      have hi0 : (0 : Int) ≤ (i : Int) := by omega
      have hi1 : (i : Int) < (n : Int) := by omega
      by_cases hq : v = x
      · subst hq
        have hR := hid (show (xs.any fun y => y == v) = true from List.any_eq_true.2 ⟨v, List.mem_of_getElem? hX.out, by simp⟩)
        go_wp2
        go_ret
        exact ⟨i, rfl, by rw [hR.out]; simp, rfl⟩
      · go_wp2
        go_roundw
        case rel => exact ⟨i + 1, by omega, by go_num, fun r hr u hu => (by
          rcases Nat.lt_or_ge r i with h1 | h1
          · exact hall.out r h1 u hu
          · rw [show r = i by omega, hX.out] at hu
            simp only [Option.some.injEq] at hu
            rw [← hu]; simpa using fun e => hq e.symm), by simp⟩
        case measure => simp [intOf]; omega
    · have hi1 : ¬ (i : Int) < (n : Int) := by omega
      have hR := hid (show (xs.any fun y => y == v) = false from by
        rw [List.any_eq_false]
        intro x hx
        obtain ⟨r, hr⟩ := List.getElem?_of_mem hx
        have := hall.out r (by have h1 := (List.getElem?_eq_some_iff.1 hr).1; rw [hlh.out] at h1; omega) x hr
        simp [this])
      go_wp2
      go_ret
      exact ⟨-1, rfl, by rw [hR.out]; rfl, rfl⟩
theorem hasI (A : Option Addr) (n c : Nat) (xs : List Int) (v : Int) (w : World) (hS : Sl w 1 A n c (ints xs)) (hn : n ≤ 1048576) :
    Calls Try.prog 63 #[.slice A n c, .int .i64 v] w fun e w' => e = .returned (.bool (xs.any fun y => y == v)) ∧ Below w.heap.size w w' := by
  have key : Calls Try.prog 87 #[.slice A n c, .int .i64 v] w fun e w' => e = .returned (.bool (xs.any fun y => y == v)) ∧ w = w' := by
    go_enter Try.func87, Try.ntmps87
    go_wp2_with (go_at_call 106; refine (indexI A n c xs v _ hS hn).mono ?_; rintro _ w1 ⟨k, rfl, hk, rfl⟩)
    go_ret
    exact ⟨ret_bool (by first | rfl | exact hk), rfl⟩
  go_enter Try.func63, Try.ntmps63
  go_wp2_with (go_at_call 87; refine key.mono ?_; rintro _ w1 ⟨rfl, rfl⟩)
  go_ret
  exact ⟨rfl, by (repeat' (first | (with_reducible exact bel_refl _) | (with_reducible assumption) | (with_reducible refine bel_drew ?_) | (with_reducible refine bel_drewN ?_) | (with_reducible refine bel_alloc ?_) | (with_reducible refine bel_set ?_ ?_) | (with_reducible refine bel_trans ?_ (by with_reducible assumption)) | omega | (simp; done) | (simp; omega)))⟩
/-! ### the closure and the loop -/
set_option maxHeartbeats 2000000 in
theorem chanceBurn (A : Option Addr) (n c : Nat) (xs : List Scen) (v1 v2 v3 v4 v5 : Value) (p : Scen → Bool) (w : World) (hS : Sl w 2 A n c (xs.flatMap Scen.row)) (hens : ensB xs = true)
    (hF : ∀ (x : Scen) (w' : World), x ∈ xs → Below w.heap.size w w' → Calls Try.prog 62 #[.agg #[.slice x.A x.n x.c, .int .i64 x.weight], v1, v2, v3, v4, v5] w' fun e w'' => e = .returned (.bool (p x)) ∧ Below w'.heap.size w' w'') :
    Calls Try.prog 52 #[.slice A n c, .func (.func 62) #[] #[v1, v2, v3, v4, v5]] w fun e w' => e = .returned (.tuple #[.int .i64 (fracA (sumN (chW p) xs n) (sumN wtN xs n)).1, .int .i64 (fracA (sumN (chW p) xs n) (sumN wtN xs n)).2]) ∧ Below w.heap.size w w' := by
  replace hF := hid hF
  have hlh := hid (hS.xs_len Scen.row_len (by omega))
  obtain ⟨hl1, hl4, hgs⟩ := ensB_parts hens
  have hn4 : (n : Int) ≤ 4 := by have := hlh.out; omega
  have hsb := hid (sumN_bd (f := wtN) (xs := xs) (k := 100) (fun i x hx => by have := goodSc_parts (hgs i x hx); unfold wtN; omega))
  have hmb := hid (sumN_bd (f := chW p) (xs := xs) (k := 100) (fun i x hx => chW_bd (hgs i x hx)))
  have hwp : Hid (0 < sumN wtN xs n) := by have := wt_pos hens; rw [hlh.out] at this; exact this
  have hgs := hid hgs
  clear hl1 hl4 hens
  go_enter Try.func52, Try.ntmps52
  go_wp2_with fail
  go_loopw [6, 7, 12] (fun q u v wr => ∃ i : Nat, i ≤ n ∧ v = .int .i64 i ∧ q = .int .i64 (sumN (chW p) xs i : Nat) ∧ u = .int .i64 (sumN wtN xs i : Nat) ∧ Below w.heap.size w wr) (fun _ _ v _ => n - (intOf v).toNat)
  case atStart => exact ⟨0, by omega, rfl, by simp [sumN], by simp [sumN], bel_refl w⟩
  case round =>
    obtain ⟨i, hi', rfl, rfl, rfl, hBo⟩ := hrel
    have hs1 := hmb.out i
    have hs2 := hsb.out i
    have hs3 : sumN (chW p) xs i ≤ 400 := by omega
    have hs4 : sumN wtN xs i ≤ 400 := by omega
    clear hs1 hs2
    by_cases hlt : i < n
    · obtain ⟨x, hx⟩ : ∃ x, xs[i]? = some x := get_of_lt (by rw [hlh.out]; exact hlt)
      obtain ⟨b, o, rfl, hb, c0, c1⟩ := (hS.bel hBo).scen hx
      have hxm := hid (List.mem_of_getElem? hx)
      have hwx := (goodSc_parts (hgs.out i x hx)).2
      have hN1 := hid (sumN_next (f := chW p) hx)
      have hN2 := hid (sumN_next (f := wtN) hx)
      clear hx
      have hi0 : (0 : Int) ≤ (i : Int) := by omega
      have hi1 : (i : Int) < (n : Int) := by omega
      obtain ⟨S, hSd⟩ : ∃ S, sumN (chW p) xs i = S := ⟨_, rfl⟩
      obtain ⟨U, hUd⟩ : ∃ U, sumN wtN xs i = U := ⟨_, rfl⟩
      rw [hSd] at hN1 hs3 ⊢
      rw [hUd] at hN2 hs4 ⊢
      have hc := hid (fun w' hb => hF.out x w' hxm.out hb)
      obtain ⟨Z, hZ⟩ : ∃ Z, wr.alloc (.cells #[.slice x.A x.n x.c, .int .i64 x.weight] 57) = Z := ⟨_, rfl⟩
      have hZb : Below wr.heap.size wr Z := by rw [← hZ]; exact bel_alloc (bel_refl _)
      have e0 : Z.cell? ⟨wr.heap.size, 0, none⟩ = some (.slice x.A x.n x.c) := by rw [← hZ]; simp [go_sem]
      have e1 : Z.cell? ⟨wr.heap.size, 1, none⟩ = some (.int .i64 x.weight) := by rw [← hZ]; simp [go_sem]
      have hzs : wr.heap.size < Z.heap.size := by rw [← hZ]; simp
      rcases hp : p x with _ | _
      · have hq : Hid (chW p x = 0) := by show _ = _; unfold chW; rw [hp]; rfl
        go_wp2_with (go_at_call 62; (try rw [hZ]); refine (hc.out Z (bel_trans hBo hZb)).mono ?_; rw [hp]; rintro _ w1 ⟨rfl, hB1⟩; obtain ⟨hC1, hF1⟩ := bcell hB1)
        go_roundw
        case rel => exact ⟨i + 1, by omega, by go_num, by rw [hN1.out, hq.out]; rfl, by rw [hN2.out]; congr 1; unfold wtN; omega, bel_trans (bel_trans hBo hZb) hB1⟩
        case measure => simp [intOf]; omega
      · have hq : Hid (chW p x = wtN x) := by show _ = _; unfold chW; rw [hp]; rfl
        go_wp2_with (go_at_call 62; (try rw [hZ]); refine (hc.out Z (bel_trans hBo hZb)).mono ?_; rw [hp]; rintro _ w1 ⟨rfl, hB1⟩; obtain ⟨hC1, hF1⟩ := bcell hB1)
        go_roundw
        case rel => exact ⟨i + 1, by omega, by go_num, by rw [hN1.out, hq.out]; congr 1; unfold wtN; omega, by rw [hN2.out]; congr 1; unfold wtN; omega, bel_trans (bel_trans hBo hZb) hB1⟩
        case measure => simp [intOf]; omega
    · have hi1 : ¬ (i : Int) < (n : Int) := by omega
      have e : i = n := by omega
      subst e
      go_wp2_with (go_at_call 51; refine (fraction _ _ _ (by omega) (by omega) hwp.out).mono ?_; rintro _ w8 ⟨rfl, hB8⟩)
      go_ret2
      exact ⟨rfl, bel_trans hBo hB8⟩
set_option maxHeartbeats 2000000 in
theorem cloChance (t : Terr) (x : Scen) (B : Option Addr) (m d : Nat) (so : List Int) (st tick cells : Int) (g1 g2 g3 g4 g5 : Nat) (w : World) (hT : TOk w t) (hg : goodT t = true) (hS : Sl w 2 x.A x.n x.c (x.ps.flatMap Phase.row)) (hn : x.n ≤ 1048576) (hx : goodSc x = true) (hM : Sl w 1 B m d (ints so)) (hm : m ≤ 1048576) (hso : setT t so = true) (hst : 0 ≤ st ∧ st ≤ 1000)
    (k0 : w.cell? ⟨g1, 0, none⟩ = some (.int .i64 t.W)) (k1 : w.cell? ⟨g1, 1, none⟩ = some (.int .i64 t.H)) (k2 : w.cell? ⟨g1, 2, none⟩ = some (.slice t.A t.n t.c)) (c2 : w.cell? ⟨g2, 0, none⟩ = some (.slice B m d)) (c3 : w.cell? ⟨g3, 0, none⟩ = some (.int .i64 st)) (c4 : w.cell? ⟨g4, 0, none⟩ = some (.int .i64 tick)) (c5 : w.cell? ⟨g5, 0, none⟩ = some (.int .i64 cells)) :
    Calls Try.prog 62 #[.agg #[.slice x.A x.n x.c, .int .i64 x.weight], .pointer (some ⟨g1, 0, none⟩), .pointer (some ⟨g2, 0, none⟩), .pointer (some ⟨g3, 0, none⟩), .pointer (some ⟨g4, 0, none⟩), .pointer (some ⟨g5, 0, none⟩)] w fun e w' => e = .returned (.bool (hitP t so st tick cells x)) ∧ Below w.heap.size w w' := by
  have l1 := World.block_lt_of_cell? w _ k0
  have l2 := World.block_lt_of_cell? w _ c2
  have l3 := World.block_lt_of_cell? w _ c3
  have l4 := World.block_lt_of_cell? w _ c4
  have l5 := World.block_lt_of_cell? w _ c5
  simp only [] at l1 l2 l3 l4 l5
  obtain ⟨Z, hZ⟩ : ∃ Z, w.alloc (.cells #[.slice x.A x.n x.c, .int .i64 x.weight] 57) = Z := ⟨_, rfl⟩
  have hZb : Below w.heap.size w Z := by rw [← hZ]; exact bel_alloc (bel_refl _)
  have e0 : Z.cell? ⟨w.heap.size, 0, none⟩ = some (.slice x.A x.n x.c) := by rw [← hZ]; simp [go_sem]
  have hzs : w.heap.size < Z.heap.size := by rw [← hZ]; simp
  replace k0 := ((bcell hZb).1 _ 0 l1).trans k0
  replace k1 := ((bcell hZb).1 _ 1 l1).trans k1
  replace k2 := ((bcell hZb).1 _ 2 l1).trans k2
  replace c2 := ((bcell hZb).1 _ 0 l2).trans c2
  replace c3 := ((bcell hZb).1 _ 0 l3).trans c3
  replace c4 := ((bcell hZb).1 _ 0 l4).trans c4
  replace c5 := ((bcell hZb).1 _ 0 l5).trans c5
  replace l1 := Nat.lt_trans l1 hzs
  replace l2 := Nat.lt_trans l2 hzs
  replace l3 := Nat.lt_trans l3 hzs
  replace l4 := Nat.lt_trans l4 hzs
  replace l5 := Nat.lt_trans l5 hzs
  have hB2 := bel_refl Z
  go_enter Try.func62, Try.ntmps62
  go_wp2_with fail
  try rw [hZ]
  (refine wp_region_planB (.free 0 (.free 1 (.free 2 (.free 3 (.free 4 (.free 5 (.free 7 (.one 6 (.one 8 (.free 9 (.stop))))))))))) (by kernel_rfl) (by kernel_rfl) ?_; have hD := bel_cells hB2; simp only [Plan.ops, List.getElem?_cons_zero, List.getElem?_cons_succ, Option.getD_some])
  (iterate 7 (refine p_free rfl (by rintro w' ⟨d, rfl⟩; obtain ⟨hDc, hDf⟩ := hD d; (go_simp; first | done | rfl)) ?_; (try simp only [Act.put, List.setIfInBounds_toArray, List.set_cons_zero, List.set_cons_succ])))
  refine p_call rfl (by (go_simp; first | done | exact ⟨rfl, rfl⟩ | rfl)) ?_
  refine (burned t x.A x.n x.c x.ps B m d so st _ ((hT.bel hZb).bel (bel_drew (bel_refl _))) hg ((hS.bel hZb).bel (bel_drew (bel_refl _))) hn (goodSc_parts hx).1 ((hM.bel hZb).bel (bel_drew (bel_refl _))) hm hso hst tick).mono ?_
  rintro _ w2 ⟨A2, k, c3', rfl, hO2, hB3⟩
  have hBz := bel_trans (bel_drew (bel_refl _)) hB3
  have hk : k ≤ 1048576 := by
    have h1 := cnt_own hO2
    have h2 := cntS_le t so st tick x
    have h3 := (goodT_bd hg).2.2.2.2.1
    omega
  refine ⟨_, rfl, ⟨⟨_, hBz⟩, rfl⟩, ?_⟩
  (try simp only [Act.put, List.setIfInBounds_toArray, List.set_cons_zero, List.set_cons_succ])
  refine p_call rfl (by (go_simp; first | done | exact ⟨rfl, rfl⟩ | rfl)) ?_
  refine (hasI _ _ _ _ cells _ hO2.sl hk).mono ?_
  rintro _ w3 ⟨rfl, hB4⟩
  refine ⟨_, rfl, ⟨⟨_, bel_trans hBz hB4⟩, rfl⟩, ?_⟩
  (try simp only [Act.put, List.setIfInBounds_toArray, List.set_cons_zero, List.set_cons_succ])
  (iterate 1 (refine p_free rfl (by rintro w' ⟨d, rfl⟩; obtain ⟨hDc, hDf⟩ := hD d; (go_simp; first | done | rfl)) ?_; (try simp only [Act.put, List.setIfInBounds_toArray, List.set_cons_zero, List.set_cons_succ])))
  refine p_stop ?_
  (try simp only [Act.put, List.setIfInBounds_toArray, List.set_cons_zero, List.set_cons_succ])
  go_wp2
  go_ret
  exact ⟨ret_bool rfl, bel_trans hZb (bel_trans hBz hB4)⟩
end Go.Proofs.Ytdfjfopbhlbmkaa
