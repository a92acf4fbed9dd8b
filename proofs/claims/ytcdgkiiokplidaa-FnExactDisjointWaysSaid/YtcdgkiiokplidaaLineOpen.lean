/-
  Whether some source and some asset that burn are neighbors: of the program and of the reference, walked.
-/
import Derived.Test.YtcdgkiiokplidaaLineTouch
namespace Go.Proofs.Ytcdgkiiokplidaa
open Go.RowKit

theorem setT_in {t : Terr} {xs : List Int} (h : setT t xs = true) : ∀ x ∈ xs, 0 ≤ x ∧ x < t.n := by
  rw [setT, setB_eq, Bool.and_eq_true, List.all_eq_true] at h
  intro x hx
  have := inB_iff.1 (h.2 x hx)
  omega
theorem terr_addr {t : Terr} {w : World} (hT : TOk w t) (hg : goodT t = true) : ∃ bb oo, t.A = some ⟨bb, oo, none⟩ := by
  obtain ⟨_, _, _, h1, _, _⟩ := goodT_bd hg
  obtain ⟨b, o, _, hA, _⟩ := hT.at_ hg (a := 0) ⟨by omega, by omega⟩
  exact ⟨b, o, hA⟩
theorem l9TouchP (t : Terr) (bb oo : Nat) (B : Option Addr) (m d : Nat) (ass : List Int) (x : Int) (v : Bool) (w : World) (h : touchC t x ass = v) (hA : t.A = some ⟨bb, oo, none⟩) (hT : TOk w t) (hg : goodT t = true) (hM : Sl w 1 B m d (ints ass)) (hm : m ≤ 1048576) (hx : 0 ≤ x ∧ x < t.n) :
    Calls Try.prog 23 #[.agg #[.int .i64 t.W, .int .i64 t.H, .slice (some ⟨bb, oo, none⟩) t.n t.c], .int .i64 x, .slice B m d] w fun e w' => e = .returned (.bool v) ∧ Below w.heap.size w w' := by
  rw [← h]
  exact l9TouchA t bb oo B m d ass x w hA hT hg hM hm hx
set_option maxHeartbeats 2000000 in
theorem l9OpenA (t : Terr) (bb oo : Nat) (A B : Option Addr) (n c m d : Nat) (so ass : List Int) (w : World) (hA : t.A = some ⟨bb, oo, none⟩) (hT : TOk w t) (hg : goodT t = true) (hS : Sl w 1 A n c (ints so)) (hn : n ≤ 1048576) (hM : Sl w 1 B m d (ints ass)) (hm : m ≤ 1048576) (hso : ∀ x ∈ so, 0 ≤ x ∧ x < t.n) :
    Calls Try.prog 16 #[.agg #[.int .i64 t.W, .int .i64 t.H, .slice (some ⟨bb, oo, none⟩) t.n t.c], .slice A n c, .slice B m d] w fun e w' => e = .returned (.bool (touchB t so ass)) ∧ Below w.heap.size w w' := by
  replace hA := hid hA
  replace hso := hid hso
  obtain ⟨hWb, _, _, _, htn, _⟩ := goodT_bd hg
  obtain ⟨W, hW, hbW, k0, k1, k2, hwW⟩ := boxT t bb oo w
  have hlh := hid hS.int_len
  have hR := hid (show touchB t so ass = so.any fun s => burnsB t s && touchC t s ass from rfl)
  replace hT := hT.bel hbW
  replace hS := hS.bel hbW
  replace hM := hM.bel hbW
  go_enter Try.func16, Try.ntmps16
  go_upto_region 1 with fail
  (try rw [hW])
  clear hW
  go_wp2_with fail
  go_loopw [7] (fun v wr => ∃ i : Nat, i ≤ n ∧ v = .int .i64 i ∧ (Hid (∀ r, r < i → ∀ u, so[r]? = some u → (burnsB t u && touchC t u ass) = false)) ∧ Below W.heap.size W wr) (fun v _ => n - (intOf v).toNat)
  case atStart => exact ⟨0, by omega, rfl, fun r hr => absurd hr (by omega), bel_refl _⟩
  case round =>
    obtain ⟨i, hi', rfl, hall, hB⟩ := hrel
    by_cases hlt : i < n
    · obtain ⟨k, hk⟩ : ∃ k, so[i]? = some k := get_of_lt (by rw [hlh.out]; exact hlt)
      obtain ⟨b, o, rfl, hb', c0⟩ := (hS.bel hB).int_at hk
      obtain ⟨hk0, hk1⟩ := hso.out k (List.mem_of_getElem? hk)
      obtain ⟨b2, o2, v, hA2, hb2', hv, -, -, e0⟩ := (hT.bel hB).at_ hg ⟨hk0, hk1⟩
      rw [hA.out] at hA2
      simp only [Option.some.injEq, Addr.mk.injEq, and_true] at hA2
      obtain ⟨rfl, rfl⟩ := hA2
      have hbv := hid (show burnsB t k = decide (0 < v) by rw [burnsB, burnAt_get hv])
      have hX := hid hk
      have hMr := hM.bel hB
      have hTr := hT.bel hB
      have k0r := ((bcell hB).1 _ 0 hwW).trans k0
      have k1r := ((bcell hB).1 _ 1 hwW).trans k1
      have k2r := ((bcell hB).1 _ 2 hwW).trans k2
      have hwr : w.heap.size < wr.heap.size := Nat.lt_of_lt_of_le hwW hB.size
      have hi0 : (0 : Int) ≤ (i : Int) := by omega
      have hi1 : (i : Int) < (n : Int) := by omega
      have hB2 := bel_refl wr
      clear hk hv
      by_cases hp : 0 < v
      · rcases hq : touchC t k ass with _ | _
        · have hN := all_snoc (p := fun u => burnsB t u && touchC t u ass) hall hX.out (by simp only [hq, Bool.and_false])
          go_wp2_with fail
          (refine wp_region_bel (by kernel_rfl) (by kernel_rfl) ?_; have hD := bel_cells hB2; (repeat (go_big_quiet_step (((go_at_call 23; exact calls_bel (l9TouchP t bb oo B m d ass k false _ hq hA.out (hTr.bel (Bel.prop _)) hg (hMr.bel (Bel.prop _)) hm ⟨hk0, hk1⟩)))))); refine wpQuiet_nil ?_; intro w1 hB1; replace hB2 := bel_trans hB2 hB1; obtain ⟨hC1, hF1⟩ := bcell hB2; clear hD; replace hB1 := hB1)
          go_wp2_with fail
          go_roundw
          case rel => exact ⟨i + 1, by omega, by go_num, hN, bel_trans hB hB2⟩
          case measure => simp [intOf]; omega
        · have hN := hid (anyi_yes (p := fun u => burnsB t u && touchC t u ass) hX.out (by simp only [hbv.out, hq, decide_eq_true hp]; rfl))
          go_wp2_with fail
          (refine wp_region_bel (by kernel_rfl) (by kernel_rfl) ?_; have hD := bel_cells hB2; (repeat (go_big_quiet_step (((go_at_call 23; exact calls_bel (l9TouchP t bb oo B m d ass k true _ hq hA.out (hTr.bel (Bel.prop _)) hg (hMr.bel (Bel.prop _)) hm ⟨hk0, hk1⟩)))))); refine wpQuiet_nil ?_; intro w1 hB1; replace hB2 := bel_trans hB2 hB1; obtain ⟨hC1, hF1⟩ := bcell hB2; clear hD; replace hB1 := hB1)
          go_wp2_with fail
          go_ret
          exact ⟨ret_bool (by rw [hR.out, hN.out]), bel_trans hbW (bel_trans hB hB2)⟩
      · have hN := all_snoc (p := fun u => burnsB t u && touchC t u ass) hall hX.out (by simp only [hbv.out, decide_eq_false hp]; rfl)
        replace hp := hid hp
        go_wp2_with fail
        have hp2 : decide (0 < v) = false := decide_eq_false (by have := hp.out; omega)
        (refine wp_region_bel (by kernel_rfl) (by kernel_rfl) ?_; have hD := bel_cells hB2; (repeat (go_big_quiet_step ((fail)))); refine wpQuiet_nil ?_; intro w1 hB1; replace hB2 := bel_trans hB2 hB1; obtain ⟨hC1, hF1⟩ := bcell hB2; clear hD; replace hB1 := hB1)
        go_wp2_with fail
        go_roundw
        case rel => exact ⟨i + 1, by omega, by go_num, hN, bel_trans hB hB2⟩
        case measure => simp [intOf]; omega
    · have hi1 : ¬ (i : Int) < (n : Int) := by omega
      have hN := hid (anyi_no (p := fun u => burnsB t u && touchC t u ass) (fun r u hu => hall.out r (by have h1 := (List.getElem?_eq_some_iff.1 hu).1; rw [hlh.out] at h1; omega) u hu))
      go_wp2_with fail
      go_ret
      exact ⟨ret_bool (by rw [hR.out, hN.out]), bel_trans hbW hB⟩
theorem l9Open (t : Terr) (A B : Option Addr) (n c m d : Nat) (so ass : List Int) (w : World) (hT : TOk w t) (hg : goodT t = true) (hS : Sl w 1 A n c (ints so)) (hn : n ≤ 1048576) (hM : Sl w 1 B m d (ints ass)) (hm : m ≤ 1048576) (hso : ∀ x ∈ so, 0 ≤ x ∧ x < t.n) :
    Calls Try.prog 16 #[.agg #[.int .i64 t.W, .int .i64 t.H, .slice t.A t.n t.c], .slice A n c, .slice B m d] w fun e w' => e = .returned (.bool (touchB t so ass)) ∧ Below w.heap.size w w' := by
  obtain ⟨bb, oo, hA⟩ := terr_addr hT hg
  rw [hA]
  exact l9OpenA t bb oo A B n c m d so ass w hA hT hg hS hn hM hm hso
/-! ### The program's way -/
theorem touchC_eq {t : Terr} {s : Int} {ass : List Int} (hass : ∀ x ∈ ass, 0 ≤ x ∧ x < t.n) : touchC t s ass = (ass.filter (burnsB t)).any fun a => apartF t.W s a == 1 := by
  rw [Bool.eq_iff_iff]
  simp only [touchC, List.any_eq_true, Bool.and_eq_true, hasB, beq_iff_eq, List.mem_filter]
  constructor
  · rintro ⟨k, hk, hb, x, hx, rfl⟩
    obtain ⟨i, rfl, hi, hn⟩ := cellsL_mem.1 hk
    exact ⟨_, ⟨hx, hb⟩, by simpa [nearB] using hn⟩
  · rintro ⟨a, ⟨ha, hb⟩, h1⟩
    obtain ⟨h2, h3⟩ := hass a ha
    refine ⟨a, cellsL_mem.2 ⟨a.toNat, by omega, by omega, ?_⟩, hb, a, ha, rfl⟩
    rw [nearB, decide_eq_true_eq, show ((a.toNat : Nat) : Int) = a by omega]
    exact h1
theorem any_filter (p q : Int → Bool) (xs : List Int) : (xs.filter p).any q = xs.any fun x => p x && q x := by
  induction xs with
  | nil => rfl
  | cons x xs ih =>
    rw [List.filter_cons, List.any_cons, ← ih]
    cases p x <;> simp
set_option maxHeartbeats 4000000 in
theorem touchesI (t : Terr) (A B : Option Addr) (n c m d : Nat) (so ass : List Int) (w : World) (hT : TOk w t) (hg : goodT t = true) (hS : Sl w 1 A n c (ints so)) (hn : n ≤ 1048576) (hM : Sl w 1 B m d (ints ass)) (hm : m ≤ 1048576) (hso : ∀ x ∈ so, 0 ≤ x ∧ x < t.n) (hass : ∀ x ∈ ass, 0 ≤ x ∧ x < t.n) :
    Calls Try.prog 19 #[.agg #[.int .i64 t.W, .int .i64 t.H, .slice t.A t.n t.c], .slice A n c, .slice B m d] w fun e w' => e = .returned (.bool (touchB t so ass)) ∧ Below w.heap.size w w' := by
  have hR := hid (show touchB t so ass = (so.filter (burnsB t)).any fun s => (ass.filter (burnsB t)).any fun a => apartF t.W s a == 1 by
    rw [any_filter, touchB]
    congr 1
    funext s
    rw [touchC_eq hass])
  replace hso := hid hso
  replace hass := hid hass
  obtain ⟨hWb, _, _, _, htn, _⟩ := goodT_bd hg
  obtain ⟨W, hW⟩ : ∃ W, w.alloc (.cells #[.int .i64 t.W, .int .i64 t.H, .slice t.A t.n t.c] 28) = W := ⟨_, rfl⟩
  have hbW : Below w.heap.size w W := by rw [← hW]; exact bel_alloc (bel_refl w)
  have k0 : W.cell? ⟨w.heap.size, 0, none⟩ = some (.int .i64 t.W) := by rw [← hW]; simp [go_sem]
  have k1 : W.cell? ⟨w.heap.size, 1, none⟩ = some (.int .i64 t.H) := by rw [← hW]; simp [go_sem]
  have k2 : W.cell? ⟨w.heap.size, 2, none⟩ = some (.slice t.A t.n t.c) := by rw [← hW]; simp [go_sem]
  have hwW : w.heap.size < W.heap.size := by rw [← hW]; simp
  replace hT := hT.bel hbW
  replace hS := hS.bel hbW
  replace hM := hM.bel hbW
  go_enter Try.func19, Try.ntmps19
  go_upto_region 1 with fail
  (try rw [hW])
  clear hW
  go_wp2_with fail
  refine (filterBurn t A n c so _ hT hg hS hn hso.out).mono ?_
  rintro _ w1 ⟨A1, m1, c1, rfl, hO, hB1⟩
  obtain ⟨xs, hxs⟩ : ∃ xs, so.filter (burnsB t) = xs := ⟨_, rfl⟩
  have hel : Hid (∀ k ∈ xs, 0 ≤ k ∧ k < t.n) := hid (fun k hk => hso.out k (by rw [← hxs] at hk; exact (List.mem_filter.1 hk).1))
  have hxn : xs.length ≤ 1048576 := by rw [← hxs]; exact Nat.le_trans (List.length_filter_le _ _) (by rw [hS.int_len]; exact hn)
  rw [hxs] at hO hR
  have hlh := hid hO.sl.int_len
  have hxl := hid hxn
  clear hxs hxn
  go_wp2_with fail
  go_loopw [16] (fun v wr => ∃ i : Nat, i ≤ m1 ∧ v = .int .i64 i ∧ (Hid (∀ r, r < i → ∀ u, xs[r]? = some u → ((ass.filter (burnsB t)).any fun a => apartF t.W u a == 1) = false)) ∧ Below w1.heap.size w1 wr) (fun v _ => m1 - (intOf v).toNat)
  case atStart => exact ⟨0, by omega, rfl, fun r hr => absurd hr (by omega), bel_refl _⟩
  case round =>
    obtain ⟨i, hi', rfl, hall, hB⟩ := hrel
    have hm1 : m1 ≤ 1048576 := by rw [← hlh.out]; exact hxl.out
    have hBW := bel_trans hB1 hB
    by_cases hlt : i < m1
    · obtain ⟨s, hs⟩ : ∃ s, xs[i]? = some s := get_of_lt (by rw [hlh.out]; exact hlt)
      obtain ⟨b, o, rfl, hb', c0⟩ := (hO.sl.bel hB).int_at hs
      obtain ⟨hs0, hs1⟩ := hel.out s (List.mem_of_getElem? hs)
      have hX := hid hs
      have k0r := ((bcell hBW).1 _ 0 hwW).trans k0
      have k1r := ((bcell hBW).1 _ 1 hwW).trans k1
      have k2r := ((bcell hBW).1 _ 2 hwW).trans k2
      have hwr : w.heap.size < wr.heap.size := Nat.lt_of_lt_of_le hwW hBW.size
      have hi0 : (0 : Int) ≤ (i : Int) := by omega
      have hi1 : (i : Int) < (m1 : Int) := by omega
      clear hs
      go_wp2_with fail
      refine (filterBurn t B m d ass _ (hT.bel hBW) hg (hM.bel hBW) hm hass.out).mono ?_
      rintro _ w2 ⟨A2, m2, c2, rfl, hO2, hB2⟩
      obtain ⟨ys, hys⟩ : ∃ ys, ass.filter (burnsB t) = ys := ⟨_, rfl⟩
      have hel2 : Hid (∀ k ∈ ys, 0 ≤ k ∧ k < t.n) := hid (fun k hk => hass.out k (by rw [← hys] at hk; exact (List.mem_filter.1 hk).1))
      have hyn : ys.length ≤ 1048576 := by rw [← hys]; exact Nat.le_trans (List.length_filter_le _ _) (by rw [hM.int_len]; exact hm)
      rw [hys] at hO2
      have hlh2 := hid hO2.sl.int_len
      have hyl := hid hyn
      have hBW2 := bel_trans hBW hB2
      have hB12 := bel_trans hB hB2
      replace hys := hid hys
      clear hyn k0r k1r k2r hwr hBW
      go_wp2_with fail
      go_loopw [25] (fun v wr => ∃ j : Nat, j ≤ m2 ∧ v = .int .i64 j ∧ (Hid (∀ r, r < j → ∀ u, ys[r]? = some u → (apartF t.W s u == 1) = false)) ∧ Below w2.heap.size w2 wr) (fun v _ => m2 - (intOf v).toNat)
      case atStart => exact ⟨0, by omega, rfl, fun r hr => absurd hr (by omega), bel_refl _⟩
      case round =>
        obtain ⟨j, hj', rfl, hall2, hB3⟩ := hrel
        have hm2 : m2 ≤ 1048576 := by rw [← hlh2.out]; exact hyl.out
        have hBW3 := bel_trans hBW2 hB3
        by_cases hlj : j < m2
        · obtain ⟨a, ha⟩ : ∃ a, ys[j]? = some a := get_of_lt (by rw [hlh2.out]; exact hlj)
          obtain ⟨b3, o3, rfl, hb3', d0⟩ := (hO2.sl.bel hB3).int_at ha
          obtain ⟨ha0, ha1⟩ := hel2.out a (List.mem_of_getElem? ha)
          have hY := hid ha
          have k0r := ((bcell hBW3).1 _ 0 hwW).trans k0
          have k1r := ((bcell hBW3).1 _ 1 hwW).trans k1
          have k2r := ((bcell hBW3).1 _ 2 hwW).trans k2
          have hwr : w.heap.size < wr.heap.size := Nat.lt_of_lt_of_le hwW hBW3.size
          have hj0 : (0 : Int) ≤ (j : Int) := by omega
          have hj1 : (j : Int) < (m2 : Int) := by omega
          clear ha
          rcases hq : (apartF t.W s a == 1) with _ | _
          · have hN := all_snoc (p := fun u => apartF t.W s u == 1) hall2 hY.out hq
            go_wp2_with fail
            refine (apart_ t s a _ hWb (by omega) (by omega)).mono ?_
            rintro _ w4 ⟨rfl, hB4⟩
            go_wp2_with fail
            go_roundw
            case rel => exact ⟨j + 1, by omega, by go_num, hN, bel_trans hB3 hB4⟩
            case measure => simp [intOf]; omega
          · have hN := hid (anyi_yes (p := fun u => (ass.filter (burnsB t)).any fun a => apartF t.W u a == 1) hX.out (by rw [hys.out]; exact anyi_yes (p := fun u => apartF t.W s u == 1) hY.out hq))
            go_wp2_with fail
            refine (apart_ t s a _ hWb (by omega) (by omega)).mono ?_
            rintro _ w4 ⟨rfl, hB4⟩
            go_wp2_with fail
            go_ret
            exact ⟨ret_bool (by rw [hR.out, hN.out]), bel_trans hbW (bel_trans hBW3 hB4)⟩
        · have hj1 : ¬ (j : Int) < (m2 : Int) := by omega
          have hN := all_snoc (p := fun u => (ass.filter (burnsB t)).any fun a => apartF t.W u a == 1) hall hX.out (by rw [hys.out]; exact anyi_no (p := fun u => apartF t.W s u == 1) (fun r u hu => hall2.out r (by have h1 := (List.getElem?_eq_some_iff.1 hu).1; rw [hlh2.out] at h1; omega) u hu))
          go_wp2_with fail
          go_roundw
          case rel => exact ⟨i + 1, by omega, by go_num, hN, bel_trans hB12 hB3⟩
          case measure => simp [intOf]; omega
    · have hi1 : ¬ (i : Int) < (m1 : Int) := by omega
      have hN := hid (anyi_no (p := fun u => (ass.filter (burnsB t)).any fun a => apartF t.W u a == 1) (fun r u hu => hall.out r (by have h1 := (List.getElem?_eq_some_iff.1 hu).1; rw [hlh.out] at h1; omega) u hu))
      go_wp2_with fail
      go_ret
      exact ⟨ret_bool (by rw [hR.out, hN.out]), bel_trans hbW hBW⟩
end Go.Proofs.Ytcdgkiiokplidaa
