/-
  Whether a source and an asset that burn are neighbors: of the program and of the reference, walked.
-/
import Derived.Test.YtcdgkiiokplidaaLineAsk
namespace Go.Proofs.Ytcdgkiiokplidaa
open Go.RowKit

/-- Whether a burnable cell of a list is next to a cell. -/
def touchC (t : Terr) (x : Int) (ass : List Int) : Bool := (nearL t x).any fun k => burnsB t k && hasB ass k
def touchB (t : Terr) (so ass : List Int) : Bool := so.any fun s => burnsB t s && touchC t s ass
theorem anyi_no {p : Int → Bool} {xs : List Int} (h : ∀ (i : Nat) (x : Int), xs[i]? = some x → p x = false) : xs.any p = false := by
  rw [List.any_eq_false]
  intro x hx
  obtain ⟨i, hi⟩ := List.getElem?_of_mem hx
  simp [h i x hi]
theorem anyi_yes {p : Int → Bool} {xs : List Int} {i : Nat} {x : Int} (hx : xs[i]? = some x) (h : p x = true) : xs.any p = true := List.any_eq_true.2 ⟨x, List.mem_of_getElem? hx, h⟩
theorem all_snoc {xs : List Int} {i : Nat} {x : Int} {p : Int → Bool} {v : Bool} (h : Hid (∀ r, r < i → ∀ u, xs[r]? = some u → p u = v)) (hx : xs[i]? = some x) (hp : p x = v) : Hid (∀ r, r < i + 1 → ∀ u, xs[r]? = some u → p u = v) := fun r hr u hu => by
  rcases Nat.lt_or_ge r i with h1 | h1
  · exact h.out r h1 u hu
  · rw [show r = i by omega, hx] at hu
    simp only [Option.some.injEq] at hu
    rw [← hu]; exact hp
theorem near_in {t : Terr} {x k : Int} (h : k ∈ nearL t x) : 0 ≤ k ∧ k < t.n := by
  obtain ⟨i, rfl, hi, -⟩ := cellsL_mem.1 h
  omega
theorem l1HasP (A : Option Addr) (n c : Nat) (xs : List Int) (v : Int) (b : Bool) (w : World) (h : hasB xs v = b) (hS : Sl w 1 A n c (ints xs)) (hn : n ≤ 1048576) :
    Calls Try.prog 39 #[.slice A n c, .int .i64 v] w fun e w' => e = .returned (.bool b) ∧ w = w' := by
  rw [← h]
  exact l1Has A n c xs v w hS hn
/-- The box of a terrain. -/
theorem boxT (t : Terr) (bb oo : Nat) (w : World) : ∃ W, w.alloc (.cells #[.int .i64 t.W, .int .i64 t.H, .slice (some ⟨bb, oo, none⟩) t.n t.c] 28) = W ∧ Below w.heap.size w W ∧ W.cell? ⟨w.heap.size, 0, none⟩ = some (.int .i64 t.W) ∧ W.cell? ⟨w.heap.size, 1, none⟩ = some (.int .i64 t.H) ∧ W.cell? ⟨w.heap.size, 2, none⟩ = some (.slice (some ⟨bb, oo, none⟩) t.n t.c) ∧ w.heap.size < W.heap.size :=
  ⟨_, rfl, bel_alloc (bel_refl w), by simp [go_sem], by simp [go_sem], by simp [go_sem], by simp⟩
set_option maxHeartbeats 2000000 in
theorem l9TouchA (t : Terr) (bb oo : Nat) (B : Option Addr) (m d : Nat) (ass : List Int) (x : Int) (w : World) (hA : t.A = some ⟨bb, oo, none⟩) (hT : TOk w t) (hg : goodT t = true) (hM : Sl w 1 B m d (ints ass)) (hm : m ≤ 1048576) (hx : 0 ≤ x ∧ x < t.n) :
    Calls Try.prog 23 #[.agg #[.int .i64 t.W, .int .i64 t.H, .slice (some ⟨bb, oo, none⟩) t.n t.c], .int .i64 x, .slice B m d] w fun e w' => e = .returned (.bool (touchC t x ass)) ∧ Below w.heap.size w w' := by
  have hnear := fun w' => l2Near t x w' hg hx
  rw [hA] at hnear
  replace hA := hid hA
  replace hnear := hid hnear
  obtain ⟨hWb, _, _, _, htn, _⟩ := goodT_bd hg
  obtain ⟨W, hW, hbW, k0, k1, k2, hwW⟩ := boxT t bb oo w
  go_enter Try.func23, Try.ntmps23
  go_upto_region 1 with fail
  (try rw [hW])
  clear hW
  go_wp2_with fail
  refine (hnear.out _).mono ?_
  rintro _ w1 ⟨A1, m1, c1, rfl, hO, hB1⟩
  obtain ⟨xs, hxs⟩ : ∃ xs, nearL t x = xs := ⟨_, rfl⟩
  have hel : Hid (∀ k ∈ xs, 0 ≤ k ∧ k < t.n) := hid (fun k hk => near_in (t := t) (x := x) (by rw [hxs]; exact hk))
  have hxl := hid (show xs.length ≤ 25 by rw [← hxs]; exact Nat.le_trans (cellsL_len _ _) htn)
  have hR := hid (show touchC t x ass = xs.any fun k => burnsB t k && hasB ass k by rw [touchC, hxs])
  rw [hxs] at hO
  have hlh := hid hO.sl.int_len
  have hT1 := (hT.bel hbW).bel hB1
  have hM1 := (hM.bel hbW).bel hB1
  have hb1 := bel_trans hbW hB1
  have hs1 := hB1.size
  have k20 := ((bcell hB1).1 _ 2 hwW).trans k2
  have hwl : w.heap.size < w1.heap.size := by omega
  clear hxs k0 k1 k2 hB1 hs1 hwW
  go_wp2_with fail
  go_loopw [8] (fun v wr => ∃ i : Nat, i ≤ m1 ∧ v = .int .i64 i ∧ (Hid (∀ r, r < i → ∀ u, xs[r]? = some u → (burnsB t u && hasB ass u) = false)) ∧ Below w1.heap.size w1 wr) (fun v _ => m1 - (intOf v).toNat)
  case atStart => exact ⟨0, by omega, rfl, fun r hr => absurd hr (by omega), bel_refl _⟩
  case round =>
    obtain ⟨i, hi', rfl, hall, hB⟩ := hrel
    have hm1 : m1 ≤ 25 := by rw [← hlh.out]; exact hxl.out
    by_cases hlt : i < m1
    · obtain ⟨k, hk⟩ : ∃ k, xs[i]? = some k := get_of_lt (by rw [hlh.out]; exact hlt)
      obtain ⟨b, o, rfl, hb', c0⟩ := (hO.sl.bel hB).int_at hk
      obtain ⟨hk0, hk1⟩ := hel.out k (List.mem_of_getElem? hk)
      obtain ⟨b2, o2, v, hA2, hb2', hv, -, -, e0⟩ := (hT1.bel hB).at_ hg ⟨hk0, hk1⟩
      rw [hA.out] at hA2
      simp only [Option.some.injEq, Addr.mk.injEq, and_true] at hA2
      obtain ⟨rfl, rfl⟩ := hA2
      have hbv := hid (show burnsB t k = decide (0 < v) by rw [burnsB, burnAt_get hv])
      have hX := hid hk
      have hMr := hM1.bel hB
      have k2r := ((bcell hB).1 _ 2 hwl).trans k20
      have hwr : w.heap.size < wr.heap.size := Nat.lt_of_lt_of_le hwl hB.size
      have hi0 : (0 : Int) ≤ (i : Int) := by omega
      have hi1 : (i : Int) < (m1 : Int) := by omega
      have hB2 := bel_refl wr
      clear hk hv
      by_cases hp : 0 < v
      · rcases hq : hasB ass k with _ | _
        · have hN := all_snoc (p := fun u => burnsB t u && hasB ass u) hall hX.out (by simp only [hq, Bool.and_false])
          go_wp2_with fail
          (refine wp_region_bel (by kernel_rfl) (by kernel_rfl) ?_; have hD := bel_cells hB2; (repeat (go_big_quiet_step (((go_at_call 39; exact calls_bel_same (l1HasP B m d ass k false _ hq (hMr.bel (Bel.prop _)) hm)))))); refine wpQuiet_nil ?_; intro w1 hB1; replace hB2 := bel_trans hB2 hB1; obtain ⟨hC1, hF1⟩ := bcell hB2; clear hD; replace hB1 := hB1)
          go_wp2_with fail
          go_roundw
          case rel => exact ⟨i + 1, by omega, by go_num, hN, bel_trans hB hB2⟩
          case measure => simp [intOf]; omega
        · have hN := hid (anyi_yes (p := fun u => burnsB t u && hasB ass u) hX.out (by simp only [hbv.out, hq, decide_eq_true hp]; rfl))
          go_wp2_with fail
          (refine wp_region_bel (by kernel_rfl) (by kernel_rfl) ?_; have hD := bel_cells hB2; (repeat (go_big_quiet_step (((go_at_call 39; exact calls_bel_same (l1HasP B m d ass k true _ hq (hMr.bel (Bel.prop _)) hm)))))); refine wpQuiet_nil ?_; intro w1 hB1; replace hB2 := bel_trans hB2 hB1; obtain ⟨hC1, hF1⟩ := bcell hB2; clear hD; replace hB1 := hB1)
          go_wp2_with fail
          go_ret
          exact ⟨ret_bool (by rw [hR.out, hN.out]), bel_trans hb1 (bel_trans hB hB2)⟩
      · have hN := all_snoc (p := fun u => burnsB t u && hasB ass u) hall hX.out (by simp only [hbv.out, decide_eq_false hp]; rfl)
        replace hp := hid hp
        go_wp2_with fail
        have hp2 : decide (0 < v) = false := decide_eq_false (by have := hp.out; omega)
        (refine wp_region_bel (by kernel_rfl) (by kernel_rfl) ?_; have hD := bel_cells hB2; (repeat (go_big_quiet_step ((fail)))); refine wpQuiet_nil ?_; intro w1 hB1; replace hB2 := bel_trans hB2 hB1; obtain ⟨hC1, hF1⟩ := bcell hB2; clear hD; replace hB1 := hB1)
        go_wp2_with fail
        go_roundw
        case rel => exact ⟨i + 1, by omega, by go_num, hN, bel_trans hB hB2⟩
        case measure => simp [intOf]; omega
    · have hi1 : ¬ (i : Int) < (m1 : Int) := by omega
      have hN := hid (anyi_no (p := fun u => burnsB t u && hasB ass u) (fun r u hu => hall.out r (by have h1 := (List.getElem?_eq_some_iff.1 hu).1; rw [hlh.out] at h1; omega) u hu))
      go_wp2_with fail
      go_ret
      exact ⟨ret_bool (by rw [hR.out, hN.out]), bel_trans hb1 hB⟩
end Go.Proofs.Ytcdgkiiokplidaa
