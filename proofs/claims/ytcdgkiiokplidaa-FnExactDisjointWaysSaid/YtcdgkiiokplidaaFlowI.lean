/-
  How many units go through a net (the program's), walked.
-/
import Derived.Test.YtcdgkiiokplidaaAugI
namespace Go.Proofs.Ytcdgkiiokplidaa
open Go.RowKit

def FlowR (lo hi N s t : Nat) (C : Nat → Nat → Int) (w : World) (e : Ending) (w' : World) : Prop := ∃ K : Int, e = .returned (.int .i64 K) ∧ Cert N s t C K ∧ GrownIn lo hi w w'
set_option maxHeartbeats 4000000 in
theorem flowI (lo hi gA N c s t : Nat) (LL : List (List Int)) (Vs : List Value) (w : World) (hM : Mat lo hi w gA N c LL Vs) (hhi : hi ≤ w.heap.size) (hsN : s < N) (htN : t < N) (hst : s ≠ t) (hN : N ≤ 52) (h0 : ∀ u v, 0 ≤ matF LL u v) (hC : ∀ u v, matF LL u v ≤ 1) :
    Calls Try.prog 36 #[.agg #[.slice (some ⟨gA, 0, none⟩) N c], .int .i64 s, .int .i64 t] w (FlowR lo hi N s t (matF LL) w) := by
  obtain ⟨C, hCe⟩ : ∃ C, matF LL = C := ⟨_, rfl⟩
  have hF := hid (show FlowSt N s t C (matF LL) ((0 : Nat) : Int) by rw [hCe]; exact FlowSt.start N s t C (fun u v _ _ => by rw [← hCe]; exact h0 u v))
  rw [hCe] at hC ⊢
  replace hC := hid hC
  clear h0 hCe
  obtain ⟨W, hW⟩ : ∃ W, w.alloc (.cells #[.slice (some ⟨gA, 0, none⟩) N c] 50) = W := ⟨_, rfl⟩
  have hbW : Below w.heap.size w W := by rw [← hW]; exact bel_alloc (bel_refl w)
  have n0 : W.cell? ⟨w.heap.size, 0, none⟩ = some (.slice (some ⟨gA, 0, none⟩) N c) := by rw [← hW, cell_of_row _ _ 0 _ _ (0, 0) (heap_alloc_new w _)]; rfl
  replace hM := hM.bel hbW
  have hhW : hi ≤ W.heap.size := Nat.le_trans hhi hbW.size
  go_enter Try.func36, Try.ntmps36
  go_upto_region 1 with fail
  (try rw [hW])
  clear hW
  go_wp2_with fail
  go_loopg [7] N (fun gk v wr => ∃ (k : Nat) (LL' : List (List Int)), v = .int .i64 k ∧ k + gk = N ∧ Mat lo hi wr gA N c LL' Vs ∧ Hid (FlowSt N s t C (matF LL') k) ∧ GrownIn lo hi W wr)
  case atStart => exact ⟨0, LL, rfl, by omega, hM, hF, GrownIn.refl _ _ _⟩
  case round =>
    clear hM hF
    obtain ⟨k, LL', rfl, hk, hM, hF, hG⟩ := hrel
    have nw := grownIn_cell hG n0 (.inr hhi)
    have hwr := hG.size
    replace hk := hid hk
    go_wp2_with fail
    refine (augmentI lo hi gA N c s t LL' Vs C k _ hM (by omega) hsN htN hN hF.out hC.out).mono ?_
    rintro _ w1 ⟨b, LL2, rfl, hM2, hG2, hT, hFa⟩
    rcases b with _ | _
    · have hcert := hFa rfl
      replace hcert := hid hcert
      clear hT hFa
      go_wp2_with fail
      go_ret
      exact ⟨k, rfl, hcert.out, (grownIn_bel lo hi hbW).trans (hG.trans hG2)⟩
    · have hF2 := hT rfl
      have hb := hF2.bound hsN hst (fun v _ => hC.out s v)
      replace hF2 := hid (show FlowSt N s t C (matF LL2) ((k + 1 : Nat) : Int) from by rw [show ((k + 1 : Nat) : Int) = (k : Int) + 1 by omega]; exact hF2)
      have hk1 : (k : Int) + 1 ≤ 52 := by omega
      have hk0 : (0 : Int) ≤ (k : Int) := by omega
      clear hT hFa
      go_wp2_with fail
      go_roundg (N - (k + 1))
      case measure => have := hk.out; omega
      case rel => exact ⟨k + 1, LL2, by go_num, by omega, hM2, hF2, hG.trans hG2⟩
end Go.Proofs.Ytcdgkiiokplidaa
