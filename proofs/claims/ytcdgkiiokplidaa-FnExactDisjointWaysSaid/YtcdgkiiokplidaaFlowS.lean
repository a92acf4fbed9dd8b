/-
  How many units go through the reference's net, walked.
-/
import Derived.Test.YtcdgkiiokplidaaCapsS
import Derived.Test.YtcdgkiiokplidaaAugS
namespace Go.Proofs.Ytcdgkiiokplidaa
open Go.RowKit

def WaysSR (es : List (Nat × Nat)) (n : Nat) (w : World) (e : Ending) (w' : World) : Prop := ∃ K : Int, e = .returned (.int .i64 K) ∧ Cert (2 * n + 2) (2 * n) (2 * n + 1) (ones es) K ∧ Below w.heap.size w w'
set_option maxHeartbeats 4000000 in
theorem l9Ways (t : Terr) (A B : Option Addr) (n c m d : Nat) (so ass : List Int) (w : World) (hT : TOk w t) (hg : goodT t = true) (hS : Sl w 1 A n c (ints so)) (hn : n ≤ 1048576) (hM : Sl w 1 B m d (ints ass)) (hm : m ≤ 1048576) :
    Calls Try.prog 17 #[.agg #[.int .i64 t.W, .int .i64 t.H, .slice t.A t.n t.c], .slice A n c, .slice B m d] w (WaysSR (netS t so ass) t.n w) := by
  have htn := (goodT_bd hg).2.2.2.2.1
  obtain ⟨W, hW⟩ : ∃ W, w.alloc (.cells #[.int .i64 t.W, .int .i64 t.H, .slice t.A t.n t.c] 28) = W := ⟨_, rfl⟩
  have hbW : Below w.heap.size w W := by rw [← hW]; exact bel_alloc (bel_refl w)
  have k0 : W.cell? ⟨w.heap.size, 0, none⟩ = some (.int .i64 t.W) := by rw [← hW]; simp [go_sem]
  have k1 : W.cell? ⟨w.heap.size, 1, none⟩ = some (.int .i64 t.H) := by rw [← hW]; simp [go_sem]
  have k2 : W.cell? ⟨w.heap.size, 2, none⟩ = some (.slice t.A t.n t.c) := by rw [← hW]; simp [go_sem]
  replace hT := hT.bel hbW
  replace hS := hS.bel hbW
  replace hM := hM.bel hbW
  obtain ⟨N, hNe⟩ : ∃ N : Nat, 2 * t.n + 2 = N := ⟨_, rfl⟩
  obtain ⟨s2, hs2⟩ : ∃ s2 : Nat, 2 * t.n = s2 := ⟨_, rfl⟩
  obtain ⟨t2, ht2⟩ : ∃ t2 : Nat, s2 + 1 = t2 := ⟨_, rfl⟩
  have hN52 : N ≤ 52 := by omega
  have hsi : Hid ((N : Int) - 2 = s2) := hid (by omega)
  have hti : Hid ((N : Int) - 1 = t2) := hid (by omega)
  have hsN : Hid (s2 < N) := hid (by omega : s2 < N)
  have hst : Hid (s2 ≠ t2) := hid (by omega : s2 ≠ t2)
  obtain ⟨es, hes⟩ : ∃ es, netS t so ass = es := ⟨_, rfl⟩
  obtain ⟨C, hCe⟩ : ∃ C, ones es = C := ⟨_, rfl⟩
  have hC : Hid (∀ u v, 0 ≤ C u v ∧ C u v ≤ 1) := hid (fun u v => by rw [← hCe]; exact ones_bd es u v)
  unfold WaysSR
  rw [hNe, hs2, ht2, hes, hCe]
  replace hCe := hid hCe
  clear hs2 ht2
  replace hNe := hid hNe
  replace hes := hid hes
  go_enter Try.func17, Try.ntmps17
  go_upto_region 1 with fail
  (try rw [hW])
  clear hW
  go_wp2_with fail
  refine (l9Caps t A B n c m d so ass _ hT hg hS hn hM hm).mono ?_
  rw [hNe.out, hes.out]
  rintro _ w1 ⟨gA, cN, LL, Vs, rfl, hMt, hF0, hb1⟩
  rw [hCe.out] at hF0
  have hF := hid (show FlowSt N s2 t2 C (matF LL) ((0 : Nat) : Int) by rw [hF0]; exact FlowSt.start N s2 t2 C (fun u v _ _ => (hC.out u v).1))
  have hbx := bel_trans hbW hb1
  have hlo := hbW.size
  clear hF0 hCe k0 k1 k2 hT hS hM hb1
  go_wp2_with fail
  go_loopg [8] N (fun gk v wr => ∃ (k : Nat) (LL' : List (List Int)), v = .int .i64 k ∧ k + gk = N ∧ Mat W.heap.size w1.heap.size wr gA N cN LL' Vs ∧ Hid (FlowSt N s2 t2 C (matF LL') k) ∧ GrownIn W.heap.size w1.heap.size w1 wr)
  case atStart => exact ⟨0, LL, rfl, by omega, hMt, hF, GrownIn.refl _ _ _⟩
  case round =>
    clear hMt hF
    obtain ⟨k, LL', rfl, hk, hMt, hF, hG⟩ := hrel
    have hwr := hG.size
    replace hk := hid hk
    go_wp2_with fail
    refine (l9Push W.heap.size w1.heap.size gA N cN s2 t2 LL' Vs C k _ hMt hwr hsi.out hti.out hN52 hF.out (fun u v => (hC.out u v).2)).mono ?_
    rintro _ w2 ⟨b, LL2, rfl, hM2, hG2, hT, hFa⟩
    rcases b with _ | _
    · have hcert := hFa rfl
      replace hcert := hid hcert
      clear hT hFa
      go_wp2_with fail
      go_ret
      exact ⟨k, rfl, hcert.out, (hG.trans hG2).bel hbx hlo⟩
    · have hF2 := hT rfl
      have hb := hF2.bound hsN.out hst.out (fun v _ => (hC.out s2 v).2)
      replace hF2 := hid (show FlowSt N s2 t2 C (matF LL2) ((k + 1 : Nat) : Int) from by rw [show ((k + 1 : Nat) : Int) = (k : Int) + 1 by omega]; exact hF2)
      have hk1 : (k : Int) + 1 ≤ 52 := by omega
      have hk0 : (0 : Int) ≤ (k : Int) := by omega
      clear hT hFa
      go_wp2_with fail
      go_roundg (N - (k + 1))
      case measure => have := hk.out; omega
      case rel => exact ⟨k + 1, LL2, by go_num, by omega, hM2, hF2, hG.trans hG2⟩
end Go.Proofs.Ytcdgkiiokplidaa
