/-
  Numbers read back by the program, walked.
-/
import Derived.Test.YtkkoccllmflhfaaGreatDoorParseM
import Derived.Test.YtkkoccllmflhfaaGreatDoorLayD
import Derived.Test.YtkkoccllmflhfaaGreatDoorIn
import Derived.Shelf.Strconv.Atoi
namespace Go.Proofs.YtkkoccllmflhfaaGreatDoor
open Go.RowKit

/-- What the library's variables hold. -/
structure Env (w : World) : Prop where
  tab : Tab w
  max : ∃ m, w.cell? ⟨lays146_ren.g 1, 0, none⟩ = some (.int .i64 m)
  err : ∃ ev, w.cell? ⟨lays172_ren.g 15, 0, none⟩ = some ev ∧ (ev = .nilIface ∨ ∃ te pe, ev = .iface te pe)
theorem cell_in {w : World} {a : Addr} {v : Value} (h : w.cell? a = some v) : a.block < w.heap.size := by
  rcases Nat.lt_or_ge a.block w.heap.size with h' | h'
  · exact h'
  · simp [World.cell?, Array.getElem?_eq_none h'] at h
theorem Env.bel {w w' : World} (h : Env w) (hb : Below w.heap.size w w') : Env w' := by
  obtain ⟨m, hm⟩ := h.max
  obtain ⟨ev, he, hv⟩ := h.err
  exact ⟨tab_bel h.tab hb, ⟨m, (hb.cell (cell_in hm)).trans hm⟩, ev, (hb.cell (cell_in he)).trans he, hv⟩
def formatR (n : Int) : ByteArray × Bool := if inB n (-999999) 999999 then (numB n, true) else (⟨#[]⟩, false)
theorem formatI (n : Int) (w : World) (hT : Tab w) :
    Calls Tryz.prog 60 #[.int .i64 n] w fun e w' => e = .returned (.tuple #[.string (formatR n).1, .bool (formatR n).2]) ∧ Below w.heap.size w w' := by
  rcases hi : inB n (-999999) 999999 with _ | _
  · have hR : Hid (formatR n = (⟨#[]⟩, false)) := by show _ = _; simp [formatR, hi]
    go_enter Tryz.func60, Tryz.ntmps60
    go_wp2_with (go_at_call 24; refine (isIn _ _ _ _).mono ?_; rintro _ w1 ⟨rfl, rfl⟩)
    go_ret2
    exact ⟨by rw [hR.out]; rfl, bel_refl w⟩
  · have hR : Hid (formatR n = (numB n, true)) := by show _ = _; simp [formatR, hi]
    have hb := inB_iff.1 hi
    go_enter Tryz.func60, Tryz.ntmps60
    go_wp2_with (first | (go_at_call 24; refine (isIn _ _ _ _).mono ?_; rintro _ w1 ⟨rfl, rfl⟩) | (go_at_call 42; refine (Any.strconv_Itoa lays171 n (by omega) (by omega) _ hT).mono ?_; rintro _ _ ⟨rfl, k, os, rfl⟩))
    go_ret2
    exact ⟨by rw [hR.out]; rfl, bel_grow k os⟩
theorem bl_beq (x y : ByteArray) : (x.toList == y.toList) = decide (x = y) := by
  rw [ByteArray.toList_eq, ByteArray.toList_eq, Bool.eq_iff_iff, beq_iff_eq, decide_eq_true_iff]
  constructor
  · intro h; exact ByteArray.ext (Array.ext' h)
  · intro h; rw [h]
theorem lays172P : Go.Proofs.Lays.n172 Tryz.prog lays172_ren := { lays172 with }
theorem atoiC (s : ByteArray) (v : Int) (w : World) (hs : s.size ≤ 7) (ha : Lib.atoi s.data.toList = some v) :
    Calls Tryz.prog 59 #[.string s] w fun e w' => e = .returned (.tuple #[.int .i64 v, .nilIface]) ∧ Below w.heap.size w w' := by
  refine (Any.strconv_Atoi lays172P s v (by omega) ha w).mono ?_
  rintro _ w1 ⟨rfl, t, rfl⟩
  exact ⟨rfl, Lib.bytesWorld_below _ _ _⟩
set_option maxHeartbeats 1000000 in
theorem parseInt (s : ByteArray) (w : World) (hE : Env w) :
    Calls Tryz.prog 49 #[.string s] w fun e w' => (∃ v k, e = .returned (.tuple #[.int .i64 v, .bool k]) ∧ ∀ n : Int, 0 ≤ n → n ≤ 999999 → s = numB n → v = n) ∧ Below w.heap.size w w' := by
  by_cases hs : s.size ≤ 7
  · have hsi : (s.size : Int) ≤ 7 := by omega
    rcases ha : Lib.atoi s.data.toList with _ | v
    · obtain ⟨ev, hv, hev⟩ := hE.err
      have hT := hE.tab
      go_enter Tryz.func49, Tryz.ntmps49
      go_wp2_with (first | (go_at_call 59; refine (Any.strconv_Atoi_err lays172 s (by omega) ha ev _ hv hev).mono ?_; rintro _ w1 ⟨N, rfl, _, _, hB1⟩) | (go_at_call 60; refine (formatI _ _ (tab_bel hT hB1)).mono ?_; rintro _ w2 ⟨rfl, hB2⟩))
      go_ret2
      refine ⟨⟨0, false, rfl, fun n h0 h1 he => ?_⟩, bel_trans hB1 hB2⟩
      subst he
      rw [atoi_numB n h0] at ha
      cases ha
    · have hback : ∀ n : Int, 0 ≤ n → s = numB n → v = n := fun n h0 he => by
        subst he
        rw [atoi_numB n h0] at ha
        exact (Option.some.inj ha).symm
      have hT := hE.tab
      rcases hi : inB v (-999999) 999999 with _ | _
      · have hR : formatR v = (⟨#[]⟩, false) := by simp [formatR, hi]
        have hf := fun w hT => formatI v w hT
        rw [hR] at hf
        replace hback := hid hback
        go_enter Tryz.func49, Tryz.ntmps49
        go_wp2_with (first | (go_at_call 59; refine (atoiC s v _ hs ha).mono ?_; rintro _ w1 ⟨rfl, hB1⟩) | (go_at_call 60; refine (hf _ (tab_bel hT hB1)).mono ?_; rintro _ w2 ⟨rfl, hB2⟩))
        go_ret2
        refine ⟨⟨0, false, rfl, fun n h0 h1 he => ?_⟩, bel_trans hB1 hB2⟩
        have := hback.out n h0 he
        subst this
        have : inB v (-999999) 999999 = true := inB_iff.2 (by omega)
        rw [hi] at this
        cases this
      · have hR : formatR v = (numB v, true) := by simp [formatR, hi]
        have hf := fun w hT => formatI v w hT
        rw [hR] at hf
        replace hback := hid hback
        by_cases he : numB v = s
        · rw [he] at hf
          replace he := hid he
          go_enter Tryz.func49, Tryz.ntmps49
          go_wp2_with (first | (go_at_call 59; refine (atoiC s v _ hs ha).mono ?_; rintro _ w1 ⟨rfl, hB1⟩) | (go_at_call 60; refine (hf _ (tab_bel hT hB1)).mono ?_; rintro _ w2 ⟨rfl, hB2⟩))
          go_ret2
          exact ⟨⟨v, true, rfl, fun n h0 h1 he => hback.out n h0 he⟩, bel_trans hB1 hB2⟩
        · have hne : ((numB v).toList == s.toList) = false := by rw [bl_beq]; exact decide_eq_false he
          obtain ⟨N, hN⟩ : ∃ N, numB v = N := ⟨_, rfl⟩
          rw [hN] at hf hne he
          replace he := hid he
          replace hN := hid hN
          go_enter Tryz.func49, Tryz.ntmps49
          go_wp2_with (first | (go_at_call 59; refine (atoiC s v _ hs ha).mono ?_; rintro _ w1 ⟨rfl, hB1⟩) | (go_at_call 60; refine (hf _ (tab_bel hT hB1)).mono ?_; rintro _ w2 ⟨rfl, hB2⟩))
          go_ret2
          refine ⟨⟨0, false, rfl, fun n h0 h1 e => ?_⟩, bel_trans hB1 hB2⟩
          have := hback.out n h0 e
          subst this
          exact absurd (hN.out.symm.trans e.symm) he.out
  · have hsi : (7 : Int) < (s.size : Int) := by omega
    go_enter Tryz.func49, Tryz.ntmps49
    go_wp2
    go_ret2
    refine ⟨⟨0, false, rfl, fun n h0 h1 he => ?_⟩, bel_refl w⟩
    subst he
    have := numB_len h0 (k := 6) (by omega) (by omega)
    omega
end Go.Proofs.YtkkoccllmflhfaaGreatDoor
