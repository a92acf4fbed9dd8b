/-
  Cells that burn in some scenario: the reference's function, walked.
-/
import Derived.Test.YtdfjfopbhlbmkaaCellsS
namespace Go.Proofs.Ytdfjfopbhlbmkaa
open Go.RowKit


set_option maxHeartbeats 4000000 in
set_option maxRecDepth 100000 in
theorem mayS (t : Terr) (A : Option Addr) (n c : Nat) (xs : List Scen) (B : Option Addr) (m d : Nat) (so : List Int) (st : Int) (tick : Int) (w : World) (hT : TOk w t) (ht : t.n ≤ 1048576) (hS : Sl w 2 A n c (xs.flatMap Scen.row)) (hO : ScOk w xs) (hN : ∀ (i : Nat) (x : Scen), xs[i]? = some x → x.n ≤ 1048576) (hn : n ≤ 1048576) (hM : Sl w 1 B m d (ints so)) (hm : m ≤ 1048576) :
    Calls Try.prog 35 #[.agg #[.int .i64 t.W, .int .i64 t.H, .slice t.A t.n t.c], .slice A n c, .slice B m d, .int .i64 st, .int .i64 tick] w fun e w' => ∃ A' k c', e = .returned (.tuple #[.slice A' k c', .bool (okT t xs so st tick)]) ∧ Own w.heap.size w'.heap.size w' 3 1 A' k c' (ints (mayR t xs so st tick)) ∧ Below w.heap.size w w' := by
  have hlh := hid (hS.xs_len Scen.row_len (by omega))
  have hTz := (hT.bel (bel_alloc (o := .cells #[.int .i64 t.W, .int .i64 t.H, .slice t.A t.n t.c] 30) (bel_refl w)))
  have hMz := (hM.bel (bel_alloc (o := .cells #[.int .i64 t.W, .int .i64 t.H, .slice t.A t.n t.c] 30) (bel_refl w)))
  have hSz := (hS.bel (bel_alloc (o := .cells #[.int .i64 t.W, .int .i64 t.H, .slice t.A t.n t.c] 30) (bel_refl w)))
  have hOz := (hO.bel (bel_alloc (o := .cells #[.int .i64 t.W, .int .i64 t.H, .slice t.A t.n t.c] 30) (bel_refl w)))
  have hB2 := bel_refl (w.alloc (.cells #[.int .i64 t.W, .int .i64 t.H, .slice t.A t.n t.c] 30))
  rcases hask : askB t xs so st with _ | _
  · have hk : Hid (okT t xs so st tick = false) := by show _ = _; rw [okT, hask]; rfl
    have hR : Hid (mayR t xs so st tick = []) := by show _ = _; rw [mayR, hk.out]; rfl
    go_enter Try.func35, Try.ntmps35
    go_wp2_with (go_at_call 41; refine (l8Asked t _ _ _ xs _ _ _ so st _ hTz ht hSz hOz hN hn hMz hm).mono ?_; rw [hask]; rintro _ w1 ⟨rfl, hB1⟩; replace hB2 := bel_trans hB2 hB1; obtain ⟨hC1, hF1⟩ := bcell hB2)
    go_ret2
    refine ⟨_, _, _, by rw [hk.out]; rfl, ?_, bel_trans (bel_alloc (bel_refl w)) (bel_alloc hB2)⟩
    rw [hR.out]
    exact Own.mk_ (own_low (by simpa [ints] using own_empty (size := 1) (e := 3) (Nat.le_refl _)) (by have := hB2.size; simp at this; omega))
  · rcases htk : inB tick 0 9999 with _ | _
    · have hk : Hid (okT t xs so st tick = false) := by show _ = _; rw [okT, hask, htk]; rfl
      have hR : Hid (mayR t xs so st tick = []) := by show _ = _; rw [mayR, hk.out]; rfl
      go_enter Try.func35, Try.ntmps35
      go_wp2_with (first | (go_at_call 41; refine (l8Asked t _ _ _ xs _ _ _ so st _ hTz ht hSz hOz hN hn hMz hm).mono ?_; rw [hask]; rintro _ w1 ⟨rfl, hB1⟩; replace hB2 := bel_trans hB2 hB1; obtain ⟨hC1, hF1⟩ := bcell hB2) | (go_at_call 42; refine (l4Tick tick _).mono ?_; rw [htk]; rintro _ w2 ⟨rfl, rfl⟩))
      go_ret2
      refine ⟨_, _, _, by rw [hk.out]; rfl, ?_, bel_trans (bel_alloc (bel_refl w)) (bel_alloc hB2)⟩
      rw [hR.out]
      exact Own.mk_ (own_low (by simpa [ints] using own_empty (size := 1) (e := 3) (Nat.le_refl _)) (by have := hB2.size; simp at this; omega))
    · have hk : Hid (okT t xs so st tick = true) := by show _ = _; rw [okT, hask, htk]; rfl
      have hR : Hid (mayR t xs so st tick = mayL t xs so st tick) := by show _ = _; rw [mayR, hk.out]; rfl
      go_enter Try.func35, Try.ntmps35
      go_wp2_with (first
        | (go_at_call 64; refine (l8Cells t A n c xs B m d so st tick 1 _ (hTz.bel hB2) (hSz.bel hB2) (hOz.bel hB2) hN (hMz.bel hB2) hm hask).mono ?_; rintro _ w3 ⟨A3, k3, c3, rfl, hO3, hB3⟩)
        | (go_at_call 41; refine (l8Asked t _ _ _ xs _ _ _ so st _ hTz ht hSz hOz hN hn hMz hm).mono ?_; rw [hask]; rintro _ w1 ⟨rfl, hB1⟩; replace hB2 := bel_trans hB2 hB1; obtain ⟨hC1, hF1⟩ := bcell hB2) | (go_at_call 42; refine (l4Tick tick _).mono ?_; rw [htk]; rintro _ w2 ⟨rfl, rfl⟩))
      go_ret2
      refine ⟨A3, k3, c3, by rw [hk.out]; rfl, ?_, bel_trans (bel_alloc (bel_refl w)) (bel_trans hB2 hB3)⟩
      rw [hR.out, mayL, hlh.out]
      exact hO3.low (by have := hB2.size; simp at this; omega)
end Go.Proofs.Ytdfjfopbhlbmkaa
