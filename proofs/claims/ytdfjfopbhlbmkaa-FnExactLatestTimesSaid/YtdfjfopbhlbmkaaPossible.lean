/-
  Cells that burn in some scenario: the program's function, walked.
-/
import Derived.Test.YtdfjfopbhlbmkaaBurnedIn
import Derived.OwnWalk
namespace Go.Proofs.Ytdfjfopbhlbmkaa
open Go.RowKit


noncomputable def mayL (t : Terr) (xs : List Scen) (so : List Int) (st tick : Int) : List Int := cellsL t.n fun v => decide (1 ≤ gI (cntI t so st tick xs xs.length) v)
def okT (t : Terr) (xs : List Scen) (so : List Int) (st tick : Int) : Bool := askB t xs so st && inB tick 0 9999
noncomputable def mayR (t : Terr) (xs : List Scen) (so : List Int) (st tick : Int) : List Int := if okT t xs so st tick then mayL t xs so st tick else []
theorem cloMay (x gT n c : Nat) (A : Option Addr) (s : List Int) (w : World) (hx : x < n) (hn : n ≤ 25) (hS : Sl w 1 A n c (ints s)) (c0 : w.cell? ⟨gT, 0, none⟩ = some (.slice A n c)) :
    Calls Try.prog 67 #[.int .i64 (x : Int), .pointer (some ⟨gT, 0, none⟩)] w fun e w' => e = .returned (.bool (decide (1 ≤ gI s x))) ∧ Below w.heap.size w w' := by
  have hl := hS.int_len
  obtain ⟨y, hy⟩ := get_of_lt (xs := s) (i := x) (by omega)
  have hR := hid (gI_get hy)
  obtain ⟨b, o, rfl, hb, e0⟩ := hS.int_at hy
  have hx0 : (0 : Int) ≤ (x : Int) := by omega
  have hx1 : (x : Int) < (n : Int) := by omega
  have hn1 : (n : Int) ≤ 25 := by omega
  by_cases hp : 0 < y
  · go_enter Try.func67, Try.ntmps67
    go_wp2
    go_ret
    exact ⟨ret_bool (by rw [hR.out]; simp; try omega), by (repeat' (first | (with_reducible exact bel_refl _) | (with_reducible assumption) | (with_reducible refine bel_drew ?_) | (with_reducible refine bel_drewN ?_) | (with_reducible refine bel_alloc ?_) | (with_reducible refine bel_set ?_ ?_) | (with_reducible refine bel_trans ?_ (by with_reducible assumption)) | omega | (simp; done) | (simp; omega)))⟩
  · go_enter Try.func67, Try.ntmps67
    go_wp2
    go_ret
    exact ⟨ret_bool (by rw [hR.out]; simp; try omega), by (repeat' (first | (with_reducible exact bel_refl _) | (with_reducible assumption) | (with_reducible refine bel_drew ?_) | (with_reducible refine bel_drewN ?_) | (with_reducible refine bel_alloc ?_) | (with_reducible refine bel_set ?_ ?_) | (with_reducible refine bel_trans ?_ (by with_reducible assumption)) | omega | (simp; done) | (simp; omega)))⟩
set_option maxHeartbeats 4000000 in
set_option maxRecDepth 100000 in
theorem mayI (t : Terr) (A : Option Addr) (n c : Nat) (xs : List Scen) (B : Option Addr) (m d : Nat) (so : List Int) (st : Int) (tick : Int) (w : World) (hT : TOk w t) (ht : t.n ≤ 1048576) (hS : Sl w 2 A n c (xs.flatMap Scen.row)) (hO : ScOk w xs) (hN : ∀ (i : Nat) (x : Scen), xs[i]? = some x → x.n ≤ 1048576) (hn : n ≤ 1048576) (hM : Sl w 1 B m d (ints so)) (hm : m ≤ 1048576) :
    Calls Try.prog 36 #[.agg #[.int .i64 t.W, .int .i64 t.H, .slice t.A t.n t.c], .slice A n c, .slice B m d, .int .i64 st, .int .i64 tick] w fun e w' => ∃ A' k c', e = .returned (.tuple #[.slice A' k c', .bool (okT t xs so st tick)]) ∧ Own w.heap.size w'.heap.size w' 3 1 A' k c' (ints (mayR t xs so st tick)) ∧ Below w.heap.size w w' := by
  have hlh := hid (hS.xs_len Scen.row_len (by omega))
  have hTz := (hT.bel (bel_alloc (o := .cells #[.int .i64 t.W, .int .i64 t.H, .slice t.A t.n t.c] 30) (bel_refl w)))
  have hMz := (hM.bel (bel_alloc (o := .cells #[.int .i64 t.W, .int .i64 t.H, .slice t.A t.n t.c] 30) (bel_refl w)))
  have hSz := (hS.bel (bel_alloc (o := .cells #[.int .i64 t.W, .int .i64 t.H, .slice t.A t.n t.c] 30) (bel_refl w)))
  have hOz := (hO.bel (bel_alloc (o := .cells #[.int .i64 t.W, .int .i64 t.H, .slice t.A t.n t.c] 30) (bel_refl w)))
  have hB2 := bel_refl (w.alloc (.cells #[.int .i64 t.W, .int .i64 t.H, .slice t.A t.n t.c] 30))
  rcases hask : askB t xs so st with _ | _
  · have hk : Hid (okT t xs so st tick = false) := by show _ = _; rw [okT, hask]; rfl
    have hR : Hid (mayR t xs so st tick = []) := by show _ = _; rw [mayR, hk.out]; rfl
    go_enter Try.func36, Try.ntmps36
    go_wp2_with (go_at_call 45; refine (isBlaze t _ _ _ xs _ _ _ so st _ hTz ht hSz hOz hN hn hMz hm).mono ?_; rw [hask]; rintro _ w1 ⟨rfl, hB1⟩; replace hB2 := bel_trans hB2 hB1; obtain ⟨hC1, hF1⟩ := bcell hB2)
    go_ret2
    exact ⟨none, 0, 0, by rw [hk.out]; rfl, by rw [hR.out]; exact ⟨⟨rfl, Or.inl ⟨rfl, rfl⟩⟩, fun g hg => by simp [Value.ownBlock] at hg⟩, bel_trans (bel_alloc (bel_refl w)) hB2⟩
  · rcases htk : inB tick 0 9999 with _ | _
    · have hk : Hid (okT t xs so st tick = false) := by show _ = _; rw [okT, hask, htk]; rfl
      have hR : Hid (mayR t xs so st tick = []) := by show _ = _; rw [mayR, hk.out]; rfl
      go_enter Try.func36, Try.ntmps36
      go_wp2_with (first | (go_at_call 45; refine (isBlaze t _ _ _ xs _ _ _ so st _ hTz ht hSz hOz hN hn hMz hm).mono ?_; rw [hask]; rintro _ w1 ⟨rfl, hB1⟩; replace hB2 := bel_trans hB2 hB1; obtain ⟨hC1, hF1⟩ := bcell hB2) | (go_at_call 46; refine (isTick tick _).mono ?_; rw [htk]; rintro _ w2 ⟨rfl, rfl⟩))
      go_ret2
      exact ⟨none, 0, 0, by rw [hk.out]; rfl, by rw [hR.out]; exact ⟨⟨rfl, Or.inl ⟨rfl, rfl⟩⟩, fun g hg => by simp [Value.ownBlock] at hg⟩, bel_trans (bel_alloc (bel_refl w)) hB2⟩
    · have hk : Hid (okT t xs so st tick = true) := by show _ = _; rw [okT, hask, htk]; rfl
      have hR : Hid (mayR t xs so st tick = mayL t xs so st tick) := by show _ = _; rw [mayR, hk.out]; rfl
      have hg := (askB_parts hask).1
      have htn := (goodT_bd hg).2.2.2.2.1
      go_enter Try.func36, Try.ntmps36
      go_wp2_with (first
        | (go_at_call 66; refine (cellsMay t _ (fun v => decide (1 ≤ gI (cntI t so st tick xs n) v)) _ htn (fun x w' hx hb' => cloMay x _ t.n c1' A1 _ w' hx htn (hO2.sl.bel (bel_trans (bel_alloc (bel_refl _)) hb')) (((bcell hb').1 _ 0 (by simp)).trans (by simp [go_sem])))).mono ?_; rintro _ w5 ⟨A3, k3, c3, rfl, hO3, hB5⟩)
        | (go_at_call 65; refine (burnedIn t A n c xs B m d so st tick _ (hTz.bel hB2) (hSz.bel hB2) (hOz.bel hB2) hN (hMz.bel hB2) hm hask).mono ?_; rintro _ w3 ⟨A1, c1', rfl, hO2, hB3⟩; replace hB2 := bel_trans hB2 hB3; obtain ⟨hC1, hF1⟩ := bcell hB2; have hzs := hB2.size; have hgw : w.heap.size < w3.heap.size := by (simp at hzs; omega))
        | (go_at_call 45; refine (isBlaze t _ _ _ xs _ _ _ so st _ hTz ht hSz hOz hN hn hMz hm).mono ?_; rw [hask]; rintro _ w1 ⟨rfl, hB1⟩; replace hB2 := bel_trans hB2 hB1; obtain ⟨hC1, hF1⟩ := bcell hB2) | (go_at_call 46; refine (isTick tick _).mono ?_; rw [htk]; rintro _ w2 ⟨rfl, rfl⟩))
      go_ret2
      refine ⟨A3, k3, c3, by rw [hk.out]; rfl, ?_, bel_trans (bel_alloc (bel_refl w)) (bel_trans hB2 (bel_trans (bel_alloc (bel_refl _)) hB5))⟩
      rw [hR.out, mayL, hlh.out]
      exact hO3.low (by simp; omega)
end Go.Proofs.Ytdfjfopbhlbmkaa
