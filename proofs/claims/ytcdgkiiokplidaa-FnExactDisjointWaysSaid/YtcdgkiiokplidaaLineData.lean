/-
  The functions that the laws on lines are made of: sizes, copies, comparisons; walked.
-/
import Derived.Test.YtcdgkiiokplidaaTerrB
namespace Go.Proofs.Ytcdgkiiokplidaa
open Go.RowKit

theorem Own.set {w : World} {lo hi k n c : Nat} {e : TypeId} {A : Option Addr} {L : List Value} (h : Own lo hi w e k A n c L) {g o : Nat} {s : Option Nat} {v : Value} (hg : g < lo ∨ hi ≤ g) : Own lo hi (w.setCell ⟨g, o, s⟩ v) e k A n c L :=
  h.grown (grown_set (World.grownBy.refl w (some g)) v) fun g' e => by
    simp only [Option.some.injEq] at e
    omega
/-! ### lists of numbers -/
theorem info_int : (Try.prog.info? 3).map (fun i => (i.zero, i.size, i.bytes)) = some (some (.int .i64 0), 1, 8) := by kernel_rfl
theorem eqIntS (A B : Option Addr) (n c d : Nat) (xs : List Int) (w : World) (h : Sl w 1 A n c (ints xs)) (h2 : Sl w 1 B n d (ints xs)) (hn : n ≤ 1048576) :
    Calls Try.prog 11 #[.slice A n c, .slice B n d] w fun e w' => e = .returned (.bool true) ∧ Below w.heap.size w w' := by
  go_enter Try.func11, Try.ntmps11
  go_wp2
  go_loopw [5] (fun v wr => ∃ i : Nat, i ≤ n ∧ v = .int .i64 i ∧ Below w.heap.size w wr) (fun v _ => n - (intOf v).toNat)
  case atStart => exact ⟨0, Nat.zero_le _, rfl, by (repeat' (first | (with_reducible exact bel_refl _) | (with_reducible assumption) | (with_reducible refine bel_drew ?_) | (with_reducible refine bel_drewN ?_) | (with_reducible refine bel_alloc ?_) | (with_reducible refine bel_set ?_ ?_) | (with_reducible refine bel_trans ?_ (by with_reducible assumption)) | omega | (simp; done) | (simp; omega)))⟩
  case round =>
    obtain ⟨i, hi', rfl, hB⟩ := hrel
    by_cases hlt : i < n
    · obtain ⟨x, hx⟩ : ∃ x, xs[i]? = some x := get_of_lt (by rw [h.int_len]; exact hlt)
      obtain ⟨b, o, rfl, hb, c0⟩ := (h.bel hB).int_at hx
      obtain ⟨b', o', rfl, hb', e0⟩ := (h2.bel hB).int_at hx
      clear hx
      have hB2 := bel_refl wr
      have hc0 : (0 : Int) ≤ (i : Int) := by omega
      have hc1 : (i : Int) < (n : Int) := by omega
      go_wp2_with fail
      (refine wp_region_bel (by kernel_rfl) (by kernel_rfl) ?_; have hD := bel_cells hB2; (repeat (go_big_quiet_step ((fail)))); refine wpQuiet_nil ?_; intro w1 hB1; replace hB2 := bel_trans hB2 hB1; obtain ⟨hC1, hF1⟩ := bcell hB2; clear hD; replace hB1 := hB1)
      go_wp2
      go_roundw
      case rel => exact ⟨i + 1, by omega, by go_num, by (repeat' (first | (with_reducible exact bel_refl _) | (with_reducible assumption) | (with_reducible refine bel_drew ?_) | (with_reducible refine bel_drewN ?_) | (with_reducible refine bel_alloc ?_) | (with_reducible refine bel_set ?_ ?_) | (with_reducible refine bel_trans ?_ (by with_reducible assumption)) | omega | (simp; done) | (simp; omega)))⟩
      case measure => simp [intOf]; omega
    · go_wp2
      go_ret
      exact ⟨rfl, by (repeat' (first | (with_reducible exact bel_refl _) | (with_reducible assumption) | (with_reducible refine bel_drew ?_) | (with_reducible refine bel_drewN ?_) | (with_reducible refine bel_alloc ?_) | (with_reducible refine bel_set ?_ ?_) | (with_reducible refine bel_trans ?_ (by with_reducible assumption)) | omega | (simp; done) | (simp; omega)))⟩



theorem toIntS (A : Option Addr) (n c : Nat) (xs : List Int) (w : World) (h : Sl w 1 A n c (ints xs)) (hn : n ≤ 1048576) :
    Calls Try.prog 8 #[.slice A n c] w fun e w' => ∃ g, e = .returned (.slice (some ⟨g, 0, none⟩) n n) ∧ Own w.heap.size w'.heap.size w' 3 1 (some ⟨g, 0, none⟩) n n (ints xs) ∧ Below w.heap.size w w' := by
  obtain ⟨i0, hi, hz0, hz1, hz2⟩ := info_parts info_int
  go_enter Try.func8, Try.ntmps8
  go_wp2_with (at_make; refine wpList_make_full _ rfl _ _ 22 rfl w.heap.size 3 i0 _ 1 Try.underlying22 hi hz0 hz1 _ _ _ _ n rfl rfl rfl rfl (by rw [hz2]; omega) (by simp [maxLen]; omega) (Nat.le_refl _) ?_; intro w1 hown hg)
  have hb1 : Below w.heap.size w w1 := (Below.refl _ _).grown hg (Nat.le_refl _) (by simp)
  generalize hZ : (madeCells (Value.int .i64 0).cells (n * 1)).toList = Z at hown
  have hZl : Hid ((ints xs).length = Z.length) := by
    show _ = _
    rw [← hZ, h.len]
    simp [madeCells]
  clear hZ
  go_loopw [4] (fun v wr => ∃ i : Nat, i ≤ n ∧ v = .int .i64 i ∧ wr.ownsRow w.heap.size 3 1 (.slice (some ⟨w.heap.size, 0, none⟩) n n) n ((ints xs).take i ++ Z.drop i) ∧ Below w.heap.size w wr) (fun v _ => n - (intOf v).toNat)
  case atStart => exact ⟨0, Nat.zero_le _, rfl, by simpa using hown, hb1⟩
  case round =>
    obtain ⟨i, hi', rfl, hown, hB⟩ := hrel
    by_cases hlt : i < n
    · obtain ⟨x, hx⟩ : ∃ x, xs[i]? = some x := get_of_lt (by rw [h.int_len]; exact hlt)
      obtain ⟨b, o, rfl, hb, c0⟩ := (h.bel hB).int_at hx
      have hX := hid hx
      clear hx
      have hfz := own_fz hown
      obtain ⟨u0, d0⟩ := own_at hown (j := i) (by omega)
      have hsz : w.heap.size < wr.heap.size := (hown.lt _ rfl).2
      go_wp2
      have f0 := ints_get hX.out
      go_roundw
      case rel => exact ⟨i + 1, by omega, by go_num, own_store hown hZl.out f0, by (repeat' (first | (with_reducible exact bel_refl _) | (with_reducible assumption) | (with_reducible refine bel_drew ?_) | (with_reducible refine bel_drewN ?_) | (with_reducible refine bel_alloc ?_) | (with_reducible refine bel_set ?_ ?_) | (with_reducible refine bel_trans ?_ (by with_reducible assumption)) | omega | (simp; done) | (simp; omega)))⟩
      case measure => simp [intOf]; omega
    · go_wp2
      go_ret
      refine ⟨w.heap.size, rfl, ?_, by (repeat' (first | (with_reducible exact bel_refl _) | (with_reducible assumption) | (with_reducible refine bel_drew ?_) | (with_reducible refine bel_drewN ?_) | (with_reducible refine bel_alloc ?_) | (with_reducible refine bel_set ?_ ?_) | (with_reducible refine bel_trans ?_ (by with_reducible assumption)) | omega | (simp; done) | (simp; omega)))⟩
      have e : i = n := by omega
      subst e
      have hl := h.len
      rw [List.take_of_length_le (by omega), List.drop_of_length_le (by rw [← hZl.out]; omega), List.append_nil] at hown
      exact Own.mk_ hown

theorem szIntS_yes (A : Option Addr) (n c : Nat) (l : Int) (w : World) (h0 : 0 ≤ l) (h1 : l ≤ 1048576) (hl : (n : Int) ≤ l) :
    Calls Try.prog 14 #[.slice A n c, .int .i64 l] w fun e w' => e = .returned (.int .i64 (l - n)) ∧ w = w' := by
  go_enter Try.func14, Try.ntmps14
  go_wp2
  go_ret
  exact ⟨rfl, rfl⟩
theorem szIntS_no (A : Option Addr) (n c : Nat) (l : Int) (w : World) (h0 : 0 ≤ l) (h1 : l ≤ 1048576) (hn : n ≤ maxLen) (hl : ¬ (n : Int) ≤ l) :
    Calls Try.prog 14 #[.slice A n c, .int .i64 l] w fun e w' => e = .returned (.int .i64 (-1)) ∧ w = w' := by
  unfold maxLen at hn
  go_enter Try.func14, Try.ntmps14
  go_wp2
  go_ret
  exact ⟨rfl, rfl⟩
theorem szTerrain (t : Terr) (l : Int) (w : World) (h0 : 0 ≤ l) (h1 : l ≤ 1048576) (hm : t.n ≤ maxLen) :
    Calls Try.prog 5 #[.agg #[.int .i64 t.W, .int .i64 t.H, .slice t.A t.n t.c], .int .i64 l] w fun e w' => ∃ r : Int, e = .returned (.int .i64 r) ∧ (r < 0 ∨ (r = l - t.n ∧ (t.n : Int) ≤ l)) ∧ Below w.heap.size w w' := by
  by_cases hl : (t.n : Int) ≤ l
  · go_enter Try.func5, Try.ntmps5
    go_wp2_with (go_at_call 14; refine (szIntS_yes _ _ _ _ _ h0 h1 hl).mono ?_; rintro _ w1 ⟨rfl, rfl⟩)
    go_ret
    exact ⟨_, rfl, Or.inr ⟨rfl, hl⟩, by (repeat' (first | (with_reducible exact bel_refl _) | (with_reducible assumption) | (with_reducible refine bel_drew ?_) | (with_reducible refine bel_drewN ?_) | (with_reducible refine bel_alloc ?_) | (with_reducible refine bel_set ?_ ?_) | (with_reducible refine bel_trans ?_ (by with_reducible assumption)) | omega | (simp; done) | (simp; omega)))⟩
  · go_enter Try.func5, Try.ntmps5
    go_wp2_with (go_at_call 14; refine (szIntS_no _ _ _ _ _ h0 h1 hm hl).mono ?_; rintro _ w1 ⟨rfl, rfl⟩)
    go_ret
    exact ⟨-1, rfl, Or.inl (by omega), by (repeat' (first | (with_reducible exact bel_refl _) | (with_reducible assumption) | (with_reducible refine bel_drew ?_) | (with_reducible refine bel_drewN ?_) | (with_reducible refine bel_alloc ?_) | (with_reducible refine bel_set ?_ ?_) | (with_reducible refine bel_trans ?_ (by with_reducible assumption)) | omega | (simp; done) | (simp; omega)))⟩
set_option maxHeartbeats 1000000 in
theorem toTerrain (t : Terr) (w : World) (h : TOk w t) (hn : t.n ≤ 1048576) :
    Calls Try.prog 7 #[.agg #[.int .i64 t.W, .int .i64 t.H, .slice t.A t.n t.c]] w fun e w' => ∃ g, e = .returned (.agg #[.int .i64 t.W, .int .i64 t.H, .slice (some ⟨g, 0, none⟩) t.n t.n]) ∧ Own w.heap.size w'.heap.size w' 3 1 (some ⟨g, 0, none⟩) t.n t.n (ints t.burn) ∧ Below w.heap.size w w' := by
  have hB2 := bel_refl w
  go_enter Try.func7, Try.ntmps7
  go_wp2_with (go_at_call 8; refine (toIntS _ _ _ t.burn _ (Sl.bel h (by (repeat' (first | (with_reducible exact bel_refl _) | (with_reducible assumption) | (with_reducible refine bel_drew ?_) | (with_reducible refine bel_drewN ?_) | (with_reducible refine bel_alloc ?_) | (with_reducible refine bel_set ?_ ?_) | (with_reducible refine bel_trans ?_ (by with_reducible assumption)) | omega | (simp; done) | (simp; omega))))) hn).mono ?_; rintro _ w1 ⟨g, rfl, hO, hB1⟩; obtain ⟨hC1, hF1⟩ := bcell hB1)
  have e0 : ∃ v, w1.cell? ⟨w.heap.size + 1, 0, none⟩ = some v := ⟨_, (hC1 _ _ (by simp)).trans (by simp [go_sem]; rfl)⟩
  have e1 : ∃ v, w1.cell? ⟨w.heap.size + 1, 1, none⟩ = some v := ⟨_, (hC1 _ _ (by simp)).trans (by simp [go_sem]; rfl)⟩
  have e2 : ∃ v, w1.cell? ⟨w.heap.size + 1, 2, none⟩ = some v := ⟨_, (hC1 _ _ (by simp)).trans (by simp [go_sem]; rfl)⟩
  obtain ⟨v0, e0⟩ := e0
  obtain ⟨v1, e1⟩ := e1
  obtain ⟨v2, e2⟩ := e2
  refine bodyPost_ret (v := .agg #[.int .i64 t.W, .int .i64 t.H, .slice (some ⟨g, 0, none⟩) t.n t.n]) (by simp [results, Try.results7, go_sem, e0, e1, e2]) rfl ⟨g, rfl, ?_, by (repeat' (first | (with_reducible exact bel_refl _) | (with_reducible assumption) | (with_reducible refine bel_drew ?_) | (with_reducible refine bel_drewN ?_) | (with_reducible refine bel_alloc ?_) | (with_reducible refine bel_set ?_ ?_) | (with_reducible refine bel_trans ?_ (by with_reducible assumption)) | omega | (simp; done) | (simp; omega)))⟩
  exact ((((hO.set (g := w.heap.size + 1 + 1) (Or.inl (by simp))).set (g := w.heap.size + 1) (Or.inl (by simp))).set (g := w.heap.size + 1) (Or.inl (by simp))).set (g := w.heap.size + 1) (Or.inl (by simp))).low (by simp; omega) |>.high (by simp)
set_option maxHeartbeats 1000000 in
theorem eqTerrain (t : Terr) (A B : Option Addr) (c d : Nat) (w : World) (h : Sl w 1 A t.n c (ints t.burn)) (h2 : Sl w 1 B t.n d (ints t.burn)) (hn : t.n ≤ 1048576) :
    Calls Try.prog 10 #[.agg #[.int .i64 t.W, .int .i64 t.H, .slice A t.n c], .agg #[.int .i64 t.W, .int .i64 t.H, .slice B t.n d]] w fun e w' => e = .returned (.bool true) ∧ Below w.heap.size w w' := by
  have hB2 := bel_refl ((w.alloc (.cells #[.int .i64 t.W, .int .i64 t.H, .slice A t.n c] 28)).alloc (.cells #[.int .i64 t.W, .int .i64 t.H, .slice B t.n d] 28))
  go_enter Try.func10, Try.ntmps10
  go_wp2_with (go_at_call 11; refine (eqIntS _ _ _ _ _ t.burn _ (h.bel (by (repeat' (first | (with_reducible exact bel_refl _) | (with_reducible assumption) | (with_reducible refine bel_drew ?_) | (with_reducible refine bel_drewN ?_) | (with_reducible refine bel_alloc ?_) | (with_reducible refine bel_set ?_ ?_) | (with_reducible refine bel_trans ?_ (by with_reducible assumption)) | omega | (simp; done) | (simp; omega))))) (h2.bel (by (repeat' (first | (with_reducible exact bel_refl _) | (with_reducible assumption) | (with_reducible refine bel_drew ?_) | (with_reducible refine bel_drewN ?_) | (with_reducible refine bel_alloc ?_) | (with_reducible refine bel_set ?_ ?_) | (with_reducible refine bel_trans ?_ (by with_reducible assumption)) | omega | (simp; done) | (simp; omega))))) hn).mono ?_; rintro _ w1 ⟨rfl, hB1⟩; (first | (with_reducible replace hB2 := bel_trans hB2 hB1) | (with_reducible replace hB2 := bel_trans (bel_alloc hB2) hB1)); obtain ⟨hC1, hF1⟩ := bcell hB2; replace hB1 := hB1)
  go_ret
  exact ⟨rfl, by (repeat' (first | (with_reducible exact bel_refl _) | (with_reducible assumption) | (with_reducible refine bel_drew ?_) | (with_reducible refine bel_drewN ?_) | (with_reducible refine bel_alloc ?_) | (with_reducible refine bel_set ?_ ?_) | (with_reducible refine bel_trans ?_ (by with_reducible assumption)) | omega | (simp; done) | (simp; omega)))⟩
end Go.Proofs.Ytcdgkiiokplidaa
