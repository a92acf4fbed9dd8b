/-
  The functions that the laws themselves are made of, walked: copies, comparisons, marks.
-/
import Derived.Test.YtkkoccllmflhfaaRows
import Derived.Test.YtkkoccllmflhfaaMem
namespace Go.Proofs.Ytkkoccllmflhfaa
open Go.RowKit

/-! ### Hotspot -/
structure Hotspot where
  id : Int
  x : Int
  y : Int
  err : Int
  tick : Int
  heat : Int
def Hotspot.row (x : Hotspot) : List Value := [.int .i64 x.id, .int .i64 x.x, .int .i64 x.y, .int .i64 x.err, .int .i64 x.tick, .int .i64 x.heat]
theorem Hotspot.row_len (x : Hotspot) : x.row.length = 6 := rfl
theorem Hotspot.flat {xs : List Hotspot} {i : Nat} {x : Hotspot} (hx : xs[i]? = some x) : (xs.flatMap Hotspot.row)[i * 6]? = some (.int .i64 x.id) ∧ (xs.flatMap Hotspot.row)[i * 6 + 1]? = some (.int .i64 x.x) ∧ (xs.flatMap Hotspot.row)[i * 6 + 2]? = some (.int .i64 x.y) ∧ (xs.flatMap Hotspot.row)[i * 6 + 3]? = some (.int .i64 x.err) ∧ (xs.flatMap Hotspot.row)[i * 6 + 4]? = some (.int .i64 x.tick) ∧ (xs.flatMap Hotspot.row)[i * 6 + 5]? = some (.int .i64 x.heat) := by
  have fg := flat_get Hotspot.row_len hx
  exact ⟨fg 0 _ rfl, fg 1 _ rfl, fg 2 _ rfl, fg 3 _ rfl, fg 4 _ rfl, fg 5 _ rfl⟩
theorem Sl.hotspot {w : World} {A : Option Addr} {n c : Nat} {xs : List Hotspot} (h : Sl w 6 A n c (xs.flatMap Hotspot.row)) {i : Nat} {x : Hotspot} (hx : xs[i]? = some x) :
    ∃ b o, A = some ⟨b, o, none⟩ ∧ b < w.heap.size ∧ w.cell? ⟨b, o + i * 6, none⟩ = some (.int .i64 x.id) ∧ w.cell? ⟨b, o + i * 6 + 1, none⟩ = some (.int .i64 x.x) ∧ w.cell? ⟨b, o + i * 6 + 2, none⟩ = some (.int .i64 x.y) ∧ w.cell? ⟨b, o + i * 6 + 3, none⟩ = some (.int .i64 x.err) ∧ w.cell? ⟨b, o + i * 6 + 4, none⟩ = some (.int .i64 x.tick) ∧ w.cell? ⟨b, o + i * 6 + 5, none⟩ = some (.int .i64 x.heat) := by
  obtain ⟨b, o, rfl, hb, hc⟩ := h.at_row Hotspot.row_len (by omega) hx
  exact ⟨b, o, rfl, hb, hc 0 _ rfl, hc 1 _ rfl, hc 2 _ rfl, hc 3 _ rfl, hc 4 _ rfl, hc 5 _ rfl⟩

theorem Hotspot.of_lists : ∀ {L : List (List Int)}, (∀ l ∈ L, l.length = 6) → ∃ xs : List Hotspot, xs.flatMap Hotspot.row = L.flatMap ints
  | [], _ => ⟨[], rfl⟩
  | l :: L, h => by
    obtain ⟨xs, hx⟩ := Hotspot.of_lists (L := L) (fun l hl => h l (by simp [hl]))
    match l, h l (by simp) with
    | [a0, a1, a2, a3, a4, a5], _ => exact ⟨⟨a0, a1, a2, a3, a4, a5⟩ :: xs, by rw [List.flatMap_cons, List.flatMap_cons, hx]; rfl⟩

theorem toHotspot (a0 a1 a2 a3 a4 a5 : Int) (w : World) :
    Calls Try.prog 36 #[.agg #[.int .i64 a0, .int .i64 a1, .int .i64 a2, .int .i64 a3, .int .i64 a4, .int .i64 a5]] w fun e w' => e = .returned (.agg #[.int .i64 a0, .int .i64 a1, .int .i64 a2, .int .i64 a3, .int .i64 a4, .int .i64 a5]) ∧ Below w.heap.size w w' := by
  go_enter Try.func36, Try.ntmps36
  go_wp2
  exact bodyPost_ret (v := .agg #[.int .i64 a0, .int .i64 a1, .int .i64 a2, .int .i64 a3, .int .i64 a4, .int .i64 a5]) (by simp [results, Try.results36, go_sem]) rfl ⟨rfl, by (repeat' (first | (with_reducible exact bel_refl _) | (with_reducible assumption) | (with_reducible refine bel_drew ?_) | (with_reducible refine bel_drewN ?_) | (with_reducible refine bel_alloc ?_) | (with_reducible refine bel_set ?_ ?_) | (with_reducible refine bel_trans ?_ (by with_reducible assumption)) | omega | (simp; done) | (simp; omega)))⟩

theorem szHotspotS_yes (A : Option Addr) (n c : Nat) (l : Int) (w : World) (h0 : 0 ≤ l) (h1 : l ≤ 1048576) (hl : (n : Int) ≤ l) :
    Calls Try.prog 6 #[.slice A n c, .int .i64 l] w fun e w' => e = .returned (.int .i64 (l - n)) ∧ w = w' := by
  go_enter Try.func6, Try.ntmps6
  go_wp2
  go_ret
  exact ⟨rfl, rfl⟩
theorem szHotspotS_no (A : Option Addr) (n c : Nat) (l : Int) (w : World) (h0 : 0 ≤ l) (h1 : l ≤ 1048576) (hn : n ≤ maxLen) (hl : ¬ (n : Int) ≤ l) :
    Calls Try.prog 6 #[.slice A n c, .int .i64 l] w fun e w' => e = .returned (.int .i64 (-1)) ∧ w = w' := by
  unfold maxLen at hn
  go_enter Try.func6, Try.ntmps6
  go_wp2
  go_ret
  exact ⟨rfl, rfl⟩

theorem info_Hotspot : (Try.prog.info? 49).map (fun i => (i.zero, i.size, i.bytes)) = some (some (.agg #[.int .i64 0, .int .i64 0, .int .i64 0, .int .i64 0, .int .i64 0, .int .i64 0]), 6, 48) := by kernel_rfl

theorem toHotspotS (A : Option Addr) (n c : Nat) (xs : List Hotspot) (w : World) (h : Sl w 6 A n c (xs.flatMap Hotspot.row)) (hn : n ≤ 1048576) :
    Calls Try.prog 8 #[.slice A n c] w fun e w' => ∃ g, e = .returned (.slice (some ⟨g, 0, none⟩) n n) ∧ Own w.heap.size w'.heap.size w' 49 6 (some ⟨g, 0, none⟩) n n (xs.flatMap Hotspot.row) ∧ Below w.heap.size w w' := by
  obtain ⟨i0, hi, hz0, hz1, hz2⟩ := info_parts info_Hotspot
  go_enter Try.func8, Try.ntmps8
  go_wp2_with (at_make; refine wpList_make_full _ rfl _ _ 27 rfl w.heap.size 49 i0 _ 6 Try.underlying27 hi hz0 hz1 _ _ _ _ n rfl rfl rfl rfl (by rw [hz2]; omega) (by simp [maxLen]; omega) (Nat.le_refl _) ?_; intro w1 hown hg)
  have hb1 : Below w.heap.size w w1 := (Below.refl _ _).grown hg (Nat.le_refl _) (by simp)
  generalize hZ : (madeCells (Value.agg #[.int .i64 0, .int .i64 0, .int .i64 0, .int .i64 0, .int .i64 0, .int .i64 0]).cells (n * 6)).toList = Z at hown
  have hZl : Hid ((xs.flatMap Hotspot.row).length = Z.length) := by
    show _ = _
    rw [← hZ, h.len]
    simp [madeCells]
  clear hZ
  go_loopw [4] (fun v wr => ∃ i : Nat, i ≤ n ∧ v = .int .i64 i ∧ wr.ownsRow w.heap.size 49 6 (.slice (some ⟨w.heap.size, 0, none⟩) n n) n ((xs.flatMap Hotspot.row).take (i * 6) ++ Z.drop (i * 6)) ∧ Below w.heap.size w wr) (fun v _ => n - (intOf v).toNat)
  case atStart => exact ⟨0, Nat.zero_le _, rfl, by simpa using hown, hb1⟩
  case round =>
    obtain ⟨i, hi', rfl, hown, hB⟩ := hrel
    by_cases hlt : i < n
    · obtain ⟨x, hx⟩ : ∃ x, xs[i]? = some x := get_of_lt (by rw [h.xs_len Hotspot.row_len (by omega)]; exact hlt)
      obtain ⟨b, o, rfl, hb, c0, c1, c2, c3, c4, c5⟩ := (h.bel hB).hotspot hx
      have hX := hid hx
      clear hx
      have hfz := own_fz hown
      obtain ⟨u0, d0⟩ := own_at hown (j := i * 6) (by omega)
      obtain ⟨u1, d1⟩ := own_at hown (j := i * 6 + 1) (by omega)
      obtain ⟨u2, d2⟩ := own_at hown (j := i * 6 + 2) (by omega)
      obtain ⟨u3, d3⟩ := own_at hown (j := i * 6 + 3) (by omega)
      obtain ⟨u4, d4⟩ := own_at hown (j := i * 6 + 4) (by omega)
      obtain ⟨u5, d5⟩ := own_at hown (j := i * 6 + 5) (by omega)
      have hsz : w.heap.size < wr.heap.size := (hown.lt _ rfl).2
      go_wp2_with (go_at_call 36; refine (toHotspot _ _ _ _ _ _ _).mono ?_; rintro _ w2 ⟨rfl, hB1⟩; obtain ⟨hC1, hF1⟩ := bcell hB1)
      obtain ⟨f0, f1, f2, f3, f4, f5⟩ := Hotspot.flat hX.out
      go_roundw
      case rel =>
        refine ⟨i + 1, by omega, by go_num, ?_, by (repeat' (first | (with_reducible exact bel_refl _) | (with_reducible assumption) | (with_reducible refine bel_drew ?_) | (with_reducible refine bel_drewN ?_) | (with_reducible refine bel_alloc ?_) | (with_reducible refine bel_set ?_ ?_) | (with_reducible refine bel_trans ?_ (by with_reducible assumption)) | omega | (simp; done) | (simp; omega)))⟩
        rw [show (i + 1) * 6 = i * 6 + 6 from by omega]
        exact own_store6 (own_bel hown hB1) hZl.out f0 f1 f2 f3 f4 f5
      case measure => simp [intOf]; omega
    · go_wp2
      go_ret
      refine ⟨w.heap.size, rfl, ?_, by (repeat' (first | (with_reducible exact bel_refl _) | (with_reducible assumption) | (with_reducible refine bel_drew ?_) | (with_reducible refine bel_drewN ?_) | (with_reducible refine bel_alloc ?_) | (with_reducible refine bel_set ?_ ?_) | (with_reducible refine bel_trans ?_ (by with_reducible assumption)) | omega | (simp; done) | (simp; omega)))⟩
      have e : i = n := by omega
      subst e
      have hl := h.len
      rw [List.take_of_length_le (by omega), List.drop_of_length_le (by rw [← hZl.out]; omega), List.append_nil] at hown
      exact Own.mk_ hown
theorem eqHotspot (a0 a1 a2 a3 a4 a5 : Int) (w : World) :
    Calls Try.prog 42 #[.agg #[.int .i64 a0, .int .i64 a1, .int .i64 a2, .int .i64 a3, .int .i64 a4, .int .i64 a5], .agg #[.int .i64 a0, .int .i64 a1, .int .i64 a2, .int .i64 a3, .int .i64 a4, .int .i64 a5]] w fun e w' => e = .returned (.bool true) ∧ Below w.heap.size w w' := by
  go_enter Try.func42, Try.ntmps42
  go_wp2
  go_ret
  exact ⟨rfl, by (repeat' (first | (with_reducible exact bel_refl _) | (with_reducible assumption) | (with_reducible refine bel_drew ?_) | (with_reducible refine bel_drewN ?_) | (with_reducible refine bel_alloc ?_) | (with_reducible refine bel_set ?_ ?_) | (with_reducible refine bel_trans ?_ (by with_reducible assumption)) | omega | (simp; done) | (simp; omega)))⟩
set_option maxRecDepth 100000 in
theorem eqHotspotS (A B : Option Addr) (n c d : Nat) (xs : List Hotspot) (w : World) (h : Sl w 6 A n c (xs.flatMap Hotspot.row)) (h2 : Sl w 6 B n d (xs.flatMap Hotspot.row)) (hn : n ≤ 1048576) :
    Calls Try.prog 11 #[.slice A n c, .slice B n d] w fun e w' => e = .returned (.bool true) ∧ Below w.heap.size w w' := by
  go_enter Try.func11, Try.ntmps11
  go_wp2
  go_loopw [5] (fun v wr => ∃ i : Nat, i ≤ n ∧ v = .int .i64 i ∧ Below w.heap.size w wr) (fun v _ => n - (intOf v).toNat)
  case atStart => exact ⟨0, Nat.zero_le _, rfl, by (repeat' (first | (with_reducible exact bel_refl _) | (with_reducible assumption) | (with_reducible refine bel_drew ?_) | (with_reducible refine bel_drewN ?_) | (with_reducible refine bel_alloc ?_) | (with_reducible refine bel_set ?_ ?_) | (with_reducible refine bel_trans ?_ (by with_reducible assumption)) | omega | (simp; done) | (simp; omega)))⟩
  case round =>
    obtain ⟨i, hi', rfl, hB⟩ := hrel
    by_cases hlt : i < n
    · obtain ⟨x, hx⟩ : ∃ x, xs[i]? = some x := get_of_lt (by rw [h.xs_len Hotspot.row_len (by omega)]; exact hlt)
      obtain ⟨b, o, rfl, hb, c0, c1, c2, c3, c4, c5⟩ := (h.bel hB).hotspot hx
      obtain ⟨b', o', rfl, hb', e0, e1, e2, e3, e4, e5⟩ := (h2.bel hB).hotspot hx
      clear hx
      have hB2 := bel_refl wr
      have hc0 : (0 : Int) ≤ (i : Int) := by omega
      have hc1 : (i : Int) < (n : Int) := by omega
      go_wp2_with fail
      (refine wp_region_bel (by kernel_rfl) (by kernel_rfl) ?_; have hD := bel_cells hB2; (repeat (go_big_quiet_step (((go_at_call 42; exact calls_bel (eqHotspot _ _ _ _ _ _ _)))))); refine wpQuiet_nil ?_; intro w1 hB1; replace hB2 := bel_trans hB2 hB1; obtain ⟨hC1, hF1⟩ := bcell hB2; clear hD; replace hB1 := hB1)
      go_wp2
      go_roundw
      case rel => exact ⟨i + 1, by omega, by go_num, by (repeat' (first | (with_reducible exact bel_refl _) | (with_reducible assumption) | (with_reducible refine bel_drew ?_) | (with_reducible refine bel_drewN ?_) | (with_reducible refine bel_alloc ?_) | (with_reducible refine bel_set ?_ ?_) | (with_reducible refine bel_trans ?_ (by with_reducible assumption)) | omega | (simp; done) | (simp; omega)))⟩
      case measure => simp [intOf]; omega
    · go_wp2
      go_ret
      exact ⟨rfl, by (repeat' (first | (with_reducible exact bel_refl _) | (with_reducible assumption) | (with_reducible refine bel_drew ?_) | (with_reducible refine bel_drewN ?_) | (with_reducible refine bel_alloc ?_) | (with_reducible refine bel_set ?_ ?_) | (with_reducible refine bel_trans ?_ (by with_reducible assumption)) | omega | (simp; done) | (simp; omega)))⟩

theorem markHotspotS (A : Option Addr) (n c lo hi : Nat) (k0 : Int) (L : List Value) (w : World) (h : Own lo hi w 49 6 A n c L) (hn : n ≤ 1048576) (h0 : 0 ≤ k0) (h1 : k0 ≤ 1073741824) :
    Calls Try.prog 12 #[.slice A n c, .int .i64 k0] w fun e w' => e = .returned (.int .i64 (k0 + 6 * n)) ∧ Own lo hi w' 49 6 A n c (marks k0 (n * 6)) ∧ w.grownBy w' (Value.slice A n c).ownBlock := by
  have hLl : Hid ((marks k0 (n * 6)).length = L.length) := by
    show _ = _
    rw [marks_len, h.own.1]
  go_enter Try.func12, Try.ntmps12
  go_wp2
  go_loopw [1, 5] (fun q v wr => ∃ i : Nat, i ≤ n ∧ v = .int .i64 i ∧ q = .int .i64 (k0 + 6 * i) ∧ wr.ownsRow lo 49 6 (.slice A n c) n ((marks k0 (n * 6)).take (i * 6) ++ L.drop (i * 6)) ∧ w.grownBy wr (Value.slice A n c).ownBlock) (fun _ v _ => n - (intOf v).toNat)
  case atStart => exact ⟨0, Nat.zero_le _, rfl, by simp, by simpa using h.own, World.grownBy.refl _ _⟩
  case round =>
    obtain ⟨i, hi', rfl, rfl, hown, hg⟩ := hrel
    by_cases hlt : i < n
    · obtain ⟨g, rfl, hgl, hgh⟩ := own_form hown (by omega)
      have hfz := own_fz hown
      obtain ⟨u0, d0⟩ := own_at hown (j := i * 6) (by omega)
      obtain ⟨u1, d1⟩ := own_at hown (j := i * 6 + 1) (by omega)
      obtain ⟨u2, d2⟩ := own_at hown (j := i * 6 + 2) (by omega)
      obtain ⟨u3, d3⟩ := own_at hown (j := i * 6 + 3) (by omega)
      obtain ⟨u4, d4⟩ := own_at hown (j := i * 6 + 4) (by omega)
      obtain ⟨u5, d5⟩ := own_at hown (j := i * 6 + 5) (by omega)
      go_wp2
      have f0 : (marks k0 (n * 6))[i * 6]? = some (.int .i64 (k0 + 6 * i)) := by rw [marks_get (by omega)]; congr 2; push_cast; omega
      have f1 : (marks k0 (n * 6))[i * 6 + 1]? = some (.int .i64 (k0 + 6 * i + 1)) := by rw [marks_get (by omega)]; congr 2; push_cast; omega
      have f2 : (marks k0 (n * 6))[i * 6 + 2]? = some (.int .i64 (k0 + 6 * i + 1 + 1)) := by rw [marks_get (by omega)]; congr 2; push_cast; omega
      have f3 : (marks k0 (n * 6))[i * 6 + 3]? = some (.int .i64 (k0 + 6 * i + 1 + 1 + 1)) := by rw [marks_get (by omega)]; congr 2; push_cast; omega
      have f4 : (marks k0 (n * 6))[i * 6 + 4]? = some (.int .i64 (k0 + 6 * i + 1 + 1 + 1 + 1)) := by rw [marks_get (by omega)]; congr 2; push_cast; omega
      have f5 : (marks k0 (n * 6))[i * 6 + 5]? = some (.int .i64 (k0 + 6 * i + 1 + 1 + 1 + 1 + 1)) := by rw [marks_get (by omega)]; congr 2; push_cast; omega
      go_roundw
      case rel =>
        refine ⟨i + 1, by omega, by go_num, ?_, ?_, ?_⟩
        · congr 1; push_cast; omega
        · rw [show (i + 1) * 6 = i * 6 + 6 from by omega]
          exact own_store6 hown hLl.out f0 f1 f2 f3 f4 f5
        · show w.grownBy _ (some g)
          repeat (first | (with_reducible refine grown_set ?_ _) | exact hg)
      case measure => simp [intOf]; omega
    · go_wp2
      go_ret
      have e : i = n := by omega
      subst e
      have hl := h.own.1
      rw [List.take_of_length_le (by rw [marks_len]; omega), List.drop_of_length_le (by omega), List.append_nil] at hown
      exact ⟨rfl, ⟨hown, h.up⟩, hg⟩


/-! ### lists of numbers -/
theorem info_int : (Try.prog.info? 3).map (fun i => (i.zero, i.size, i.bytes)) = some (some (.int .i64 0), 1, 8) := by kernel_rfl
theorem eqIntS (A B : Option Addr) (n c d : Nat) (xs : List Int) (w : World) (h : Sl w 1 A n c (ints xs)) (h2 : Sl w 1 B n d (ints xs)) (hn : n ≤ 1048576) :
    Calls Try.prog 10 #[.slice A n c, .slice B n d] w fun e w' => e = .returned (.bool true) ∧ Below w.heap.size w w' := by
  go_enter Try.func10, Try.ntmps10
  go_wp2
  go_loopw [5] (fun v wr => ∃ i : Nat, i ≤ n ∧ v = .int .i64 i ∧ Below w.heap.size w wr) (fun v _ => n - (intOf v).toNat)
  case atStart => exact ⟨0, Nat.zero_le _, rfl, by (repeat' (first | (with_reducible exact bel_refl _) | (with_reducible assumption) | (with_reducible refine bel_drew ?_) | (with_reducible refine bel_drewN ?_) | (with_reducible refine bel_alloc ?_) | (with_reducible refine bel_set ?_ ?_) | (with_reducible refine bel_trans ?_ (by with_reducible assumption)) | omega | (simp; done) | (simp; omega)))⟩
  case round =>
    obtain ⟨i, hi', rfl, hB⟩ := hrel
    by_cases hlt : i < n
    · obtain ⟨x, hx⟩ : ∃ x, xs[i]? = some x := get_of_lt (by rw [h.int_len]; exact hlt)
      obtain ⟨b, o, rfl, hb, c0⟩ := (h.bel hB).int_at hx
      obtain ⟨b', o', rfl, hb', e0⟩ := (h2.bel hB).int_at hx
      clear hx
      have hB2 := bel_refl wr
      have hc0 : (0 : Int) ≤ (i : Int) := by omega
      have hc1 : (i : Int) < (n : Int) := by omega
      go_wp2_with fail
      (refine wp_region_bel (by kernel_rfl) (by kernel_rfl) ?_; have hD := bel_cells hB2; (repeat (go_big_quiet_step ((fail)))); refine wpQuiet_nil ?_; intro w1 hB1; replace hB2 := bel_trans hB2 hB1; obtain ⟨hC1, hF1⟩ := bcell hB2; clear hD; replace hB1 := hB1)
      go_wp2
      go_roundw
      case rel => exact ⟨i + 1, by omega, by go_num, by (repeat' (first | (with_reducible exact bel_refl _) | (with_reducible assumption) | (with_reducible refine bel_drew ?_) | (with_reducible refine bel_drewN ?_) | (with_reducible refine bel_alloc ?_) | (with_reducible refine bel_set ?_ ?_) | (with_reducible refine bel_trans ?_ (by with_reducible assumption)) | omega | (simp; done) | (simp; omega)))⟩
      case measure => simp [intOf]; omega
    · go_wp2
      go_ret
      exact ⟨rfl, by (repeat' (first | (with_reducible exact bel_refl _) | (with_reducible assumption) | (with_reducible refine bel_drew ?_) | (with_reducible refine bel_drewN ?_) | (with_reducible refine bel_alloc ?_) | (with_reducible refine bel_set ?_ ?_) | (with_reducible refine bel_trans ?_ (by with_reducible assumption)) | omega | (simp; done) | (simp; omega)))⟩

theorem markIntS (A : Option Addr) (n c lo hi : Nat) (k0 : Int) (L : List Value) (w : World) (h : Own lo hi w 3 1 A n c L) (hn : n ≤ 1048576) (h0 : 0 ≤ k0) (h1 : k0 ≤ 1073741824) :
    Calls Try.prog 13 #[.slice A n c, .int .i64 k0] w fun e w' => e = .returned (.int .i64 (k0 + n)) ∧ Own lo hi w' 3 1 A n c (marks k0 n) ∧ w.grownBy w' (Value.slice A n c).ownBlock := by
  have hLl : Hid ((marks k0 n).length = L.length) := by
    show _ = _
    rw [marks_len, h.own.1]
    omega
  go_enter Try.func13, Try.ntmps13
  go_wp2
  go_loopw [1, 5] (fun q v wr => ∃ i : Nat, i ≤ n ∧ v = .int .i64 i ∧ q = .int .i64 (k0 + i) ∧ wr.ownsRow lo 3 1 (.slice A n c) n ((marks k0 n).take i ++ L.drop i) ∧ w.grownBy wr (Value.slice A n c).ownBlock) (fun _ v _ => n - (intOf v).toNat)
  case atStart => exact ⟨0, Nat.zero_le _, rfl, by simp, by simpa using h.own, World.grownBy.refl _ _⟩
  case round =>
    obtain ⟨i, hi', rfl, rfl, hown, hg⟩ := hrel
    by_cases hlt : i < n
    · obtain ⟨g, rfl, hgl, hgh⟩ := own_form hown (by omega)
      have hfz := own_fz hown
      obtain ⟨u0, d0⟩ := own_at hown (j := i) (by omega)
      go_wp2
      have f0 : (marks k0 n)[i]? = some (.int .i64 (k0 + i)) := marks_get (by omega)
      go_roundw
      case rel =>
        refine ⟨i + 1, by omega, by go_num, ?_, ?_, ?_⟩
        · congr 1; push_cast; omega
        · exact own_store hown hLl.out f0
        · show w.grownBy _ (some g)
          exact grown_set hg _
      case measure => simp [intOf]; omega
    · go_wp2
      go_ret
      have e : i = n := by omega
      subst e
      have hl := h.own.1
      rw [List.take_of_length_le (by rw [marks_len]; omega), List.drop_of_length_le (by omega), List.append_nil] at hown
      exact ⟨rfl, ⟨hown, h.up⟩, hg⟩

theorem heldIntS (A : Option Addr) (n c : Nat) (k0 : Int) (w : World) (h : Sl w 1 A n c (marks k0 n)) (hn : n ≤ 1048576) (h0 : 0 ≤ k0) (h1 : k0 ≤ 1073741824) :
    Calls Try.prog 14 #[.slice A n c, .int .i64 k0] w fun e w' => e = .returned (.int .i64 (k0 + n)) ∧ Below w.heap.size w w' := by
  go_enter Try.func14, Try.ntmps14
  go_wp2
  go_loopw [1, 5] (fun q v wr => ∃ i : Nat, i ≤ n ∧ v = .int .i64 i ∧ q = .int .i64 (k0 + i) ∧ Below w.heap.size w wr) (fun _ v _ => n - (intOf v).toNat)
  case atStart => exact ⟨0, Nat.zero_le _, rfl, by simp, by (repeat' (first | (with_reducible exact bel_refl _) | (with_reducible assumption) | (with_reducible refine bel_drew ?_) | (with_reducible refine bel_drewN ?_) | (with_reducible refine bel_alloc ?_) | (with_reducible refine bel_set ?_ ?_) | (with_reducible refine bel_trans ?_ (by with_reducible assumption)) | omega | (simp; done) | (simp; omega)))⟩
  case round =>
    obtain ⟨i, hi', rfl, rfl, hB⟩ := hrel
    by_cases hlt : i < n
    · obtain ⟨b, o, rfl, hb, hc⟩ := (h.bel hB).at_ (by omega)
      have c0 := hc i _ (marks_get (by omega))
      clear hc
      go_wp2
      go_roundw
      case rel => exact ⟨i + 1, by omega, by go_num, by congr 1; push_cast; omega, by (repeat' (first | (with_reducible exact bel_refl _) | (with_reducible assumption) | (with_reducible refine bel_drew ?_) | (with_reducible refine bel_drewN ?_) | (with_reducible refine bel_alloc ?_) | (with_reducible refine bel_set ?_ ?_) | (with_reducible refine bel_trans ?_ (by with_reducible assumption)) | omega | (simp; done) | (simp; omega)))⟩
      case measure => simp [intOf]; omega
    · go_wp2
      go_ret
      have e : i = n := by omega
      subst e
      exact ⟨rfl, by (repeat' (first | (with_reducible exact bel_refl _) | (with_reducible assumption) | (with_reducible refine bel_drew ?_) | (with_reducible refine bel_drewN ?_) | (with_reducible refine bel_alloc ?_) | (with_reducible refine bel_set ?_ ?_) | (with_reducible refine bel_trans ?_ (by with_reducible assumption)) | omega | (simp; done) | (simp; omega)))⟩

end Go.Proofs.Ytkkoccllmflhfaa
