/-
  The functions that the laws themselves are made of, walked: copies, comparisons, marks.
-/
import Derived.Test.YtdfjfopbhlbmkaaRows
import Derived.Test.YtdfjfopbhlbmkaaMem
namespace Go.Proofs.Ytdfjfopbhlbmkaa
open Go.RowKit

/-! ### Phase -/
structure Phase where
  start : Int
  speed : Int
def Phase.row (x : Phase) : List Value := [.int .i64 x.start, .int .i64 x.speed]
theorem Phase.row_len (x : Phase) : x.row.length = 2 := rfl
theorem Phase.flat {xs : List Phase} {i : Nat} {x : Phase} (hx : xs[i]? = some x) : (xs.flatMap Phase.row)[i * 2]? = some (.int .i64 x.start) ∧ (xs.flatMap Phase.row)[i * 2 + 1]? = some (.int .i64 x.speed) := by
  have fg := flat_get Phase.row_len hx
  exact ⟨fg 0 _ rfl, fg 1 _ rfl⟩
theorem Sl.phase {w : World} {A : Option Addr} {n c : Nat} {xs : List Phase} (h : Sl w 2 A n c (xs.flatMap Phase.row)) {i : Nat} {x : Phase} (hx : xs[i]? = some x) :
    ∃ b o, A = some ⟨b, o, none⟩ ∧ b < w.heap.size ∧ w.cell? ⟨b, o + i * 2, none⟩ = some (.int .i64 x.start) ∧ w.cell? ⟨b, o + i * 2 + 1, none⟩ = some (.int .i64 x.speed) := by
  obtain ⟨b, o, rfl, hb, hc⟩ := h.at_row Phase.row_len (by omega) hx
  exact ⟨b, o, rfl, hb, hc 0 _ rfl, hc 1 _ rfl⟩

theorem Phase.of_lists : ∀ {L : List (List Int)}, (∀ l ∈ L, l.length = 2) → ∃ xs : List Phase, xs.flatMap Phase.row = L.flatMap ints
  | [], _ => ⟨[], rfl⟩
  | l :: L, h => by
    obtain ⟨xs, hx⟩ := Phase.of_lists (L := L) (fun l hl => h l (by simp [hl]))
    match l, h l (by simp) with
    | [a0, a1], _ => exact ⟨⟨a0, a1⟩ :: xs, by rw [List.flatMap_cons, List.flatMap_cons, hx]; rfl⟩

theorem toPhase (a0 a1 : Int) (w : World) :
    Calls Try.prog 93 #[.agg #[.int .i64 a0, .int .i64 a1]] w fun e w' => e = .returned (.agg #[.int .i64 a0, .int .i64 a1]) ∧ Below w.heap.size w w' := by
  go_enter Try.func93, Try.ntmps93
  go_wp2
  exact bodyPost_ret (v := .agg #[.int .i64 a0, .int .i64 a1]) (by simp [results, Try.results93, go_sem]) rfl ⟨rfl, by (repeat' (first | (with_reducible exact bel_refl _) | (with_reducible assumption) | (with_reducible refine bel_drew ?_) | (with_reducible refine bel_drewN ?_) | (with_reducible refine bel_alloc ?_) | (with_reducible refine bel_set ?_ ?_) | (with_reducible refine bel_trans ?_ (by with_reducible assumption)) | omega | (simp; done) | (simp; omega)))⟩

theorem szPhaseS_yes (A : Option Addr) (n c : Nat) (l : Int) (w : World) (h0 : 0 ≤ l) (h1 : l ≤ 1048576) (hl : (n : Int) ≤ l) :
    Calls Try.prog 69 #[.slice A n c, .int .i64 l] w fun e w' => e = .returned (.int .i64 (l - n)) ∧ w = w' := by
  go_enter Try.func69, Try.ntmps69
  go_wp2
  go_ret
  exact ⟨rfl, rfl⟩
theorem szPhaseS_no (A : Option Addr) (n c : Nat) (l : Int) (w : World) (h0 : 0 ≤ l) (h1 : l ≤ 1048576) (hn : n ≤ maxLen) (hl : ¬ (n : Int) ≤ l) :
    Calls Try.prog 69 #[.slice A n c, .int .i64 l] w fun e w' => e = .returned (.int .i64 (-1)) ∧ w = w' := by
  unfold maxLen at hn
  go_enter Try.func69, Try.ntmps69
  go_wp2
  go_ret
  exact ⟨rfl, rfl⟩

theorem info_Phase : (Try.prog.info? 88).map (fun i => (i.zero, i.size, i.bytes)) = some (some (.agg #[.int .i64 0, .int .i64 0]), 2, 16) := by kernel_rfl

theorem toPhaseS (A : Option Addr) (n c : Nat) (xs : List Phase) (w : World) (h : Sl w 2 A n c (xs.flatMap Phase.row)) (hn : n ≤ 1048576) :
    Calls Try.prog 75 #[.slice A n c] w fun e w' => ∃ g, e = .returned (.slice (some ⟨g, 0, none⟩) n n) ∧ Own w.heap.size w'.heap.size w' 88 2 (some ⟨g, 0, none⟩) n n (xs.flatMap Phase.row) ∧ Below w.heap.size w w' := by
  obtain ⟨i0, hi, hz0, hz1, hz2⟩ := info_parts info_Phase
  go_enter Try.func75, Try.ntmps75
  go_wp2_with (at_make; refine wpList_make_full _ rfl _ _ 55 rfl w.heap.size 88 i0 _ 2 Try.underlying55 hi hz0 hz1 _ _ _ _ n rfl rfl rfl rfl (by rw [hz2]; omega) (by simp [maxLen]; omega) (Nat.le_refl _) ?_; intro w1 hown hg)
  have hb1 : Below w.heap.size w w1 := (Below.refl _ _).grown hg (Nat.le_refl _) (by simp)
  generalize hZ : (madeCells (Value.agg #[.int .i64 0, .int .i64 0]).cells (n * 2)).toList = Z at hown
  have hZl : Hid ((xs.flatMap Phase.row).length = Z.length) := by
    show _ = _
    rw [← hZ, h.len]
    simp [madeCells]
  clear hZ
  go_loopw [4] (fun v wr => ∃ i : Nat, i ≤ n ∧ v = .int .i64 i ∧ wr.ownsRow w.heap.size 88 2 (.slice (some ⟨w.heap.size, 0, none⟩) n n) n ((xs.flatMap Phase.row).take (i * 2) ++ Z.drop (i * 2)) ∧ Below w.heap.size w wr) (fun v _ => n - (intOf v).toNat)
  case atStart => exact ⟨0, Nat.zero_le _, rfl, by simpa using hown, hb1⟩
  case round =>
    obtain ⟨i, hi', rfl, hown, hB⟩ := hrel
    by_cases hlt : i < n
    · obtain ⟨x, hx⟩ : ∃ x, xs[i]? = some x := get_of_lt (by rw [h.xs_len Phase.row_len (by omega)]; exact hlt)
      obtain ⟨b, o, rfl, hb, c0, c1⟩ := (h.bel hB).phase hx
      have hX := hid hx
      clear hx
      have hfz := own_fz hown
      obtain ⟨u0, d0⟩ := own_at hown (j := i * 2) (by omega)
      obtain ⟨u1, d1⟩ := own_at hown (j := i * 2 + 1) (by omega)
      have hsz : w.heap.size < wr.heap.size := (hown.lt _ rfl).2
      go_wp2_with (go_at_call 93; refine (toPhase _ _ _).mono ?_; rintro _ w2 ⟨rfl, hB1⟩; obtain ⟨hC1, hF1⟩ := bcell hB1)
      obtain ⟨f0, f1⟩ := Phase.flat hX.out
      go_roundw
      case rel =>
        refine ⟨i + 1, by omega, by go_num, ?_, by (repeat' (first | (with_reducible exact bel_refl _) | (with_reducible assumption) | (with_reducible refine bel_drew ?_) | (with_reducible refine bel_drewN ?_) | (with_reducible refine bel_alloc ?_) | (with_reducible refine bel_set ?_ ?_) | (with_reducible refine bel_trans ?_ (by with_reducible assumption)) | omega | (simp; done) | (simp; omega)))⟩
        rw [show (i + 1) * 2 = i * 2 + 2 from by omega]
        exact own_store2 (own_bel hown hB1) hZl.out f0 f1
      case measure => simp [intOf]; omega
    · go_wp2
      go_ret
      refine ⟨w.heap.size, rfl, ?_, by (repeat' (first | (with_reducible exact bel_refl _) | (with_reducible assumption) | (with_reducible refine bel_drew ?_) | (with_reducible refine bel_drewN ?_) | (with_reducible refine bel_alloc ?_) | (with_reducible refine bel_set ?_ ?_) | (with_reducible refine bel_trans ?_ (by with_reducible assumption)) | omega | (simp; done) | (simp; omega)))⟩
      have e : i = n := by omega
      subst e
      have hl := h.len
      rw [List.take_of_length_le (by omega), List.drop_of_length_le (by rw [← hZl.out]; omega), List.append_nil] at hown
      exact Own.mk_ hown
theorem eqPhase (a0 a1 : Int) (w : World) :
    Calls Try.prog 105 #[.agg #[.int .i64 a0, .int .i64 a1], .agg #[.int .i64 a0, .int .i64 a1]] w fun e w' => e = .returned (.bool true) ∧ Below w.heap.size w w' := by
  go_enter Try.func105, Try.ntmps105
  go_wp2
  go_ret
  exact ⟨rfl, by (repeat' (first | (with_reducible exact bel_refl _) | (with_reducible assumption) | (with_reducible refine bel_drew ?_) | (with_reducible refine bel_drewN ?_) | (with_reducible refine bel_alloc ?_) | (with_reducible refine bel_set ?_ ?_) | (with_reducible refine bel_trans ?_ (by with_reducible assumption)) | omega | (simp; done) | (simp; omega)))⟩
set_option maxRecDepth 100000 in
theorem eqPhaseS (A B : Option Addr) (n c d : Nat) (xs : List Phase) (w : World) (h : Sl w 2 A n c (xs.flatMap Phase.row)) (h2 : Sl w 2 B n d (xs.flatMap Phase.row)) (hn : n ≤ 1048576) :
    Calls Try.prog 82 #[.slice A n c, .slice B n d] w fun e w' => e = .returned (.bool true) ∧ Below w.heap.size w w' := by
  go_enter Try.func82, Try.ntmps82
  go_wp2
  go_loopw [5] (fun v wr => ∃ i : Nat, i ≤ n ∧ v = .int .i64 i ∧ Below w.heap.size w wr) (fun v _ => n - (intOf v).toNat)
  case atStart => exact ⟨0, Nat.zero_le _, rfl, by (repeat' (first | (with_reducible exact bel_refl _) | (with_reducible assumption) | (with_reducible refine bel_drew ?_) | (with_reducible refine bel_drewN ?_) | (with_reducible refine bel_alloc ?_) | (with_reducible refine bel_set ?_ ?_) | (with_reducible refine bel_trans ?_ (by with_reducible assumption)) | omega | (simp; done) | (simp; omega)))⟩
  case round =>
    obtain ⟨i, hi', rfl, hB⟩ := hrel
    by_cases hlt : i < n
    · obtain ⟨x, hx⟩ : ∃ x, xs[i]? = some x := get_of_lt (by rw [h.xs_len Phase.row_len (by omega)]; exact hlt)
      obtain ⟨b, o, rfl, hb, c0, c1⟩ := (h.bel hB).phase hx
      obtain ⟨b', o', rfl, hb', e0, e1⟩ := (h2.bel hB).phase hx
      clear hx
      have hB2 := bel_refl wr
      have hc0 : (0 : Int) ≤ (i : Int) := by omega
      have hc1 : (i : Int) < (n : Int) := by omega
      go_wp2_with fail
      (refine wp_region_bel (by kernel_rfl) (by kernel_rfl) ?_; have hD := bel_cells hB2; (repeat (go_big_quiet_step (((go_at_call 105; exact calls_bel (eqPhase _ _ _)))))); refine wpQuiet_nil ?_; intro w1 hB1; replace hB2 := bel_trans hB2 hB1; obtain ⟨hC1, hF1⟩ := bcell hB2; clear hD; replace hB1 := hB1)
      go_wp2
      go_roundw
      case rel => exact ⟨i + 1, by omega, by go_num, by (repeat' (first | (with_reducible exact bel_refl _) | (with_reducible assumption) | (with_reducible refine bel_drew ?_) | (with_reducible refine bel_drewN ?_) | (with_reducible refine bel_alloc ?_) | (with_reducible refine bel_set ?_ ?_) | (with_reducible refine bel_trans ?_ (by with_reducible assumption)) | omega | (simp; done) | (simp; omega)))⟩
      case measure => simp [intOf]; omega
    · go_wp2
      go_ret
      exact ⟨rfl, by (repeat' (first | (with_reducible exact bel_refl _) | (with_reducible assumption) | (with_reducible refine bel_drew ?_) | (with_reducible refine bel_drewN ?_) | (with_reducible refine bel_alloc ?_) | (with_reducible refine bel_set ?_ ?_) | (with_reducible refine bel_trans ?_ (by with_reducible assumption)) | omega | (simp; done) | (simp; omega)))⟩

theorem markPhaseS (A : Option Addr) (n c lo hi : Nat) (k0 : Int) (L : List Value) (w : World) (h : Own lo hi w 88 2 A n c L) (hn : n ≤ 1048576) (h0 : 0 ≤ k0) (h1 : k0 ≤ 1073741824) :
    Calls Try.prog 57 #[.slice A n c, .int .i64 k0] w fun e w' => e = .returned (.int .i64 (k0 + 2 * n)) ∧ Own lo hi w' 88 2 A n c (marks k0 (n * 2)) ∧ w.grownBy w' (Value.slice A n c).ownBlock := by
  have hLl : Hid ((marks k0 (n * 2)).length = L.length) := by
    show _ = _
    rw [marks_len, h.own.1]
  go_enter Try.func57, Try.ntmps57
  go_wp2
  go_loopw [1, 5] (fun q v wr => ∃ i : Nat, i ≤ n ∧ v = .int .i64 i ∧ q = .int .i64 (k0 + 2 * i) ∧ wr.ownsRow lo 88 2 (.slice A n c) n ((marks k0 (n * 2)).take (i * 2) ++ L.drop (i * 2)) ∧ w.grownBy wr (Value.slice A n c).ownBlock) (fun _ v _ => n - (intOf v).toNat)
  case atStart => exact ⟨0, Nat.zero_le _, rfl, by simp, by simpa using h.own, World.grownBy.refl _ _⟩
  case round =>
    obtain ⟨i, hi', rfl, rfl, hown, hg⟩ := hrel
    by_cases hlt : i < n
    · obtain ⟨g, rfl, hgl, hgh⟩ := own_form hown (by omega)
      have hfz := own_fz hown
      obtain ⟨u0, d0⟩ := own_at hown (j := i * 2) (by omega)
      obtain ⟨u1, d1⟩ := own_at hown (j := i * 2 + 1) (by omega)
      go_wp2
      have f0 : (marks k0 (n * 2))[i * 2]? = some (.int .i64 (k0 + 2 * i)) := by rw [marks_get (by omega)]; congr 2; push_cast; omega
      have f1 : (marks k0 (n * 2))[i * 2 + 1]? = some (.int .i64 (k0 + 2 * i + 1)) := by rw [marks_get (by omega)]; congr 2; push_cast; omega
      go_roundw
      case rel =>
        refine ⟨i + 1, by omega, by go_num, ?_, ?_, ?_⟩
        · congr 1; push_cast; omega
        · rw [show (i + 1) * 2 = i * 2 + 2 from by omega]
          exact own_store2 hown hLl.out f0 f1
        · show w.grownBy _ (some g)
          repeat (first | (with_reducible refine grown_set ?_ _) | exact hg)
      case measure => simp [intOf]; omega
    · go_wp2
      go_ret
      have e : i = n := by omega
      subst e
      have hl := h.own.1
      rw [List.take_of_length_le (by rw [marks_len]; omega), List.drop_of_length_le (by omega), List.append_nil] at hown
      exact ⟨rfl, ⟨hown, h.up⟩, hg⟩


end Go.Proofs.Ytdfjfopbhlbmkaa
