/-
  The functions that the laws themselves are made of, walked: copies, comparisons, marks.
-/
import Derived.Test.YtlffolfooiijhaaRows
import Derived.Test.YtlffolfooiijhaaMem
namespace Go.Proofs.Ytlffolfooiijhaa
open Go.RowKit

/-! ### Duty -/
structure Duty where
  crew : Int
  fr : Int
  til : Int
def Duty.row (x : Duty) : List Value := [.int .i64 x.crew, .int .i64 x.fr, .int .i64 x.til]
theorem Duty.row_len (x : Duty) : x.row.length = 3 := rfl
theorem Duty.flat {xs : List Duty} {i : Nat} {x : Duty} (hx : xs[i]? = some x) : (xs.flatMap Duty.row)[i * 3]? = some (.int .i64 x.crew) ∧ (xs.flatMap Duty.row)[i * 3 + 1]? = some (.int .i64 x.fr) ∧ (xs.flatMap Duty.row)[i * 3 + 2]? = some (.int .i64 x.til) := by
  have fg := flat_get Duty.row_len hx
  exact ⟨fg 0 _ rfl, fg 1 _ rfl, fg 2 _ rfl⟩
theorem Sl.duty {w : World} {A : Option Addr} {n c : Nat} {xs : List Duty} (h : Sl w 3 A n c (xs.flatMap Duty.row)) {i : Nat} {x : Duty} (hx : xs[i]? = some x) :
    ∃ b o, A = some ⟨b, o, none⟩ ∧ b < w.heap.size ∧ w.cell? ⟨b, o + i * 3, none⟩ = some (.int .i64 x.crew) ∧ w.cell? ⟨b, o + i * 3 + 1, none⟩ = some (.int .i64 x.fr) ∧ w.cell? ⟨b, o + i * 3 + 2, none⟩ = some (.int .i64 x.til) := by
  obtain ⟨b, o, rfl, hb, hc⟩ := h.at_row Duty.row_len (by omega) hx
  exact ⟨b, o, rfl, hb, hc 0 _ rfl, hc 1 _ rfl, hc 2 _ rfl⟩

theorem Duty.of_lists : ∀ {L : List (List Int)}, (∀ l ∈ L, l.length = 3) → ∃ xs : List Duty, xs.flatMap Duty.row = L.flatMap ints
  | [], _ => ⟨[], rfl⟩
  | l :: L, h => by
    obtain ⟨xs, hx⟩ := Duty.of_lists (L := L) (fun l hl => h l (by simp [hl]))
    match l, h l (by simp) with
    | [a0, a1, a2], _ => exact ⟨⟨a0, a1, a2⟩ :: xs, by rw [List.flatMap_cons, List.flatMap_cons, hx]; rfl⟩

theorem toDuty (a0 a1 a2 : Int) (w : World) :
    Calls Try.prog 9 #[.agg #[.int .i64 a0, .int .i64 a1, .int .i64 a2]] w fun e w' => e = .returned (.agg #[.int .i64 a0, .int .i64 a1, .int .i64 a2]) ∧ Below w.heap.size w w' := by
  go_enter Try.func9, Try.ntmps9
  go_wp2
  exact bodyPost_ret (v := .agg #[.int .i64 a0, .int .i64 a1, .int .i64 a2]) (by simp [results, Try.results9, go_sem]) rfl ⟨rfl, by (repeat' (first | (with_reducible exact bel_refl _) | (with_reducible assumption) | (with_reducible refine bel_drew ?_) | (with_reducible refine bel_drewN ?_) | (with_reducible refine bel_alloc ?_) | (with_reducible refine bel_set ?_ ?_) | (with_reducible refine bel_trans ?_ (by with_reducible assumption)) | omega | (simp; done) | (simp; omega)))⟩

theorem szDutyS_yes (A : Option Addr) (n c : Nat) (l : Int) (w : World) (h0 : 0 ≤ l) (h1 : l ≤ 1048576) (hl : (n : Int) ≤ l) :
    Calls Try.prog 6 #[.slice A n c, .int .i64 l] w fun e w' => e = .returned (.int .i64 (l - n)) ∧ w = w' := by
  go_enter Try.func6, Try.ntmps6
  go_wp2
  go_ret
  exact ⟨rfl, rfl⟩
theorem szDutyS_no (A : Option Addr) (n c : Nat) (l : Int) (w : World) (h0 : 0 ≤ l) (h1 : l ≤ 1048576) (hn : n ≤ maxLen) (hl : ¬ (n : Int) ≤ l) :
    Calls Try.prog 6 #[.slice A n c, .int .i64 l] w fun e w' => e = .returned (.int .i64 (-1)) ∧ w = w' := by
  unfold maxLen at hn
  go_enter Try.func6, Try.ntmps6
  go_wp2
  go_ret
  exact ⟨rfl, rfl⟩

theorem info_Duty : (Try.prog.info? 30).map (fun i => (i.zero, i.size, i.bytes)) = some (some (.agg #[.int .i64 0, .int .i64 0, .int .i64 0]), 3, 24) := by kernel_rfl

theorem toDutyS (A : Option Addr) (n c : Nat) (xs : List Duty) (w : World) (h : Sl w 3 A n c (xs.flatMap Duty.row)) (hn : n ≤ 1048576) :
    Calls Try.prog 8 #[.slice A n c] w fun e w' => ∃ g, e = .returned (.slice (some ⟨g, 0, none⟩) n n) ∧ Own w.heap.size w'.heap.size w' 30 3 (some ⟨g, 0, none⟩) n n (xs.flatMap Duty.row) ∧ Below w.heap.size w w' := by
  obtain ⟨i0, hi, hz0, hz1, hz2⟩ := info_parts info_Duty
  go_enter Try.func8, Try.ntmps8
  go_wp2_with (at_make; refine wpList_make_full _ rfl _ _ 26 rfl w.heap.size 30 i0 _ 3 Try.underlying26 hi hz0 hz1 _ _ _ _ n rfl rfl rfl rfl (by rw [hz2]; omega) (by simp [maxLen]; omega) (Nat.le_refl _) ?_; intro w1 hown hg)
  have hb1 : Below w.heap.size w w1 := (Below.refl _ _).grown hg (Nat.le_refl _) (by simp)
  generalize hZ : (madeCells (Value.agg #[.int .i64 0, .int .i64 0, .int .i64 0]).cells (n * 3)).toList = Z at hown
  have hZl : Hid ((xs.flatMap Duty.row).length = Z.length) := by
    show _ = _
    rw [← hZ, h.len]
    simp [madeCells]
  clear hZ
  go_loopw [4] (fun v wr => ∃ i : Nat, i ≤ n ∧ v = .int .i64 i ∧ wr.ownsRow w.heap.size 30 3 (.slice (some ⟨w.heap.size, 0, none⟩) n n) n ((xs.flatMap Duty.row).take (i * 3) ++ Z.drop (i * 3)) ∧ Below w.heap.size w wr) (fun v _ => n - (intOf v).toNat)
  case atStart => exact ⟨0, Nat.zero_le _, rfl, by simpa using hown, hb1⟩
  case round =>
    obtain ⟨i, hi', rfl, hown, hB⟩ := hrel
    by_cases hlt : i < n
    · obtain ⟨x, hx⟩ : ∃ x, xs[i]? = some x := get_of_lt (by rw [h.xs_len Duty.row_len (by omega)]; exact hlt)
      obtain ⟨b, o, rfl, hb, c0, c1, c2⟩ := (h.bel hB).duty hx
      have hX := hid hx
      clear hx
      have hfz := own_fz hown
      obtain ⟨u0, d0⟩ := own_at hown (j := i * 3) (by omega)
      obtain ⟨u1, d1⟩ := own_at hown (j := i * 3 + 1) (by omega)
      obtain ⟨u2, d2⟩ := own_at hown (j := i * 3 + 2) (by omega)
      have hsz : w.heap.size < wr.heap.size := (hown.lt _ rfl).2
      go_wp2_with (go_at_call 9; refine (toDuty _ _ _ _).mono ?_; rintro _ w2 ⟨rfl, hB1⟩; obtain ⟨hC1, hF1⟩ := bcell hB1)
      obtain ⟨f0, f1, f2⟩ := Duty.flat hX.out
      go_roundw
      case rel =>
        refine ⟨i + 1, by omega, by go_num, ?_, by (repeat' (first | (with_reducible exact bel_refl _) | (with_reducible assumption) | (with_reducible refine bel_drew ?_) | (with_reducible refine bel_drewN ?_) | (with_reducible refine bel_alloc ?_) | (with_reducible refine bel_set ?_ ?_) | (with_reducible refine bel_trans ?_ (by with_reducible assumption)) | omega | (simp; done) | (simp; omega)))⟩
        rw [show (i + 1) * 3 = i * 3 + 3 from by omega]
        exact own_store3 (own_bel hown hB1) hZl.out f0 f1 f2
      case measure => simp [intOf]; omega
    · go_wp2
      go_ret
      refine ⟨w.heap.size, rfl, ?_, by (repeat' (first | (with_reducible exact bel_refl _) | (with_reducible assumption) | (with_reducible refine bel_drew ?_) | (with_reducible refine bel_drewN ?_) | (with_reducible refine bel_alloc ?_) | (with_reducible refine bel_set ?_ ?_) | (with_reducible refine bel_trans ?_ (by with_reducible assumption)) | omega | (simp; done) | (simp; omega)))⟩
      have e : i = n := by omega
      subst e
      have hl := h.len
      rw [List.take_of_length_le (by omega), List.drop_of_length_le (by rw [← hZl.out]; omega), List.append_nil] at hown
      exact Own.mk_ hown
theorem eqDuty (a0 a1 a2 : Int) (w : World) :
    Calls Try.prog 48 #[.agg #[.int .i64 a0, .int .i64 a1, .int .i64 a2], .agg #[.int .i64 a0, .int .i64 a1, .int .i64 a2]] w fun e w' => e = .returned (.bool true) ∧ Below w.heap.size w w' := by
  go_enter Try.func48, Try.ntmps48
  go_wp2
  go_ret
  exact ⟨rfl, by (repeat' (first | (with_reducible exact bel_refl _) | (with_reducible assumption) | (with_reducible refine bel_drew ?_) | (with_reducible refine bel_drewN ?_) | (with_reducible refine bel_alloc ?_) | (with_reducible refine bel_set ?_ ?_) | (with_reducible refine bel_trans ?_ (by with_reducible assumption)) | omega | (simp; done) | (simp; omega)))⟩
set_option maxRecDepth 100000 in
theorem eqDutyS (A B : Option Addr) (n c d : Nat) (xs : List Duty) (w : World) (h : Sl w 3 A n c (xs.flatMap Duty.row)) (h2 : Sl w 3 B n d (xs.flatMap Duty.row)) (hn : n ≤ 1048576) :
    Calls Try.prog 11 #[.slice A n c, .slice B n d] w fun e w' => e = .returned (.bool true) ∧ Below w.heap.size w w' := by
  go_enter Try.func11, Try.ntmps11
  go_wp2
  go_loopw [5] (fun v wr => ∃ i : Nat, i ≤ n ∧ v = .int .i64 i ∧ Below w.heap.size w wr) (fun v _ => n - (intOf v).toNat)
  case atStart => exact ⟨0, Nat.zero_le _, rfl, by (repeat' (first | (with_reducible exact bel_refl _) | (with_reducible assumption) | (with_reducible refine bel_drew ?_) | (with_reducible refine bel_drewN ?_) | (with_reducible refine bel_alloc ?_) | (with_reducible refine bel_set ?_ ?_) | (with_reducible refine bel_trans ?_ (by with_reducible assumption)) | omega | (simp; done) | (simp; omega)))⟩
  case round =>
    obtain ⟨i, hi', rfl, hB⟩ := hrel
    by_cases hlt : i < n
    · obtain ⟨x, hx⟩ : ∃ x, xs[i]? = some x := get_of_lt (by rw [h.xs_len Duty.row_len (by omega)]; exact hlt)
      obtain ⟨b, o, rfl, hb, c0, c1, c2⟩ := (h.bel hB).duty hx
      obtain ⟨b', o', rfl, hb', e0, e1, e2⟩ := (h2.bel hB).duty hx
      clear hx
      have hB2 := bel_refl wr
      have hc0 : (0 : Int) ≤ (i : Int) := by omega
      have hc1 : (i : Int) < (n : Int) := by omega
      go_wp2_with fail
      (refine wp_region_bel (by kernel_rfl) (by kernel_rfl) ?_; have hD := bel_cells hB2; (repeat (go_big_quiet_step (((go_at_call 48; exact calls_bel (eqDuty _ _ _ _)))))); refine wpQuiet_nil ?_; intro w1 hB1; replace hB2 := bel_trans hB2 hB1; obtain ⟨hC1, hF1⟩ := bcell hB2; clear hD; replace hB1 := hB1)
      go_wp2
      go_roundw
      case rel => exact ⟨i + 1, by omega, by go_num, by (repeat' (first | (with_reducible exact bel_refl _) | (with_reducible assumption) | (with_reducible refine bel_drew ?_) | (with_reducible refine bel_drewN ?_) | (with_reducible refine bel_alloc ?_) | (with_reducible refine bel_set ?_ ?_) | (with_reducible refine bel_trans ?_ (by with_reducible assumption)) | omega | (simp; done) | (simp; omega)))⟩
      case measure => simp [intOf]; omega
    · go_wp2
      go_ret
      exact ⟨rfl, by (repeat' (first | (with_reducible exact bel_refl _) | (with_reducible assumption) | (with_reducible refine bel_drew ?_) | (with_reducible refine bel_drewN ?_) | (with_reducible refine bel_alloc ?_) | (with_reducible refine bel_set ?_ ?_) | (with_reducible refine bel_trans ?_ (by with_reducible assumption)) | omega | (simp; done) | (simp; omega)))⟩

theorem markDutyS (A : Option Addr) (n c lo hi : Nat) (k0 : Int) (L : List Value) (w : World) (h : Own lo hi w 30 3 A n c L) (hn : n ≤ 1048576) (h0 : 0 ≤ k0) (h1 : k0 ≤ 1073741824) :
    Calls Try.prog 12 #[.slice A n c, .int .i64 k0] w fun e w' => e = .returned (.int .i64 (k0 + 3 * n)) ∧ Own lo hi w' 30 3 A n c (marks k0 (n * 3)) ∧ w.grownBy w' (Value.slice A n c).ownBlock := by
  have hLl : Hid ((marks k0 (n * 3)).length = L.length) := by
    show _ = _
    rw [marks_len, h.own.1]
  go_enter Try.func12, Try.ntmps12
  go_wp2
  go_loopw [1, 5] (fun q v wr => ∃ i : Nat, i ≤ n ∧ v = .int .i64 i ∧ q = .int .i64 (k0 + 3 * i) ∧ wr.ownsRow lo 30 3 (.slice A n c) n ((marks k0 (n * 3)).take (i * 3) ++ L.drop (i * 3)) ∧ w.grownBy wr (Value.slice A n c).ownBlock) (fun _ v _ => n - (intOf v).toNat)
  case atStart => exact ⟨0, Nat.zero_le _, rfl, by simp, by simpa using h.own, World.grownBy.refl _ _⟩
  case round =>
    obtain ⟨i, hi', rfl, rfl, hown, hg⟩ := hrel
    by_cases hlt : i < n
    · obtain ⟨g, rfl, hgl, hgh⟩ := own_form hown (by omega)
      have hfz := own_fz hown
      obtain ⟨u0, d0⟩ := own_at hown (j := i * 3) (by omega)
      obtain ⟨u1, d1⟩ := own_at hown (j := i * 3 + 1) (by omega)
      obtain ⟨u2, d2⟩ := own_at hown (j := i * 3 + 2) (by omega)
      go_wp2
      have f0 : (marks k0 (n * 3))[i * 3]? = some (.int .i64 (k0 + 3 * i)) := by rw [marks_get (by omega)]; congr 2; push_cast; omega
      have f1 : (marks k0 (n * 3))[i * 3 + 1]? = some (.int .i64 (k0 + 3 * i + 1)) := by rw [marks_get (by omega)]; congr 2; push_cast; omega
      have f2 : (marks k0 (n * 3))[i * 3 + 2]? = some (.int .i64 (k0 + 3 * i + 1 + 1)) := by rw [marks_get (by omega)]; congr 2; push_cast; omega
      go_roundw
      case rel =>
        refine ⟨i + 1, by omega, by go_num, ?_, ?_, ?_⟩
        · congr 1; push_cast; omega
        · rw [show (i + 1) * 3 = i * 3 + 3 from by omega]
          exact own_store3 hown hLl.out f0 f1 f2
        · show w.grownBy _ (some g)
          repeat (first | (with_reducible refine grown_set ?_ _) | exact hg)
      case measure => simp [intOf]; omega
    · go_wp2
      go_ret
      have e : i = n := by omega
      subst e
      have hl := h.own.1
      rw [List.take_of_length_le (by rw [marks_len]; omega), List.drop_of_length_le (by omega), List.append_nil] at hown
      exact ⟨rfl, ⟨hown, h.up⟩, hg⟩

set_option maxHeartbeats 1000000 in
theorem heldDutyS (A : Option Addr) (n c : Nat) (k0 : Int) (w : World) (h : Sl w 3 A n c (marks k0 (n * 3))) (hn : n ≤ 1048576) (h0 : 0 ≤ k0) (h1 : k0 ≤ 1073741824) :
    Calls Try.prog 13 #[.slice A n c, .int .i64 k0] w fun e w' => e = .returned (.int .i64 (k0 + 3 * n)) ∧ Below w.heap.size w w' := by
  go_enter Try.func13, Try.ntmps13
  go_wp2
  go_loopw [1, 5] (fun q v wr => ∃ i : Nat, i ≤ n ∧ v = .int .i64 i ∧ q = .int .i64 (k0 + 3 * i) ∧ Below w.heap.size w wr) (fun _ v _ => n - (intOf v).toNat)
  case atStart => exact ⟨0, Nat.zero_le _, rfl, by simp, by (repeat' (first | (with_reducible exact bel_refl _) | (with_reducible assumption) | (with_reducible refine bel_drew ?_) | (with_reducible refine bel_drewN ?_) | (with_reducible refine bel_alloc ?_) | (with_reducible refine bel_set ?_ ?_) | (with_reducible refine bel_trans ?_ (by with_reducible assumption)) | omega | (simp; done) | (simp; omega)))⟩
  case round =>
    obtain ⟨i, hi', rfl, rfl, hB⟩ := hrel
    by_cases hlt : i < n
    · obtain ⟨b, o, rfl, hb, hc⟩ := (h.bel hB).at_ (by omega)
      have c0 : wr.cell? ⟨b, o + i * 3, none⟩ = some (.int .i64 (k0 + 3 * i)) := by rw [hc _ _ (marks_get (by omega))]; congr 2; push_cast; omega
      have c1 : wr.cell? ⟨b, o + i * 3 + 1, none⟩ = some (.int .i64 (k0 + 3 * i + 1)) := by rw [Nat.add_assoc, hc _ _ (marks_get (by omega))]; congr 2; push_cast; omega
      have c2 : wr.cell? ⟨b, o + i * 3 + 2, none⟩ = some (.int .i64 (k0 + 3 * i + 1 + 1)) := by rw [Nat.add_assoc, hc _ _ (marks_get (by omega))]; congr 2; push_cast; omega
      clear hc
      go_wp2
      go_roundw
      case rel => exact ⟨i + 1, by omega, by go_num, by congr 1; push_cast; omega, by (repeat' (first | (with_reducible exact bel_refl _) | (with_reducible assumption) | (with_reducible refine bel_drew ?_) | (with_reducible refine bel_drewN ?_) | (with_reducible refine bel_alloc ?_) | (with_reducible refine bel_set ?_ ?_) | (with_reducible refine bel_trans ?_ (by with_reducible assumption)) | omega | (simp; done) | (simp; omega)))⟩
      case measure => simp [intOf]; omega
    · go_wp2
      go_ret
      have e : i = n := by omega
      subst e
      exact ⟨rfl, by (repeat' (first | (with_reducible exact bel_refl _) | (with_reducible assumption) | (with_reducible refine bel_drew ?_) | (with_reducible refine bel_drewN ?_) | (with_reducible refine bel_alloc ?_) | (with_reducible refine bel_set ?_ ?_) | (with_reducible refine bel_trans ?_ (by with_reducible assumption)) | omega | (simp; done) | (simp; omega)))⟩

/-! ### WorkRule -/
structure WorkRule where
  work : Int
  rest : Int
  span : Int
  most : Int
def WorkRule.row (x : WorkRule) : List Value := [.int .i64 x.work, .int .i64 x.rest, .int .i64 x.span, .int .i64 x.most]
theorem WorkRule.row_len (x : WorkRule) : x.row.length = 4 := rfl
theorem WorkRule.flat {xs : List WorkRule} {i : Nat} {x : WorkRule} (hx : xs[i]? = some x) : (xs.flatMap WorkRule.row)[i * 4]? = some (.int .i64 x.work) ∧ (xs.flatMap WorkRule.row)[i * 4 + 1]? = some (.int .i64 x.rest) ∧ (xs.flatMap WorkRule.row)[i * 4 + 2]? = some (.int .i64 x.span) ∧ (xs.flatMap WorkRule.row)[i * 4 + 3]? = some (.int .i64 x.most) := by
  have fg := flat_get WorkRule.row_len hx
  exact ⟨fg 0 _ rfl, fg 1 _ rfl, fg 2 _ rfl, fg 3 _ rfl⟩
theorem Sl.workRule {w : World} {A : Option Addr} {n c : Nat} {xs : List WorkRule} (h : Sl w 4 A n c (xs.flatMap WorkRule.row)) {i : Nat} {x : WorkRule} (hx : xs[i]? = some x) :
    ∃ b o, A = some ⟨b, o, none⟩ ∧ b < w.heap.size ∧ w.cell? ⟨b, o + i * 4, none⟩ = some (.int .i64 x.work) ∧ w.cell? ⟨b, o + i * 4 + 1, none⟩ = some (.int .i64 x.rest) ∧ w.cell? ⟨b, o + i * 4 + 2, none⟩ = some (.int .i64 x.span) ∧ w.cell? ⟨b, o + i * 4 + 3, none⟩ = some (.int .i64 x.most) := by
  obtain ⟨b, o, rfl, hb, hc⟩ := h.at_row WorkRule.row_len (by omega) hx
  exact ⟨b, o, rfl, hb, hc 0 _ rfl, hc 1 _ rfl, hc 2 _ rfl, hc 3 _ rfl⟩

theorem WorkRule.of_lists : ∀ {L : List (List Int)}, (∀ l ∈ L, l.length = 4) → ∃ xs : List WorkRule, xs.flatMap WorkRule.row = L.flatMap ints
  | [], _ => ⟨[], rfl⟩
  | l :: L, h => by
    obtain ⟨xs, hx⟩ := WorkRule.of_lists (L := L) (fun l hl => h l (by simp [hl]))
    match l, h l (by simp) with
    | [a0, a1, a2, a3], _ => exact ⟨⟨a0, a1, a2, a3⟩ :: xs, by rw [List.flatMap_cons, List.flatMap_cons, hx]; rfl⟩



theorem info_WorkRule : (Try.prog.info? 53).map (fun i => (i.zero, i.size, i.bytes)) = some (some (.agg #[.int .i64 0, .int .i64 0, .int .i64 0, .int .i64 0]), 4, 32) := by kernel_rfl



/-! ### lists of numbers -/
theorem info_int : (Try.prog.info? 3).map (fun i => (i.zero, i.size, i.bytes)) = some (some (.int .i64 0), 1, 8) := by kernel_rfl



end Go.Proofs.Ytlffolfooiijhaa
