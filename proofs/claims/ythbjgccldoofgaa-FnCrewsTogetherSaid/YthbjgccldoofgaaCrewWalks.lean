/-
  The functions on crews, of the program and of the reference, walked.
-/
import Derived.Test.YthbjgccldoofgaaIn
import Derived.Test.YthbjgccldoofgaaCrewMath
namespace Go.Proofs.Ythbjgccldoofgaa
open Go.RowKit

theorem isCrewI (x : Crew) (w : World) :
    Calls Try.prog 12 #[.agg #[.int .i64 x.id, .int .i64 x.rate, .int .i64 x.tires, .int .i64 x.shift, .int .i64 x.start]] w fun e w' => e = .returned (.bool (goodC x)) ∧ Below w.heap.size w w' := by
  by_cases hs : inB x.shift 1 24 = true
  · have hs1 := inB_iff.1 hs
    have hs2 := hid hs
    clear hs
    go_enter Try.func12, Try.ntmps12
    go_wp2_with (go_at_call 34; refine (isIn _ _ _ _).mono ?_; rintro _ w1 ⟨rfl, rfl⟩)
    all_goals go_ret
    all_goals (refine ⟨?_, by (repeat' (first | (with_reducible exact bel_refl _) | (with_reducible assumption) | (with_reducible refine bel_drew ?_) | (with_reducible refine bel_drewN ?_) | (with_reducible refine bel_alloc ?_) | (with_reducible refine bel_set ?_ ?_) | (with_reducible refine bel_trans ?_ (by with_reducible assumption)) | omega | (simp; done) | (simp; omega)))⟩; have hs := hs2.out; simp [goodC, *])
  · go_enter Try.func12, Try.ntmps12
    go_wp2_with (go_at_call 34; refine (isIn _ _ _ _).mono ?_; rintro _ w1 ⟨rfl, rfl⟩)
    all_goals go_ret
    all_goals (refine ⟨?_, by (repeat' (first | (with_reducible exact bel_refl _) | (with_reducible assumption) | (with_reducible refine bel_drew ?_) | (with_reducible refine bel_drewN ?_) | (with_reducible refine bel_alloc ?_) | (with_reducible refine bel_set ?_ ?_) | (with_reducible refine bel_trans ?_ (by with_reducible assumption)) | omega | (simp; done) | (simp; omega)))⟩; simp [goodC, *])

theorem l10Good (x : Crew) (w : World) :
    Calls Try.prog 36 #[.agg #[.int .i64 x.id, .int .i64 x.rate, .int .i64 x.tires, .int .i64 x.shift, .int .i64 x.start]] w fun e w' => e = .returned (.bool (goodC x)) ∧ Below w.heap.size w w' := by
  by_cases hs : inB x.shift 1 24 = true
  · have hs1 := inB_iff.1 hs
    have hs2 := hid hs
    clear hs
    go_enter Try.func36, Try.ntmps36
    go_wp2_with (go_at_call 58; refine (l1In _ _ _ _).mono ?_; rintro _ w1 ⟨rfl, rfl⟩)
    all_goals go_ret
    all_goals (refine ⟨?_, by (repeat' (first | (with_reducible exact bel_refl _) | (with_reducible assumption) | (with_reducible refine bel_drew ?_) | (with_reducible refine bel_drewN ?_) | (with_reducible refine bel_alloc ?_) | (with_reducible refine bel_set ?_ ?_) | (with_reducible refine bel_trans ?_ (by with_reducible assumption)) | omega | (simp; done) | (simp; omega)))⟩; have hs := hs2.out; simp [goodC, *])
  · go_enter Try.func36, Try.ntmps36
    go_wp2_with (go_at_call 58; refine (l1In _ _ _ _).mono ?_; rintro _ w1 ⟨rfl, rfl⟩)
    all_goals go_ret
    all_goals (refine ⟨?_, by (repeat' (first | (with_reducible exact bel_refl _) | (with_reducible assumption) | (with_reducible refine bel_drew ?_) | (with_reducible refine bel_drewN ?_) | (with_reducible refine bel_alloc ?_) | (with_reducible refine bel_set ?_ ?_) | (with_reducible refine bel_trans ?_ (by with_reducible assumption)) | omega | (simp; done) | (simp; omega)))⟩; simp [goodC, *])

theorem l10Hour (n : Int) (w : World) :
    Calls Try.prog 37 #[.int .i64 n] w fun e w' => e = .returned (.bool (inB n 0 240)) ∧ w = w' := by
  go_enter Try.func37, Try.ntmps37
  go_wp2_with (go_at_call 58; refine (l1In _ _ _ _).mono ?_; rintro _ w1 ⟨rfl, rfl⟩)
  go_ret
  exact ⟨rfl, rfl⟩

theorem l10Metres (n : Int) (w : World) :
    Calls Try.prog 44 #[.int .i64 n] w fun e w' => e = .returned (.bool (inB n 0 20000)) ∧ w = w' := by
  go_enter Try.func44, Try.ntmps44
  go_wp2_with (go_at_call 58; refine (l1In _ _ _ _).mono ?_; rintro _ w1 ⟨rfl, rfl⟩)
  go_ret
  exact ⟨rfl, rfl⟩

theorem isMetres (n : Int) (w : World) :
    Calls Try.prog 42 #[.int .i64 n] w fun e w' => e = .returned (.bool (inB n 0 20000)) ∧ w = w' := by
  go_enter Try.func42, Try.ntmps42
  go_wp2_with (go_at_call 34; refine (isIn _ _ _ _).mono ?_; rintro _ w1 ⟨rfl, rfl⟩)
  go_ret
  exact ⟨rfl, rfl⟩

theorem l10Works (x : Crew) (h : Nat) (w : World) (hg : goodC x = true) (hh : h ≤ 1000) :
    Calls Try.prog 49 #[.agg #[.int .i64 x.id, .int .i64 x.rate, .int .i64 x.tires, .int .i64 x.shift, .int .i64 x.start], .int .i64 h] w fun e w' => e = .returned (.bool (worksB x h)) ∧ Below w.heap.size w w' := by
  have hb := goodC_bd hg
  clear hg
  go_enter Try.func49, Try.ntmps49
  go_wp2_with (go_at_call 58; refine (l1In _ _ _ _).mono ?_; rintro _ w1 ⟨rfl, rfl⟩)
  go_ret
  exact ⟨rfl, by (repeat' (first | (with_reducible exact bel_refl _) | (with_reducible assumption) | (with_reducible refine bel_drew ?_) | (with_reducible refine bel_drewN ?_) | (with_reducible refine bel_alloc ?_) | (with_reducible refine bel_set ?_ ?_) | (with_reducible refine bel_trans ?_ (by with_reducible assumption)) | omega | (simp; done) | (simp; omega)))⟩

theorem worksI (x : Crew) (h : Nat) (w : World) (hg : goodC x = true) (hh : h ≤ 1000) :
    Calls Try.prog 47 #[.agg #[.int .i64 x.id, .int .i64 x.rate, .int .i64 x.tires, .int .i64 x.shift, .int .i64 x.start], .int .i64 h] w fun e w' => e = .returned (.bool (worksB x h)) ∧ Below w.heap.size w w' := by
  have hb := goodC_bd hg
  clear hg
  go_enter Try.func47, Try.ntmps47
  go_wp2_with (go_at_call 34; refine (isIn _ _ _ _).mono ?_; rintro _ w1 ⟨rfl, rfl⟩)
  go_ret
  exact ⟨rfl, by (repeat' (first | (with_reducible exact bel_refl _) | (with_reducible assumption) | (with_reducible refine bel_drew ?_) | (with_reducible refine bel_drewN ?_) | (with_reducible refine bel_alloc ?_) | (with_reducible refine bel_set ?_ ?_) | (with_reducible refine bel_trans ?_ (by with_reducible assumption)) | omega | (simp; done) | (simp; omega)))⟩

theorem l10Shift (x : Crew) (w : World) (hg : goodC x = true) :
    Calls Try.prog 40 #[.agg #[.int .i64 x.id, .int .i64 x.rate, .int .i64 x.tires, .int .i64 x.shift, .int .i64 x.start]] w fun e w' => ∃ A n c, e = .returned (.slice A n c) ∧ Own w.heap.size w'.heap.size w' 3 1 A n c (ints (shiftL x)) ∧ Below w.heap.size w w' := by
  have hb := goodC_bd hg
  have hB2 := bel_refl (w.alloc (.cells #[.int .i64 x.id, .int .i64 x.rate, .int .i64 x.tires, .int .i64 x.shift, .int .i64 x.start] 25))
  have hG := hid hg
  clear hg
  go_enter Try.func40, Try.ntmps40
  go_wp2_with fail
  go_loopw [3, 4, 5] (fun q p v wr => ∃ i : Nat, (i : Int) ≤ x.shift ∧ v = .int .i64 i ∧ p = .int .i64 (rateAt x i) ∧ (∃ A c, q = .slice A i c ∧ wr.ownsRow (w.alloc (.cells #[.int .i64 x.id, .int .i64 x.rate, .int .i64 x.tires, .int .i64 x.shift, .int .i64 x.start] 25)).heap.size 3 1 (.slice A i c) i (ints ((List.range i).map (rateAt x)))) ∧ Below (w.alloc (.cells #[.int .i64 x.id, .int .i64 x.rate, .int .i64 x.tires, .int .i64 x.shift, .int .i64 x.start] 25)).heap.size (w.alloc (.cells #[.int .i64 x.id, .int .i64 x.rate, .int .i64 x.tires, .int .i64 x.shift, .int .i64 x.start] 25)) wr) (fun _ _ v _ => (x.shift - intOf v).toNat)
  case atStart => exact ⟨0, by omega, rfl, rfl, ⟨_, _, rfl, by first | (simpa [ints] using own_empty (w := (w.alloc (.cells #[.int .i64 x.id, .int .i64 x.rate, .int .i64 x.tires, .int .i64 x.shift, .int .i64 x.start] 25))) (size := 1) (e := 3) (Nat.le_refl _)) | (simpa [ints] using (own_empty (w := (w.alloc (.cells #[.int .i64 x.id, .int .i64 x.rate, .int .i64 x.tires, .int .i64 x.shift, .int .i64 x.start] 25))) (size := 1) (e := 3) (Nat.le_refl _)).drew)⟩, by (repeat' (first | (with_reducible exact bel_refl _) | (with_reducible assumption) | (with_reducible refine bel_drew ?_) | (with_reducible refine bel_drewN ?_) | (with_reducible refine bel_alloc ?_) | (with_reducible refine bel_set ?_ ?_) | (with_reducible refine bel_trans ?_ (by with_reducible assumption)) | omega | (simp; done) | (simp; omega)))⟩
  case round =>
    obtain ⟨i, hi', rfl, rfl, ⟨A, c, rfl, hown⟩, hB2⟩ := hrel
    obtain ⟨hC1, hF1⟩ := bcell hB2
    have hr := rateAt_bd hG.out i
    have h1 : 0 ≤ rateAt x i * (100 - x.tires) := Int.mul_nonneg (by omega) (by omega)
    have h2 : rateAt x i * (100 - x.tires) ≤ 200 * 100 := Int.mul_le_mul hr.2 (by omega) (by omega) (by omega)
    by_cases hlt : (i : Int) < x.shift
    · go_wp2_with (at_builtin; refine wpList_push rfl (.tmp 15) (.tmp 17) 30 rfl (w.alloc (.cells #[.int .i64 x.id, .int .i64 x.rate, .int .i64 x.tires, .int .i64 x.shift, .int .i64 x.start] 25)).heap.size 3 (.int .i64 0) 1 8 Try.underlying30 info_int rfl (by omega) A i c _ [.int .i64 (rateAt x i)] 3 rfl hown rfl rfl (oneCell_int _) (by omega) (by omega) hB2.size ?_; intro A' c' w2 hown2 hb2 hg2; replace hB2 := hB2.trans hb2; obtain ⟨hC2, hF2⟩ := bcell hB2)
      go_roundw
      case rel => exact ⟨i + 1, by omega, by go_num, rfl, ⟨_, _, rfl, by rw [← range_snoc, ← ints_snoc]; exact hown2⟩, hB2⟩
      case measure => simp [intOf]; omega
    · go_wp2
      go_ret
      have e : x.shift.toNat = i := by omega
      refine ⟨A, i, c, rfl, ?_, (bel_alloc (bel_refl w)).trans (hB2.mono (by simp))⟩
      rw [shiftL, e]
      exact (Own.mk_ hown).low (by simp)

theorem shiftI (x : Crew) (w : World) (hg : goodC x = true) :
    Calls Try.prog 39 #[.agg #[.int .i64 x.id, .int .i64 x.rate, .int .i64 x.tires, .int .i64 x.shift, .int .i64 x.start]] w fun e w' => ∃ A n c, e = .returned (.slice A n c) ∧ Own w.heap.size w'.heap.size w' 3 1 A n c (ints (shiftL x)) ∧ Below w.heap.size w w' := by
  have hb := goodC_bd hg
  have hB2 := bel_refl (w.alloc (.cells #[.int .i64 x.id, .int .i64 x.rate, .int .i64 x.tires, .int .i64 x.shift, .int .i64 x.start] 25))
  have hG := hid hg
  clear hg
  go_enter Try.func39, Try.ntmps39
  go_wp2_with fail; go_region; go_wp2_with fail
  go_loopw [3, 4, 10] (fun q p v wr => ∃ i : Nat, (i : Int) ≤ x.shift ∧ v = .int .i64 i ∧ p = .int .i64 (rateAt x i) ∧ (∃ A c, q = .slice A i c ∧ wr.ownsRow (w.alloc (.cells #[.int .i64 x.id, .int .i64 x.rate, .int .i64 x.tires, .int .i64 x.shift, .int .i64 x.start] 25)).heap.size 3 1 (.slice A i c) i (ints ((List.range i).map (rateAt x)))) ∧ Below (w.alloc (.cells #[.int .i64 x.id, .int .i64 x.rate, .int .i64 x.tires, .int .i64 x.shift, .int .i64 x.start] 25)).heap.size (w.alloc (.cells #[.int .i64 x.id, .int .i64 x.rate, .int .i64 x.tires, .int .i64 x.shift, .int .i64 x.start] 25)) wr) (fun _ _ v _ => (x.shift - intOf v).toNat)
  case atStart => exact ⟨0, by omega, rfl, rfl, ⟨_, _, rfl, by first | (simpa [ints] using own_empty (w := (w.alloc (.cells #[.int .i64 x.id, .int .i64 x.rate, .int .i64 x.tires, .int .i64 x.shift, .int .i64 x.start] 25))) (size := 1) (e := 3) (Nat.le_refl _)) | (simpa [ints] using (own_empty (w := (w.alloc (.cells #[.int .i64 x.id, .int .i64 x.rate, .int .i64 x.tires, .int .i64 x.shift, .int .i64 x.start] 25))) (size := 1) (e := 3) (Nat.le_refl _)).drew)⟩, by (repeat' (first | (with_reducible exact bel_refl _) | (with_reducible assumption) | (with_reducible refine bel_drew ?_) | (with_reducible refine bel_drewN ?_) | (with_reducible refine bel_alloc ?_) | (with_reducible refine bel_set ?_ ?_) | (with_reducible refine bel_trans ?_ (by with_reducible assumption)) | omega | (simp; done) | (simp; omega)))⟩
  case round =>
    obtain ⟨i, hi', rfl, rfl, ⟨A, c, rfl, hown⟩, hB2⟩ := hrel
    obtain ⟨hC1, hF1⟩ := bcell hB2
    have hr := rateAt_bd hG.out i
    have h1 : 0 ≤ rateAt x i * (100 - x.tires) := Int.mul_nonneg (by omega) (by omega)
    have h2 : rateAt x i * (100 - x.tires) ≤ 200 * 100 := Int.mul_le_mul hr.2 (by omega) (by omega) (by omega)
    by_cases hlt : (i : Int) < x.shift
    · go_wp2_with (at_builtin; refine wpList_push rfl (.tmp 12) (.tmp 14) 30 rfl (w.alloc (.cells #[.int .i64 x.id, .int .i64 x.rate, .int .i64 x.tires, .int .i64 x.shift, .int .i64 x.start] 25)).heap.size 3 (.int .i64 0) 1 8 Try.underlying30 info_int rfl (by omega) A i c _ [.int .i64 (rateAt x i)] 3 rfl hown rfl rfl (oneCell_int _) (by omega) (by omega) hB2.size ?_; intro A' c' w2 hown2 hb2 hg2; replace hB2 := hB2.trans hb2; obtain ⟨hC2, hF2⟩ := bcell hB2)
      go_roundw
      case rel => exact ⟨i + 1, by omega, by go_num, rfl, ⟨_, _, rfl, by rw [← range_snoc, ← ints_snoc]; exact hown2⟩, hB2⟩
      case measure => simp [intOf]; omega
    · go_wp2
      go_ret
      have e : x.shift.toNat = i := by omega
      refine ⟨A, i, c, rfl, ?_, (bel_alloc (bel_refl w)).trans (hB2.mono (by simp))⟩
      rw [shiftL, e]
      exact (Own.mk_ hown).low (by simp)

theorem l10Built (x : Crew) (H : Nat) (w : World) (hg : goodC x = true) (hH : H ≤ 1000) :
    Calls Try.prog 38 #[.agg #[.int .i64 x.id, .int .i64 x.rate, .int .i64 x.tires, .int .i64 x.shift, .int .i64 x.start], .int .i64 H] w fun e w' => e = .returned (.int .i64 (builtN x H)) ∧ Below w.heap.size w w' := by
  have hb := goodC_bd hg
  have hB2 := bel_refl (w.alloc (.cells #[.int .i64 x.id, .int .i64 x.rate, .int .i64 x.tires, .int .i64 x.shift, .int .i64 x.start] 25))
  have hG := hid hg
  clear hg
  go_enter Try.func38, Try.ntmps38
  go_wp2_with (go_at_call 40; refine (l10Shift _ _ hG.out).mono ?_; rintro _ w1 ⟨A, n, c, rfl, hO, hb1⟩; replace hB2 := bel_trans hB2 hb1)
  go_loopw [6, 7] (fun q v wr => ∃ h : Nat, h ≤ H ∧ v = .int .i64 h ∧ q = .int .i64 (builtN x h) ∧ Below w1.heap.size w1 wr) (fun _ v _ => H - (intOf v).toNat)
  case atStart => exact ⟨0, by omega, rfl, rfl, by (repeat' (first | (with_reducible exact bel_refl _) | (with_reducible assumption) | (with_reducible refine bel_drew ?_) | (with_reducible refine bel_drewN ?_) | (with_reducible refine bel_alloc ?_) | (with_reducible refine bel_set ?_ ?_) | (with_reducible refine bel_trans ?_ (by with_reducible assumption)) | omega | (simp; done) | (simp; omega)))⟩
  case round =>
    obtain ⟨h, hh, rfl, rfl, hb2⟩ := hrel
    replace hB2 := bel_trans hB2 hb2
    obtain ⟨hC1, hF1⟩ := bcell hB2
    replace hb2 := hb2
    have hbn := builtN_bd hG.out h
    by_cases hlt : h < H
    · rcases hw : worksB x h with _ | _
      · go_wp2_with (go_at_call 49; refine (l10Works _ _ _ hG.out (by omega)).mono ?_; rintro _ w2 ⟨rfl, hb3⟩; replace hB2 := bel_trans hB2 hb3; obtain ⟨hC2, hF2⟩ := bcell hB2; replace hb3 := hb3)
        go_roundw
        case rel => exact ⟨h + 1, by omega, by go_num, by rw [builtN_no hw], by (repeat' (first | (with_reducible exact bel_refl _) | (with_reducible assumption) | (with_reducible refine bel_drew ?_) | (with_reducible refine bel_drewN ?_) | (with_reducible refine bel_alloc ?_) | (with_reducible refine bel_set ?_ ?_) | (with_reducible refine bel_trans ?_ (by with_reducible assumption)) | omega | (simp; done) | (simp; omega)))⟩
        case measure => simp [intOf]; omega
      · have hk := works_at hw
        have hwd := hid hw
        clear hw
        have hr := rateAt_bd hG.out ((h : Int) % 24 - x.start).toNat
        obtain ⟨b, o, rfl, hbl, hc, hkn⟩ := shift_at ((hO.bel hb2).sl) hk.1 hk.2
        have hw := hwd.out
        go_wp2_with (go_at_call 49; refine (l10Works _ _ _ hG.out (by omega)).mono ?_; rintro _ w2 ⟨rfl, hb3⟩; replace hB2 := bel_trans hB2 hb3; obtain ⟨hC2, hF2⟩ := bcell hB2; obtain ⟨hC3, hF3⟩ := bcell hb3; replace hb3 := hb3)
        go_roundw
        case rel => exact ⟨h + 1, by omega, by go_num, by rw [builtN_yes hwd.out], by (repeat' (first | (with_reducible exact bel_refl _) | (with_reducible assumption) | (with_reducible refine bel_drew ?_) | (with_reducible refine bel_drewN ?_) | (with_reducible refine bel_alloc ?_) | (with_reducible refine bel_set ?_ ?_) | (with_reducible refine bel_trans ?_ (by with_reducible assumption)) | omega | (simp; done) | (simp; omega)))⟩
        case measure => simp [intOf]; omega
    · go_wp2
      go_ret
      have e : h = H := by omega
      subst e
      exact ⟨rfl, by (repeat' (first | (with_reducible exact bel_refl _) | (with_reducible assumption) | (with_reducible refine bel_drew ?_) | (with_reducible refine bel_drewN ?_) | (with_reducible refine bel_alloc ?_) | (with_reducible refine bel_set ?_ ?_) | (with_reducible refine bel_trans ?_ (by with_reducible assumption)) | omega | (simp; done) | (simp; omega)))⟩

theorem l10Together (A : Option Addr) (n c : Nat) (xs : List Crew) (H : Nat) (w : World) (hS : Sl w 5 A n c (xs.flatMap Crew.row)) (hn : n ≤ 6) (hG : allC xs) (hH : H ≤ 1000) :
    Calls Try.prog 53 #[.slice A n c, .int .i64 H] w fun e w' => e = .returned (.int .i64 (togetherN xs H)) ∧ Below w.heap.size w w' := by
  go_enter Try.func53, Try.ntmps53
  go_wp2
  go_loopw [5, 6] (fun q v wr => ∃ i : Nat, i ≤ n ∧ v = .int .i64 i ∧ q = .int .i64 (togetherN (xs.take i) H) ∧ Below w.heap.size w wr) (fun _ v _ => n - (intOf v).toNat)
  case atStart => exact ⟨0, by omega, rfl, by simp [togetherN], by (repeat' (first | (with_reducible exact bel_refl _) | (with_reducible assumption) | (with_reducible refine bel_drew ?_) | (with_reducible refine bel_drewN ?_) | (with_reducible refine bel_alloc ?_) | (with_reducible refine bel_set ?_ ?_) | (with_reducible refine bel_trans ?_ (by with_reducible assumption)) | omega | (simp; done) | (simp; omega)))⟩
  case round =>
    obtain ⟨i, hi', rfl, rfl, hB⟩ := hrel
    have htb := togetherN_bd (xs := xs) (i := i) (H := H) hG (by omega)
    by_cases hlt : i < n
    · obtain ⟨x, hx⟩ : ∃ x, xs[i]? = some x := get_of_lt (by rw [hS.xs_len Crew.row_len (by omega)]; exact hlt)
      obtain ⟨b, o, rfl, hb, c0, c1, c2, c3, c4⟩ := (hS.bel hB).crew hx
      have hX := hid hx
      have hgx := hid (hG i x hx)
      have hbn := builtN_bd (hG i x hx) H
      clear hx
      go_wp2_with (go_at_call 38; refine (l10Built _ _ _ hgx.out hH).mono ?_; rintro _ w2 ⟨rfl, hb3⟩)
      go_roundw
      case rel => exact ⟨i + 1, by omega, by go_num, by rw [togetherN_snoc hX.out], by (repeat' (first | (with_reducible exact bel_refl _) | (with_reducible assumption) | (with_reducible refine bel_drew ?_) | (with_reducible refine bel_drewN ?_) | (with_reducible refine bel_alloc ?_) | (with_reducible refine bel_set ?_ ?_) | (with_reducible refine bel_trans ?_ (by with_reducible assumption)) | omega | (simp; done) | (simp; omega)))⟩
      case measure => simp [intOf]; omega
    · go_wp2
      go_ret
      have e : i = n := by omega
      subst e
      exact ⟨ret_int (by rw [List.take_of_length_le (by rw [hS.xs_len Crew.row_len (by omega)]; omega)]), by (repeat' (first | (with_reducible exact bel_refl _) | (with_reducible assumption) | (with_reducible refine bel_drew ?_) | (with_reducible refine bel_drewN ?_) | (with_reducible refine bel_alloc ?_) | (with_reducible refine bel_set ?_ ?_) | (with_reducible refine bel_trans ?_ (by with_reducible assumption)) | omega | (simp; done) | (simp; omega)))⟩

theorem l10Least (A : Option Addr) (n c : Nat) (xs : List Crew) (m : Int) (w : World) (hS : Sl w 5 A n c (xs.flatMap Crew.row)) (hn : n ≤ 6) (hG : allC xs) :
    Calls Try.prog 45 #[.slice A n c, .int .i64 m] w fun e w' => e = .returned (.int .i64 (leastI xs m)) ∧ Below w.heap.size w w' := by
  by_cases h240 : togetherN xs 240 < m
  · have hL := hid (leastI_no hG h240)
    go_enter Try.func45, Try.ntmps45
    go_wp2_with (go_at_call 53; refine (l10Together _ _ _ _ 240 _ hS hn hG (by omega)).mono ?_; rintro _ w1 ⟨rfl, hb1⟩)
    go_ret
    exact ⟨ret_int hL.out.symm, by (repeat' (first | (with_reducible exact bel_refl _) | (with_reducible assumption) | (with_reducible refine bel_drew ?_) | (with_reducible refine bel_drewN ?_) | (with_reducible refine bel_alloc ?_) | (with_reducible refine bel_set ?_ ?_) | (with_reducible refine bel_trans ?_ (by with_reducible assumption)) | omega | (simp; done) | (simp; omega)))⟩
  · go_enter Try.func45, Try.ntmps45
    go_wp2_with (go_at_call 53; refine (l10Together _ _ _ _ 240 _ hS hn hG (by omega)).mono ?_; rintro _ w1 ⟨rfl, hb1⟩)
    go_loopw [5, 6, 7] (fun p q r wr => ∃ l h : Nat, l ≤ h ∧ h ≤ 240 ∧ p = .int .i64 l ∧ q = .int .i64 h ∧ m ≤ togetherN xs h ∧ below_ xs m l ∧ Below w1.heap.size w1 wr) (fun p q _ _ => (intOf q - intOf p).toNat)
    case atStart => exact ⟨0, 240, by omega, by omega, rfl, rfl, by omega, fun j hj => absurd hj (by omega), by (repeat' (first | (with_reducible exact bel_refl _) | (with_reducible assumption) | (with_reducible refine bel_drew ?_) | (with_reducible refine bel_drewN ?_) | (with_reducible refine bel_alloc ?_) | (with_reducible refine bel_set ?_ ?_) | (with_reducible refine bel_trans ?_ (by with_reducible assumption)) | omega | (simp; done) | (simp; omega)))⟩
    case round =>
      obtain ⟨l, h, hlh, hh, rfl, rfl, hy, hno, hb2⟩ := hrel
      by_cases hlt : l < h
      · obtain ⟨M, hM⟩ : ∃ M : Nat, ((l : Int) + h) / 2 = M := ⟨(l + h) / 2, by omega⟩
        have hm0 : l ≤ M := by omega
        have hm1 : M < h := by omega
        have hMM := hid hM
        clear hM
        by_cases hc : m ≤ togetherN xs M
        · go_wp2_with fail
          rw [hMM.out]
          refine (l10Together _ _ _ _ M _ (hS.bel (bel_trans hb1 hb2)) hn hG (by omega)).mono ?_
          rintro _ w2 ⟨rfl, hb3⟩
          go_wp2
          go_roundw
          case rel => exact ⟨l, M, hm0, by omega, rfl, rfl, hc, hno, by (repeat' (first | (with_reducible exact bel_refl _) | (with_reducible assumption) | (with_reducible refine bel_drew ?_) | (with_reducible refine bel_drewN ?_) | (with_reducible refine bel_alloc ?_) | (with_reducible refine bel_set ?_ ?_) | (with_reducible refine bel_trans ?_ (by with_reducible assumption)) | omega | (simp; done) | (simp; omega)))⟩
          case measure => simp [intOf]; omega
        · go_wp2_with fail
          rw [hMM.out]
          refine (l10Together _ _ _ _ M _ (hS.bel (bel_trans hb1 hb2)) hn hG (by omega)).mono ?_
          rintro _ w2 ⟨rfl, hb3⟩
          go_wp2
          go_roundw
          case rel => exact ⟨M + 1, h, by omega, hh, by go_num, rfl, hy, fun j hj => Int.lt_of_le_of_lt (togetherN_mono hG (show j ≤ M by omega)) (by omega), by (repeat' (first | (with_reducible exact bel_refl _) | (with_reducible assumption) | (with_reducible refine bel_drew ?_) | (with_reducible refine bel_drewN ?_) | (with_reducible refine bel_alloc ?_) | (with_reducible refine bel_set ?_ ?_) | (with_reducible refine bel_trans ?_ (by with_reducible assumption)) | omega | (simp; done) | (simp; omega)))⟩
          case measure => simp [intOf]; omega
      · go_wp2
        go_ret
        have e : l = h := by omega
        subst e
        exact ⟨ret_int (leastI_yes hh hy hno).symm, by (repeat' (first | (with_reducible exact bel_refl _) | (with_reducible assumption) | (with_reducible refine bel_drew ?_) | (with_reducible refine bel_drewN ?_) | (with_reducible refine bel_alloc ?_) | (with_reducible refine bel_set ?_ ?_) | (with_reducible refine bel_trans ?_ (by with_reducible assumption)) | omega | (simp; done) | (simp; omega)))⟩

theorem builtI (A : Option Addr) (n c : Nat) (xs : List Crew) (H : Nat) (w : World) (hS : Sl w 5 A n c (xs.flatMap Crew.row)) (hn : n ≤ 6) (hG : allC xs) (hH : H ≤ 1000) :
    Calls Try.prog 35 #[.int .i64 H, .slice A n c] w fun e w' => e = .returned (.int .i64 (togetherN xs H)) ∧ Below w.heap.size w w' := by
  go_enter Try.func35, Try.ntmps35
  go_wp2
  go_loopw [5, 12] (fun q v wr => ∃ i : Nat, i ≤ n ∧ v = .int .i64 i ∧ q = .int .i64 (togetherN (xs.take i) H) ∧ Below w.heap.size w wr) (fun _ v _ => n - (intOf v).toNat)
  case atStart => exact ⟨0, by omega, rfl, by simp [togetherN], by (repeat' (first | (with_reducible exact bel_refl _) | (with_reducible assumption) | (with_reducible refine bel_drew ?_) | (with_reducible refine bel_drewN ?_) | (with_reducible refine bel_alloc ?_) | (with_reducible refine bel_set ?_ ?_) | (with_reducible refine bel_trans ?_ (by with_reducible assumption)) | omega | (simp; done) | (simp; omega)))⟩
  case round =>
    obtain ⟨wo, rfl⟩ : ∃ wo : World, wo = wr := ⟨_, rfl⟩
    obtain ⟨i, hi', rfl, rfl, hB⟩ := hrel
    have htb := togetherN_bd (xs := xs) (i := i) (H := H) hG (by omega)
    by_cases hlt : i < n
    · obtain ⟨x, hx⟩ : ∃ x, xs[i]? = some x := get_of_lt (by rw [hS.xs_len Crew.row_len (by omega)]; exact hlt)
      obtain ⟨b, o, rfl, hb, c0, c1, c2, c3, c4⟩ := (hS.bel hB).crew hx
      have hX := hid hx
      have hgx := hid (hG i x hx)
      have hxb := goodC_bd (hG i x hx)
      have hB2 := bel_refl (wo.alloc (.cells #[.int .i64 x.id, .int .i64 x.rate, .int .i64 x.tires, .int .i64 x.shift, .int .i64 x.start] 25))
      clear hx
      go_wp2_with (go_at_call 39; refine (shiftI _ _ hgx.out).mono ?_; rintro _ w1 ⟨A1, n1, d1, rfl, hO, hb1⟩; replace hB2 := bel_trans hB2 hb1; replace hb1 := hb1)
      clear c0 c1 c2 c3 c4
      go_loopw [5, 19] (fun q v wr => ∃ h : Nat, h ≤ H ∧ v = .int .i64 h ∧ q = .int .i64 (togetherN (xs.take i) H + builtN x h) ∧ Below w1.heap.size w1 wr) (fun _ v _ => H - (intOf v).toNat)
      case atStart => exact ⟨0, by omega, rfl, by simp [builtN], by (repeat' (first | (with_reducible exact bel_refl _) | (with_reducible assumption) | (with_reducible refine bel_drew ?_) | (with_reducible refine bel_drewN ?_) | (with_reducible refine bel_alloc ?_) | (with_reducible refine bel_set ?_ ?_) | (with_reducible refine bel_trans ?_ (by with_reducible assumption)) | omega | (simp; done) | (simp; omega)))⟩
      case round =>
        obtain ⟨h, hh, rfl, rfl, hb2⟩ := hrel
        replace hB2 := bel_trans hB2 hb2
        obtain ⟨hC1, hF1⟩ := bcell hB2
        replace hb2 := hb2
        have hbn := builtN_bd hgx.out h
        by_cases hlt : h < H
        · rcases hw : worksB x h with _ | _
          · go_wp2_with (go_at_call 47; refine (worksI _ _ _ hgx.out (by omega)).mono ?_; rintro _ w2 ⟨rfl, hb3⟩; replace hB2 := bel_trans hB2 hb3; obtain ⟨hC2, hF2⟩ := bcell hB2; replace hb3 := hb3)
            go_roundw
            case rel => exact ⟨h + 1, by omega, by go_num, by rw [builtN_no hw], by (repeat' (first | (with_reducible exact bel_refl _) | (with_reducible assumption) | (with_reducible refine bel_drew ?_) | (with_reducible refine bel_drewN ?_) | (with_reducible refine bel_alloc ?_) | (with_reducible refine bel_set ?_ ?_) | (with_reducible refine bel_trans ?_ (by with_reducible assumption)) | omega | (simp; done) | (simp; omega)))⟩
            case measure => simp [intOf]; omega
          · have hk := works_at hw
            have hwd := hid hw
            clear hw
            have hr := rateAt_bd hgx.out ((h : Int) % 24 - x.start).toNat
            obtain ⟨b, o, rfl, hbl, hc, hkn⟩ := shift_at ((hO.bel hb2).sl) hk.1 hk.2
            have hw := hwd.out
            go_wp2_with (go_at_call 47; refine (worksI _ _ _ hgx.out (by omega)).mono ?_; rintro _ w2 ⟨rfl, hb3⟩; replace hB2 := bel_trans hB2 hb3; obtain ⟨hC2, hF2⟩ := bcell hB2; obtain ⟨hC3, hF3⟩ := bcell hb3; replace hb3 := hb3)
            go_roundw
            case rel => exact ⟨h + 1, by omega, by go_num, by rw [← builtN_yes hwd.out]; congr 1; omega, by (repeat' (first | (with_reducible exact bel_refl _) | (with_reducible assumption) | (with_reducible refine bel_drew ?_) | (with_reducible refine bel_drewN ?_) | (with_reducible refine bel_alloc ?_) | (with_reducible refine bel_set ?_ ?_) | (with_reducible refine bel_trans ?_ (by with_reducible assumption)) | omega | (simp; done) | (simp; omega)))⟩
            case measure => simp [intOf]; omega
        · have e : h = H := by omega
          subst e
          go_wp2
          go_roundw
          case rel => exact ⟨i + 1, by omega, by go_num, by rw [togetherN_snoc hX.out], by (repeat' (first | (with_reducible exact bel_refl _) | (with_reducible assumption) | (with_reducible refine bel_drew ?_) | (with_reducible refine bel_drewN ?_) | (with_reducible refine bel_alloc ?_) | (with_reducible refine bel_set ?_ ?_) | (with_reducible refine bel_trans ?_ (by with_reducible assumption)) | omega | (simp; done) | (simp; omega)))⟩
          case measure => simp [intOf]; omega
    · go_wp2
      go_ret
      have e : i = n := by omega
      subst e
      exact ⟨ret_int (by rw [List.take_of_length_le (by rw [hS.xs_len Crew.row_len (by omega)]; omega)]), by (repeat' (first | (with_reducible exact bel_refl _) | (with_reducible assumption) | (with_reducible refine bel_drew ?_) | (with_reducible refine bel_drewN ?_) | (with_reducible refine bel_alloc ?_) | (with_reducible refine bel_set ?_ ?_) | (with_reducible refine bel_trans ?_ (by with_reducible assumption)) | omega | (simp; done) | (simp; omega)))⟩

theorem hoursForI (A : Option Addr) (n c : Nat) (xs : List Crew) (m : Int) (w : World) (hS : Sl w 5 A n c (xs.flatMap Crew.row)) (hn : n ≤ 6) (hG : allC xs) :
    Calls Try.prog 43 #[.int .i64 m, .slice A n c] w fun e w' => e = .returned (.tuple #[.int .i64 (hoursR xs m).1, .bool (hoursR xs m).2]) ∧ Below w.heap.size w w' := by
  go_enter Try.func43, Try.ntmps43
  go_wp2_with fail
  go_loopw [6] (fun v wr => ∃ h : Nat, h ≤ 241 ∧ v = .int .i64 h ∧ below_ xs m h ∧ Below w.heap.size w wr) (fun v _ => 241 - (intOf v).toNat)
  case atStart => exact ⟨0, by omega, rfl, fun j hj => absurd hj (by omega), by (repeat' (first | (with_reducible exact bel_refl _) | (with_reducible assumption) | (with_reducible refine bel_drew ?_) | (with_reducible refine bel_drewN ?_) | (with_reducible refine bel_alloc ?_) | (with_reducible refine bel_set ?_ ?_) | (with_reducible refine bel_trans ?_ (by with_reducible assumption)) | omega | (simp; done) | (simp; omega)))⟩
  case round =>
    obtain ⟨h, hh, rfl, hno, hB⟩ := hrel
    by_cases hlt : h ≤ 240
    · by_cases hc : m ≤ togetherN xs h
      · have hR := hid (hoursR_yes hlt hc hno)
        go_wp2_with (go_at_call 35; refine (builtI _ _ _ _ _ _ (hS.bel hB) hn hG (by omega)).mono ?_; rintro _ w2 ⟨rfl, hb3⟩)
        go_ret2
        refine ⟨?_, by (repeat' (first | (with_reducible exact bel_refl _) | (with_reducible assumption) | (with_reducible refine bel_drew ?_) | (with_reducible refine bel_drewN ?_) | (with_reducible refine bel_alloc ?_) | (with_reducible refine bel_set ?_ ?_) | (with_reducible refine bel_trans ?_ (by with_reducible assumption)) | omega | (simp; done) | (simp; omega)))⟩
        rw [hR.out]
        rfl
      · go_wp2_with (go_at_call 35; refine (builtI _ _ _ _ _ _ (hS.bel hB) hn hG (by omega)).mono ?_; rintro _ w2 ⟨rfl, hb3⟩)
        go_roundw
        case rel => exact ⟨h + 1, by omega, by go_num, fun j hj => Int.lt_of_le_of_lt (togetherN_mono hG (show j ≤ h by omega)) (by omega), by (repeat' (first | (with_reducible exact bel_refl _) | (with_reducible assumption) | (with_reducible refine bel_drew ?_) | (with_reducible refine bel_drewN ?_) | (with_reducible refine bel_alloc ?_) | (with_reducible refine bel_set ?_ ?_) | (with_reducible refine bel_trans ?_ (by with_reducible assumption)) | omega | (simp; done) | (simp; omega)))⟩
        case measure => simp [intOf]; omega
    · have hR := hid (hoursR_no (xs := xs) (m := m) fun j hj => hno j (by omega))
      go_wp2
      go_ret2
      refine ⟨?_, by (repeat' (first | (with_reducible exact bel_refl _) | (with_reducible assumption) | (with_reducible refine bel_drew ?_) | (with_reducible refine bel_drewN ?_) | (with_reducible refine bel_alloc ?_) | (with_reducible refine bel_set ?_ ?_) | (with_reducible refine bel_trans ?_ (by with_reducible assumption)) | omega | (simp; done) | (simp; omega)))⟩
      rw [hR.out]
      rfl

end Go.Proofs.Ythbjgccldoofgaa
