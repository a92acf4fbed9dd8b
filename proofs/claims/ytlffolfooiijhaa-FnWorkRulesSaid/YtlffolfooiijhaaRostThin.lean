/-
  Rosters: the spans of hours in which few crews work, of the program and of the reference, walked.
-/
import Derived.Test.YtlffolfooiijhaaRostStTop
namespace Go.Proofs.Ytlffolfooiijhaa
open Go.RowKit

def stepT (xs : List Duty) (l : Int) (out : List (Int × Int)) (h : Int) : List (Int × Int) :=
  if l ≤ ((atL xs h).length : Int) then out
  else match out.getLast? with
    | some p => if p.2 = h - 1 then out.dropLast ++ [(p.1, h)] else out ++ [(h, h)]
    | none => [(h, h)]
def thinU (xs : List Duty) (l f : Int) : Nat → List (Int × Int)
  | 0 => []
  | j + 1 => stepT xs l (thinU xs l f j) (f + j)
theorem stepT_len (xs : List Duty) (l : Int) (out : List (Int × Int)) (h : Int) : (stepT xs l out h).length ≤ out.length + 1 := by
  unfold stepT
  split
  · omega
  · split
    · split <;> simp
    · simp
theorem thin_len (xs : List Duty) (l f : Int) : ∀ j, (thinU xs l f j).length ≤ j
  | 0 => by simp [thinU]
  | j + 1 => by
    have ih := thin_len xs l f j
    have := stepT_len xs l (thinU xs l f j) (f + j)
    simp only [thinU]
    omega
def thinR (xs : List Duty) (f t l : Int) : List (List Int) × Bool := if rosterB xs && inB f 0 499 && inB t (f + 1) 500 && inB l 0 20 then (pairs (thinU xs l f (t - f).toNat), true) else ([], false)
theorem pairs_sum (ps : List (Int × Int)) : ((rows (pairs ps)).map List.length).sum = 2 * ps.length := by
  induction ps with
  | nil => rfl
  | cons p ps ih =>
    simp only [rows, pairs, List.map_cons, List.sum_cons, List.length_cons, ints_len] at ih ⊢
    simp only [List.length_nil]
    omega
theorem thinR_bd (xs : List Duty) (f t l : Int) : (thinR xs f t l).1.length ≤ 1048576 ∧ (∀ r ∈ (thinR xs f t l).1, r.length ≤ 1048576) ∧ ((rows (thinR xs f t l).1).map List.length).sum ≤ 1048576 := by
  unfold thinR
  split
  · rename_i hc
    simp only [Bool.and_eq_true, inB_iff] at hc
    have h2 := thin_len xs l f (t - f).toNat
    refine ⟨by rw [pairs_len]; omega, fun r hr => ?_, by rw [pairs_sum]; omega⟩
    simp only [pairs, List.mem_map] at hr
    obtain ⟨p, _, rfl⟩ := hr
    simp
  · simp [rows]

set_option maxHeartbeats 4000000 in
theorem thinS_go (A : Option Addr) (n c : Nat) (xs : List Duty) (F T : Nat) (l : Int) (w : World) (hS : Sl w 3 A n c (xs.flatMap Duty.row)) (hn : n ≤ 13) (hg : rosterB xs = true) (hFT : F + T ≤ 500) (hT : 0 < T) (hl : inB l 0 20 = true) (_hf : inB (F : Int) 0 499 = true) (ht : inB ((F : Int) + (T : Int)) ((F : Int) + 1) 500 = true) :
    Calls Try.prog 40 #[.slice A n c, .int .i64 F, .int .i64 ((F : Int) + (T : Int)), .int .i64 l] w fun e w' => ∃ A' n' c' Vs, e = .returned (.tuple #[.slice A' n' c', .bool true]) ∧ OwnSS w.heap.size w'.heap.size w' 45 3 A' n' c' (rows (pairs (thinU xs l F T))) Vs ∧ Below w.heap.size w w' := by
  have hB2 := bel_refl w
  have hG := rosterB_all hg
  have hlb := inB_iff.1 hl
  go_enter Try.func40, Try.ntmps40
  go_wp2_with (first | (go_at_call 45; refine (l11Good _ _ _ _ _ (hS.bel (by (repeat' (first | (with_reducible exact bel_refl _) | (with_reducible assumption) | (with_reducible refine bel_drew ?_) | (with_reducible refine bel_drewN ?_) | (with_reducible refine bel_alloc ?_) | (with_reducible refine bel_set ?_ ?_) | (with_reducible refine bel_trans ?_ (by with_reducible assumption)) | omega | (simp; done) | (simp; omega))))) (by omega)).mono ?_; rintro _ w1 ⟨rfl, hB1⟩; (first | (with_reducible replace hB2 := bel_trans hB2 hB1) | (with_reducible replace hB2 := bel_trans (bel_alloc hB2) hB1)); obtain ⟨hC1, hF1⟩ := bcell hB2; replace hB1 := hB1) | (go_at_call 73; refine (l1In _ _ _ _).mono ?_; rintro _ w1 ⟨rfl, rfl⟩))
  have hB0 := hB1
  clear hB1 hC1 hF1
  go_loopw [10, 11] (fun q v wr => ∃ j : Nat, j ≤ T ∧ v = .int .i64 ((F : Int) + (j : Int)) ∧ (∃ A' k c' Vs, q = .slice A' k c' ∧ OwnSS w.heap.size wr.heap.size wr 45 3 A' k c' (rows (pairs (thinU xs l F j))) Vs) ∧ Below w.heap.size w wr) (fun _ v _ => T + F - (intOf v).toNat)
  case atStart => exact ⟨0, by omega, by go_num, ⟨_, _, _, [], rfl, own_nil (((Own.mk_ (own_empty (Nat.le_refl _))).bel hB0).high (by have := hB0.size; simpa using this))⟩, by (repeat' (first | (with_reducible exact bel_refl _) | (with_reducible assumption) | (with_reducible refine bel_drew ?_) | (with_reducible refine bel_drewN ?_) | (with_reducible refine bel_alloc ?_) | (with_reducible refine bel_set ?_ ?_) | (with_reducible refine bel_trans ?_ (by with_reducible assumption)) | omega | (simp; done) | (simp; omega)))⟩
  case round =>
    clear hB2
    obtain ⟨j, hj, rfl, ⟨A', k, c', Vs, rfl, hO⟩, hB⟩ := hrel
    have hB2 := bel_refl wr
    by_cases hlt : j < T
    · have hh1 : (F : Int) + (j : Int) < (F : Int) + (T : Int) := by omega
      have hkl : k ≤ 500 := by
        have h1 := ss_nil_len hO
        have h2 := thin_len xs l F j
        omega
      obtain ⟨N, hN⟩ : ∃ N, (atL xs ((F : Int) + (j : Int))).length = N := ⟨_, rfl⟩
      have hU : thinU xs l F (j + 1) = stepT xs l (thinU xs l F j) ((F : Int) + (j : Int)) := rfl
      rw [stepT, hN] at hU
      have hNh := hid hN
      clear hN
      by_cases hc : l ≤ (N : Int)
      · rw [if_pos hc] at hU
        have hst := hid hU
        clear hU
        go_wp2_with (go_at_call 76; refine (atS _ _ _ _ _ _ (hS.bel hB) hn hG).mono ?_; rintro _ w1 ⟨A1, n1, c1, rfl, hO1, hB1⟩; obtain rfl : n1 = N := hO1.sl.int_len.symm.trans hNh.out; replace hB2 := bel_trans hB2 hB1; obtain ⟨hC1, hF1⟩ := bcell hB2; replace hB1 := hB1)
        go_roundw
        case rel => exact ⟨j + 1, by omega, congrArg (Value.int .i64) (by omega), ⟨_, _, _, _, rfl, by rw [hst.out]; exact (hO.bel (by (repeat' (first | (with_reducible exact bel_refl _) | (with_reducible assumption) | (with_reducible refine bel_drew ?_) | (with_reducible refine bel_drewN ?_) | (with_reducible refine bel_alloc ?_) | (with_reducible refine bel_set ?_ ?_) | (with_reducible refine bel_trans ?_ (by with_reducible assumption)) | omega | (simp; done) | (simp; omega))))).high (by have := hB2.size; simpa using this)⟩, by (repeat' (first | (with_reducible exact bel_refl _) | (with_reducible assumption) | (with_reducible refine bel_drew ?_) | (with_reducible refine bel_drewN ?_) | (with_reducible refine bel_alloc ?_) | (with_reducible refine bel_set ?_ ?_) | (with_reducible refine bel_trans ?_ (by with_reducible assumption)) | omega | (simp; done) | (simp; omega)))⟩
        case measure => simp [intOf]; omega
      · rw [if_neg hc] at hU
        rcases k with _ | m
        · have hps : thinU xs l F j = [] := List.eq_nil_of_length_eq_zero (ss_nil_len hO)
          have hst : Hid (thinU xs l F (j + 1) = thinU xs l F j ++ [((F : Int) + j, (F : Int) + j)]) := by show _ = _; rw [hU, hps]; rfl
          clear hU
          go_wp2_with (first | (go_at_call 76; refine (atS _ _ _ _ _ _ (hS.bel hB) hn hG).mono ?_; rintro _ w1 ⟨A1, n1, c1, rfl, hO1, hB1⟩; obtain rfl : n1 = N := hO1.sl.int_len.symm.trans hNh.out; replace hB2 := bel_trans hB2 hB1; obtain ⟨hC1, hF1⟩ := bcell hB2; replace hB1 := hB1) | (at_builtin; refine wpList_push rfl (.tmp 76) (.tmp 80) 39 rfl w.heap.size 45 (.slice none 0 0) 1 24 Try.underlying39 info_ints rfl (by omega) A' _ c' _ [.slice (some ⟨w1.heap.size, 0, none⟩) 2 2] 45 rfl (own_bel hO.out.own (bel_alloc hB2)) (by first | rfl | exact slice_at (by simp)) rfl (by intro u hu; rw [List.mem_singleton.1 hu]; rfl) (by omega) (by omega) ((bel_trans hB (bel_alloc hB2)).size) ?_; intro A'' c'' w3 hown2 hb3 hg3))
          go_roundw
          case rel => exact ⟨j + 1, by omega, congrArg (Value.int .i64) (by omega), ⟨_, _, _, _, rfl, by rw [hst.out]; exact stints_push hO (bel_alloc hB2) hB2.size (World.ownsRow_lit (base := wr.heap.size) (e := 3) (size := 1) w1 #[.int .i64 ((F : Int) + j), .int .i64 ((F : Int) + j)] 2 hB2.size (by simp [maxLen]) rfl) hown2 hg3 hB.size⟩, (bel_trans hB (bel_alloc hB2)).trans hb3⟩
          case measure => simp [intOf]; omega
        · obtain ⟨p, hp⟩ : ∃ p, (thinU xs l F j).getLast? = some p := by
            rcases hl : (thinU xs l F j).getLast? with _ | p
            · have h1 := ss_nil_len hO
              rw [List.getLast?_eq_none_iff] at hl
              rw [hl] at h1
              simp at h1
            · exact ⟨p, rfl⟩
          have hrow := last_get hp (ss_nil_len hO)
          obtain ⟨a, d, hv, hr⟩ := hO.row m _ hrow
          obtain ⟨g', rfl, hg'l, hg'h⟩ := own_form hO.out.own (by omega)
          obtain ⟨g, rfl, hgl, hgh⟩ := own_form hr.own (by simp [ints])
          have d0 : wr.cell? ⟨g', m, none⟩ = some (.slice (some ⟨g, 0, none⟩) 2 d) := by
            have := hO.out.sl.at_ (by omega)
            obtain ⟨b', o', e1, _, h2⟩ := this
            simp only [Option.some.injEq, Addr.mk.injEq, and_true] at e1
            obtain ⟨rfl, rfl⟩ := e1
            have := h2 m _ hv
            rwa [Nat.zero_add] at this
          have d1 : wr.cell? ⟨g, 1, none⟩ = some (.int .i64 p.2) := by
            have := hr.own.cellAt 1 (by simp [ints])
            simpa [ints] using this
          have d2 : wr.cell? ⟨g, 0, none⟩ = some (.int .i64 p.1) := by
            have := hr.own.cellAt 0 (by simp [ints])
            simpa [ints] using this
          have hvh := hid hv
          have hrh := hid hr
          have hrw := hid hrow
          clear hv hr hrow
          have hm0 : (0 : Int) ≤ (m : Int) := by omega
          have hm1 : (m : Int) < (m : Int) + 1 := by omega
          by_cases hpe : p.2 = (F : Int) + (j : Int) - 1
          · have hpq : (p.2 == (F : Int) + (j : Int) - 1) = true := by simpa using hpe
            have hst : Hid (thinU xs l F (j + 1) = (thinU xs l F j).dropLast ++ [(p.1, (F : Int) + (j : Int))]) := by show _ = _; rw [hU, hp]; simp [hpe]
            clear hU hpe
            go_wp2_with (go_at_call 76; refine (atS _ _ _ _ _ _ (hS.bel hB) hn hG).mono ?_; rintro _ w1 ⟨A1, n1, c1, rfl, hO1, hB1⟩; obtain rfl : n1 = N := hO1.sl.int_len.symm.trans hNh.out; replace hB2 := bel_trans hB2 hB1; obtain ⟨hC1, hF1⟩ := bcell hB2; replace hB1 := hB1; have hIn : Below wr.heap.size wr (w1.alloc (.cells #[.int .i64 p.1, .int .i64 ((F : Int) + (j : Int))] 3)) := bel_alloc hB2; have f3 := own_fz (own_bel hO.out.own hB2) m; have f5 := (hIn.cell (p := ⟨g', m, none⟩) hg'h).trans d0; have f6 := own_fz (own_bel hO.out.own hIn) m; have hb1 := hB2.size; have hg1 : g' < w1.heap.size := by omega)
            go_roundw
            case rel => exact ⟨j + 1, by omega, congrArg (Value.int .i64) (by omega), ⟨_, _, _, _, rfl, by rw [hst.out]; rw [← World.setCell_alloc_past _ _ _ _ hg1]; exact (stints_new (u := (F : Int) + (j : Int)) hO hB2 hp (ss_nil_len hO) hB.size).high (by simp [World.setCell])⟩, by (repeat' (first | (with_reducible exact bel_refl _) | (with_reducible assumption) | (with_reducible refine bel_drew ?_) | (with_reducible refine bel_drewN ?_) | (with_reducible refine bel_alloc ?_) | (with_reducible refine bel_set ?_ ?_) | (with_reducible refine bel_trans ?_ (by with_reducible assumption)) | omega | (simp; done) | (simp; omega)))⟩
            case measure => simp [intOf]; omega
          · have hpq : (p.2 == (F : Int) + (j : Int) - 1) = false := by simpa using hpe
            have hst : Hid (thinU xs l F (j + 1) = thinU xs l F j ++ [((F : Int) + j, (F : Int) + j)]) := by show _ = _; rw [hU, hp]; simp [hpe]
            clear hU hpe
            go_wp2_with (first | (go_at_call 76; refine (atS _ _ _ _ _ _ (hS.bel hB) hn hG).mono ?_; rintro _ w1 ⟨A1, n1, c1, rfl, hO1, hB1⟩; obtain rfl : n1 = N := hO1.sl.int_len.symm.trans hNh.out; replace hB2 := bel_trans hB2 hB1; obtain ⟨hC1, hF1⟩ := bcell hB2; replace hB1 := hB1) | (at_builtin; refine wpList_push rfl (.tmp 76) (.tmp 80) 39 rfl w.heap.size 45 (.slice none 0 0) 1 24 Try.underlying39 info_ints rfl (by omega) (some ⟨g', 0, none⟩) _ c' _ [.slice (some ⟨w1.heap.size, 0, none⟩) 2 2] 45 rfl (own_bel hO.out.own (bel_alloc hB2)) (by first | rfl | exact slice_at (by simp)) rfl (by intro u hu; rw [List.mem_singleton.1 hu]; rfl) (by omega) (by omega) ((bel_trans hB (bel_alloc hB2)).size) ?_; intro A'' c'' w3 hown2 hb3 hg3))
            go_roundw
            case rel => exact ⟨j + 1, by omega, congrArg (Value.int .i64) (by omega), ⟨_, _, _, _, rfl, by rw [hst.out]; exact stints_push hO (bel_alloc hB2) hB2.size (World.ownsRow_lit (base := wr.heap.size) (e := 3) (size := 1) w1 #[.int .i64 ((F : Int) + j), .int .i64 ((F : Int) + j)] 2 hB2.size (by simp [maxLen]) rfl) hown2 hg3 hB.size⟩, (bel_trans hB (bel_alloc hB2)).trans hb3⟩
            case measure => simp [intOf]; omega
    · have e : j = T := by omega
      subst e
      go_wp2
      go_ret2
      exact ⟨_, _, _, _, rfl, hO, by (repeat' (first | (with_reducible exact bel_refl _) | (with_reducible assumption) | (with_reducible refine bel_drew ?_) | (with_reducible refine bel_drewN ?_) | (with_reducible refine bel_alloc ?_) | (with_reducible refine bel_set ?_ ?_) | (with_reducible refine bel_trans ?_ (by with_reducible assumption)) | omega | (simp; done) | (simp; omega)))⟩

set_option maxHeartbeats 4000000 in
theorem thinI_go (A : Option Addr) (n c : Nat) (xs : List Duty) (F T : Nat) (l : Int) (w : World) (hS : Sl w 3 A n c (xs.flatMap Duty.row)) (hn : n ≤ 13) (hg : rosterB xs = true) (hFT : F + T ≤ 500) (hT : 0 < T) (hl : inB l 0 20 = true) (_hf : inB (F : Int) 0 499 = true) (ht : inB ((F : Int) + (T : Int)) ((F : Int) + 1) 500 = true) :
    Calls Try.prog 39 #[.slice A n c, .int .i64 F, .int .i64 ((F : Int) + (T : Int)), .int .i64 l] w fun e w' => ∃ A' n' c' Vs, e = .returned (.tuple #[.slice A' n' c', .bool true]) ∧ OwnSS w.heap.size w'.heap.size w' 45 3 A' n' c' (rows (pairs (thinU xs l F T))) Vs ∧ Below w.heap.size w w' := by
  have hB2 := bel_refl w
  have hG := rosterB_all hg
  have hlb := inB_iff.1 hl
  go_enter Try.func39, Try.ntmps39
  go_wp2_with (first | (go_at_call 26; refine (isRosterI _ _ _ _ _ (hS.bel (by (repeat' (first | (with_reducible exact bel_refl _) | (with_reducible assumption) | (with_reducible refine bel_drew ?_) | (with_reducible refine bel_drewN ?_) | (with_reducible refine bel_alloc ?_) | (with_reducible refine bel_set ?_ ?_) | (with_reducible refine bel_trans ?_ (by with_reducible assumption)) | omega | (simp; done) | (simp; omega))))) (by omega)).mono ?_; rintro _ w1 ⟨rfl, hB1⟩; (first | (with_reducible replace hB2 := bel_trans hB2 hB1) | (with_reducible replace hB2 := bel_trans (bel_alloc hB2) hB1)); obtain ⟨hC1, hF1⟩ := bcell hB2; replace hB1 := hB1) | (go_at_call 59; refine (isIn _ _ _ _).mono ?_; rintro _ w1 ⟨rfl, rfl⟩))
  have hB0 := hB1
  clear hB1 hC1 hF1
  go_loopw [10, 11] (fun q v wr => ∃ j : Nat, j ≤ T ∧ v = .int .i64 ((F : Int) + (j : Int)) ∧ (∃ A' k c' Vs, q = .slice A' k c' ∧ OwnSS w.heap.size wr.heap.size wr 45 3 A' k c' (rows (pairs (thinU xs l F j))) Vs) ∧ Below w.heap.size w wr) (fun _ v _ => T + F - (intOf v).toNat)
  case atStart => exact ⟨0, by omega, by go_num, ⟨_, _, _, [], rfl, own_nil ((Own.mk_ (own_empty (Nat.le_refl _))).low hB0.size)⟩, by (repeat' (first | (with_reducible exact bel_refl _) | (with_reducible assumption) | (with_reducible refine bel_drew ?_) | (with_reducible refine bel_drewN ?_) | (with_reducible refine bel_alloc ?_) | (with_reducible refine bel_set ?_ ?_) | (with_reducible refine bel_trans ?_ (by with_reducible assumption)) | omega | (simp; done) | (simp; omega)))⟩
  case round =>
    clear hB2
    obtain ⟨j, hj, rfl, ⟨A', k, c', Vs, rfl, hO⟩, hB⟩ := hrel
    have hB2 := bel_refl wr
    by_cases hlt : j < T
    · have hh1 : (F : Int) + (j : Int) < (F : Int) + (T : Int) := by omega
      have hkl : k ≤ 500 := by
        have h1 := ss_nil_len hO
        have h2 := thin_len xs l F j
        omega
      obtain ⟨N, hN⟩ : ∃ N, (atL xs ((F : Int) + (j : Int))).length = N := ⟨_, rfl⟩
      have hU : thinU xs l F (j + 1) = stepT xs l (thinU xs l F j) ((F : Int) + (j : Int)) := rfl
      rw [stepT, hN] at hU
      have hNh := hid hN
      clear hN
      by_cases hc : l ≤ (N : Int)
      · rw [if_pos hc] at hU
        have hst := hid hU
        clear hU
        go_wp2_with (go_at_call 75; refine (atI _ _ _ _ _ _ (hS.bel hB) hn hG).mono ?_; rintro _ w1 ⟨A1, n1, c1, rfl, hO1, hB1⟩; obtain rfl : n1 = N := hO1.sl.int_len.symm.trans hNh.out; replace hB2 := bel_trans hB2 hB1; obtain ⟨hC1, hF1⟩ := bcell hB2; replace hB1 := hB1)
        go_roundw
        case rel => exact ⟨j + 1, by omega, congrArg (Value.int .i64) (by omega), ⟨_, _, _, _, rfl, by rw [hst.out]; exact (hO.bel (by (repeat' (first | (with_reducible exact bel_refl _) | (with_reducible assumption) | (with_reducible refine bel_drew ?_) | (with_reducible refine bel_drewN ?_) | (with_reducible refine bel_alloc ?_) | (with_reducible refine bel_set ?_ ?_) | (with_reducible refine bel_trans ?_ (by with_reducible assumption)) | omega | (simp; done) | (simp; omega))))).high (by have := hB2.size; simpa using this)⟩, by (repeat' (first | (with_reducible exact bel_refl _) | (with_reducible assumption) | (with_reducible refine bel_drew ?_) | (with_reducible refine bel_drewN ?_) | (with_reducible refine bel_alloc ?_) | (with_reducible refine bel_set ?_ ?_) | (with_reducible refine bel_trans ?_ (by with_reducible assumption)) | omega | (simp; done) | (simp; omega)))⟩
        case measure => simp [intOf]; omega
      · rw [if_neg hc] at hU
        rcases k with _ | m
        · have hps : thinU xs l F j = [] := List.eq_nil_of_length_eq_zero (ss_nil_len hO)
          have hst : Hid (thinU xs l F (j + 1) = thinU xs l F j ++ [((F : Int) + j, (F : Int) + j)]) := by show _ = _; rw [hU, hps]; rfl
          clear hU
          go_wp2_with (first | (go_at_call 75; refine (atI _ _ _ _ _ _ (hS.bel hB) hn hG).mono ?_; rintro _ w1 ⟨A1, n1, c1, rfl, hO1, hB1⟩; obtain rfl : n1 = N := hO1.sl.int_len.symm.trans hNh.out; replace hB2 := bel_trans hB2 hB1; obtain ⟨hC1, hF1⟩ := bcell hB2; replace hB1 := hB1) | (at_builtin; refine wpList_push rfl (.tmp 69) (.tmp 73) 39 rfl w.heap.size 45 (.slice none 0 0) 1 24 Try.underlying39 info_ints rfl (by omega) A' _ c' _ [.slice (some ⟨w1.heap.size, 0, none⟩) 2 2] 45 rfl (own_bel hO.out.own (bel_alloc hB2)) (by first | rfl | exact slice_at (by simp)) rfl (by intro u hu; rw [List.mem_singleton.1 hu]; rfl) (by omega) (by omega) ((bel_trans hB (bel_alloc hB2)).size) ?_; intro A'' c'' w3 hown2 hb3 hg3))
          go_roundw
          case rel => exact ⟨j + 1, by omega, congrArg (Value.int .i64) (by omega), ⟨_, _, _, _, rfl, by rw [hst.out]; exact stints_push hO (bel_alloc hB2) hB2.size (World.ownsRow_lit (base := wr.heap.size) (e := 3) (size := 1) w1 #[.int .i64 ((F : Int) + j), .int .i64 ((F : Int) + j)] 2 hB2.size (by simp [maxLen]) rfl) hown2 hg3 hB.size⟩, (bel_trans hB (bel_alloc hB2)).trans hb3⟩
          case measure => simp [intOf]; omega
        · obtain ⟨p, hp⟩ : ∃ p, (thinU xs l F j).getLast? = some p := by
            rcases hl : (thinU xs l F j).getLast? with _ | p
            · have h1 := ss_nil_len hO
              rw [List.getLast?_eq_none_iff] at hl
              rw [hl] at h1
              simp at h1
            · exact ⟨p, rfl⟩
          have hrow := last_get hp (ss_nil_len hO)
          obtain ⟨a, d, hv, hr⟩ := hO.row m _ hrow
          obtain ⟨g', rfl, hg'l, hg'h⟩ := own_form hO.out.own (by omega)
          obtain ⟨g, rfl, hgl, hgh⟩ := own_form hr.own (by simp [ints])
          have d0 : wr.cell? ⟨g', m, none⟩ = some (.slice (some ⟨g, 0, none⟩) 2 d) := by
            have := hO.out.sl.at_ (by omega)
            obtain ⟨b', o', e1, _, h2⟩ := this
            simp only [Option.some.injEq, Addr.mk.injEq, and_true] at e1
            obtain ⟨rfl, rfl⟩ := e1
            have := h2 m _ hv
            rwa [Nat.zero_add] at this
          have d1 : wr.cell? ⟨g, 1, none⟩ = some (.int .i64 p.2) := by
            have := hr.own.cellAt 1 (by simp [ints])
            simpa [ints] using this
          have d2 : wr.cell? ⟨g, 0, none⟩ = some (.int .i64 p.1) := by
            have := hr.own.cellAt 0 (by simp [ints])
            simpa [ints] using this
          have hvh := hid hv
          have hrh := hid hr
          have hrw := hid hrow
          clear hv hr hrow
          have hm0 : (0 : Int) ≤ (m : Int) := by omega
          have hm1 : (m : Int) < (m : Int) + 1 := by omega
          by_cases hpe : p.2 = (F : Int) + (j : Int) - 1
          · have hpq : (p.2 == (F : Int) + (j : Int) - 1) = true := by simpa using hpe
            have hst : Hid (thinU xs l F (j + 1) = (thinU xs l F j).dropLast ++ [(p.1, (F : Int) + (j : Int))]) := by show _ = _; rw [hU, hp]; simp [hpe]
            clear hU hpe
            go_wp2_with (go_at_call 75; refine (atI _ _ _ _ _ _ (hS.bel hB) hn hG).mono ?_; rintro _ w1 ⟨A1, n1, c1, rfl, hO1, hB1⟩; obtain rfl : n1 = N := hO1.sl.int_len.symm.trans hNh.out; replace hB2 := bel_trans hB2 hB1; obtain ⟨hC1, hF1⟩ := bcell hB2; replace hB1 := hB1; have f3 := own_fz (own_bel hrh.out.own hB2) 1; have f4 := own_fz hrh.out.own 1)
            go_roundw
            case rel => exact ⟨j + 1, by omega, congrArg (Value.int .i64) (by omega), ⟨_, _, _, _, rfl, by rw [hst.out]; exact (stints_set (hO.bel hB2) hp (ss_nil_len hO) hvh.out (hrh.out.bel hB2)).high (by have := hB2.size; simp [World.setCell]; omega)⟩, by (repeat' (first | (with_reducible exact bel_refl _) | (with_reducible assumption) | (with_reducible refine bel_drew ?_) | (with_reducible refine bel_drewN ?_) | (with_reducible refine bel_alloc ?_) | (with_reducible refine bel_set ?_ ?_) | (with_reducible refine bel_trans ?_ (by with_reducible assumption)) | omega | (simp; done) | (simp; omega)))⟩
            case measure => simp [intOf]; omega
          · have hpq : (p.2 == (F : Int) + (j : Int) - 1) = false := by simpa using hpe
            have hst : Hid (thinU xs l F (j + 1) = thinU xs l F j ++ [((F : Int) + j, (F : Int) + j)]) := by show _ = _; rw [hU, hp]; simp [hpe]
            clear hU hpe
            go_wp2_with (first | (go_at_call 75; refine (atI _ _ _ _ _ _ (hS.bel hB) hn hG).mono ?_; rintro _ w1 ⟨A1, n1, c1, rfl, hO1, hB1⟩; obtain rfl : n1 = N := hO1.sl.int_len.symm.trans hNh.out; replace hB2 := bel_trans hB2 hB1; obtain ⟨hC1, hF1⟩ := bcell hB2; replace hB1 := hB1) | (at_builtin; refine wpList_push rfl (.tmp 69) (.tmp 73) 39 rfl w.heap.size 45 (.slice none 0 0) 1 24 Try.underlying39 info_ints rfl (by omega) (some ⟨g', 0, none⟩) _ c' _ [.slice (some ⟨w1.heap.size, 0, none⟩) 2 2] 45 rfl (own_bel hO.out.own (bel_alloc hB2)) (by first | rfl | exact slice_at (by simp)) rfl (by intro u hu; rw [List.mem_singleton.1 hu]; rfl) (by omega) (by omega) ((bel_trans hB (bel_alloc hB2)).size) ?_; intro A'' c'' w3 hown2 hb3 hg3))
            go_roundw
            case rel => exact ⟨j + 1, by omega, congrArg (Value.int .i64) (by omega), ⟨_, _, _, _, rfl, by rw [hst.out]; exact stints_push hO (bel_alloc hB2) hB2.size (World.ownsRow_lit (base := wr.heap.size) (e := 3) (size := 1) w1 #[.int .i64 ((F : Int) + j), .int .i64 ((F : Int) + j)] 2 hB2.size (by simp [maxLen]) rfl) hown2 hg3 hB.size⟩, (bel_trans hB (bel_alloc hB2)).trans hb3⟩
            case measure => simp [intOf]; omega
    · have e : j = T := by omega
      subst e
      go_wp2
      go_ret2
      exact ⟨_, _, _, _, rfl, hO, by (repeat' (first | (with_reducible exact bel_refl _) | (with_reducible assumption) | (with_reducible refine bel_drew ?_) | (with_reducible refine bel_drewN ?_) | (with_reducible refine bel_alloc ?_) | (with_reducible refine bel_set ?_ ?_) | (with_reducible refine bel_trans ?_ (by with_reducible assumption)) | omega | (simp; done) | (simp; omega)))⟩

theorem thinR_yes {xs : List Duty} {F T : Nat} {l : Int} (h : (rosterB xs && inB (F : Int) 0 499 && inB ((F : Int) + (T : Int)) ((F : Int) + 1) 500 && inB l 0 20) = true) : thinR xs F ((F : Int) + (T : Int)) l = (pairs (thinU xs l F T), true) := by
  rw [thinR, if_pos h, show ((F : Int) + (T : Int) - (F : Int)).toNat = T by omega]
set_option maxHeartbeats 1000000 in
theorem thinS (A : Option Addr) (n c : Nat) (xs : List Duty) (f t l : Int) (w : World) (hS : Sl w 3 A n c (xs.flatMap Duty.row)) (hn : n ≤ 1048576) :
    Calls Try.prog 40 #[.slice A n c, .int .i64 f, .int .i64 t, .int .i64 l] w fun e w' => ∃ A' n' c' Vs, e = .returned (.tuple #[.slice A' n' c', .bool (thinR xs f t l).2]) ∧ OwnSS w.heap.size w'.heap.size w' 45 3 A' n' c' (rows (thinR xs f t l).1) Vs ∧ Below w.heap.size w w' := by
  rcases hall : (rosterB xs && inB f 0 499 && inB t (f + 1) 500 && inB l 0 20) with _ | _
  rotate_left
  · have hall2 := hall
    simp only [Bool.and_eq_true, inB_iff] at hall2
    obtain ⟨F, rfl⟩ : ∃ F : Nat, f = F := ⟨f.toNat, by omega⟩
    obtain ⟨T, rfl⟩ : ∃ T : Nat, t = (F : Int) + (T : Int) := ⟨(t - F).toNat, by omega⟩
    have hlen : n ≤ 13 := by have := rosterB_len hall2.1.1.1; rw [hS.xs_len Duty.row_len (by omega)] at this; omega
    rw [thinR_yes hall]
    exact thinS_go A n c xs F T l w hS hlen hall2.1.1.1 (by omega) (by omega) (by rw [inB_iff]; omega) (by rw [inB_iff]; omega) (by rw [inB_iff]; omega)
  have hR : Hid (thinR xs f t l = ([], false)) := by show _ = _; simp [thinR, hall]
  have hB2 := bel_refl w
  rcases h1 : rosterB xs with _ | _
  · go_enter Try.func40, Try.ntmps40
    go_wp2_with (first | (go_at_call 45; refine (l11Good _ _ _ _ _ (hS.bel (by (repeat' (first | (with_reducible exact bel_refl _) | (with_reducible assumption) | (with_reducible refine bel_drew ?_) | (with_reducible refine bel_drewN ?_) | (with_reducible refine bel_alloc ?_) | (with_reducible refine bel_set ?_ ?_) | (with_reducible refine bel_trans ?_ (by with_reducible assumption)) | omega | (simp; done) | (simp; omega))))) (by omega)).mono ?_; rintro _ w1 ⟨rfl, hB1⟩; (first | (with_reducible replace hB2 := bel_trans hB2 hB1) | (with_reducible replace hB2 := bel_trans (bel_alloc hB2) hB1)); obtain ⟨hC1, hF1⟩ := bcell hB2; replace hB1 := hB1) | (go_at_call 73; refine (l1In _ _ _ _).mono ?_; rintro _ w1 ⟨rfl, rfl⟩))
    go_ret2; exact ⟨_, _, _, [], by rw [hR.out]; rfl, by rw [hR.out]; exact own_nil (((Own.mk_ (own_empty (Nat.le_refl _))).bel hB1).high (by have := hB1.size; simpa using this)), by (repeat' (first | (with_reducible exact bel_refl _) | (with_reducible assumption) | (with_reducible refine bel_drew ?_) | (with_reducible refine bel_drewN ?_) | (with_reducible refine bel_alloc ?_) | (with_reducible refine bel_set ?_ ?_) | (with_reducible refine bel_trans ?_ (by with_reducible assumption)) | omega | (simp; done) | (simp; omega)))⟩
  · rcases h2 : inB f 0 499 with _ | _
    · go_enter Try.func40, Try.ntmps40
      go_wp2_with (first | (go_at_call 45; refine (l11Good _ _ _ _ _ (hS.bel (by (repeat' (first | (with_reducible exact bel_refl _) | (with_reducible assumption) | (with_reducible refine bel_drew ?_) | (with_reducible refine bel_drewN ?_) | (with_reducible refine bel_alloc ?_) | (with_reducible refine bel_set ?_ ?_) | (with_reducible refine bel_trans ?_ (by with_reducible assumption)) | omega | (simp; done) | (simp; omega))))) (by omega)).mono ?_; rintro _ w1 ⟨rfl, hB1⟩; (first | (with_reducible replace hB2 := bel_trans hB2 hB1) | (with_reducible replace hB2 := bel_trans (bel_alloc hB2) hB1)); obtain ⟨hC1, hF1⟩ := bcell hB2; replace hB1 := hB1) | (go_at_call 73; refine (l1In _ _ _ _).mono ?_; rintro _ w1 ⟨rfl, rfl⟩))
      go_ret2; exact ⟨_, _, _, [], by rw [hR.out]; rfl, by rw [hR.out]; exact own_nil (((Own.mk_ (own_empty (Nat.le_refl _))).bel hB1).high (by have := hB1.size; simpa using this)), by (repeat' (first | (with_reducible exact bel_refl _) | (with_reducible assumption) | (with_reducible refine bel_drew ?_) | (with_reducible refine bel_drewN ?_) | (with_reducible refine bel_alloc ?_) | (with_reducible refine bel_set ?_ ?_) | (with_reducible refine bel_trans ?_ (by with_reducible assumption)) | omega | (simp; done) | (simp; omega)))⟩
    · rcases h3 : inB t (f + 1) 500 with _ | _
      · go_enter Try.func40, Try.ntmps40
        have h2b := inB_iff.1 h2
        go_wp2_with (first | (go_at_call 45; refine (l11Good _ _ _ _ _ (hS.bel (by (repeat' (first | (with_reducible exact bel_refl _) | (with_reducible assumption) | (with_reducible refine bel_drew ?_) | (with_reducible refine bel_drewN ?_) | (with_reducible refine bel_alloc ?_) | (with_reducible refine bel_set ?_ ?_) | (with_reducible refine bel_trans ?_ (by with_reducible assumption)) | omega | (simp; done) | (simp; omega))))) (by omega)).mono ?_; rintro _ w1 ⟨rfl, hB1⟩; (first | (with_reducible replace hB2 := bel_trans hB2 hB1) | (with_reducible replace hB2 := bel_trans (bel_alloc hB2) hB1)); obtain ⟨hC1, hF1⟩ := bcell hB2; replace hB1 := hB1) | (go_at_call 73; refine (l1In _ _ _ _).mono ?_; rintro _ w1 ⟨rfl, rfl⟩))
        go_ret2; exact ⟨_, _, _, [], by rw [hR.out]; rfl, by rw [hR.out]; exact own_nil (((Own.mk_ (own_empty (Nat.le_refl _))).bel hB1).high (by have := hB1.size; simpa using this)), by (repeat' (first | (with_reducible exact bel_refl _) | (with_reducible assumption) | (with_reducible refine bel_drew ?_) | (with_reducible refine bel_drewN ?_) | (with_reducible refine bel_alloc ?_) | (with_reducible refine bel_set ?_ ?_) | (with_reducible refine bel_trans ?_ (by with_reducible assumption)) | omega | (simp; done) | (simp; omega)))⟩
      · rcases h4 : inB l 0 20 with _ | _
        · go_enter Try.func40, Try.ntmps40
          have h2b := inB_iff.1 h2
          go_wp2_with (first | (go_at_call 45; refine (l11Good _ _ _ _ _ (hS.bel (by (repeat' (first | (with_reducible exact bel_refl _) | (with_reducible assumption) | (with_reducible refine bel_drew ?_) | (with_reducible refine bel_drewN ?_) | (with_reducible refine bel_alloc ?_) | (with_reducible refine bel_set ?_ ?_) | (with_reducible refine bel_trans ?_ (by with_reducible assumption)) | omega | (simp; done) | (simp; omega))))) (by omega)).mono ?_; rintro _ w1 ⟨rfl, hB1⟩; (first | (with_reducible replace hB2 := bel_trans hB2 hB1) | (with_reducible replace hB2 := bel_trans (bel_alloc hB2) hB1)); obtain ⟨hC1, hF1⟩ := bcell hB2; replace hB1 := hB1) | (go_at_call 73; refine (l1In _ _ _ _).mono ?_; rintro _ w1 ⟨rfl, rfl⟩))
          go_ret2; exact ⟨_, _, _, [], by rw [hR.out]; rfl, by rw [hR.out]; exact own_nil (((Own.mk_ (own_empty (Nat.le_refl _))).bel hB1).high (by have := hB1.size; simpa using this)), by (repeat' (first | (with_reducible exact bel_refl _) | (with_reducible assumption) | (with_reducible refine bel_drew ?_) | (with_reducible refine bel_drewN ?_) | (with_reducible refine bel_alloc ?_) | (with_reducible refine bel_set ?_ ?_) | (with_reducible refine bel_trans ?_ (by with_reducible assumption)) | omega | (simp; done) | (simp; omega)))⟩
        · simp [h1, h2, h3, h4] at hall
set_option maxHeartbeats 1000000 in
theorem thinI (A : Option Addr) (n c : Nat) (xs : List Duty) (f t l : Int) (w : World) (hS : Sl w 3 A n c (xs.flatMap Duty.row)) (hn : n ≤ 1048576) :
    Calls Try.prog 39 #[.slice A n c, .int .i64 f, .int .i64 t, .int .i64 l] w fun e w' => ∃ A' n' c' Vs, e = .returned (.tuple #[.slice A' n' c', .bool (thinR xs f t l).2]) ∧ OwnSS w.heap.size w'.heap.size w' 45 3 A' n' c' (rows (thinR xs f t l).1) Vs ∧ Below w.heap.size w w' := by
  rcases hall : (rosterB xs && inB f 0 499 && inB t (f + 1) 500 && inB l 0 20) with _ | _
  rotate_left
  · have hall2 := hall
    simp only [Bool.and_eq_true, inB_iff] at hall2
    obtain ⟨F, rfl⟩ : ∃ F : Nat, f = F := ⟨f.toNat, by omega⟩
    obtain ⟨T, rfl⟩ : ∃ T : Nat, t = (F : Int) + (T : Int) := ⟨(t - F).toNat, by omega⟩
    have hlen : n ≤ 13 := by have := rosterB_len hall2.1.1.1; rw [hS.xs_len Duty.row_len (by omega)] at this; omega
    rw [thinR_yes hall]
    exact thinI_go A n c xs F T l w hS hlen hall2.1.1.1 (by omega) (by omega) (by rw [inB_iff]; omega) (by rw [inB_iff]; omega) (by rw [inB_iff]; omega)
  have hR : Hid (thinR xs f t l = ([], false)) := by show _ = _; simp [thinR, hall]
  have hB2 := bel_refl w
  rcases h1 : rosterB xs with _ | _
  · go_enter Try.func39, Try.ntmps39
    go_wp2_with (first | (go_at_call 26; refine (isRosterI _ _ _ _ _ (hS.bel (by (repeat' (first | (with_reducible exact bel_refl _) | (with_reducible assumption) | (with_reducible refine bel_drew ?_) | (with_reducible refine bel_drewN ?_) | (with_reducible refine bel_alloc ?_) | (with_reducible refine bel_set ?_ ?_) | (with_reducible refine bel_trans ?_ (by with_reducible assumption)) | omega | (simp; done) | (simp; omega))))) (by omega)).mono ?_; rintro _ w1 ⟨rfl, hB1⟩; (first | (with_reducible replace hB2 := bel_trans hB2 hB1) | (with_reducible replace hB2 := bel_trans (bel_alloc hB2) hB1)); obtain ⟨hC1, hF1⟩ := bcell hB2; replace hB1 := hB1) | (go_at_call 59; refine (isIn _ _ _ _).mono ?_; rintro _ w1 ⟨rfl, rfl⟩))
    go_ret2; exact ⟨_, _, _, [], by rw [hR.out]; rfl, by rw [hR.out]; exact own_nil (Own.mk_ (World.ownsRow_nil _ _ _ _)), by (repeat' (first | (with_reducible exact bel_refl _) | (with_reducible assumption) | (with_reducible refine bel_drew ?_) | (with_reducible refine bel_drewN ?_) | (with_reducible refine bel_alloc ?_) | (with_reducible refine bel_set ?_ ?_) | (with_reducible refine bel_trans ?_ (by with_reducible assumption)) | omega | (simp; done) | (simp; omega)))⟩
  · by_cases h2 : f < 0
    · clear hall
      go_enter Try.func39, Try.ntmps39
      go_wp2_with (first | (go_at_call 26; refine (isRosterI _ _ _ _ _ (hS.bel (by (repeat' (first | (with_reducible exact bel_refl _) | (with_reducible assumption) | (with_reducible refine bel_drew ?_) | (with_reducible refine bel_drewN ?_) | (with_reducible refine bel_alloc ?_) | (with_reducible refine bel_set ?_ ?_) | (with_reducible refine bel_trans ?_ (by with_reducible assumption)) | omega | (simp; done) | (simp; omega))))) (by omega)).mono ?_; rintro _ w1 ⟨rfl, hB1⟩; (first | (with_reducible replace hB2 := bel_trans hB2 hB1) | (with_reducible replace hB2 := bel_trans (bel_alloc hB2) hB1)); obtain ⟨hC1, hF1⟩ := bcell hB2; replace hB1 := hB1) | (go_at_call 59; refine (isIn _ _ _ _).mono ?_; rintro _ w1 ⟨rfl, rfl⟩))
      go_ret2; exact ⟨_, _, _, [], by rw [hR.out]; rfl, by rw [hR.out]; exact own_nil (Own.mk_ (World.ownsRow_nil _ _ _ _)), by (repeat' (first | (with_reducible exact bel_refl _) | (with_reducible assumption) | (with_reducible refine bel_drew ?_) | (with_reducible refine bel_drewN ?_) | (with_reducible refine bel_alloc ?_) | (with_reducible refine bel_set ?_ ?_) | (with_reducible refine bel_trans ?_ (by with_reducible assumption)) | omega | (simp; done) | (simp; omega)))⟩
    · by_cases h3 : t ≤ f
      · clear hall
        go_enter Try.func39, Try.ntmps39
        go_wp2_with (first | (go_at_call 26; refine (isRosterI _ _ _ _ _ (hS.bel (by (repeat' (first | (with_reducible exact bel_refl _) | (with_reducible assumption) | (with_reducible refine bel_drew ?_) | (with_reducible refine bel_drewN ?_) | (with_reducible refine bel_alloc ?_) | (with_reducible refine bel_set ?_ ?_) | (with_reducible refine bel_trans ?_ (by with_reducible assumption)) | omega | (simp; done) | (simp; omega))))) (by omega)).mono ?_; rintro _ w1 ⟨rfl, hB1⟩; (first | (with_reducible replace hB2 := bel_trans hB2 hB1) | (with_reducible replace hB2 := bel_trans (bel_alloc hB2) hB1)); obtain ⟨hC1, hF1⟩ := bcell hB2; replace hB1 := hB1) | (go_at_call 59; refine (isIn _ _ _ _).mono ?_; rintro _ w1 ⟨rfl, rfl⟩))
        go_ret2; exact ⟨_, _, _, [], by rw [hR.out]; rfl, by rw [hR.out]; exact own_nil (Own.mk_ (World.ownsRow_nil _ _ _ _)), by (repeat' (first | (with_reducible exact bel_refl _) | (with_reducible assumption) | (with_reducible refine bel_drew ?_) | (with_reducible refine bel_drewN ?_) | (with_reducible refine bel_alloc ?_) | (with_reducible refine bel_set ?_ ?_) | (with_reducible refine bel_trans ?_ (by with_reducible assumption)) | omega | (simp; done) | (simp; omega)))⟩
      · by_cases h5 : 500 < t
        · clear hall
          go_enter Try.func39, Try.ntmps39
          go_wp2_with (first | (go_at_call 26; refine (isRosterI _ _ _ _ _ (hS.bel (by (repeat' (first | (with_reducible exact bel_refl _) | (with_reducible assumption) | (with_reducible refine bel_drew ?_) | (with_reducible refine bel_drewN ?_) | (with_reducible refine bel_alloc ?_) | (with_reducible refine bel_set ?_ ?_) | (with_reducible refine bel_trans ?_ (by with_reducible assumption)) | omega | (simp; done) | (simp; omega))))) (by omega)).mono ?_; rintro _ w1 ⟨rfl, hB1⟩; (first | (with_reducible replace hB2 := bel_trans hB2 hB1) | (with_reducible replace hB2 := bel_trans (bel_alloc hB2) hB1)); obtain ⟨hC1, hF1⟩ := bcell hB2; replace hB1 := hB1) | (go_at_call 59; refine (isIn _ _ _ _).mono ?_; rintro _ w1 ⟨rfl, rfl⟩))
          go_ret2; exact ⟨_, _, _, [], by rw [hR.out]; rfl, by rw [hR.out]; exact own_nil (Own.mk_ (World.ownsRow_nil _ _ _ _)), by (repeat' (first | (with_reducible exact bel_refl _) | (with_reducible assumption) | (with_reducible refine bel_drew ?_) | (with_reducible refine bel_drewN ?_) | (with_reducible refine bel_alloc ?_) | (with_reducible refine bel_set ?_ ?_) | (with_reducible refine bel_trans ?_ (by with_reducible assumption)) | omega | (simp; done) | (simp; omega)))⟩
        · rcases h4 : inB l 0 20 with _ | _
          · clear hall
            go_enter Try.func39, Try.ntmps39
            go_wp2_with (first | (go_at_call 26; refine (isRosterI _ _ _ _ _ (hS.bel (by (repeat' (first | (with_reducible exact bel_refl _) | (with_reducible assumption) | (with_reducible refine bel_drew ?_) | (with_reducible refine bel_drewN ?_) | (with_reducible refine bel_alloc ?_) | (with_reducible refine bel_set ?_ ?_) | (with_reducible refine bel_trans ?_ (by with_reducible assumption)) | omega | (simp; done) | (simp; omega))))) (by omega)).mono ?_; rintro _ w1 ⟨rfl, hB1⟩; (first | (with_reducible replace hB2 := bel_trans hB2 hB1) | (with_reducible replace hB2 := bel_trans (bel_alloc hB2) hB1)); obtain ⟨hC1, hF1⟩ := bcell hB2; replace hB1 := hB1) | (go_at_call 59; refine (isIn _ _ _ _).mono ?_; rintro _ w1 ⟨rfl, rfl⟩))
            go_ret2; exact ⟨_, _, _, [], by rw [hR.out]; rfl, by rw [hR.out]; exact own_nil (Own.mk_ (World.ownsRow_nil _ _ _ _)), by (repeat' (first | (with_reducible exact bel_refl _) | (with_reducible assumption) | (with_reducible refine bel_drew ?_) | (with_reducible refine bel_drewN ?_) | (with_reducible refine bel_alloc ?_) | (with_reducible refine bel_set ?_ ?_) | (with_reducible refine bel_trans ?_ (by with_reducible assumption)) | omega | (simp; done) | (simp; omega)))⟩
          · have h6 : inB f 0 499 = true := by rw [inB_iff]; omega
            have h7 : inB t (f + 1) 500 = true := by rw [inB_iff]; omega
            simp [h1, h6, h7, h4] at hall
end Go.Proofs.Ytlffolfooiijhaa
