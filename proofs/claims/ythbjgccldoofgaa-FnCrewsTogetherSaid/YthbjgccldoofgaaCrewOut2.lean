/-
  The crew without which some metres take longest: the exported function, of the program and of the reference, walked.
-/
import Derived.Test.YthbjgccldoofgaaCrewOut
namespace Go.Proofs.Ythbjgccldoofgaa
open Go.RowKit


def outS (xs : List Crew) (m : Int) : Nat → Int × Int
  | 0 => (0, -1)
  | i + 1 => if (outS xs m i).2 < leastI (outL xs i) m then ((xs[i]?.map Crew.id).getD 0, leastI (outL xs i) m) else outS xs m i
def outBad (xs : List Crew) (m : Int) (i : Nat) : Bool := decide (leastI (outL xs i) m < 0)
def outR (xs : List Crew) (m : Int) : Int × Int × Bool := if listC xs && inB m 0 20000 && decide (0 < xs.length) && noneBad (outBad xs m) xs.length then ((outS xs m xs.length).1, (outS xs m xs.length).2, true) else (0, 0, false)
theorem outS_yes {xs : List Crew} {m : Int} {i : Nat} {x : Crew} {L : Int} (hx : xs[i]? = some x) (hL : leastI (outL xs i) m = L) (h : (outS xs m i).2 < L) : outS xs m (i + 1) = (x.id, L) := by
  show (if _ then _ else _) = _
  rw [hL, if_pos h, hx]
  rfl
theorem outS_no {xs : List Crew} {m : Int} {i : Nat} {L : Int} (hL : leastI (outL xs i) m = L) (h : ¬ (outS xs m i).2 < L) : outS xs m (i + 1) = outS xs m i := by
  show (if _ then _ else _) = _
  rw [hL, if_neg h]
theorem ret3a {a b c d e f : Value} (h : a = d) (h' : b = e) (h'' : c = f) : Ending.returned (.tuple #[a, b, c]) = .returned (.tuple #[d, e, f]) := by rw [h, h', h'']
set_option maxRecDepth 100000 in
set_option maxHeartbeats 4000000 in
theorem withoutI (A : Option Addr) (n c : Nat) (xs : List Crew) (m : Int) (w : World) (hS : Sl w 5 A n c (xs.flatMap Crew.row)) (hn : n ≤ 1048576) :
    Calls Try.prog 30 #[.slice A n c, .int .i64 m] w fun e w' => e = .returned (.tuple #[.int .i64 (outR xs m).1, .int .i64 (outR xs m).2.1, .bool (outR xs m).2.2]) ∧ Below w.heap.size w w' := by
  have hB2 := bel_refl w
  have hlh := hid (hS.xs_len Crew.row_len (by omega))
  rcases hg : listC xs with _ | _
  · have hR : Hid (outR xs m = (0, 0, false)) := by show _ = _; simp [outR, hg]
    go_enter Try.func30, Try.ntmps30
    go_wp2_with (first | (go_at_call 46; refine (areCrewsI _ _ _ _ _ hS hn).mono ?_; rintro _ w1 ⟨rfl, hB1⟩; (first | (with_reducible replace hB2 := bel_trans hB2 hB1) | (with_reducible replace hB2 := bel_trans (bel_alloc hB2) hB1)); obtain ⟨hC1, hF1⟩ := bcell hB2; replace hB1 := hB1) | (go_at_call 42; refine (isMetres _ _).mono ?_; rintro _ w1 ⟨rfl, rfl⟩))
    go_ret3; exact ⟨by rw [hR.out]; rfl, by (repeat' (first | (with_reducible exact bel_refl _) | (with_reducible assumption) | (with_reducible refine bel_drew ?_) | (with_reducible refine bel_drewN ?_) | (with_reducible refine bel_alloc ?_) | (with_reducible refine bel_set ?_ ?_) | (with_reducible refine bel_trans ?_ (by with_reducible assumption)) | omega | (simp; done) | (simp; omega)))⟩
  · have hG := hid (listC_all hg)
    have hn6 : n ≤ 6 := by rw [← hlh.out]; exact listC_len hg
    have hgn : Hid (noneBad (badAt goodC Crew.id xs) xs.length = true) := by
      have h1 := hg
      rw [listC, Bool.and_eq_true] at h1
      exact h1.1
    rcases hm : inB m 0 20000 with _ | _
    · have hR : Hid (outR xs m = (0, 0, false)) := by show _ = _; simp [outR, hm]
      go_enter Try.func30, Try.ntmps30
      go_wp2_with (first | (go_at_call 46; refine (areCrewsI _ _ _ _ _ hS hn).mono ?_; rintro _ w1 ⟨rfl, hB1⟩; (first | (with_reducible replace hB2 := bel_trans hB2 hB1) | (with_reducible replace hB2 := bel_trans (bel_alloc hB2) hB1)); obtain ⟨hC1, hF1⟩ := bcell hB2; replace hB1 := hB1) | (go_at_call 42; refine (isMetres _ _).mono ?_; rintro _ w1 ⟨rfl, rfl⟩))
      go_ret3; exact ⟨by rw [hR.out]; rfl, by (repeat' (first | (with_reducible exact bel_refl _) | (with_reducible assumption) | (with_reducible refine bel_drew ?_) | (with_reducible refine bel_drewN ?_) | (with_reducible refine bel_alloc ?_) | (with_reducible refine bel_set ?_ ?_) | (with_reducible refine bel_trans ?_ (by with_reducible assumption)) | omega | (simp; done) | (simp; omega)))⟩
    · by_cases hz : n = 0
      · have hR : Hid (outR xs m = (0, 0, false)) := by show _ = _; simp [outR, hlh.out, hz]
        subst hz
        go_enter Try.func30, Try.ntmps30
        go_wp2_with (first | (go_at_call 46; refine (areCrewsI _ _ _ _ _ hS hn).mono ?_; rintro _ w1 ⟨rfl, hB1⟩; (first | (with_reducible replace hB2 := bel_trans hB2 hB1) | (with_reducible replace hB2 := bel_trans (bel_alloc hB2) hB1)); obtain ⟨hC1, hF1⟩ := bcell hB2; replace hB1 := hB1) | (go_at_call 42; refine (isMetres _ _).mono ?_; rintro _ w1 ⟨rfl, rfl⟩))
        go_ret3; exact ⟨by rw [hR.out]; rfl, by (repeat' (first | (with_reducible exact bel_refl _) | (with_reducible assumption) | (with_reducible refine bel_drew ?_) | (with_reducible refine bel_drewN ?_) | (with_reducible refine bel_alloc ?_) | (with_reducible refine bel_set ?_ ?_) | (with_reducible refine bel_trans ?_ (by with_reducible assumption)) | omega | (simp; done) | (simp; omega)))⟩
      · have hR1 : Hid (noneBad (outBad xs m) xs.length = true → outR xs m = ((outS xs m xs.length).1, (outS xs m xs.length).2, true)) := fun h => by
          have hd : decide (0 < xs.length) = true := decide_eq_true (by rw [hlh.out]; omega)
          unfold outR
          rw [hg, hm, h, hd]
          rfl
        have hR0 : Hid (noneBad (outBad xs m) xs.length = false → outR xs m = (0, 0, false)) := fun h => by simp [outR, h]
        have hn0 : ¬ (n : Int) = 0 := by omega
        have hnq : ((n : Int) == 0) = false := by simpa using hz
        have hzz := hid hz
        clear hz
        go_enter Try.func30, Try.ntmps30
        go_wp2_with (first | (go_at_call 46; refine (areCrewsI _ _ _ _ _ hS hn).mono ?_; rintro _ w1 ⟨rfl, hB1⟩; (first | (with_reducible replace hB2 := bel_trans hB2 hB1) | (with_reducible replace hB2 := bel_trans (bel_alloc hB2) hB1)); obtain ⟨hC1, hF1⟩ := bcell hB2; replace hB1 := hB1) | (go_at_call 42; refine (isMetres _ _).mono ?_; rintro _ w1 ⟨rfl, rfl⟩))
        have hBk := hB2
        clear hg hm hB1 hC1 hF1 hB2
        go_loopw [7, 8, 11, 12, 28] (fun a b' _ _ v wr => ∃ i : Nat, i ≤ n ∧ v = .int .i64 i ∧ a = .int .i64 (outS xs m i).1 ∧ b' = .int .i64 (outS xs m i).2 ∧ (Hid (∀ r, r < i → outBad xs m r = false)) ∧ Below w.heap.size w wr) (fun _ _ _ _ v _ => n - (intOf v).toNat)
        case atStart => exact ⟨0, by omega, rfl, rfl, rfl, fun r hr => absurd hr (by omega), by (repeat' (first | (with_reducible exact bel_refl _) | (with_reducible assumption) | (with_reducible refine bel_drew ?_) | (with_reducible refine bel_drewN ?_) | (with_reducible refine bel_alloc ?_) | (with_reducible refine bel_set ?_ ?_) | (with_reducible refine bel_trans ?_ (by with_reducible assumption)) | omega | (simp; done) | (simp; omega)))⟩
        case round =>
          clear hBk
          obtain ⟨i, hi', rfl, rfl, rfl, hno, hB2⟩ := hrel
          by_cases hlt : i < n
          · obtain ⟨x, hx⟩ : ∃ x, xs[i]? = some x := get_of_lt (by rw [hlh.out]; exact hlt)
            obtain ⟨b, o, rfl, hb, c0, c1, c2, c3, c4⟩ := (hS.bel hB2).crew hx
            have hX := hid hx
            have hfo := hid (filter_out hgn.out hx)
            clear hx
            have hOG := hid (outL_all hG.out i)
            obtain ⟨q, hq⟩ : ∃ q, outS xs m i = q := ⟨_, rfl⟩
            have hqq := hid hq
            rw [hq]
            clear hq
            obtain ⟨L, hL⟩ : ∃ L, leastI (outL xs i) m = L := ⟨_, rfl⟩
            have hLL := hid hL
            have hout : (outL xs i).length ≤ 6 := by
              have h1 := List.length_take_le i xs
              have h2 := List.length_drop (i := i + 1) (l := xs)
              rw [hlh.out] at h2
              simp only [outL, List.length_append]
              omega
            have hcx : ((wr.alloc (.cells #[.int .i64 x.id, .int .i64 x.rate, .int .i64 x.tires, .int .i64 x.shift, .int .i64 x.start] 25))).cell? ⟨wr.heap.size, 0, none⟩ = some (.int .i64 x.id) := by rw [cell_of_row _ _ 0 _ _ (0, 0) (heap_alloc_new wr _)]; rfl
            have hmf : ∀ (fn : Fn) (first cap : Array Value) (w : World), (Instr.makeFunc fn first cap).run Try.prog w = .ok (.func fn first cap) w := fun _ _ _ _ => rfl
            have hhb := hoursR_bd (outL xs i) m
            rcases hr2 : (hoursR (outL xs i) m).2 with _ | _
            · have hLn : L < 0 := by rw [← hL, leastI_neg hr2]; omega
              have hr1 := hhb.2.2 hr2
              have HR : hoursR (outL xs i) m = (0, false) := Prod.ext hr1 hr2
              clear hhb hr1 hr2 hL
              go_wp2_with (first | (go_at_call 54; refine (filterOut _ n c xs x.id wr.heap.size _ ((hS.bel hB2).alloc _) hn6 hcx (by simp)).mono ?_; rintro _ w5 ⟨A5, n5, c5, rfl, hO5, hb5⟩; rw [hfo.out] at hO5) | (go_at_call 43; refine (hoursForI _ _ _ (outL xs i) m _ hO5.sl (by have := hO5.sl.xs_len Crew.row_len (by omega); omega) hOG.out).mono ?_; rw [HR]; rintro _ w6 ⟨rfl, hb6⟩; have e6 := ((bel_trans hb5 hb6).cell (p := ⟨wr.heap.size, 0, none⟩) (by simp)).trans hcx))
              go_ret3
              refine ⟨?_, by (repeat' (first | (with_reducible exact bel_refl _) | (with_reducible assumption) | (with_reducible refine bel_drew ?_) | (with_reducible refine bel_drewN ?_) | (with_reducible refine bel_alloc ?_) | (with_reducible refine bel_set ?_ ?_) | (with_reducible refine bel_trans ?_ (by with_reducible assumption)) | omega | (simp; done) | (simp; omega)))⟩
              rw [hR0.out (noneBad_no (by rw [hlh.out]; exact hlt) (show outBad xs m i = true by simp [outBad, hLL.out]; omega))]
              rfl
            · have hLp : (hoursR (outL xs i) m).1 = L := by rw [← hL, leastI_pos hr2]
              have HR : hoursR (outL xs i) m = (L, true) := Prod.ext hLp hr2
              have hL0 : 0 ≤ L := by rw [← hLp]; exact hhb.1
              clear hhb hLp hr2 hL
              have hnb := noBad_snoc hno (show outBad xs m i = false by simp [outBad, hLL.out]; omega)
              by_cases hgt : q.2 < L
              · have hN := hid (outS_yes hX.out hLL.out (by rw [hqq.out]; exact hgt))
                go_wp2_with (first | (go_at_call 54; refine (filterOut _ n c xs x.id wr.heap.size _ ((hS.bel hB2).alloc _) hn6 hcx (by simp)).mono ?_; rintro _ w5 ⟨A5, n5, c5, rfl, hO5, hb5⟩; rw [hfo.out] at hO5) | (go_at_call 43; refine (hoursForI _ _ _ (outL xs i) m _ hO5.sl (by have := hO5.sl.xs_len Crew.row_len (by omega); omega) hOG.out).mono ?_; rw [HR]; rintro _ w6 ⟨rfl, hb6⟩; have e6 := ((bel_trans hb5 hb6).cell (p := ⟨wr.heap.size, 0, none⟩) (by simp)).trans hcx))
                go_roundw
                case rel => exact ⟨i + 1, by omega, by go_num, by rw [hN.out], by rw [hN.out], hnb, by (repeat' (first | (with_reducible exact bel_refl _) | (with_reducible assumption) | (with_reducible refine bel_drew ?_) | (with_reducible refine bel_drewN ?_) | (with_reducible refine bel_alloc ?_) | (with_reducible refine bel_set ?_ ?_) | (with_reducible refine bel_trans ?_ (by with_reducible assumption)) | omega | (simp; done) | (simp; omega)))⟩
                case measure => simp [intOf]; omega
              · have hN := hid (outS_no hLL.out (by rw [hqq.out]; exact hgt))
                go_wp2_with (first | (go_at_call 54; refine (filterOut _ n c xs x.id wr.heap.size _ ((hS.bel hB2).alloc _) hn6 hcx (by simp)).mono ?_; rintro _ w5 ⟨A5, n5, c5, rfl, hO5, hb5⟩; rw [hfo.out] at hO5) | (go_at_call 43; refine (hoursForI _ _ _ (outL xs i) m _ hO5.sl (by have := hO5.sl.xs_len Crew.row_len (by omega); omega) hOG.out).mono ?_; rw [HR]; rintro _ w6 ⟨rfl, hb6⟩; have e6 := ((bel_trans hb5 hb6).cell (p := ⟨wr.heap.size, 0, none⟩) (by simp)).trans hcx))
                go_roundw
                case rel => exact ⟨i + 1, by omega, by go_num, by rw [hN.out, hqq.out], by rw [hN.out, hqq.out], hnb, by (repeat' (first | (with_reducible exact bel_refl _) | (with_reducible assumption) | (with_reducible refine bel_drew ?_) | (with_reducible refine bel_drewN ?_) | (with_reducible refine bel_alloc ?_) | (with_reducible refine bel_set ?_ ?_) | (with_reducible refine bel_trans ?_ (by with_reducible assumption)) | omega | (simp; done) | (simp; omega)))⟩
                case measure => simp [intOf]; omega
          · go_wp2
            go_ret3
            have e : i = n := by omega
            subst e
            rw [hR1.out (noneBad_yes (by rw [hlh.out]; exact hno.out)), hlh.out]
            exact ⟨rfl, by (repeat' (first | (with_reducible exact bel_refl _) | (with_reducible assumption) | (with_reducible refine bel_drew ?_) | (with_reducible refine bel_drewN ?_) | (with_reducible refine bel_alloc ?_) | (with_reducible refine bel_set ?_ ?_) | (with_reducible refine bel_trans ?_ (by with_reducible assumption)) | omega | (simp; done) | (simp; omega)))⟩

set_option maxRecDepth 100000 in
set_option maxHeartbeats 4000000 in
theorem withoutS (A : Option Addr) (n c : Nat) (xs : List Crew) (m : Int) (w : World) (hS : Sl w 5 A n c (xs.flatMap Crew.row)) (hn : n ≤ 1048576) :
    Calls Try.prog 31 #[.slice A n c, .int .i64 m] w fun e w' => e = .returned (.tuple #[.int .i64 (outR xs m).1, .int .i64 (outR xs m).2.1, .bool (outR xs m).2.2]) ∧ Below w.heap.size w w' := by
  have hB2 := bel_refl w
  have hlh := hid (hS.xs_len Crew.row_len (by omega))
  rcases hg : listC xs with _ | _
  · have hR : Hid (outR xs m = (0, 0, false)) := by show _ = _; simp [outR, hg]
    go_enter Try.func31, Try.ntmps31
    go_wp2_with (first | (go_at_call 48; refine (l10List _ _ _ _ _ hS hn).mono ?_; rintro _ w1 ⟨rfl, hB1⟩; (first | (with_reducible replace hB2 := bel_trans hB2 hB1) | (with_reducible replace hB2 := bel_trans (bel_alloc hB2) hB1)); obtain ⟨hC1, hF1⟩ := bcell hB2; replace hB1 := hB1) | (go_at_call 44; refine (l10Metres _ _).mono ?_; rintro _ w1 ⟨rfl, rfl⟩))
    go_ret3; exact ⟨by rw [hR.out]; rfl, by (repeat' (first | (with_reducible exact bel_refl _) | (with_reducible assumption) | (with_reducible refine bel_drew ?_) | (with_reducible refine bel_drewN ?_) | (with_reducible refine bel_alloc ?_) | (with_reducible refine bel_set ?_ ?_) | (with_reducible refine bel_trans ?_ (by with_reducible assumption)) | omega | (simp; done) | (simp; omega)))⟩
  · have hG := hid (listC_all hg)
    have hn6 : n ≤ 6 := by rw [← hlh.out]; exact listC_len hg
    have hgn : Hid (noneBad (badAt goodC Crew.id xs) xs.length = true) := by
      have h1 := hg
      rw [listC, Bool.and_eq_true] at h1
      exact h1.1
    rcases hm : inB m 0 20000 with _ | _
    · have hR : Hid (outR xs m = (0, 0, false)) := by show _ = _; simp [outR, hm]
      go_enter Try.func31, Try.ntmps31
      go_wp2_with (first | (go_at_call 48; refine (l10List _ _ _ _ _ hS hn).mono ?_; rintro _ w1 ⟨rfl, hB1⟩; (first | (with_reducible replace hB2 := bel_trans hB2 hB1) | (with_reducible replace hB2 := bel_trans (bel_alloc hB2) hB1)); obtain ⟨hC1, hF1⟩ := bcell hB2; replace hB1 := hB1) | (go_at_call 44; refine (l10Metres _ _).mono ?_; rintro _ w1 ⟨rfl, rfl⟩))
      go_ret3; exact ⟨by rw [hR.out]; rfl, by (repeat' (first | (with_reducible exact bel_refl _) | (with_reducible assumption) | (with_reducible refine bel_drew ?_) | (with_reducible refine bel_drewN ?_) | (with_reducible refine bel_alloc ?_) | (with_reducible refine bel_set ?_ ?_) | (with_reducible refine bel_trans ?_ (by with_reducible assumption)) | omega | (simp; done) | (simp; omega)))⟩
    · by_cases hz : n = 0
      · have hR : Hid (outR xs m = (0, 0, false)) := by show _ = _; simp [outR, hlh.out, hz]
        subst hz
        go_enter Try.func31, Try.ntmps31
        go_wp2_with (first | (go_at_call 48; refine (l10List _ _ _ _ _ hS hn).mono ?_; rintro _ w1 ⟨rfl, hB1⟩; (first | (with_reducible replace hB2 := bel_trans hB2 hB1) | (with_reducible replace hB2 := bel_trans (bel_alloc hB2) hB1)); obtain ⟨hC1, hF1⟩ := bcell hB2; replace hB1 := hB1) | (go_at_call 44; refine (l10Metres _ _).mono ?_; rintro _ w1 ⟨rfl, rfl⟩))
        go_ret3; exact ⟨by rw [hR.out]; rfl, by (repeat' (first | (with_reducible exact bel_refl _) | (with_reducible assumption) | (with_reducible refine bel_drew ?_) | (with_reducible refine bel_drewN ?_) | (with_reducible refine bel_alloc ?_) | (with_reducible refine bel_set ?_ ?_) | (with_reducible refine bel_trans ?_ (by with_reducible assumption)) | omega | (simp; done) | (simp; omega)))⟩
      · have hR1 : Hid (noneBad (outBad xs m) xs.length = true → outR xs m = ((outS xs m xs.length).1, (outS xs m xs.length).2, true)) := fun h => by
          have hd : decide (0 < xs.length) = true := decide_eq_true (by rw [hlh.out]; omega)
          unfold outR
          rw [hg, hm, h, hd]
          rfl
        have hR0 : Hid (noneBad (outBad xs m) xs.length = false → outR xs m = (0, 0, false)) := fun h => by simp [outR, h]
        have hn0 : ¬ (n : Int) = 0 := by omega
        have hnq : ((n : Int) == 0) = false := by simpa using hz
        have hzz := hid hz
        clear hz
        go_enter Try.func31, Try.ntmps31
        go_wp2_with (first | (go_at_call 48; refine (l10List _ _ _ _ _ hS hn).mono ?_; rintro _ w1 ⟨rfl, hB1⟩; (first | (with_reducible replace hB2 := bel_trans hB2 hB1) | (with_reducible replace hB2 := bel_trans (bel_alloc hB2) hB1)); obtain ⟨hC1, hF1⟩ := bcell hB2; replace hB1 := hB1) | (go_at_call 44; refine (l10Metres _ _).mono ?_; rintro _ w1 ⟨rfl, rfl⟩))
        have hBk := hB2
        clear hg hm hB1 hC1 hF1 hB2
        go_loopw [7, 8, 9, 10] (fun a b' v _ wr => ∃ i : Nat, i ≤ n ∧ v = .int .i64 i ∧ a = .int .i64 (outS xs m i).1 ∧ b' = .int .i64 (outS xs m i).2 ∧ (Hid (∀ r, r < i → outBad xs m r = false)) ∧ Below w.heap.size w wr) (fun _ _ v _ _ => n - (intOf v).toNat)
        case atStart => exact ⟨0, by omega, rfl, rfl, rfl, fun r hr => absurd hr (by omega), by (repeat' (first | (with_reducible exact bel_refl _) | (with_reducible assumption) | (with_reducible refine bel_drew ?_) | (with_reducible refine bel_drewN ?_) | (with_reducible refine bel_alloc ?_) | (with_reducible refine bel_set ?_ ?_) | (with_reducible refine bel_trans ?_ (by with_reducible assumption)) | omega | (simp; done) | (simp; omega)))⟩
        case round =>
          clear hBk
          obtain ⟨i, hi', rfl, rfl, rfl, hno, hB2⟩ := hrel
          by_cases hlt : i < n
          · obtain ⟨x, hx⟩ : ∃ x, xs[i]? = some x := get_of_lt (by rw [hlh.out]; exact hlt)
            obtain ⟨b, o, rfl, hb, c0, c1, c2, c3, c4⟩ := (hS.bel hB2).crew hx
            have hX := hid hx
            have hfo := hid (filter_out hgn.out hx)
            clear hx
            have hOG := hid (outL_all hG.out i)
            obtain ⟨q, hq⟩ : ∃ q, outS xs m i = q := ⟨_, rfl⟩
            have hqq := hid hq
            rw [hq]
            clear hq
            obtain ⟨L, hL⟩ : ∃ L, leastI (outL xs i) m = L := ⟨_, rfl⟩
            have hLL := hid hL
            have hout : (outL xs i).length ≤ 6 := by
              have h1 := List.length_take_le i xs
              have h2 := List.length_drop (i := i + 1) (l := xs)
              rw [hlh.out] at h2
              simp only [outL, List.length_append]
              omega
            have hSr := (hS.bel hB2).drew
            have hcap := hS.cap
            have hmx := hS.max
            have hi0 : (0 : Int) ≤ (i : Int) := by omega
            have hi1 : (i : Int) < (n : Int) := by omega
            have hi2 : (i : Int) + 1 ≤ (n : Int) := by omega
            have hi3 : (i : Int) ≤ (c : Int) := by omega
            have hi4 : (0 : Int) ≤ (i : Int) + 1 := by omega
            have hi5 : (n : Int) ≤ (c : Int) := by omega
            have htn : ((i : Int) + 1).toNat = i + 1 := by omega
            have hwr : IntKind.i64.wrap ((i : Int) + 1) = (i : Int) + 1 := IntWalk.i64_in _ (by omega)
            have hlen : Hid (((xs.drop (i + 1)).flatMap Crew.row).length = (n - (i + 1)) * 5) := by show _ = _; rw [flat_len Crew.row_len, List.length_drop, hlh.out]
            have hE := own_bel (own_empty (w := wr) (size := 5) (e := 25) (Nat.le_refl _)) (bel_drew (bel_refl _))
            have hlt0 := hid (hSr.takeC (i := i) (by omega)).len
            have hcell0 : Hid (∀ j u, ((xs.take i).flatMap Crew.row)[j]? = some u → ((wr.alloc (.cells #[] 25)).drew).cell? ((⟨b, o, none⟩ : Addr).add j) = some u) := fun j u hu => by
              have hj := (List.getElem?_eq_some_iff.1 hu).1
              obtain ⟨b', o', e, hb', hcl⟩ := (((hS.bel hB2).takeC (i := i) (by omega)).alloc (.cells #[] 25)).drew.at_ (by rw [hlt0.out] at hj; omega)
              simp only [Option.some.injEq, Addr.mk.injEq, and_true] at e
              obtain ⟨rfl, rfl⟩ := e
              rw [Addr.add_lit]
              exact hcl j u hu
            by_cases hc1 : c = i + 1
            · have hz : c - (i + 1) = 0 := by omega
              have hi9 : (i : Int) + 1 ≤ (c : Int) := by omega
              have hc9 := hid hc1
              have hnil : Hid ((xs.drop (i + 1)).flatMap Crew.row = []) := by show _ = _; rw [List.drop_of_length_le (by rw [hlh.out]; omega)]; rfl
              clear hc1
              by_cases hneg : L < 0
              · have hnn := hid hneg
                go_wp2_with fail
                refine wp_region_pick [1, 2, 3, 5, 6, 7, 8, 10] [0, 4, 9, 11, 12] (by kernel_rfl) (by kernel_rfl) (by kernel_rfl) (by kernel_rfl) (by kernel_rfl) (by kernel_rfl) ?_
                (simp only [opsAt, List.map_cons, List.map_nil, List.getElem?_cons_succ, List.getElem?_cons_zero, Option.getD_some])
                iterate 8 (refine pick_step rfl (fun w' => by (go_simp; first | done | rfl)) ?_; (try simp only [Act.put, List.setIfInBounds_toArray, List.set_cons_zero, List.set_cons_succ]))
                rw [if_pos hc9.out]
                change wpList _ _ _ _ _ wr.drew
                go_wp2_with (first | (at_builtin; refine wpList_more rfl (.tmp 30) (.tmp 33) 36 rfl wr.heap.size 25 (.agg #[.int .i64 0, .int .i64 0, .int .i64 0, .int .i64 0, .int .i64 0]) 5 40 Try.underlying36 info_Crew rfl (by omega) (some ⟨wr.heap.size, 0, none⟩) 0 0 [] rfl hE ⟨b, o, none⟩ i _ _ rfl hlt0.out hcell0.out (oneCell_crews _) (by omega) (by omega) (by simp) ?_; intro A4 c4 w4 hown4 hb4 hg4) | (at_builtin; refine wpList_more rfl (.tmp 34) (.tmp 38) 36 rfl wr.heap.size 25 (.agg #[.int .i64 0, .int .i64 0, .int .i64 0, .int .i64 0, .int .i64 0]) 5 40 Try.underlying36 info_Crew rfl (by omega) A4 (0 + i) c4 _ (by first | rfl | simp) hown4 ⟨b, o, none⟩ (n - (i + 1)) 0 ((xs.drop (i + 1)).flatMap Crew.row) rfl hlen.out (fun j u hu => by rw [hnil.out] at hu; simp at hu) (oneCell_crews _) (by omega) (by omega) (by have := hb4.size; simp at this; omega) ?_; intro A5 c5 w5 hown5 hb5 hg5) | (go_at_call 45; refine (l10Least _ _ _ (outL xs i) m _ (by rw [outL_flat]; first | exact Sl.of_own hown5 | simpa using Sl.of_own hown5) (by omega) hOG.out).mono ?_; rw [hL]; rintro _ w6 ⟨rfl, hb6⟩))
                have hB5 : Below w.heap.size w w5 := bel_trans hB2 ((bel_drew (bel_alloc (bel_refl wr))).trans (hb4.trans hb5))
                have hB6 := bel_trans hB5 hb6
                have e0 := (hb6.cell (p := ⟨b, o + i * 5, none⟩) (Nat.lt_of_lt_of_le hb ((bel_drew (bel_alloc (bel_refl wr))).trans (hb4.trans hb5)).size)).trans (((((bel_drew (bel_alloc (bel_refl wr))).trans (hb4.trans hb5))).cell (p := ⟨b, o + i * 5, none⟩) hb).trans c0)
                refine NoPanic.normal ?_
                go_wp2
                go_ret3
                refine ⟨?_, by (repeat' (first | (with_reducible exact bel_refl _) | (with_reducible assumption) | (with_reducible refine bel_drew ?_) | (with_reducible refine bel_drewN ?_) | (with_reducible refine bel_alloc ?_) | (with_reducible refine bel_set ?_ ?_) | (with_reducible refine bel_trans ?_ (by with_reducible assumption)) | omega | (simp; done) | (simp; omega)))⟩
                rw [hR0.out (noneBad_no (by rw [hlh.out]; exact hlt) (show outBad xs m i = true by simp [outBad, hLL.out]; omega))]
                rfl
              · have hnb := noBad_snoc hno (show outBad xs m i = false by simp [outBad, hLL.out]; omega)
                by_cases hgt : q.2 < L
                · have hN := hid (outS_yes hX.out hLL.out (by rw [hqq.out]; exact hgt))
                  go_wp2_with fail
                  refine wp_region_pick [1, 2, 3, 5, 6, 7, 8, 10] [0, 4, 9, 11, 12] (by kernel_rfl) (by kernel_rfl) (by kernel_rfl) (by kernel_rfl) (by kernel_rfl) (by kernel_rfl) ?_
                  (simp only [opsAt, List.map_cons, List.map_nil, List.getElem?_cons_succ, List.getElem?_cons_zero, Option.getD_some])
                  iterate 8 (refine pick_step rfl (fun w' => by (go_simp; first | done | rfl)) ?_; (try simp only [Act.put, List.setIfInBounds_toArray, List.set_cons_zero, List.set_cons_succ]))
                  rw [if_pos hc9.out]
                  change wpList _ _ _ _ _ wr.drew
                  go_wp2_with (first | (at_builtin; refine wpList_more rfl (.tmp 30) (.tmp 33) 36 rfl wr.heap.size 25 (.agg #[.int .i64 0, .int .i64 0, .int .i64 0, .int .i64 0, .int .i64 0]) 5 40 Try.underlying36 info_Crew rfl (by omega) (some ⟨wr.heap.size, 0, none⟩) 0 0 [] rfl hE ⟨b, o, none⟩ i _ _ rfl hlt0.out hcell0.out (oneCell_crews _) (by omega) (by omega) (by simp) ?_; intro A4 c4 w4 hown4 hb4 hg4) | (at_builtin; refine wpList_more rfl (.tmp 34) (.tmp 38) 36 rfl wr.heap.size 25 (.agg #[.int .i64 0, .int .i64 0, .int .i64 0, .int .i64 0, .int .i64 0]) 5 40 Try.underlying36 info_Crew rfl (by omega) A4 (0 + i) c4 _ (by first | rfl | simp) hown4 ⟨b, o, none⟩ (n - (i + 1)) 0 ((xs.drop (i + 1)).flatMap Crew.row) rfl hlen.out (fun j u hu => by rw [hnil.out] at hu; simp at hu) (oneCell_crews _) (by omega) (by omega) (by have := hb4.size; simp at this; omega) ?_; intro A5 c5 w5 hown5 hb5 hg5) | (go_at_call 45; refine (l10Least _ _ _ (outL xs i) m _ (by rw [outL_flat]; first | exact Sl.of_own hown5 | simpa using Sl.of_own hown5) (by omega) hOG.out).mono ?_; rw [hL]; rintro _ w6 ⟨rfl, hb6⟩))
                  have hB5 : Below w.heap.size w w5 := bel_trans hB2 ((bel_drew (bel_alloc (bel_refl wr))).trans (hb4.trans hb5))
                  have hB6 := bel_trans hB5 hb6
                  have e0 := (hb6.cell (p := ⟨b, o + i * 5, none⟩) (Nat.lt_of_lt_of_le hb ((bel_drew (bel_alloc (bel_refl wr))).trans (hb4.trans hb5)).size)).trans (((((bel_drew (bel_alloc (bel_refl wr))).trans (hb4.trans hb5))).cell (p := ⟨b, o + i * 5, none⟩) hb).trans c0)
                  refine NoPanic.normal ?_
                  go_wp2
                  go_roundw
                  case rel => exact ⟨i + 1, by omega, by go_num, by rw [hN.out], by rw [hN.out], hnb, hB6⟩
                  case measure => simp [intOf]; omega
                · have hN := hid (outS_no hLL.out (by rw [hqq.out]; exact hgt))
                  go_wp2_with fail
                  refine wp_region_pick [1, 2, 3, 5, 6, 7, 8, 10] [0, 4, 9, 11, 12] (by kernel_rfl) (by kernel_rfl) (by kernel_rfl) (by kernel_rfl) (by kernel_rfl) (by kernel_rfl) ?_
                  (simp only [opsAt, List.map_cons, List.map_nil, List.getElem?_cons_succ, List.getElem?_cons_zero, Option.getD_some])
                  iterate 8 (refine pick_step rfl (fun w' => by (go_simp; first | done | rfl)) ?_; (try simp only [Act.put, List.setIfInBounds_toArray, List.set_cons_zero, List.set_cons_succ]))
                  rw [if_pos hc9.out]
                  change wpList _ _ _ _ _ wr.drew
                  go_wp2_with (first | (at_builtin; refine wpList_more rfl (.tmp 30) (.tmp 33) 36 rfl wr.heap.size 25 (.agg #[.int .i64 0, .int .i64 0, .int .i64 0, .int .i64 0, .int .i64 0]) 5 40 Try.underlying36 info_Crew rfl (by omega) (some ⟨wr.heap.size, 0, none⟩) 0 0 [] rfl hE ⟨b, o, none⟩ i _ _ rfl hlt0.out hcell0.out (oneCell_crews _) (by omega) (by omega) (by simp) ?_; intro A4 c4 w4 hown4 hb4 hg4) | (at_builtin; refine wpList_more rfl (.tmp 34) (.tmp 38) 36 rfl wr.heap.size 25 (.agg #[.int .i64 0, .int .i64 0, .int .i64 0, .int .i64 0, .int .i64 0]) 5 40 Try.underlying36 info_Crew rfl (by omega) A4 (0 + i) c4 _ (by first | rfl | simp) hown4 ⟨b, o, none⟩ (n - (i + 1)) 0 ((xs.drop (i + 1)).flatMap Crew.row) rfl hlen.out (fun j u hu => by rw [hnil.out] at hu; simp at hu) (oneCell_crews _) (by omega) (by omega) (by have := hb4.size; simp at this; omega) ?_; intro A5 c5 w5 hown5 hb5 hg5) | (go_at_call 45; refine (l10Least _ _ _ (outL xs i) m _ (by rw [outL_flat]; first | exact Sl.of_own hown5 | simpa using Sl.of_own hown5) (by omega) hOG.out).mono ?_; rw [hL]; rintro _ w6 ⟨rfl, hb6⟩))
                  have hB5 : Below w.heap.size w w5 := bel_trans hB2 ((bel_drew (bel_alloc (bel_refl wr))).trans (hb4.trans hb5))
                  have hB6 := bel_trans hB5 hb6
                  have e0 := (hb6.cell (p := ⟨b, o + i * 5, none⟩) (Nat.lt_of_lt_of_le hb ((bel_drew (bel_alloc (bel_refl wr))).trans (hb4.trans hb5)).size)).trans (((((bel_drew (bel_alloc (bel_refl wr))).trans (hb4.trans hb5))).cell (p := ⟨b, o + i * 5, none⟩) hb).trans c0)
                  refine NoPanic.normal ?_
                  go_wp2
                  go_roundw
                  case rel => exact ⟨i + 1, by omega, by go_num, by rw [hN.out, hqq.out], by rw [hN.out, hqq.out], hnb, hB6⟩
                  case measure => simp [intOf]; omega
            · have hc2 : ¬ c - (i + 1) = 0 := by omega
              by_cases hneg : L < 0
              · have hnn := hid hneg
                go_wp2_with fail
                refine wp_region_pick [1, 2, 3, 5, 6, 7, 8, 10] [0, 4, 9, 11, 12] (by kernel_rfl) (by kernel_rfl) (by kernel_rfl) (by kernel_rfl) (by kernel_rfl) (by kernel_rfl) ?_
                (simp only [opsAt, List.map_cons, List.map_nil, List.getElem?_cons_succ, List.getElem?_cons_zero, Option.getD_some])
                iterate 8 (refine pick_step rfl (fun w' => by (go_simp; first | done | rfl)) ?_; (try simp only [Act.put, List.setIfInBounds_toArray, List.set_cons_zero, List.set_cons_succ]))
                change wpList _ _ _ _ _ wr.drew
                go_wp2_with (first | (at_builtin; refine wpList_more rfl (.tmp 30) (.tmp 33) 36 rfl wr.heap.size 25 (.agg #[.int .i64 0, .int .i64 0, .int .i64 0, .int .i64 0, .int .i64 0]) 5 40 Try.underlying36 info_Crew rfl (by omega) (some ⟨wr.heap.size, 0, none⟩) 0 0 [] rfl hE ⟨b, o, none⟩ i _ _ rfl hlt0.out hcell0.out (oneCell_crews _) (by omega) (by omega) (by simp) ?_; intro A4 c4 w4 hown4 hb4 hg4) | (at_builtin; refine wpList_more rfl (.tmp 34) (.tmp 38) 36 rfl wr.heap.size 25 (.agg #[.int .i64 0, .int .i64 0, .int .i64 0, .int .i64 0, .int .i64 0]) 5 40 Try.underlying36 info_Crew rfl (by omega) A4 (0 + i) c4 _ (by first | rfl | simp) hown4 ⟨b, o + (i + 1) * 5, none⟩ (n - (i + 1)) (c - (i + 1)) ((xs.drop (i + 1)).flatMap Crew.row) rfl hlen.out (drop_cells ((hS.bel hB2).bel ((bel_drew (bel_alloc (bel_refl wr))).trans hb4)) hlt) (oneCell_crews _) (by omega) (by omega) (by have := hb4.size; simp at this; omega) ?_; intro A5 c5 w5 hown5 hb5 hg5) | (go_at_call 45; refine (l10Least _ _ _ (outL xs i) m _ (by rw [outL_flat]; first | exact Sl.of_own hown5 | simpa using Sl.of_own hown5) (by omega) hOG.out).mono ?_; rw [hL]; rintro _ w6 ⟨rfl, hb6⟩))
                have hB5 : Below w.heap.size w w5 := bel_trans hB2 ((bel_drew (bel_alloc (bel_refl wr))).trans (hb4.trans hb5))
                have hB6 := bel_trans hB5 hb6
                have e0 := (hb6.cell (p := ⟨b, o + i * 5, none⟩) (Nat.lt_of_lt_of_le hb ((bel_drew (bel_alloc (bel_refl wr))).trans (hb4.trans hb5)).size)).trans (((((bel_drew (bel_alloc (bel_refl wr))).trans (hb4.trans hb5))).cell (p := ⟨b, o + i * 5, none⟩) hb).trans c0)
                refine NoPanic.normal ?_
                go_wp2
                go_ret3
                refine ⟨?_, by (repeat' (first | (with_reducible exact bel_refl _) | (with_reducible assumption) | (with_reducible refine bel_drew ?_) | (with_reducible refine bel_drewN ?_) | (with_reducible refine bel_alloc ?_) | (with_reducible refine bel_set ?_ ?_) | (with_reducible refine bel_trans ?_ (by with_reducible assumption)) | omega | (simp; done) | (simp; omega)))⟩
                rw [hR0.out (noneBad_no (by rw [hlh.out]; exact hlt) (show outBad xs m i = true by simp [outBad, hLL.out]; omega))]
                rfl
              · have hnb := noBad_snoc hno (show outBad xs m i = false by simp [outBad, hLL.out]; omega)
                by_cases hgt : q.2 < L
                · have hN := hid (outS_yes hX.out hLL.out (by rw [hqq.out]; exact hgt))
                  go_wp2_with fail
                  refine wp_region_pick [1, 2, 3, 5, 6, 7, 8, 10] [0, 4, 9, 11, 12] (by kernel_rfl) (by kernel_rfl) (by kernel_rfl) (by kernel_rfl) (by kernel_rfl) (by kernel_rfl) ?_
                  (simp only [opsAt, List.map_cons, List.map_nil, List.getElem?_cons_succ, List.getElem?_cons_zero, Option.getD_some])
                  iterate 8 (refine pick_step rfl (fun w' => by (go_simp; first | done | rfl)) ?_; (try simp only [Act.put, List.setIfInBounds_toArray, List.set_cons_zero, List.set_cons_succ]))
                  change wpList _ _ _ _ _ wr.drew
                  go_wp2_with (first | (at_builtin; refine wpList_more rfl (.tmp 30) (.tmp 33) 36 rfl wr.heap.size 25 (.agg #[.int .i64 0, .int .i64 0, .int .i64 0, .int .i64 0, .int .i64 0]) 5 40 Try.underlying36 info_Crew rfl (by omega) (some ⟨wr.heap.size, 0, none⟩) 0 0 [] rfl hE ⟨b, o, none⟩ i _ _ rfl hlt0.out hcell0.out (oneCell_crews _) (by omega) (by omega) (by simp) ?_; intro A4 c4 w4 hown4 hb4 hg4) | (at_builtin; refine wpList_more rfl (.tmp 34) (.tmp 38) 36 rfl wr.heap.size 25 (.agg #[.int .i64 0, .int .i64 0, .int .i64 0, .int .i64 0, .int .i64 0]) 5 40 Try.underlying36 info_Crew rfl (by omega) A4 (0 + i) c4 _ (by first | rfl | simp) hown4 ⟨b, o + (i + 1) * 5, none⟩ (n - (i + 1)) (c - (i + 1)) ((xs.drop (i + 1)).flatMap Crew.row) rfl hlen.out (drop_cells ((hS.bel hB2).bel ((bel_drew (bel_alloc (bel_refl wr))).trans hb4)) hlt) (oneCell_crews _) (by omega) (by omega) (by have := hb4.size; simp at this; omega) ?_; intro A5 c5 w5 hown5 hb5 hg5) | (go_at_call 45; refine (l10Least _ _ _ (outL xs i) m _ (by rw [outL_flat]; first | exact Sl.of_own hown5 | simpa using Sl.of_own hown5) (by omega) hOG.out).mono ?_; rw [hL]; rintro _ w6 ⟨rfl, hb6⟩))
                  have hB5 : Below w.heap.size w w5 := bel_trans hB2 ((bel_drew (bel_alloc (bel_refl wr))).trans (hb4.trans hb5))
                  have hB6 := bel_trans hB5 hb6
                  have e0 := (hb6.cell (p := ⟨b, o + i * 5, none⟩) (Nat.lt_of_lt_of_le hb ((bel_drew (bel_alloc (bel_refl wr))).trans (hb4.trans hb5)).size)).trans (((((bel_drew (bel_alloc (bel_refl wr))).trans (hb4.trans hb5))).cell (p := ⟨b, o + i * 5, none⟩) hb).trans c0)
                  refine NoPanic.normal ?_
                  go_wp2
                  go_roundw
                  case rel => exact ⟨i + 1, by omega, by go_num, by rw [hN.out], by rw [hN.out], hnb, hB6⟩
                  case measure => simp [intOf]; omega
                · have hN := hid (outS_no hLL.out (by rw [hqq.out]; exact hgt))
                  go_wp2_with fail
                  refine wp_region_pick [1, 2, 3, 5, 6, 7, 8, 10] [0, 4, 9, 11, 12] (by kernel_rfl) (by kernel_rfl) (by kernel_rfl) (by kernel_rfl) (by kernel_rfl) (by kernel_rfl) ?_
                  (simp only [opsAt, List.map_cons, List.map_nil, List.getElem?_cons_succ, List.getElem?_cons_zero, Option.getD_some])
                  iterate 8 (refine pick_step rfl (fun w' => by (go_simp; first | done | rfl)) ?_; (try simp only [Act.put, List.setIfInBounds_toArray, List.set_cons_zero, List.set_cons_succ]))
                  change wpList _ _ _ _ _ wr.drew
                  go_wp2_with (first | (at_builtin; refine wpList_more rfl (.tmp 30) (.tmp 33) 36 rfl wr.heap.size 25 (.agg #[.int .i64 0, .int .i64 0, .int .i64 0, .int .i64 0, .int .i64 0]) 5 40 Try.underlying36 info_Crew rfl (by omega) (some ⟨wr.heap.size, 0, none⟩) 0 0 [] rfl hE ⟨b, o, none⟩ i _ _ rfl hlt0.out hcell0.out (oneCell_crews _) (by omega) (by omega) (by simp) ?_; intro A4 c4 w4 hown4 hb4 hg4) | (at_builtin; refine wpList_more rfl (.tmp 34) (.tmp 38) 36 rfl wr.heap.size 25 (.agg #[.int .i64 0, .int .i64 0, .int .i64 0, .int .i64 0, .int .i64 0]) 5 40 Try.underlying36 info_Crew rfl (by omega) A4 (0 + i) c4 _ (by first | rfl | simp) hown4 ⟨b, o + (i + 1) * 5, none⟩ (n - (i + 1)) (c - (i + 1)) ((xs.drop (i + 1)).flatMap Crew.row) rfl hlen.out (drop_cells ((hS.bel hB2).bel ((bel_drew (bel_alloc (bel_refl wr))).trans hb4)) hlt) (oneCell_crews _) (by omega) (by omega) (by have := hb4.size; simp at this; omega) ?_; intro A5 c5 w5 hown5 hb5 hg5) | (go_at_call 45; refine (l10Least _ _ _ (outL xs i) m _ (by rw [outL_flat]; first | exact Sl.of_own hown5 | simpa using Sl.of_own hown5) (by omega) hOG.out).mono ?_; rw [hL]; rintro _ w6 ⟨rfl, hb6⟩))
                  have hB5 : Below w.heap.size w w5 := bel_trans hB2 ((bel_drew (bel_alloc (bel_refl wr))).trans (hb4.trans hb5))
                  have hB6 := bel_trans hB5 hb6
                  have e0 := (hb6.cell (p := ⟨b, o + i * 5, none⟩) (Nat.lt_of_lt_of_le hb ((bel_drew (bel_alloc (bel_refl wr))).trans (hb4.trans hb5)).size)).trans (((((bel_drew (bel_alloc (bel_refl wr))).trans (hb4.trans hb5))).cell (p := ⟨b, o + i * 5, none⟩) hb).trans c0)
                  refine NoPanic.normal ?_
                  go_wp2
                  go_roundw
                  case rel => exact ⟨i + 1, by omega, by go_num, by rw [hN.out, hqq.out], by rw [hN.out, hqq.out], hnb, hB6⟩
                  case measure => simp [intOf]; omega
          · go_wp2
            go_ret3
            have e : i = n := by omega
            subst e
            rw [hR1.out (noneBad_yes (by rw [hlh.out]; exact hno.out)), hlh.out]
            exact ⟨rfl, by (repeat' (first | (with_reducible exact bel_refl _) | (with_reducible assumption) | (with_reducible refine bel_drew ?_) | (with_reducible refine bel_drewN ?_) | (with_reducible refine bel_alloc ?_) | (with_reducible refine bel_set ?_ ?_) | (with_reducible refine bel_trans ?_ (by with_reducible assumption)) | omega | (simp; done) | (simp; omega)))⟩

end Go.Proofs.Ythbjgccldoofgaa
