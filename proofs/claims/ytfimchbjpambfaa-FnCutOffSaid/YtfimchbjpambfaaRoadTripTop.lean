/-
  The places of a trip, of the reference, walked.
-/
import Derived.Test.YtfimchbjpambfaaRoadTripS
import Derived.Test.YtfimchbjpambfaaRoadKey
namespace Go.Proofs.Ytfimchbjpambfaa
open Go.RowKit

def tripR (p : Int) (xs : List Road) (f t m : Int) : List Int × Bool := if netB p xs && inB f 0 (p - 1) && inB t 0 (p - 1) && inB m 0 999 && decide (0 ≤ gi (arrA p.toNat xs f.toNat m) t) then (tripL p.toNat xs f.toNat t.toNat m, true) else ([], false)
theorem tripR_len (p : Int) (xs : List Road) (f t m : Int) : (tripR p xs f t m).1.length ≤ 1048576 := by
  unfold tripR
  split
  · have := tripN_len (F := f.toNat) (nxt := befS p.toNat xs (arrA p.toNat xs f.toNat m)) 1000 [(t.toNat : Int)]
    exact Nat.le_trans this (by simp)
  · simp
theorem own_one {w : World} {base : Nat} {e : TypeId} {v : Value} (hb : base ≤ w.heap.size) : (w.alloc (.cells #[v] e)).ownsRow base e 1 (.slice (some ⟨w.heap.size, 0, none⟩) 1 1) 1 [v] :=
  ⟨by simp, .inr ⟨w.heap.size, 1, #[v], rfl, hb, heap_alloc_new w _, Nat.le_refl _, by simp [maxLen], by simp, by simp⟩⟩
theorem own_cells {w : World} {base g k c : Nat} {e : TypeId} {L : List Value} (h : w.ownsRow base e 1 (.slice (some ⟨g, 0, none⟩) k c) k L) : ∀ j u, L[j]? = some u → w.cell? ((⟨g, 0, none⟩ : Addr).add j) = some u := fun j u hu => by
  have hj := (List.getElem?_eq_some_iff.1 hu).1
  have hl := h.1
  obtain ⟨b', o', e, hb', hcl⟩ := (Sl.of_own h).at_ (by omega)
  simp only [Option.some.injEq, Addr.mk.injEq, and_true] at e
  obtain ⟨rfl, rfl⟩ := e
  rw [Addr.add_lit]
  exact hcl j u hu
theorem oneCell_ints (xs : List Int) : ∀ u ∈ ints xs, u.oneCell' = true := by
  intro u hu
  obtain ⟨x, _, rfl⟩ := List.mem_map.1 hu
  rfl
/-- The measure of the loop: when one arrives at the first place of the list so far. -/
def headT (s : List Int) (q : Value) (w : World) : Nat :=
  match q with
  | .slice (some a) _ _ => (gi s (intOf ((w.cell? a).getD (.int .i64 0)))).toNat
  | _ => 0
theorem headT_eq {s : List Int} {g k c : Nat} {w : World} {v : Int} (h : w.cell? ⟨g, 0, none⟩ = some (.int .i64 v)) : headT s (.slice (some ⟨g, 0, none⟩) k c) w = (gi s v).toNat := by
  unfold headT
  simp only [h]
  rfl
set_option maxRecDepth 100000 in
set_option maxHeartbeats 4000000 in
theorem tripS (p : Int) (A : Option Addr) (n c : Nat) (xs : List Road) (f t m : Int) (w : World) (hS : Sl w 4 A n c (xs.flatMap Road.row)) (hn : n ≤ 1048576) :
    Calls Try.prog 17 #[.int .i64 p, .slice A n c, .int .i64 f, .int .i64 t, .int .i64 m] w fun e w' => ∃ A' n' c', e = .returned (.tuple #[.slice A' n' c', .bool (tripR p xs f t m).2]) ∧ Own w.heap.size w'.heap.size w' 3 1 A' n' c' (ints (tripR p xs f t m).1) ∧ Below w.heap.size w w' := by
  have hB2 := bel_refl w
  rcases hg : netB p xs with _ | _
  · have hR : Hid (tripR p xs f t m = ([], false)) := by show _ = _; simp [tripR, hg]
    go_enter Try.func17, Try.ntmps17
    go_wp2_with (first | (go_at_call 38; refine (l12Place _ _ _ _ _ _ _ (hS.bel (by (repeat' (first | (with_reducible exact bel_refl _) | (with_reducible assumption) | (with_reducible refine bel_drew ?_) | (with_reducible refine bel_drewN ?_) | (with_reducible refine bel_alloc ?_) | (with_reducible refine bel_set ?_ ?_) | (with_reducible refine bel_trans ?_ (by with_reducible assumption)) | omega | (simp; done) | (simp; omega))))) hn).mono ?_; rintro _ w1 ⟨rfl, hB1⟩; (first | (with_reducible replace hB2 := bel_trans hB2 hB1) | (with_reducible replace hB2 := bel_trans (bel_alloc hB2) hB1)); obtain ⟨hC1, hF1⟩ := bcell hB2; replace hB1 := hB1) | (go_at_call 39; refine (l12Minute _ _).mono ?_; rintro _ w1 ⟨rfl, rfl⟩))
    go_ret2; exact ⟨some ⟨w1.heap.size, 0, none⟩, 0, 0, by rw [hR.out]; rfl, by rw [hR.out]; exact (Own.mk_ (own_empty (Nat.le_refl _))).low hB2.size, by (repeat' (first | (with_reducible exact bel_refl _) | (with_reducible assumption) | (with_reducible refine bel_drew ?_) | (with_reducible refine bel_drewN ?_) | (with_reducible refine bel_alloc ?_) | (with_reducible refine bel_set ?_ ?_) | (with_reducible refine bel_trans ?_ (by with_reducible assumption)) | omega | (simp; done) | (simp; omega)))⟩
  rcases h1 : inB f 0 (p - 1) with _ | _
  · have hR : Hid (tripR p xs f t m = ([], false)) := by show _ = _; simp [tripR, h1]
    go_enter Try.func17, Try.ntmps17
    go_wp2_with (first | (go_at_call 38; refine (l12Place _ _ _ _ _ _ _ (hS.bel (by (repeat' (first | (with_reducible exact bel_refl _) | (with_reducible assumption) | (with_reducible refine bel_drew ?_) | (with_reducible refine bel_drewN ?_) | (with_reducible refine bel_alloc ?_) | (with_reducible refine bel_set ?_ ?_) | (with_reducible refine bel_trans ?_ (by with_reducible assumption)) | omega | (simp; done) | (simp; omega))))) hn).mono ?_; rintro _ w1 ⟨rfl, hB1⟩; (first | (with_reducible replace hB2 := bel_trans hB2 hB1) | (with_reducible replace hB2 := bel_trans (bel_alloc hB2) hB1)); obtain ⟨hC1, hF1⟩ := bcell hB2; replace hB1 := hB1) | (go_at_call 39; refine (l12Minute _ _).mono ?_; rintro _ w1 ⟨rfl, rfl⟩))
    go_ret2; exact ⟨some ⟨w1.heap.size, 0, none⟩, 0, 0, by rw [hR.out]; rfl, by rw [hR.out]; exact (Own.mk_ (own_empty (Nat.le_refl _))).low hB2.size, by (repeat' (first | (with_reducible exact bel_refl _) | (with_reducible assumption) | (with_reducible refine bel_drew ?_) | (with_reducible refine bel_drewN ?_) | (with_reducible refine bel_alloc ?_) | (with_reducible refine bel_set ?_ ?_) | (with_reducible refine bel_trans ?_ (by with_reducible assumption)) | omega | (simp; done) | (simp; omega)))⟩
  rcases h2 : inB t 0 (p - 1) with _ | _
  · have hR : Hid (tripR p xs f t m = ([], false)) := by show _ = _; simp [tripR, h2]
    go_enter Try.func17, Try.ntmps17
    go_wp2_with (first | (go_at_call 38; refine (l12Place _ _ _ _ _ _ _ (hS.bel (by (repeat' (first | (with_reducible exact bel_refl _) | (with_reducible assumption) | (with_reducible refine bel_drew ?_) | (with_reducible refine bel_drewN ?_) | (with_reducible refine bel_alloc ?_) | (with_reducible refine bel_set ?_ ?_) | (with_reducible refine bel_trans ?_ (by with_reducible assumption)) | omega | (simp; done) | (simp; omega))))) hn).mono ?_; rintro _ w1 ⟨rfl, hB1⟩; (first | (with_reducible replace hB2 := bel_trans hB2 hB1) | (with_reducible replace hB2 := bel_trans (bel_alloc hB2) hB1)); obtain ⟨hC1, hF1⟩ := bcell hB2; replace hB1 := hB1) | (go_at_call 39; refine (l12Minute _ _).mono ?_; rintro _ w1 ⟨rfl, rfl⟩))
    go_ret2; exact ⟨some ⟨w1.heap.size, 0, none⟩, 0, 0, by rw [hR.out]; rfl, by rw [hR.out]; exact (Own.mk_ (own_empty (Nat.le_refl _))).low hB2.size, by (repeat' (first | (with_reducible exact bel_refl _) | (with_reducible assumption) | (with_reducible refine bel_drew ?_) | (with_reducible refine bel_drewN ?_) | (with_reducible refine bel_alloc ?_) | (with_reducible refine bel_set ?_ ?_) | (with_reducible refine bel_trans ?_ (by with_reducible assumption)) | omega | (simp; done) | (simp; omega)))⟩
  rcases h3 : inB m 0 999 with _ | _
  · have hR : Hid (tripR p xs f t m = ([], false)) := by show _ = _; simp [tripR, h3]
    go_enter Try.func17, Try.ntmps17
    go_wp2_with (first | (go_at_call 38; refine (l12Place _ _ _ _ _ _ _ (hS.bel (by (repeat' (first | (with_reducible exact bel_refl _) | (with_reducible assumption) | (with_reducible refine bel_drew ?_) | (with_reducible refine bel_drewN ?_) | (with_reducible refine bel_alloc ?_) | (with_reducible refine bel_set ?_ ?_) | (with_reducible refine bel_trans ?_ (by with_reducible assumption)) | omega | (simp; done) | (simp; omega))))) hn).mono ?_; rintro _ w1 ⟨rfl, hB1⟩; (first | (with_reducible replace hB2 := bel_trans hB2 hB1) | (with_reducible replace hB2 := bel_trans (bel_alloc hB2) hB1)); obtain ⟨hC1, hF1⟩ := bcell hB2; replace hB1 := hB1) | (go_at_call 39; refine (l12Minute _ _).mono ?_; rintro _ w1 ⟨rfl, rfl⟩))
    go_ret2; exact ⟨some ⟨w1.heap.size, 0, none⟩, 0, 0, by rw [hR.out]; rfl, by rw [hR.out]; exact (Own.mk_ (own_empty (Nat.le_refl _))).low hB2.size, by (repeat' (first | (with_reducible exact bel_refl _) | (with_reducible assumption) | (with_reducible refine bel_drew ?_) | (with_reducible refine bel_drewN ?_) | (with_reducible refine bel_alloc ?_) | (with_reducible refine bel_set ?_ ?_) | (with_reducible refine bel_trans ?_ (by with_reducible assumption)) | omega | (simp; done) | (simp; omega)))⟩
  have hb := netB_bd hg
  obtain ⟨f0, f1⟩ := inB_iff.1 h1
  obtain ⟨t0, t1⟩ := inB_iff.1 h2
  have hm := inB_iff.1 h3
  obtain ⟨P, rfl⟩ := Int.eq_ofNat_of_zero_le (show 0 ≤ p by omega)
  obtain ⟨F, rfl⟩ := Int.eq_ofNat_of_zero_le f0
  obtain ⟨T, rfl⟩ := Int.eq_ofNat_of_zero_le t0
  have hF : F < P := by omega
  have hT : T < P := by omega
  have hP2 : 2 ≤ P ∧ P ≤ 7 := by omega
  have hT0 : (0 : Int) ≤ (T : Int) := by omega
  have hT1 : (T : Int) < (P : Int) := by omega
  have hg9 := hid hg
  have hlh := hid (hS.xs_len Road.row_len (by omega))
  have hG := hid (netB_all hg)
  have hn12 : n ≤ 12 := by rw [← hlh.out]; exact hb.2.2
  obtain ⟨L0, hL0⟩ : ∃ L, gi (arrA P xs F m) T = L := ⟨_, rfl⟩
  by_cases hl0 : L0 < 0
  · have hR : Hid (tripR P xs F T m = ([], false)) := by show _ = _; simp [tripR, hL0]; intros; omega
    go_enter Try.func17, Try.ntmps17
    go_wp2_with (first | (first | (go_at_call 38; refine (l12Place _ _ _ _ _ _ _ (hS.bel (by (repeat' (first | (with_reducible exact bel_refl _) | (with_reducible assumption) | (with_reducible refine bel_drew ?_) | (with_reducible refine bel_drewN ?_) | (with_reducible refine bel_alloc ?_) | (with_reducible refine bel_set ?_ ?_) | (with_reducible refine bel_trans ?_ (by with_reducible assumption)) | omega | (simp; done) | (simp; omega))))) hn).mono ?_; rintro _ w1 ⟨rfl, hB1⟩; (first | (with_reducible replace hB2 := bel_trans hB2 hB1) | (with_reducible replace hB2 := bel_trans (bel_alloc hB2) hB1)); obtain ⟨hC1, hF1⟩ := bcell hB2; replace hB1 := hB1) | (go_at_call 39; refine (l12Minute _ _).mono ?_; rintro _ w1 ⟨rfl, rfl⟩)) | (go_at_call 40; refine (arrS _ _ _ P F xs m _ (hS.bel (by (repeat' (first | (with_reducible exact bel_refl _) | (with_reducible assumption) | (with_reducible refine bel_drew ?_) | (with_reducible refine bel_drewN ?_) | (with_reducible refine bel_alloc ?_) | (with_reducible refine bel_set ?_ ?_) | (with_reducible refine bel_trans ?_ (by with_reducible assumption)) | omega | (simp; done) | (simp; omega))))) hg9.out hF hm).mono ?_; rintro _ w2 ⟨A9, c9, rfl, hO9, hb9⟩; obtain ⟨g9, rfl, hg9l, hg9h⟩ := own_form hO9.own (by omega); have f9 := own_gi hO9.own hT; rw [hL0] at f9; replace hB2 := bel_trans hB2 hb9; (try replace hB1 := hB1.trans (hb9.mono hB1.size))))
    go_ret2; exact ⟨some ⟨w2.heap.size, 0, none⟩, 0, 0, by rw [hR.out]; rfl, by rw [hR.out]; exact (Own.mk_ (own_empty (Nat.le_refl _))).low hB2.size, by (repeat' (first | (with_reducible exact bel_refl _) | (with_reducible assumption) | (with_reducible refine bel_drew ?_) | (with_reducible refine bel_drewN ?_) | (with_reducible refine bel_alloc ?_) | (with_reducible refine bel_set ?_ ?_) | (with_reducible refine bel_trans ?_ (by with_reducible assumption)) | omega | (simp; done) | (simp; omega)))⟩
  · have hR : Hid (tripR P xs F T m = (tripL P xs F T m, true)) := by
      have hc : (netB P xs && inB F 0 ((P : Int) - 1) && inB T 0 ((P : Int) - 1) && inB m 0 999 && decide (0 ≤ gi (arrA ((P : Int).toNat) xs ((F : Int).toNat) m) T)) = true := by simp [hg, h1, h2, h3, hL0]; omega
      show _ = _
      unfold tripR
      rw [if_pos hc]
      simp
    have hmem := hid (good_mem hG.out)
    have hA := hid (arrA_arr hmem.out hF hm)
    have hst := hid (trip_start (F := F) (nxt := befS P xs (arrA P xs F m)) hT hA.out (by omega))
    go_enter Try.func17, Try.ntmps17
    go_wp2_with (first | (first | (go_at_call 38; refine (l12Place _ _ _ _ _ _ _ (hS.bel (by (repeat' (first | (with_reducible exact bel_refl _) | (with_reducible assumption) | (with_reducible refine bel_drew ?_) | (with_reducible refine bel_drewN ?_) | (with_reducible refine bel_alloc ?_) | (with_reducible refine bel_set ?_ ?_) | (with_reducible refine bel_trans ?_ (by with_reducible assumption)) | omega | (simp; done) | (simp; omega))))) hn).mono ?_; rintro _ w1 ⟨rfl, hB1⟩; (first | (with_reducible replace hB2 := bel_trans hB2 hB1) | (with_reducible replace hB2 := bel_trans (bel_alloc hB2) hB1)); obtain ⟨hC1, hF1⟩ := bcell hB2; replace hB1 := hB1) | (go_at_call 39; refine (l12Minute _ _).mono ?_; rintro _ w1 ⟨rfl, rfl⟩)) | (go_at_call 40; refine (arrS _ _ _ P F xs m _ (hS.bel (by (repeat' (first | (with_reducible exact bel_refl _) | (with_reducible assumption) | (with_reducible refine bel_drew ?_) | (with_reducible refine bel_drewN ?_) | (with_reducible refine bel_alloc ?_) | (with_reducible refine bel_set ?_ ?_) | (with_reducible refine bel_trans ?_ (by with_reducible assumption)) | omega | (simp; done) | (simp; omega))))) hg9.out hF hm).mono ?_; rintro _ w2 ⟨A9, c9, rfl, hO9, hb9⟩; obtain ⟨g9, rfl, hg9l, hg9h⟩ := own_form hO9.own (by omega); have f9 := own_gi hO9.own hT; rw [hL0] at f9; replace hB2 := bel_trans hB2 hb9; (try replace hB1 := hB1.trans (hb9.mono hB1.size))))
    have hTm : Hid (∀ u : Nat, u < P → w2.cell? ⟨g9, u, none⟩ = some (.int .i64 (gi (arrA P xs F m) u))) := fun u hu => own_gi hO9.own hu
    have h22 := bel_refl w2
    clear hg h1 h2 h3
    go_loopw [13] (fun q wr => ∃ (g k c' : Nat) (l : List Int), q = .slice (some ⟨g, 0, none⟩) k c' ∧ wr.ownsRow w.heap.size 3 1 (.slice (some ⟨g, 0, none⟩) k c') k (ints l) ∧ Trip (arrA P xs F m) P F (befS P xs (arrA P xs F m)) (tripL P xs F T m) l ∧ Below w2.heap.size w2 wr) (fun q wr => headT (arrA P xs F m) q wr)
    case atStart => exact ⟨_, _, _, [(T : Int)], rfl, own_one hB2.size, hst.out, by (repeat' (first | (with_reducible exact bel_refl _) | (with_reducible assumption) | (with_reducible refine bel_drew ?_) | (with_reducible refine bel_drewN ?_) | (with_reducible refine bel_alloc ?_) | (with_reducible refine bel_set ?_ ?_) | (with_reducible refine bel_trans ?_ (by with_reducible assumption)) | omega | (simp; done) | (simp; omega)))⟩
    case round =>
      obtain ⟨g, k, c', l, rfl, hown, htr, hB⟩ := hrel
      obtain ⟨v, l', rfl, hvP, hv0, nn, hnn, hll, _⟩ := id htr
      have hkh := hid (show k = l'.length + 1 by have := hown.1; rw [ints_len, List.length_cons] at this; omega)
      rw [List.length_cons] at hll
      have hkl : k ≤ 1001 := by have := hkh.out; omega
      have hk1 : 0 < 1 + k := by omega
      have c0 := own_cells hown 0 _ (ints_get (i := 0) rfl)
      rw [Addr.add_lit, Nat.zero_add] at c0
      have hk0 : (0 : Int) < (k : Int) := by have := hkh.out; omega
      have hgl := (hown.lt _ rfl).2
      have hmeas := hid (headT_eq (s := arrA P xs F m) (k := k) (c := c') c0)
      have hBw := bel_trans hB2 hB
      by_cases he : v = F
      · subst he
        have hend := hid (tripN_end (F := (v : Int)) (nxt := befS P xs (arrA P xs v m)) (n := nn) (l := (v : Int) :: l') rfl)
        obtain ⟨v2, l2, e2, _, _, n2, _, _, hR2⟩ := htr
        rw [tripN_end (by simp)] at hR2
        have hq : ((v : Int) == (v : Int)) = true := by simp
        go_wp2
        go_ret2
        exact ⟨some ⟨g, 0, none⟩, k, c', by rw [hR.out]; rfl, by rw [hR.out]; show Own _ _ _ _ _ _ _ _ (ints (tripL P xs v T m)); rw [← hR2]; exact Own.mk_ hown, hBw⟩
      · have hq : ((v : Int) == (F : Int)) = false := by rw [beq_eq_false_iff_ne]; omega
        obtain ⟨_, b2, b3, htr2, hlt⟩ := trip_next hmem.out hF hm htr he
        obtain ⟨a, ha⟩ := Int.eq_ofNat_of_zero_le b2
        have hb0 : 0 ≤ gi (arrA P xs F m) a := by
          obtain ⟨u, _, e3, _, h5, _⟩ := htr2
          rw [ha] at e3
          simp only [List.cons.injEq] at e3
          rw [e3.1]; exact h5
        rw [ha] at htr2 hlt
        have hah := hid ha
        have hT9 : Hid (∀ u : Nat, u < P → wr.cell? ⟨g9, u, none⟩ = some (.int .i64 (gi (arrA P xs F m) u))) := fun u hu => ((bcell hB).1 g9 u hg9h).trans (hTm.out u hu)
        have hg9r : g9 < wr.heap.size := Nat.lt_of_lt_of_le hg9h hB.size
        clear ha htr
        go_wp2_with (first | (go_at_call 47; refine (l12Before _ _ _ P g9 _ v xs (arrA P xs F m) _ (hS.bel hBw) hP2 hn12 hG.out hA.out hg9r hT9.out hvP).mono ?_; rintro _ w5 ⟨rfl, hb5⟩; rw [hah.out]) | (at_builtin; refine wpList_more rfl (.tmp 57) (.tmp 58) 27 rfl w5.heap.size 3 (.int .i64 0) 1 8 Try.underlying27 info_int rfl (by omega) (some ⟨w5.heap.size, 0, none⟩) 1 1 _ rfl (own_one (Nat.le_refl _)) ⟨g, 0, none⟩ k c' (ints ((v : Int) :: l')) rfl (by have := hkh.out; rw [ints_len, List.length_cons]; omega) (own_cells (own_bel hown (hb5.trans ((bel_alloc (bel_refl w5)).mono hb5.size)))) (oneCell_ints _) (by omega) (by omega) (by simp) ?_; intro A' c3 w6 hown6 hb6 hg6))
        obtain ⟨g6, rfl, hg6l, hg6h⟩ := own_form hown6 hk1
        have hb66 : Below wr.heap.size wr w6 := (hb5.trans (bel_alloc (bel_refl w5) |>.mono hb5.size)).trans (hb6.mono hb5.size)
        have hcell := own_cells hown6 0 _ (show ([Value.int .i64 (a : Int)] ++ ints ((v : Int) :: l'))[0]? = some (.int .i64 (a : Int)) from rfl)
        rw [Addr.add_lit, Nat.zero_add] at hcell
        go_roundw
        case rel => exact ⟨g6, 1 + k, c3, (a : Int) :: (v : Int) :: l', rfl, own_low hown6 (by have := hBw.size; have := hb5.size; omega), htr2, bel_trans hB hb66⟩
        case measure =>
          rw [hmeas.out, headT_eq hcell]
          omega
end Go.Proofs.Ytfimchbjpambfaa
