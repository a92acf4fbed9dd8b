/-
  The places of a trip, of the program, walked.
-/
import Derived.Test.YtfimchbjpambfaaRoadTripI
namespace Go.Proofs.Ytfimchbjpambfaa
open Go.RowKit

theorem cell_past0 {w : World} {o : Obj} {b : Nat} {v : Value} (h : b < w.heap.size) (hc : w.cell? ⟨b, 0, none⟩ = some v) : (w.alloc o).cell? ⟨b, 0, none⟩ = some v := by rw [World.cell?_alloc_past _ _ _ h]; exact hc
def headW (s : List Int) (tb : Nat) (w : World) : Nat :=
  match w.cell? ⟨tb, 0, none⟩ with
  | some q => headT s q w
  | none => 0
theorem headW_eq {s : List Int} {tb g k c : Nat} {w : World} {v : Int} (h1 : w.cell? ⟨tb, 0, none⟩ = some (.slice (some ⟨g, 0, none⟩) k c)) (h : w.cell? ⟨g, 0, none⟩ = some (.int .i64 v)) : headW s tb w = (gi s v).toNat := by
  unfold headW
  simp only [h1]
  exact headT_eq h
/-- The state at the head of the loop. -/
structure TL (W : World) (sb g P c tb : Nat) (s : List Int) (l : List Int) (tg k tc : Nat) (w : World) : Prop where
  tbox : w.cell? ⟨tb, 0, none⟩ = some (.slice (some ⟨tg, 0, none⟩) k tc)
  tfz : w.frozen? ⟨tb, 0, none⟩ = false
  own : w.ownsRow W.heap.size 3 1 (.slice (some ⟨tg, 0, none⟩) k tc) k (ints l)
  sbox : w.cell? ⟨sb, 0, none⟩ = some (.slice (some ⟨g, 0, none⟩) P c)
  times : ∀ u : Nat, u < P → w.cell? ⟨g, u, none⟩ = some (.int .i64 (gi s u))
  apart : tb ≠ tg ∧ tb ≠ sb ∧ tb ≠ g
  bel : Below W.heap.size W w
  low : W.heap.size ≤ tb
theorem tl_start {W w2 : World} {g P c : Nat} {s : List Int} {T : Int} (hb : Below W.heap.size W w2) (hg : g < w2.heap.size) (hT : ∀ u : Nat, u < P → w2.cell? ⟨g, u, none⟩ = some (.int .i64 (gi s u))) :
    TL W w2.heap.size g P c (w2.heap.size + 2) s [T] (w2.heap.size + 1) 1 1 (((w2.alloc (.cells #[.slice (some ⟨g, 0, none⟩) P c] 27)).alloc (.cells #[.int .i64 T] 3)).alloc (.cells #[.slice (some ⟨w2.heap.size + 1, 0, none⟩) 1 1] 27)) := by
  generalize hX : w2.alloc (.cells #[.slice (some ⟨g, 0, none⟩) P c] 27) = X
  have hXs : X.heap.size = w2.heap.size + 1 := by rw [← hX]; simp
  have hXb : Below w2.heap.size w2 X := by rw [← hX]; exact bel_alloc (bel_refl _)
  have hXc : X.cell? ⟨w2.heap.size, 0, none⟩ = some (.slice (some ⟨g, 0, none⟩) P c) := by rw [← hX, cell_of_row _ _ 0 _ _ (0, 0) (heap_alloc_new w2 _)]; rfl
  generalize hY : X.alloc (.cells #[.int .i64 T] 3) = Y
  have hYs : Y.heap.size = w2.heap.size + 2 := by rw [← hY]; simp [hXs]
  have hYb : Below X.heap.size X Y := by rw [← hY]; exact bel_alloc (bel_refl _)
  have hYo : Y.ownsRow W.heap.size 3 1 (.slice (some ⟨w2.heap.size + 1, 0, none⟩) 1 1) 1 (ints [T]) := by
    rw [← hY, ← hXs]; exact own_one (by have := hb.size; omega)
  generalize hZ : Y.alloc (.cells #[.slice (some ⟨w2.heap.size + 1, 0, none⟩) 1 1] 27) = Z
  have hZb : Below Y.heap.size Y Z := by rw [← hZ]; exact bel_alloc (bel_refl _)
  have hall := bel_trans hXb (bel_trans hYb hZb)
  refine ⟨?_, ?_, own_bel hYo hZb, ?_, fun u hu => ?_, ⟨by omega, by omega, by omega⟩, bel_trans hb hall, by have := hb.size; omega⟩
  · rw [← hZ, ← hYs, cell_of_row _ _ 0 _ _ (0, 0) (heap_alloc_new Y _)]; rfl
  · rw [← hZ, ← hYs, World.frozen?_alloc_new]
  · exact ((bcell (bel_trans hYb hZb)).1 _ 0 (by omega)).trans hXc
  · exact ((bcell hall).1 g u hg).trans (hT u hu)
set_option maxRecDepth 100000 in
set_option maxHeartbeats 4000000 in
theorem tripI (p : Int) (A : Option Addr) (n c : Nat) (xs : List Road) (f t m : Int) (w : World) (hS : Sl w 4 A n c (xs.flatMap Road.row)) (hn : n ≤ 1048576) :
    Calls Try.prog 16 #[.int .i64 p, .slice A n c, .int .i64 f, .int .i64 t, .int .i64 m] w fun e w' => ∃ A' n' c', e = .returned (.tuple #[.slice A' n' c', .bool (tripR p xs f t m).2]) ∧ Own w.heap.size w'.heap.size w' 3 1 A' n' c' (ints (tripR p xs f t m).1) ∧ Below w.heap.size w w' := by
  have hB2 := bel_refl w
  have hmf : ∀ (fn : Fn) (first cap : Array Value) (w : World), (Instr.makeFunc fn first cap).run Try.prog w = .ok (.func fn first cap) w := fun _ _ _ _ => rfl
  rcases hg : netB p xs with _ | _
  · have hR : Hid (tripR p xs f t m = ([], false)) := by show _ = _; simp [tripR, hg]
    go_enter Try.func16, Try.ntmps16
    go_wp2_with (first | (go_at_call 35; refine (isPlace _ A _ n c 2 2 xs [_, _] _ (hS.bel (by (repeat' (first | (with_reducible exact bel_refl _) | (with_reducible assumption) | (with_reducible refine bel_drew ?_) | (with_reducible refine bel_drewN ?_) | (with_reducible refine bel_alloc ?_) | (with_reducible refine bel_set ?_ ?_) | (with_reducible refine bel_trans ?_ (by with_reducible assumption)) | omega | (simp; done) | (simp; omega))))) hn (two_ints (by first | rfl | simp)) (by omega)).mono ?_; rintro _ w1 ⟨rfl, hB1⟩; (try rw [placesB_two]); (first | (with_reducible replace hB2 := bel_trans hB2 hB1) | (with_reducible replace hB2 := bel_trans (bel_alloc hB2) hB1)); obtain ⟨hC1, hF1⟩ := bcell hB2; replace hB1 := hB1) | (go_at_call 36; refine (isMinute _ _).mono ?_; rintro _ w1 ⟨rfl, rfl⟩))
    go_ret2; exact ⟨none, 0, 0, by rw [hR.out]; rfl, by rw [hR.out]; exact Own.mk_ (World.ownsRow_nil _ _ _ _), by (repeat' (first | (with_reducible exact bel_refl _) | (with_reducible assumption) | (with_reducible refine bel_drew ?_) | (with_reducible refine bel_drewN ?_) | (with_reducible refine bel_alloc ?_) | (with_reducible refine bel_set ?_ ?_) | (with_reducible refine bel_trans ?_ (by with_reducible assumption)) | omega | (simp; done) | (simp; omega)))⟩
  rcases h1 : inB f 0 (p - 1) with _ | _
  · have hR : Hid (tripR p xs f t m = ([], false)) := by show _ = _; simp [tripR, h1]
    go_enter Try.func16, Try.ntmps16
    go_wp2_with (first | (go_at_call 35; refine (isPlace _ A _ n c 2 2 xs [_, _] _ (hS.bel (by (repeat' (first | (with_reducible exact bel_refl _) | (with_reducible assumption) | (with_reducible refine bel_drew ?_) | (with_reducible refine bel_drewN ?_) | (with_reducible refine bel_alloc ?_) | (with_reducible refine bel_set ?_ ?_) | (with_reducible refine bel_trans ?_ (by with_reducible assumption)) | omega | (simp; done) | (simp; omega))))) hn (two_ints (by first | rfl | simp)) (by omega)).mono ?_; rintro _ w1 ⟨rfl, hB1⟩; (try rw [placesB_two]); (first | (with_reducible replace hB2 := bel_trans hB2 hB1) | (with_reducible replace hB2 := bel_trans (bel_alloc hB2) hB1)); obtain ⟨hC1, hF1⟩ := bcell hB2; replace hB1 := hB1) | (go_at_call 36; refine (isMinute _ _).mono ?_; rintro _ w1 ⟨rfl, rfl⟩))
    go_ret2; exact ⟨none, 0, 0, by rw [hR.out]; rfl, by rw [hR.out]; exact Own.mk_ (World.ownsRow_nil _ _ _ _), by (repeat' (first | (with_reducible exact bel_refl _) | (with_reducible assumption) | (with_reducible refine bel_drew ?_) | (with_reducible refine bel_drewN ?_) | (with_reducible refine bel_alloc ?_) | (with_reducible refine bel_set ?_ ?_) | (with_reducible refine bel_trans ?_ (by with_reducible assumption)) | omega | (simp; done) | (simp; omega)))⟩
  rcases h2 : inB t 0 (p - 1) with _ | _
  · have hR : Hid (tripR p xs f t m = ([], false)) := by show _ = _; simp [tripR, h2]
    go_enter Try.func16, Try.ntmps16
    go_wp2_with (first | (go_at_call 35; refine (isPlace _ A _ n c 2 2 xs [_, _] _ (hS.bel (by (repeat' (first | (with_reducible exact bel_refl _) | (with_reducible assumption) | (with_reducible refine bel_drew ?_) | (with_reducible refine bel_drewN ?_) | (with_reducible refine bel_alloc ?_) | (with_reducible refine bel_set ?_ ?_) | (with_reducible refine bel_trans ?_ (by with_reducible assumption)) | omega | (simp; done) | (simp; omega))))) hn (two_ints (by first | rfl | simp)) (by omega)).mono ?_; rintro _ w1 ⟨rfl, hB1⟩; (try rw [placesB_two]); (first | (with_reducible replace hB2 := bel_trans hB2 hB1) | (with_reducible replace hB2 := bel_trans (bel_alloc hB2) hB1)); obtain ⟨hC1, hF1⟩ := bcell hB2; replace hB1 := hB1) | (go_at_call 36; refine (isMinute _ _).mono ?_; rintro _ w1 ⟨rfl, rfl⟩))
    go_ret2; exact ⟨none, 0, 0, by rw [hR.out]; rfl, by rw [hR.out]; exact Own.mk_ (World.ownsRow_nil _ _ _ _), by (repeat' (first | (with_reducible exact bel_refl _) | (with_reducible assumption) | (with_reducible refine bel_drew ?_) | (with_reducible refine bel_drewN ?_) | (with_reducible refine bel_alloc ?_) | (with_reducible refine bel_set ?_ ?_) | (with_reducible refine bel_trans ?_ (by with_reducible assumption)) | omega | (simp; done) | (simp; omega)))⟩
  rcases h3 : inB m 0 999 with _ | _
  · have hR : Hid (tripR p xs f t m = ([], false)) := by show _ = _; simp [tripR, h3]
    go_enter Try.func16, Try.ntmps16
    go_wp2_with (first | (go_at_call 35; refine (isPlace _ A _ n c 2 2 xs [_, _] _ (hS.bel (by (repeat' (first | (with_reducible exact bel_refl _) | (with_reducible assumption) | (with_reducible refine bel_drew ?_) | (with_reducible refine bel_drewN ?_) | (with_reducible refine bel_alloc ?_) | (with_reducible refine bel_set ?_ ?_) | (with_reducible refine bel_trans ?_ (by with_reducible assumption)) | omega | (simp; done) | (simp; omega))))) hn (two_ints (by first | rfl | simp)) (by omega)).mono ?_; rintro _ w1 ⟨rfl, hB1⟩; (try rw [placesB_two]); (first | (with_reducible replace hB2 := bel_trans hB2 hB1) | (with_reducible replace hB2 := bel_trans (bel_alloc hB2) hB1)); obtain ⟨hC1, hF1⟩ := bcell hB2; replace hB1 := hB1) | (go_at_call 36; refine (isMinute _ _).mono ?_; rintro _ w1 ⟨rfl, rfl⟩))
    go_ret2; exact ⟨none, 0, 0, by rw [hR.out]; rfl, by rw [hR.out]; exact Own.mk_ (World.ownsRow_nil _ _ _ _), by (repeat' (first | (with_reducible exact bel_refl _) | (with_reducible assumption) | (with_reducible refine bel_drew ?_) | (with_reducible refine bel_drewN ?_) | (with_reducible refine bel_alloc ?_) | (with_reducible refine bel_set ?_ ?_) | (with_reducible refine bel_trans ?_ (by with_reducible assumption)) | omega | (simp; done) | (simp; omega)))⟩
  have hb := netB_bd hg
  obtain ⟨f0, f1⟩ := inB_iff.1 h1
  obtain ⟨t0, t1⟩ := inB_iff.1 h2
  have hm := inB_iff.1 h3
  obtain ⟨P, rfl⟩ := Int.eq_ofNat_of_zero_le (show 0 ≤ p by omega)
  obtain ⟨F, rfl⟩ := Int.eq_ofNat_of_zero_le f0
  obtain ⟨T, rfl⟩ := Int.eq_ofNat_of_zero_le t0
  have hF : F < P := by omega
  have hT : T < P := by omega
  have hP2 : 2 ≤ P ∧ P ≤ 7 := by omega
  have hT0 : (0 : Int) ≤ (T : Int) := by omega
  have hT1 : (T : Int) < (P : Int) := by omega
  have hg9 := hid hg
  have hlh := hid (hS.xs_len Road.row_len (by omega))
  have hG := hid (netB_all hg)
  have hn12 : n ≤ 12 := by rw [← hlh.out]; exact hb.2.2
  obtain ⟨L0, hL0⟩ : ∃ L, gi (arrA P xs F m) T = L := ⟨_, rfl⟩
  by_cases hl0 : L0 < 0
  · have hR : Hid (tripR P xs F T m = ([], false)) := by show _ = _; simp [tripR, hL0]; intros; omega
    go_enter Try.func16, Try.ntmps16
    go_wp2_with (first | (first | (go_at_call 35; refine (isPlace _ A _ n c 2 2 xs [_, _] _ (hS.bel (by (repeat' (first | (with_reducible exact bel_refl _) | (with_reducible assumption) | (with_reducible refine bel_drew ?_) | (with_reducible refine bel_drewN ?_) | (with_reducible refine bel_alloc ?_) | (with_reducible refine bel_set ?_ ?_) | (with_reducible refine bel_trans ?_ (by with_reducible assumption)) | omega | (simp; done) | (simp; omega))))) hn (two_ints (by first | rfl | simp)) (by omega)).mono ?_; rintro _ w1 ⟨rfl, hB1⟩; (try rw [placesB_two]); (first | (with_reducible replace hB2 := bel_trans hB2 hB1) | (with_reducible replace hB2 := bel_trans (bel_alloc hB2) hB1)); obtain ⟨hC1, hF1⟩ := bcell hB2; replace hB1 := hB1) | (go_at_call 36; refine (isMinute _ _).mono ?_; rintro _ w1 ⟨rfl, rfl⟩)) | (go_at_call 37; refine (arrI _ _ _ P F xs m _ (hS.bel hB2) hg9.out hF hm).mono ?_; rintro _ w2 ⟨A9, c9, rfl, hO9, hb9⟩; obtain ⟨g9, rfl, hg9l, hg9h⟩ := own_form hO9.own (by omega); have f9 := own_gi hO9.own hT; rw [hL0] at f9; replace hB2 := bel_trans hB2 hb9; (try replace hB1 := hB1.trans (hb9.mono hB1.size))))
    go_ret2; exact ⟨none, 0, 0, by rw [hR.out]; rfl, by rw [hR.out]; exact Own.mk_ (World.ownsRow_nil _ _ _ _), by (repeat' (first | (with_reducible exact bel_refl _) | (with_reducible assumption) | (with_reducible refine bel_drew ?_) | (with_reducible refine bel_drewN ?_) | (with_reducible refine bel_alloc ?_) | (with_reducible refine bel_set ?_ ?_) | (with_reducible refine bel_trans ?_ (by with_reducible assumption)) | omega | (simp; done) | (simp; omega)))⟩
  · have hR : Hid (tripR P xs F T m = (tripL P xs F T m, true)) := by
      have hc : (netB P xs && inB F 0 ((P : Int) - 1) && inB T 0 ((P : Int) - 1) && inB m 0 999 && decide (0 ≤ gi (arrA ((P : Int).toNat) xs ((F : Int).toNat) m) T)) = true := by simp [hg, h1, h2, h3, hL0]; omega
      show _ = _
      unfold tripR
      rw [if_pos hc]
      simp
    have hmem := hid (good_mem hG.out)
    have hA := hid (arrA_arr hmem.out hF hm)
    have hst := hid (trip_start (F := F) (nxt := befS P xs (arrA P xs F m)) hT hA.out (by omega))
    go_enter Try.func16, Try.ntmps16
    go_wp2_with (first | (first | (go_at_call 35; refine (isPlace _ A _ n c 2 2 xs [_, _] _ (hS.bel (by (repeat' (first | (with_reducible exact bel_refl _) | (with_reducible assumption) | (with_reducible refine bel_drew ?_) | (with_reducible refine bel_drewN ?_) | (with_reducible refine bel_alloc ?_) | (with_reducible refine bel_set ?_ ?_) | (with_reducible refine bel_trans ?_ (by with_reducible assumption)) | omega | (simp; done) | (simp; omega))))) hn (two_ints (by first | rfl | simp)) (by omega)).mono ?_; rintro _ w1 ⟨rfl, hB1⟩; (try rw [placesB_two]); (first | (with_reducible replace hB2 := bel_trans hB2 hB1) | (with_reducible replace hB2 := bel_trans (bel_alloc hB2) hB1)); obtain ⟨hC1, hF1⟩ := bcell hB2; replace hB1 := hB1) | (go_at_call 36; refine (isMinute _ _).mono ?_; rintro _ w1 ⟨rfl, rfl⟩)) | (go_at_call 37; refine (arrI _ _ _ P F xs m _ (hS.bel hB2) hg9.out hF hm).mono ?_; rintro _ w2 ⟨A9, c9, rfl, hO9, hb9⟩; obtain ⟨g9, rfl, hg9l, hg9h⟩ := own_form hO9.own (by omega); have f9 := own_gi hO9.own hT; rw [hL0] at f9; replace hB2 := bel_trans hB2 hb9; (try replace hB1 := hB1.trans (hb9.mono hB1.size))))
    have hTL : Hid (TL w w2.heap.size g9 P c9 (w2.heap.size + 2) (arrA P xs F m) [(T : Int)] (w2.heap.size + 1) 1 1 (((w2.alloc (.cells #[.slice (some ⟨g9, 0, none⟩) P c9] 27)).alloc (.cells #[.int .i64 T] 3)).alloc (.cells #[.slice (some ⟨w2.heap.size + 1, 0, none⟩) 1 1] 27))) := tl_start hB2 hg9h (fun u hu => own_gi hO9.own hu)
    clear hg h1 h2 h3
    go_loopw [14] (fun _ wr => ∃ (g k c' : Nat) (l : List Int), TL w w2.heap.size g9 P c9 (w2.heap.size + 2) (arrA P xs F m) l g k c' wr ∧ Trip (arrA P xs F m) P F (befS P xs (arrA P xs F m)) (tripL P xs F T m) l) (fun _ wr => headW (arrA P xs F m) (w2.heap.size + 2) wr)
    case atStart => exact ⟨_, _, _, [(T : Int)], hTL.out, hst.out⟩
    case round =>
      obtain ⟨g, k, c', l, hTLr, htr⟩ := hrel
      obtain ⟨v, l', rfl, hvP, hv0, nn, hnn, hll, _⟩ := id htr
      obtain ⟨q1, q2, hown, q4, q5, ⟨n1, n2, n3⟩, hBw, q8⟩ := hTLr
      have hkh := hid (show k = l'.length + 1 by have := hown.1; rw [ints_len, List.length_cons] at this; omega)
      rw [List.length_cons] at hll
      have hkl : k ≤ 1001 := by have := hkh.out; omega
      have hk1 : 0 < 1 + k := by omega
      have c0 := own_cells hown 0 _ (ints_get (i := 0) rfl)
      rw [Addr.add_lit, Nat.zero_add] at c0
      have hk0 : (0 : Int) < (k : Int) := by have := hkh.out; omega
      have hmeas := hid (headW_eq (s := arrA P xs F m) q1 c0)
      have l1 : w2.heap.size + 2 < wr.heap.size := World.block_lt_of_cell? wr _ q1
      have l2 : g < wr.heap.size := World.block_lt_of_cell? wr _ c0
      have l3 : w2.heap.size < wr.heap.size := World.block_lt_of_cell? wr _ q4
      have l4 : g9 < wr.heap.size := World.block_lt_of_cell? wr _ (q5 0 (by omega))
      by_cases he : v = F
      · subst he
        obtain ⟨v2, l2, e2, _, _, n2, _, _, hR2⟩ := htr
        rw [tripN_end (by simp)] at hR2
        have hq : ((v : Int) == (v : Int)) = true := by simp
        go_wp2
        go_ret2
        exact ⟨some ⟨g, 0, none⟩, k, c', by rw [hR.out]; rfl, by rw [hR.out]; show Own _ _ _ _ _ _ _ _ (ints (tripL P xs v T m)); rw [← hR2]; exact Own.mk_ hown, hBw⟩
      · have hq : ((v : Int) == (F : Int)) = false := by rw [beq_eq_false_iff_ne]; omega
        obtain ⟨b1, b2, b3, htr2, hlt⟩ := trip_next hmem.out hF hm htr he
        obtain ⟨a, ha⟩ := Int.eq_ofNat_of_zero_le b2
        have hb0 : 0 ≤ gi (arrA P xs F m) a := by
          obtain ⟨u, _, e3, _, h5, _⟩ := htr2
          rw [ha] at e3
          simp only [List.cons.injEq] at e3
          rw [e3.1]; exact h5
        rw [ha] at htr2 hlt b3 b1
        have hqa : ((a : Int) == (P : Int)) = false := by rw [beq_eq_false_iff_ne]; omega
        have hah := hid (b1)
        have hTS : Hid (TS w2.heap.size g9 P c9 (w2.heap.size + 2) g k c' wr.heap.size (arrA P xs F m) v P (wr.alloc (.cells #[.int .i64 (P : Int)] 3))) := ⟨cell_past0 l1 q1, cell_past0 l2 c0, cell_past0 l3 q4, fun u hu => by rw [World.cell?_alloc_past _ _ _ l4]; exact q5 u hu, by rw [cell_of_row _ _ 0 _ _ (0, 0) (heap_alloc_new wr _)]; rfl, World.frozen?_alloc_new .., ⟨by omega, by omega, by omega, by omega⟩, ⟨by omega, by omega⟩⟩
        have hSb : Hid (0 < n → ∀ b, A.map (·.block) = some b → b ≠ wr.heap.size) := fun hn0 b hb => by
          obtain ⟨b', o', rfl, hlt', _⟩ := hS.at_ hn0
          simp only [Option.map_some, Option.some.injEq] at hb
          have := hBw.size
          omega
        clear ha htr b1
        go_wp2_with (first | (go_at_call 45; refine (walkLegsT _ _ _ _ _ P _ _ _ _ _ _ xs _ v P _ hTS.out hA.out (hS.bel (bel_alloc hBw)) hSb.out hn12 hG.out).mono ?_; rintro _ w5 ⟨rfl, hT5, hg5⟩; have hb5 : Below wr.heap.size wr w5 := (bel_alloc (bel_refl wr)).grown hg5 (by simp) (fun k hk => by simp at hk; omega); have e5 := hT5.bbox; rw [hah.out] at e5; have d5 := hT5.tbox; have l5 := Nat.lt_of_lt_of_le l1 hb5.size; have l6 := World.block_lt_of_cell? w5 _ e5; have hown5 := own_bel hown hb5; have z5 := ((bcell hb5).2 _ 0 l1).trans q2) | (at_builtin; refine wpList_more rfl (.tmp 52) (.tmp 53) 27 rfl w5.heap.size 3 (.int .i64 0) 1 8 Try.underlying27 info_int rfl (by omega) (some ⟨w5.heap.size, 0, none⟩) 1 1 _ rfl (own_one (Nat.le_refl _)) ⟨g, 0, none⟩ k c' (ints ((v : Int) :: l')) rfl (by have := hkh.out; rw [ints_len, List.length_cons]; omega) (own_cells (own_bel hown5 (bel_alloc (bel_refl w5)))) (oneCell_ints _) (by omega) (by omega) (by simp) ?_; intro A' c3 w6 hown6 hb6 hg6; have hb7 : Below w5.heap.size w5 w6 := (bel_alloc (bel_refl w5)).trans hb6; have d6 := ((bcell hb7).1 _ 0 l5).trans d5; have z6 := ((bcell hb7).2 _ 0 l5).trans z5))
        obtain ⟨g6, rfl, hg6l, hg6h⟩ := own_form hown6 hk1
        have hb66 : Below wr.heap.size wr w6 := bel_trans hb5 hb7
        have hcell := own_cells hown6 0 _ (show ([Value.int .i64 (a : Int)] ++ ints ((v : Int) :: l'))[0]? = some (.int .i64 (a : Int)) from rfl)
        rw [Addr.add_lit, Nat.zero_add] at hcell
        have hne : w2.heap.size + 2 ≠ g6 := by omega
        have f1 : (w6.setCell ⟨w2.heap.size + 2, 0, none⟩ (.slice (some ⟨g6, 0, none⟩) (1 + k) c3)).cell? ⟨w2.heap.size + 2, 0, none⟩ = some (.slice (some ⟨g6, 0, none⟩) (1 + k) c3) := World.cell?_setCell_same _ _ _ d6
        have f2 : (w6.setCell ⟨w2.heap.size + 2, 0, none⟩ (.slice (some ⟨g6, 0, none⟩) (1 + k) c3)).cell? ⟨g6, 0, none⟩ = some (.int .i64 (a : Int)) := cell_set_far hne hcell
        go_roundw
        case rel =>
          refine ⟨g6, 1 + k, c3, (a : Int) :: (v : Int) :: l', ⟨f1, by rw [World.frozen?_setCell]; exact z6, ?_, cell_set_far (by omega) (((bcell hb66).1 _ 0 l3).trans q4), fun u hu => cell_set_far n3 (((bcell hb66).1 g9 u l4).trans (q5 u hu)), ⟨hne, n2, n3⟩, (bel_trans hBw hb66).setCell (p := ⟨w2.heap.size + 2, 0, none⟩) q8 _, q8⟩, htr2⟩
          exact (own_low hown6 (by have := hBw.size; have := hb5.size; omega)).kept (row := some (w2.heap.size + 2)) (grown_set (grown_of_bel (bel_refl w6) _) _) (Or.inr (by simpa [Value.ownBlock] using fun e => hne e.symm))
        case measure =>
          rw [hmeas.out, headW_eq f1 f2]
          omega
end Go.Proofs.Ytfimchbjpambfaa
