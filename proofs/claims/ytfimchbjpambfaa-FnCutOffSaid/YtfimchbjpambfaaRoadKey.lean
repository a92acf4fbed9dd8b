/-
  The roads without which no trip arrives: of the program and of the reference, walked.
-/
import Derived.Test.YtfimchbjpambfaaRoadCut
import Derived.Test.YtfimchbjpambfaaPick
namespace Go.Proofs.Ytfimchbjpambfaa
open Go.RowKit

theorem flat_drop {α : Type} {row : α → List Value} {k : Nat} (hrow : ∀ x, (row x).length = k) : ∀ (xs : List α) (i : Nat), (xs.drop i).flatMap row = (xs.flatMap row).drop (i * k)
  | [], i => by simp
  | x :: xs, 0 => by simp
  | x :: xs, i + 1 => by
    have e : (i + 1) * k = (row x).length + i * k := by rw [hrow, Nat.add_mul]; omega
    rw [List.drop_succ_cons, List.flatMap_cons, flat_drop hrow xs i, e, List.drop_append, List.drop_of_length_le (show (row x).length ≤ (row x).length + i * k from Nat.le_add_right _ _), List.nil_append, Nat.add_sub_cancel_left]
theorem flat_take {α : Type} {row : α → List Value} {k : Nat} (hrow : ∀ x, (row x).length = k) : ∀ (xs : List α) (i : Nat), (xs.take i).flatMap row = (xs.flatMap row).take (i * k)
  | [], i => by simp
  | x :: xs, 0 => by simp
  | x :: xs, i + 1 => by
    have e : (i + 1) * k = (row x).length + i * k := by rw [hrow, Nat.add_mul]; omega
    rw [List.take_succ_cons, List.flatMap_cons, List.flatMap_cons, flat_take hrow xs i, e, List.take_append, List.take_of_length_le (show (row x).length ≤ (row x).length + i * k from Nat.le_add_right _ _), Nat.add_sub_cancel_left]
theorem oneCell_roads (xs : List Road) : ∀ u ∈ xs.flatMap Road.row, u.oneCell' = true := fun u hu => by
  obtain ⟨x, _, h⟩ := List.mem_flatMap.1 hu
  exact oneCell_road x u h
theorem Sl.takeR {w : World} {b o n c i : Nat} {xs : List Road} (h : Sl w 4 (some ⟨b, o, none⟩) n c (xs.flatMap Road.row)) (hi : i ≤ n) : Sl w 4 (some ⟨b, o, none⟩) i c ((xs.take i).flatMap Road.row) := by
  have hl := h.xs_len Road.row_len (by omega)
  have hc := h.cap
  refine ⟨by rw [flat_len Road.row_len, List.length_take]; congr 1; omega, by omega, h.max, fun hn => ?_⟩
  obtain ⟨b', o', e, hb, hcl⟩ := h.at_ (by omega)
  simp only [Option.some.injEq, Addr.mk.injEq, and_true] at e
  obtain ⟨rfl, rfl⟩ := e
  refine ⟨b, o, rfl, hb, fun j v hv => hcl j v ?_⟩
  rw [flat_take Road.row_len, List.getElem?_take] at hv
  split at hv
  · exact hv
  · cases hv
theorem drop_cells {w : World} {b o n c i : Nat} {xs : List Road} (h : Sl w 4 (some ⟨b, o, none⟩) n c (xs.flatMap Road.row)) (hi : i < n) : ∀ j u, ((xs.drop (i + 1)).flatMap Road.row)[j]? = some u → w.cell? ((⟨b, o + (i + 1) * 4, none⟩ : Addr).add j) = some u := fun j u hu => by
  obtain ⟨b', o', e, hb, hcl⟩ := h.at_ (by omega)
  simp only [Option.some.injEq, Addr.mk.injEq, and_true] at e
  obtain ⟨rfl, rfl⟩ := e
  rw [flat_drop Road.row_len, List.getElem?_drop] at hu
  have := hcl _ _ hu
  rw [Addr.add_lit]
  rwa [show o + (i + 1) * 4 + j = o + ((i + 1) * 4 + j) by omega]
def without (xs : List Road) (i : Nat) : List Road := xs.take i ++ xs.drop (i + 1)
theorem without_flat (xs : List Road) (i : Nat) : (without xs i).flatMap Road.row = (xs.take i).flatMap Road.row ++ (xs.drop (i + 1)).flatMap Road.row := by simp [without]
theorem without_all {p : Int} {xs : List Road} (h : allR p xs) (i : Nat) : allR p (without xs i) := fun j x hx => by
  have hm := List.mem_of_getElem? hx
  simp only [without, List.mem_append] at hm
  rcases hm with h1 | h1
  · exact good_mem h x (List.mem_of_mem_take h1)
  · exact good_mem h x (List.mem_of_mem_drop h1)
theorem copyRoads (b o n c : Nat) (xs : List Road) (w : World) (hS : Sl w 4 (some ⟨b, o, none⟩) n c (xs.flatMap Road.row)) (hn : n ≤ 12) :
    Calls Try.prog 58 #[.slice (some ⟨b, o, none⟩) n c] w fun e w' => ∃ A' c', e = .returned (.slice A' n c') ∧ w'.ownsRow w.heap.size 39 4 (.slice A' n c') n (xs.flatMap Road.row) ∧ Below w.heap.size w w' := by
  have hl := hS.len
  have hcell : ∀ j u, (xs.flatMap Road.row)[j]? = some u → (w.alloc (.cells #[] 39)).cell? ((⟨b, o, none⟩ : Addr).add j) = some u := fun j u hu => by
    have hj := (List.getElem?_eq_some_iff.1 hu).1
    obtain ⟨b', o', e, hb, hcl⟩ := (hS.alloc (.cells #[] 39)).at_ (by omega)
    simp only [Option.some.injEq, Addr.mk.injEq, and_true] at e
    obtain ⟨rfl, rfl⟩ := e
    rw [Addr.add_lit]
    exact hcl j u hu
  have hown := own_empty (w := w) (size := 4) (e := 39) (Nat.le_refl _)
  go_enter Try.func58, Try.ntmps58
  go_wp2_with (at_builtin; refine wpList_more rfl (.tmp 3) (.tmp 4) 24 rfl w.heap.size 39 (.agg #[.int .i64 0, .int .i64 0, .int .i64 0, .int .i64 0]) 4 32 Try.underlying24 info_Road rfl (by omega) (some ⟨w.heap.size, 0, none⟩) 0 0 [] rfl hown ⟨b, o, none⟩ n c _ rfl hl hcell (oneCell_roads xs) (by omega) (by omega) (by simp) ?_; intro A' c' w3 hown2 hb3 hg3)
  go_ret
  rw [Nat.zero_add, List.nil_append] at hown2
  exact ⟨A', c', rfl, hown2, (bel_alloc (bel_refl w)).trans hb3⟩
def keyB (P : Nat) (xs : List Road) (F T : Nat) (m : Int) (i : Nat) : Bool := decide (gi (arrA P (without xs i) F m) T < 0)
def keyL (P : Nat) (xs : List Road) (F T : Nat) (m : Int) (k : Nat) : List Int := ((List.range k).filter (keyB P xs F T m)).map Int.ofNat
theorem key_yes {P : Nat} {xs : List Road} {F T : Nat} {m : Int} {k : Nat} (h : keyB P xs F T m k = true) : keyL P xs F T m k ++ [(k : Int)] = keyL P xs F T m (k + 1) := by
  unfold keyL
  rw [List.range_succ, List.filter_append]
  simp [h]
theorem key_no {P : Nat} {xs : List Road} {F T : Nat} {m : Int} {k : Nat} (h : keyB P xs F T m k = false) : keyL P xs F T m k = keyL P xs F T m (k + 1) := by
  unfold keyL
  rw [List.range_succ, List.filter_append]
  simp [h]
theorem key_len (P : Nat) (xs : List Road) (F T : Nat) (m : Int) (k : Nat) : (keyL P xs F T m k).length ≤ k := by
  unfold keyL
  rw [List.length_map]
  have := List.length_filter_le (keyB P xs F T m) (List.range k)
  rwa [List.length_range] at this
def keyR (p : Int) (xs : List Road) (f t m : Int) : List Int × Bool := if netB p xs && inB f 0 (p - 1) && inB t 0 (p - 1) && inB m 0 999 && decide (0 ≤ gi (arrA p.toNat xs f.toNat m) t) then (keyL p.toNat xs f.toNat t.toNat m xs.length, true) else ([], false)
theorem keyR_len (p : Int) (xs : List Road) (f t m : Int) : (keyR p xs f t m).1.length ≤ 1048576 := by
  unfold keyR
  split
  · rename_i hc
    simp only [Bool.and_eq_true] at hc
    have hb := netB_bd hc.1.1.1.1
    have := key_len p.toNat xs f.toNat t.toNat m xs.length
    exact Nat.le_trans this (by omega)
  · simp
theorem two_ints {w : World} {u v : Int} {g : Nat} (hg : g = w.heap.size) : Sl (w.alloc (.cells #[.int .i64 u, .int .i64 v] 3)) 1 (some ⟨g, 0, none⟩) 2 2 (ints [u, v]) :=
  hg ▸ ⟨by simp [ints], by omega, by simp [maxLen], fun _ => ⟨_, _, rfl, by simp, fun j x hx => by
    rw [Nat.zero_add, cell_of_row _ _ j _ _ (0, 0) (heap_alloc_new w _)]
    simpa [ints] using hx⟩⟩
theorem placesB_two (p u v : Int) : placesB p [u, v] = (inB u 0 (p - 1) && inB v 0 (p - 1)) := by simp [placesB]

set_option maxRecDepth 100000 in
set_option maxHeartbeats 4000000 in
theorem keyI (p : Int) (A : Option Addr) (n c : Nat) (xs : List Road) (f t m : Int) (w : World) (hS : Sl w 4 A n c (xs.flatMap Road.row)) (hn : n ≤ 1048576) :
    Calls Try.prog 30 #[.int .i64 p, .slice A n c, .int .i64 f, .int .i64 t, .int .i64 m] w fun e w' => ∃ A' n' c', e = .returned (.tuple #[.slice A' n' c', .bool (keyR p xs f t m).2]) ∧ Own w.heap.size w'.heap.size w' 3 1 A' n' c' (ints (keyR p xs f t m).1) ∧ Below w.heap.size w w' := by
  have hB2 := bel_refl w
  rcases hg : netB p xs with _ | _
  · have hR : Hid (keyR p xs f t m = ([], false)) := by show _ = _; simp [keyR, hg]
    go_enter Try.func30, Try.ntmps30
    go_wp2_with (first | (go_at_call 35; refine (isPlace _ A _ n c 2 2 xs [_, _] _ (hS.bel (by (repeat' (first | (with_reducible exact bel_refl _) | (with_reducible assumption) | (with_reducible refine bel_drew ?_) | (with_reducible refine bel_drewN ?_) | (with_reducible refine bel_alloc ?_) | (with_reducible refine bel_set ?_ ?_) | (with_reducible refine bel_trans ?_ (by with_reducible assumption)) | omega | (simp; done) | (simp; omega))))) hn (two_ints (by first | rfl | simp)) (by omega)).mono ?_; rintro _ w1 ⟨rfl, hB1⟩; (try rw [placesB_two]); (first | (with_reducible replace hB2 := bel_trans hB2 hB1) | (with_reducible replace hB2 := bel_trans (bel_alloc hB2) hB1)); obtain ⟨hC1, hF1⟩ := bcell hB2; replace hB1 := hB1) | (go_at_call 36; refine (isMinute _ _).mono ?_; rintro _ w1 ⟨rfl, rfl⟩))
    go_ret2; exact ⟨none, 0, 0, by rw [hR.out]; rfl, by rw [hR.out]; exact Own.mk_ (World.ownsRow_nil _ _ _ _), by (repeat' (first | (with_reducible exact bel_refl _) | (with_reducible assumption) | (with_reducible refine bel_drew ?_) | (with_reducible refine bel_drewN ?_) | (with_reducible refine bel_alloc ?_) | (with_reducible refine bel_set ?_ ?_) | (with_reducible refine bel_trans ?_ (by with_reducible assumption)) | omega | (simp; done) | (simp; omega)))⟩
  · rcases h1 : inB f 0 (p - 1) with _ | _
    · have hR : Hid (keyR p xs f t m = ([], false)) := by show _ = _; simp [keyR, h1]
      go_enter Try.func30, Try.ntmps30
      go_wp2_with (first | (go_at_call 35; refine (isPlace _ A _ n c 2 2 xs [_, _] _ (hS.bel (by (repeat' (first | (with_reducible exact bel_refl _) | (with_reducible assumption) | (with_reducible refine bel_drew ?_) | (with_reducible refine bel_drewN ?_) | (with_reducible refine bel_alloc ?_) | (with_reducible refine bel_set ?_ ?_) | (with_reducible refine bel_trans ?_ (by with_reducible assumption)) | omega | (simp; done) | (simp; omega))))) hn (two_ints (by first | rfl | simp)) (by omega)).mono ?_; rintro _ w1 ⟨rfl, hB1⟩; (try rw [placesB_two]); (first | (with_reducible replace hB2 := bel_trans hB2 hB1) | (with_reducible replace hB2 := bel_trans (bel_alloc hB2) hB1)); obtain ⟨hC1, hF1⟩ := bcell hB2; replace hB1 := hB1) | (go_at_call 36; refine (isMinute _ _).mono ?_; rintro _ w1 ⟨rfl, rfl⟩))
      go_ret2; exact ⟨none, 0, 0, by rw [hR.out]; rfl, by rw [hR.out]; exact Own.mk_ (World.ownsRow_nil _ _ _ _), by (repeat' (first | (with_reducible exact bel_refl _) | (with_reducible assumption) | (with_reducible refine bel_drew ?_) | (with_reducible refine bel_drewN ?_) | (with_reducible refine bel_alloc ?_) | (with_reducible refine bel_set ?_ ?_) | (with_reducible refine bel_trans ?_ (by with_reducible assumption)) | omega | (simp; done) | (simp; omega)))⟩
    · rcases h2 : inB t 0 (p - 1) with _ | _
      · have hR : Hid (keyR p xs f t m = ([], false)) := by show _ = _; simp [keyR, h2]
        go_enter Try.func30, Try.ntmps30
        go_wp2_with (first | (go_at_call 35; refine (isPlace _ A _ n c 2 2 xs [_, _] _ (hS.bel (by (repeat' (first | (with_reducible exact bel_refl _) | (with_reducible assumption) | (with_reducible refine bel_drew ?_) | (with_reducible refine bel_drewN ?_) | (with_reducible refine bel_alloc ?_) | (with_reducible refine bel_set ?_ ?_) | (with_reducible refine bel_trans ?_ (by with_reducible assumption)) | omega | (simp; done) | (simp; omega))))) hn (two_ints (by first | rfl | simp)) (by omega)).mono ?_; rintro _ w1 ⟨rfl, hB1⟩; (try rw [placesB_two]); (first | (with_reducible replace hB2 := bel_trans hB2 hB1) | (with_reducible replace hB2 := bel_trans (bel_alloc hB2) hB1)); obtain ⟨hC1, hF1⟩ := bcell hB2; replace hB1 := hB1) | (go_at_call 36; refine (isMinute _ _).mono ?_; rintro _ w1 ⟨rfl, rfl⟩))
        go_ret2; exact ⟨none, 0, 0, by rw [hR.out]; rfl, by rw [hR.out]; exact Own.mk_ (World.ownsRow_nil _ _ _ _), by (repeat' (first | (with_reducible exact bel_refl _) | (with_reducible assumption) | (with_reducible refine bel_drew ?_) | (with_reducible refine bel_drewN ?_) | (with_reducible refine bel_alloc ?_) | (with_reducible refine bel_set ?_ ?_) | (with_reducible refine bel_trans ?_ (by with_reducible assumption)) | omega | (simp; done) | (simp; omega)))⟩
      · rcases h3 : inB m 0 999 with _ | _
        · have hR : Hid (keyR p xs f t m = ([], false)) := by show _ = _; simp [keyR, h3]
          go_enter Try.func30, Try.ntmps30
          go_wp2_with (first | (go_at_call 35; refine (isPlace _ A _ n c 2 2 xs [_, _] _ (hS.bel (by (repeat' (first | (with_reducible exact bel_refl _) | (with_reducible assumption) | (with_reducible refine bel_drew ?_) | (with_reducible refine bel_drewN ?_) | (with_reducible refine bel_alloc ?_) | (with_reducible refine bel_set ?_ ?_) | (with_reducible refine bel_trans ?_ (by with_reducible assumption)) | omega | (simp; done) | (simp; omega))))) hn (two_ints (by first | rfl | simp)) (by omega)).mono ?_; rintro _ w1 ⟨rfl, hB1⟩; (try rw [placesB_two]); (first | (with_reducible replace hB2 := bel_trans hB2 hB1) | (with_reducible replace hB2 := bel_trans (bel_alloc hB2) hB1)); obtain ⟨hC1, hF1⟩ := bcell hB2; replace hB1 := hB1) | (go_at_call 36; refine (isMinute _ _).mono ?_; rintro _ w1 ⟨rfl, rfl⟩))
          go_ret2; exact ⟨none, 0, 0, by rw [hR.out]; rfl, by rw [hR.out]; exact Own.mk_ (World.ownsRow_nil _ _ _ _), by (repeat' (first | (with_reducible exact bel_refl _) | (with_reducible assumption) | (with_reducible refine bel_drew ?_) | (with_reducible refine bel_drewN ?_) | (with_reducible refine bel_alloc ?_) | (with_reducible refine bel_set ?_ ?_) | (with_reducible refine bel_trans ?_ (by with_reducible assumption)) | omega | (simp; done) | (simp; omega)))⟩
        · have hb := netB_bd hg
          obtain ⟨f0, f1⟩ := inB_iff.1 h1
          obtain ⟨t0, t1⟩ := inB_iff.1 h2
          have hm := inB_iff.1 h3
          obtain ⟨P, rfl⟩ := Int.eq_ofNat_of_zero_le (show 0 ≤ p by omega)
          obtain ⟨F, rfl⟩ := Int.eq_ofNat_of_zero_le f0
          obtain ⟨T, rfl⟩ := Int.eq_ofNat_of_zero_le t0
          have hF : F < P := by omega
          have hT : T < P := by omega
          have hT0 : (0 : Int) ≤ (T : Int) := by omega
          have hT1 : (T : Int) < (P : Int) := by omega
          have hg9 := hid hg
          have hlh := hid (hS.xs_len Road.row_len (by omega))
          have hG := hid (netB_all hg)
          have hn12 : n ≤ 12 := by rw [← hlh.out]; exact hb.2.2
          obtain ⟨L0, hL0⟩ : ∃ L, gi (arrA P xs F m) T = L := ⟨_, rfl⟩
          by_cases hl0 : L0 < 0
          · have hR : Hid (keyR P xs F T m = ([], false)) := by show _ = _; simp [keyR, hL0]; intros; omega
            go_enter Try.func30, Try.ntmps30
            go_wp2_with (first | (first | (go_at_call 35; refine (isPlace _ A _ n c 2 2 xs [_, _] _ (hS.bel (by (repeat' (first | (with_reducible exact bel_refl _) | (with_reducible assumption) | (with_reducible refine bel_drew ?_) | (with_reducible refine bel_drewN ?_) | (with_reducible refine bel_alloc ?_) | (with_reducible refine bel_set ?_ ?_) | (with_reducible refine bel_trans ?_ (by with_reducible assumption)) | omega | (simp; done) | (simp; omega))))) hn (two_ints (by first | rfl | simp)) (by omega)).mono ?_; rintro _ w1 ⟨rfl, hB1⟩; (try rw [placesB_two]); (first | (with_reducible replace hB2 := bel_trans hB2 hB1) | (with_reducible replace hB2 := bel_trans (bel_alloc hB2) hB1)); obtain ⟨hC1, hF1⟩ := bcell hB2; replace hB1 := hB1) | (go_at_call 36; refine (isMinute _ _).mono ?_; rintro _ w1 ⟨rfl, rfl⟩)) | (go_at_call 37; refine (arrI _ _ _ P F xs m _ (hS.bel hB2) hg9.out hF hm).mono ?_; rintro _ w2 ⟨A9, c9, rfl, hO9, hb9⟩; obtain ⟨g9, rfl, hg9l, hg9h⟩ := own_form hO9.own (by omega); have f9 := own_gi hO9.own hT; rw [hL0] at f9; replace hB2 := bel_trans hB2 hb9; (try replace hB1 := hB1.trans (hb9.mono hB1.size))))
            go_ret2; exact ⟨none, 0, 0, by rw [hR.out]; rfl, by rw [hR.out]; exact Own.mk_ (World.ownsRow_nil _ _ _ _), by (repeat' (first | (with_reducible exact bel_refl _) | (with_reducible assumption) | (with_reducible refine bel_drew ?_) | (with_reducible refine bel_drewN ?_) | (with_reducible refine bel_alloc ?_) | (with_reducible refine bel_set ?_ ?_) | (with_reducible refine bel_trans ?_ (by with_reducible assumption)) | omega | (simp; done) | (simp; omega)))⟩
          · have hR : Hid (keyR P xs F T m = (keyL P xs F T m xs.length, true)) := by
              have hc : (netB P xs && inB F 0 ((P : Int) - 1) && inB T 0 ((P : Int) - 1) && inB m 0 999 && decide (0 ≤ gi (arrA ((P : Int).toNat) xs ((F : Int).toNat) m) T)) = true := by simp [hg, h1, h2, h3, hL0]; omega
              show _ = _
              unfold keyR
              rw [if_pos hc]
              simp
            go_enter Try.func30, Try.ntmps30
            go_wp2_with (first | (first | (go_at_call 35; refine (isPlace _ A _ n c 2 2 xs [_, _] _ (hS.bel (by (repeat' (first | (with_reducible exact bel_refl _) | (with_reducible assumption) | (with_reducible refine bel_drew ?_) | (with_reducible refine bel_drewN ?_) | (with_reducible refine bel_alloc ?_) | (with_reducible refine bel_set ?_ ?_) | (with_reducible refine bel_trans ?_ (by with_reducible assumption)) | omega | (simp; done) | (simp; omega))))) hn (two_ints (by first | rfl | simp)) (by omega)).mono ?_; rintro _ w1 ⟨rfl, hB1⟩; (try rw [placesB_two]); (first | (with_reducible replace hB2 := bel_trans hB2 hB1) | (with_reducible replace hB2 := bel_trans (bel_alloc hB2) hB1)); obtain ⟨hC1, hF1⟩ := bcell hB2; replace hB1 := hB1) | (go_at_call 36; refine (isMinute _ _).mono ?_; rintro _ w1 ⟨rfl, rfl⟩)) | (go_at_call 37; refine (arrI _ _ _ P F xs m _ (hS.bel hB2) hg9.out hF hm).mono ?_; rintro _ w2 ⟨A9, c9, rfl, hO9, hb9⟩; obtain ⟨g9, rfl, hg9l, hg9h⟩ := own_form hO9.own (by omega); have f9 := own_gi hO9.own hT; rw [hL0] at f9; replace hB2 := bel_trans hB2 hb9; (try replace hB1 := hB1.trans (hb9.mono hB1.size))))
            have hBk := hB2
            clear hg h1 h2 h3 hL0
            go_loopw [12, 13, 14, 41] (fun o _ _ v wr => ∃ i : Nat, i ≤ n ∧ v = .int .i64 i ∧ (∃ A' k c', o = .slice A' k c' ∧ wr.ownsRow w.heap.size 3 1 (.slice A' k c') k (ints (keyL P xs F T m i))) ∧ Below w.heap.size w wr) (fun _ _ _ v _ => n - (intOf v).toNat)
            case atStart => exact ⟨0, by omega, rfl, ⟨_, _, _, rfl, by first | (simpa [keyL, ints] using own_low (own_empty (w := w2) (size := 1) (e := 3) (Nat.le_refl _)) hBk.size) | (simpa [keyL, ints] using own_bel (own_empty (w := w) (size := 1) (e := 3) (Nat.le_refl _)) hB1)⟩, by (repeat' (first | (with_reducible exact bel_refl _) | (with_reducible assumption) | (with_reducible refine bel_drew ?_) | (with_reducible refine bel_drewN ?_) | (with_reducible refine bel_alloc ?_) | (with_reducible refine bel_set ?_ ?_) | (with_reducible refine bel_trans ?_ (by with_reducible assumption)) | omega | (simp; done) | (simp; omega)))⟩
            case round =>
              clear hB2 hBk
              obtain ⟨i, hi', rfl, ⟨A', k, c', rfl, hown⟩, hB2⟩ := hrel
              by_cases hlt : i < n
              · have hk : k ≤ i := by
                  have h2 := hown.1
                  rw [ints_len] at h2
                  have h3 := key_len P xs F T m i
                  omega
                obtain ⟨b, o, rfl, _, _⟩ := hS.at_ (by omega)
                have hSr := (hS.bel hB2).drew
                have hcap := hS.cap
                have hmx := hS.max
                have hi0 : (0 : Int) ≤ (i : Int) := by omega
                have hi1 : (i : Int) < (n : Int) := by omega
                have hi2 : (i : Int) + 1 ≤ (n : Int) := by omega
                have hi3 : (i : Int) ≤ (c : Int) := by omega
                have hi4 : (0 : Int) ≤ (i : Int) + 1 := by omega
                have hi5 : (n : Int) ≤ (c : Int) := by omega
                have htn : ((i : Int) + 1).toNat = i + 1 := by omega
                have hwr : IntKind.i64.wrap ((i : Int) + 1) = (i : Int) + 1 := IntWalk.i64_in _ (by omega)
                have hlen : Hid (((xs.drop (i + 1)).flatMap Road.row).length = (n - (i + 1)) * 4) := by show _ = _; rw [flat_len Road.row_len, List.length_drop, hlh.out]
                obtain ⟨L, hL⟩ : ∃ L, gi (arrA P (without xs i) F m) T = L := ⟨_, rfl⟩
                by_cases hc1 : c = i + 1
                · have hz : c - (i + 1) = 0 := by omega
                  have hi9 : (i : Int) + 1 ≤ (c : Int) := by omega
                  have hc9 := hid hc1
                  have hnil : Hid ((xs.drop (i + 1)).flatMap Road.row = []) := by show _ = _; rw [List.drop_of_length_le (by rw [hlh.out]; omega)]; rfl
                  clear hc1
                  by_cases hl : L < 0
                  · go_wp2_with fail
                    refine wp_region_pick [0, 1, 2, 4, 5, 6, 7] [3, 8, 9] (by kernel_rfl) (by kernel_rfl) (by kernel_rfl) (by kernel_rfl) (by kernel_rfl) (by kernel_rfl) ?_
                    (simp only [opsAt, List.map_cons, List.map_nil, List.getElem?_cons_succ, List.getElem?_cons_zero, Option.getD_some])
                    iterate 7 (refine pick_step rfl (fun w' => by (go_simp; first | done | rfl)) ?_; (try simp only [Act.put, List.setIfInBounds_toArray, List.set_cons_zero, List.set_cons_succ]))
                    rw [if_pos hc9.out]
                    change wpList _ _ _ _ _ wr.drew
                    go_wp2_with (first | (go_at_call 58; refine (copyRoads b o i _ (xs.take i) _ (hSr.takeR (by omega)) (by omega)).mono ?_; rintro _ w4 ⟨A4, c4, rfl, hown4, hb4⟩) | (at_builtin; refine wpList_more rfl (.tmp 47) (.tmp 51) 24 rfl wr.heap.size 39 (.agg #[.int .i64 0, .int .i64 0, .int .i64 0, .int .i64 0]) 4 32 Try.underlying24 info_Road rfl (by omega) A4 i c4 _ rfl hown4 ⟨b, o, none⟩ (n - (i + 1)) 0 ((xs.drop (i + 1)).flatMap Road.row) rfl hlen.out (fun j u hu => by rw [hnil.out] at hu; simp at hu) (oneCell_roads _) (by omega) (by omega) hb4.size ?_; intro A5 c5 w5 hown5 hb5 hg5))
                    have hB5 : Below w.heap.size w w5 := bel_trans (bel_drew hB2) (hb4.trans hb5)
                    have hownw := own_bel (own_bel hown (bel_drew (bel_refl wr))) (hb4.trans hb5)
                    refine NoPanic.normal ?_
                    have hkb := hid (show keyB P xs F T m i = true by simp [keyB, hL, hl])
                    go_wp2_with (first | (go_at_call 37; refine (arrI_go _ _ _ P F (without xs i) m _ (by rw [without_flat]; first | exact Sl.of_own hown5 | simpa using Sl.of_own hown5) (by omega) (by omega) (without_all hG.out i) hF hm).mono ?_; rintro _ w6 ⟨A6, c6, rfl, hO6, hb6⟩; obtain ⟨g6, rfl, hg6l, hg6h⟩ := own_form hO6.own (by omega); have f6 := own_gi hO6.own hT; rw [hL] at f6; have hB6 := bel_trans hB5 hb6; have hown6 := own_bel hownw hb6) | (at_builtin; refine wpList_push rfl (.tmp 62) (.tmp 64) 27 rfl w.heap.size 3 (.int .i64 0) 1 8 Try.underlying27 info_int rfl (by omega) A' k c' _ [.int .i64 (i : Int)] 3 rfl hown6 rfl rfl (oneCell_int _) (by omega) (by omega) hB6.size ?_; intro A'' c'' w3 hown2 hb3 hg3))
                    go_roundw
                    case rel => exact ⟨i + 1, by omega, by go_num, ⟨_, _, _, rfl, by rw [← key_yes hkb.out, ← ints_snoc]; exact hown2⟩, hB6.trans hb3⟩
                    case measure => first | (simp [intOf]; done) | (simp [intOf]; omega)
                  · go_wp2_with fail
                    refine wp_region_pick [0, 1, 2, 4, 5, 6, 7] [3, 8, 9] (by kernel_rfl) (by kernel_rfl) (by kernel_rfl) (by kernel_rfl) (by kernel_rfl) (by kernel_rfl) ?_
                    (simp only [opsAt, List.map_cons, List.map_nil, List.getElem?_cons_succ, List.getElem?_cons_zero, Option.getD_some])
                    iterate 7 (refine pick_step rfl (fun w' => by (go_simp; first | done | rfl)) ?_; (try simp only [Act.put, List.setIfInBounds_toArray, List.set_cons_zero, List.set_cons_succ]))
                    rw [if_pos hc9.out]
                    change wpList _ _ _ _ _ wr.drew
                    go_wp2_with (first | (go_at_call 58; refine (copyRoads b o i _ (xs.take i) _ (hSr.takeR (by omega)) (by omega)).mono ?_; rintro _ w4 ⟨A4, c4, rfl, hown4, hb4⟩) | (at_builtin; refine wpList_more rfl (.tmp 47) (.tmp 51) 24 rfl wr.heap.size 39 (.agg #[.int .i64 0, .int .i64 0, .int .i64 0, .int .i64 0]) 4 32 Try.underlying24 info_Road rfl (by omega) A4 i c4 _ rfl hown4 ⟨b, o, none⟩ (n - (i + 1)) 0 ((xs.drop (i + 1)).flatMap Road.row) rfl hlen.out (fun j u hu => by rw [hnil.out] at hu; simp at hu) (oneCell_roads _) (by omega) (by omega) hb4.size ?_; intro A5 c5 w5 hown5 hb5 hg5))
                    have hB5 : Below w.heap.size w w5 := bel_trans (bel_drew hB2) (hb4.trans hb5)
                    have hownw := own_bel (own_bel hown (bel_drew (bel_refl wr))) (hb4.trans hb5)
                    refine NoPanic.normal ?_
                    have hkb := hid (show keyB P xs F T m i = false by simp [keyB, hL]; omega)
                    go_wp2_with (go_at_call 37; refine (arrI_go _ _ _ P F (without xs i) m _ (by rw [without_flat]; first | exact Sl.of_own hown5 | simpa using Sl.of_own hown5) (by omega) (by omega) (without_all hG.out i) hF hm).mono ?_; rintro _ w6 ⟨A6, c6, rfl, hO6, hb6⟩; obtain ⟨g6, rfl, hg6l, hg6h⟩ := own_form hO6.own (by omega); have f6 := own_gi hO6.own hT; rw [hL] at f6; have hB6 := bel_trans hB5 hb6; have hown6 := own_bel hownw hb6)
                    go_roundw
                    case rel => exact ⟨i + 1, by omega, by go_num, ⟨_, _, _, rfl, by rw [← key_no hkb.out]; exact hown6⟩, hB6⟩
                    case measure => simp [intOf]; omega
                · have hc2 : ¬ c - (i + 1) = 0 := by omega
                  by_cases hl : L < 0
                  · go_wp2_with fail
                    refine wp_region_pick [0, 1, 2, 4, 5, 6, 7] [3, 8, 9] (by kernel_rfl) (by kernel_rfl) (by kernel_rfl) (by kernel_rfl) (by kernel_rfl) (by kernel_rfl) ?_
                    (simp only [opsAt, List.map_cons, List.map_nil, List.getElem?_cons_succ, List.getElem?_cons_zero, Option.getD_some])
                    iterate 7 (refine pick_step rfl (fun w' => by (go_simp; first | done | rfl)) ?_; (try simp only [Act.put, List.setIfInBounds_toArray, List.set_cons_zero, List.set_cons_succ]))
                    change wpList _ _ _ _ _ wr.drew
                    go_wp2_with (first | (go_at_call 58; refine (copyRoads b o i _ (xs.take i) _ (hSr.takeR (by omega)) (by omega)).mono ?_; rintro _ w4 ⟨A4, c4, rfl, hown4, hb4⟩) | (at_builtin; refine wpList_more rfl (.tmp 47) (.tmp 51) 24 rfl wr.heap.size 39 (.agg #[.int .i64 0, .int .i64 0, .int .i64 0, .int .i64 0]) 4 32 Try.underlying24 info_Road rfl (by omega) A4 i c4 _ rfl hown4 ⟨b, o + (i + 1) * 4, none⟩ (n - (i + 1)) (c - (i + 1)) _ rfl hlen.out (drop_cells (hSr.bel hb4) hlt) (oneCell_roads _) (by omega) (by omega) hb4.size ?_; intro A5 c5 w5 hown5 hb5 hg5))
                    have hB5 : Below w.heap.size w w5 := bel_trans (bel_drew hB2) (hb4.trans hb5)
                    have hownw := own_bel (own_bel hown (bel_drew (bel_refl wr))) (hb4.trans hb5)
                    refine NoPanic.normal ?_
                    have hkb := hid (show keyB P xs F T m i = true by simp [keyB, hL, hl])
                    go_wp2_with (first | (go_at_call 37; refine (arrI_go _ _ _ P F (without xs i) m _ (by rw [without_flat]; first | exact Sl.of_own hown5 | simpa using Sl.of_own hown5) (by omega) (by omega) (without_all hG.out i) hF hm).mono ?_; rintro _ w6 ⟨A6, c6, rfl, hO6, hb6⟩; obtain ⟨g6, rfl, hg6l, hg6h⟩ := own_form hO6.own (by omega); have f6 := own_gi hO6.own hT; rw [hL] at f6; have hB6 := bel_trans hB5 hb6; have hown6 := own_bel hownw hb6) | (at_builtin; refine wpList_push rfl (.tmp 62) (.tmp 64) 27 rfl w.heap.size 3 (.int .i64 0) 1 8 Try.underlying27 info_int rfl (by omega) A' k c' _ [.int .i64 (i : Int)] 3 rfl hown6 rfl rfl (oneCell_int _) (by omega) (by omega) hB6.size ?_; intro A'' c'' w3 hown2 hb3 hg3))
                    go_roundw
                    case rel => exact ⟨i + 1, by omega, by go_num, ⟨_, _, _, rfl, by rw [← key_yes hkb.out, ← ints_snoc]; exact hown2⟩, hB6.trans hb3⟩
                    case measure => first | (simp [intOf]; done) | (simp [intOf]; omega)
                  · go_wp2_with fail
                    refine wp_region_pick [0, 1, 2, 4, 5, 6, 7] [3, 8, 9] (by kernel_rfl) (by kernel_rfl) (by kernel_rfl) (by kernel_rfl) (by kernel_rfl) (by kernel_rfl) ?_
                    (simp only [opsAt, List.map_cons, List.map_nil, List.getElem?_cons_succ, List.getElem?_cons_zero, Option.getD_some])
                    iterate 7 (refine pick_step rfl (fun w' => by (go_simp; first | done | rfl)) ?_; (try simp only [Act.put, List.setIfInBounds_toArray, List.set_cons_zero, List.set_cons_succ]))
                    change wpList _ _ _ _ _ wr.drew
                    go_wp2_with (first | (go_at_call 58; refine (copyRoads b o i _ (xs.take i) _ (hSr.takeR (by omega)) (by omega)).mono ?_; rintro _ w4 ⟨A4, c4, rfl, hown4, hb4⟩) | (at_builtin; refine wpList_more rfl (.tmp 47) (.tmp 51) 24 rfl wr.heap.size 39 (.agg #[.int .i64 0, .int .i64 0, .int .i64 0, .int .i64 0]) 4 32 Try.underlying24 info_Road rfl (by omega) A4 i c4 _ rfl hown4 ⟨b, o + (i + 1) * 4, none⟩ (n - (i + 1)) (c - (i + 1)) _ rfl hlen.out (drop_cells (hSr.bel hb4) hlt) (oneCell_roads _) (by omega) (by omega) hb4.size ?_; intro A5 c5 w5 hown5 hb5 hg5))
                    have hB5 : Below w.heap.size w w5 := bel_trans (bel_drew hB2) (hb4.trans hb5)
                    have hownw := own_bel (own_bel hown (bel_drew (bel_refl wr))) (hb4.trans hb5)
                    refine NoPanic.normal ?_
                    have hkb := hid (show keyB P xs F T m i = false by simp [keyB, hL]; omega)
                    go_wp2_with (go_at_call 37; refine (arrI_go _ _ _ P F (without xs i) m _ (by rw [without_flat]; first | exact Sl.of_own hown5 | simpa using Sl.of_own hown5) (by omega) (by omega) (without_all hG.out i) hF hm).mono ?_; rintro _ w6 ⟨A6, c6, rfl, hO6, hb6⟩; obtain ⟨g6, rfl, hg6l, hg6h⟩ := own_form hO6.own (by omega); have f6 := own_gi hO6.own hT; rw [hL] at f6; have hB6 := bel_trans hB5 hb6; have hown6 := own_bel hownw hb6)
                    go_roundw
                    case rel => exact ⟨i + 1, by omega, by go_num, ⟨_, _, _, rfl, by rw [← key_no hkb.out]; exact hown6⟩, hB6⟩
                    case measure => simp [intOf]; omega
              · go_wp2
                go_ret2
                have e : i = xs.length := by rw [hlh.out]; omega
                exact ⟨A', k, c', by rw [hR.out]; rfl, by rw [hR.out, ← e]; exact Own.mk_ hown, hB2⟩

set_option maxRecDepth 100000 in
set_option maxHeartbeats 4000000 in
theorem keyS (p : Int) (A : Option Addr) (n c : Nat) (xs : List Road) (f t m : Int) (w : World) (hS : Sl w 4 A n c (xs.flatMap Road.row)) (hn : n ≤ 1048576) :
    Calls Try.prog 31 #[.int .i64 p, .slice A n c, .int .i64 f, .int .i64 t, .int .i64 m] w fun e w' => ∃ A' n' c', e = .returned (.tuple #[.slice A' n' c', .bool (keyR p xs f t m).2]) ∧ Own w.heap.size w'.heap.size w' 3 1 A' n' c' (ints (keyR p xs f t m).1) ∧ Below w.heap.size w w' := by
  have hB2 := bel_refl (w.alloc (.cells #[] 3))
  rcases hg : netB p xs with _ | _
  · have hR : Hid (keyR p xs f t m = ([], false)) := by show _ = _; simp [keyR, hg]
    go_enter Try.func31, Try.ntmps31
    go_wp2_with (first | (go_at_call 38; refine (l12Place _ _ _ _ _ _ _ (hS.bel (by (repeat' (first | (with_reducible exact bel_refl _) | (with_reducible assumption) | (with_reducible refine bel_drew ?_) | (with_reducible refine bel_drewN ?_) | (with_reducible refine bel_alloc ?_) | (with_reducible refine bel_set ?_ ?_) | (with_reducible refine bel_trans ?_ (by with_reducible assumption)) | omega | (simp; done) | (simp; omega))))) hn).mono ?_; rintro _ w1 ⟨rfl, hB1⟩; (first | (with_reducible replace hB2 := bel_trans hB2 hB1) | (with_reducible replace hB2 := bel_trans (bel_alloc hB2) hB1)); obtain ⟨hC1, hF1⟩ := bcell hB2; replace hB1 := hB1) | (go_at_call 39; refine (l12Minute _ _).mono ?_; rintro _ w1 ⟨rfl, rfl⟩))
    go_ret2; exact ⟨some ⟨w.heap.size, 0, none⟩, 0, 0, by rw [hR.out]; rfl, by rw [hR.out]; exact Own.mk_ (own_bel (own_empty (Nat.le_refl _)) (by (repeat' (first | (with_reducible exact bel_refl _) | (with_reducible assumption) | (with_reducible refine bel_drew ?_) | (with_reducible refine bel_drewN ?_) | (with_reducible refine bel_alloc ?_) | (with_reducible refine bel_set ?_ ?_) | (with_reducible refine bel_trans ?_ (by with_reducible assumption)) | omega | (simp; done) | (simp; omega))))), by (repeat' (first | (with_reducible exact bel_refl _) | (with_reducible assumption) | (with_reducible refine bel_drew ?_) | (with_reducible refine bel_drewN ?_) | (with_reducible refine bel_alloc ?_) | (with_reducible refine bel_set ?_ ?_) | (with_reducible refine bel_trans ?_ (by with_reducible assumption)) | omega | (simp; done) | (simp; omega)))⟩
  · rcases h1 : inB f 0 (p - 1) with _ | _
    · have hR : Hid (keyR p xs f t m = ([], false)) := by show _ = _; simp [keyR, h1]
      go_enter Try.func31, Try.ntmps31
      go_wp2_with (first | (go_at_call 38; refine (l12Place _ _ _ _ _ _ _ (hS.bel (by (repeat' (first | (with_reducible exact bel_refl _) | (with_reducible assumption) | (with_reducible refine bel_drew ?_) | (with_reducible refine bel_drewN ?_) | (with_reducible refine bel_alloc ?_) | (with_reducible refine bel_set ?_ ?_) | (with_reducible refine bel_trans ?_ (by with_reducible assumption)) | omega | (simp; done) | (simp; omega))))) hn).mono ?_; rintro _ w1 ⟨rfl, hB1⟩; (first | (with_reducible replace hB2 := bel_trans hB2 hB1) | (with_reducible replace hB2 := bel_trans (bel_alloc hB2) hB1)); obtain ⟨hC1, hF1⟩ := bcell hB2; replace hB1 := hB1) | (go_at_call 39; refine (l12Minute _ _).mono ?_; rintro _ w1 ⟨rfl, rfl⟩))
      go_ret2; exact ⟨some ⟨w.heap.size, 0, none⟩, 0, 0, by rw [hR.out]; rfl, by rw [hR.out]; exact Own.mk_ (own_bel (own_empty (Nat.le_refl _)) (by (repeat' (first | (with_reducible exact bel_refl _) | (with_reducible assumption) | (with_reducible refine bel_drew ?_) | (with_reducible refine bel_drewN ?_) | (with_reducible refine bel_alloc ?_) | (with_reducible refine bel_set ?_ ?_) | (with_reducible refine bel_trans ?_ (by with_reducible assumption)) | omega | (simp; done) | (simp; omega))))), by (repeat' (first | (with_reducible exact bel_refl _) | (with_reducible assumption) | (with_reducible refine bel_drew ?_) | (with_reducible refine bel_drewN ?_) | (with_reducible refine bel_alloc ?_) | (with_reducible refine bel_set ?_ ?_) | (with_reducible refine bel_trans ?_ (by with_reducible assumption)) | omega | (simp; done) | (simp; omega)))⟩
    · rcases h2 : inB t 0 (p - 1) with _ | _
      · have hR : Hid (keyR p xs f t m = ([], false)) := by show _ = _; simp [keyR, h2]
        go_enter Try.func31, Try.ntmps31
        go_wp2_with (first | (go_at_call 38; refine (l12Place _ _ _ _ _ _ _ (hS.bel (by (repeat' (first | (with_reducible exact bel_refl _) | (with_reducible assumption) | (with_reducible refine bel_drew ?_) | (with_reducible refine bel_drewN ?_) | (with_reducible refine bel_alloc ?_) | (with_reducible refine bel_set ?_ ?_) | (with_reducible refine bel_trans ?_ (by with_reducible assumption)) | omega | (simp; done) | (simp; omega))))) hn).mono ?_; rintro _ w1 ⟨rfl, hB1⟩; (first | (with_reducible replace hB2 := bel_trans hB2 hB1) | (with_reducible replace hB2 := bel_trans (bel_alloc hB2) hB1)); obtain ⟨hC1, hF1⟩ := bcell hB2; replace hB1 := hB1) | (go_at_call 39; refine (l12Minute _ _).mono ?_; rintro _ w1 ⟨rfl, rfl⟩))
        go_ret2; exact ⟨some ⟨w.heap.size, 0, none⟩, 0, 0, by rw [hR.out]; rfl, by rw [hR.out]; exact Own.mk_ (own_bel (own_empty (Nat.le_refl _)) (by (repeat' (first | (with_reducible exact bel_refl _) | (with_reducible assumption) | (with_reducible refine bel_drew ?_) | (with_reducible refine bel_drewN ?_) | (with_reducible refine bel_alloc ?_) | (with_reducible refine bel_set ?_ ?_) | (with_reducible refine bel_trans ?_ (by with_reducible assumption)) | omega | (simp; done) | (simp; omega))))), by (repeat' (first | (with_reducible exact bel_refl _) | (with_reducible assumption) | (with_reducible refine bel_drew ?_) | (with_reducible refine bel_drewN ?_) | (with_reducible refine bel_alloc ?_) | (with_reducible refine bel_set ?_ ?_) | (with_reducible refine bel_trans ?_ (by with_reducible assumption)) | omega | (simp; done) | (simp; omega)))⟩
      · rcases h3 : inB m 0 999 with _ | _
        · have hR : Hid (keyR p xs f t m = ([], false)) := by show _ = _; simp [keyR, h3]
          go_enter Try.func31, Try.ntmps31
          go_wp2_with (first | (go_at_call 38; refine (l12Place _ _ _ _ _ _ _ (hS.bel (by (repeat' (first | (with_reducible exact bel_refl _) | (with_reducible assumption) | (with_reducible refine bel_drew ?_) | (with_reducible refine bel_drewN ?_) | (with_reducible refine bel_alloc ?_) | (with_reducible refine bel_set ?_ ?_) | (with_reducible refine bel_trans ?_ (by with_reducible assumption)) | omega | (simp; done) | (simp; omega))))) hn).mono ?_; rintro _ w1 ⟨rfl, hB1⟩; (first | (with_reducible replace hB2 := bel_trans hB2 hB1) | (with_reducible replace hB2 := bel_trans (bel_alloc hB2) hB1)); obtain ⟨hC1, hF1⟩ := bcell hB2; replace hB1 := hB1) | (go_at_call 39; refine (l12Minute _ _).mono ?_; rintro _ w1 ⟨rfl, rfl⟩))
          go_ret2; exact ⟨some ⟨w.heap.size, 0, none⟩, 0, 0, by rw [hR.out]; rfl, by rw [hR.out]; exact Own.mk_ (own_bel (own_empty (Nat.le_refl _)) (by (repeat' (first | (with_reducible exact bel_refl _) | (with_reducible assumption) | (with_reducible refine bel_drew ?_) | (with_reducible refine bel_drewN ?_) | (with_reducible refine bel_alloc ?_) | (with_reducible refine bel_set ?_ ?_) | (with_reducible refine bel_trans ?_ (by with_reducible assumption)) | omega | (simp; done) | (simp; omega))))), by (repeat' (first | (with_reducible exact bel_refl _) | (with_reducible assumption) | (with_reducible refine bel_drew ?_) | (with_reducible refine bel_drewN ?_) | (with_reducible refine bel_alloc ?_) | (with_reducible refine bel_set ?_ ?_) | (with_reducible refine bel_trans ?_ (by with_reducible assumption)) | omega | (simp; done) | (simp; omega)))⟩
        · have hb := netB_bd hg
          obtain ⟨f0, f1⟩ := inB_iff.1 h1
          obtain ⟨t0, t1⟩ := inB_iff.1 h2
          have hm := inB_iff.1 h3
          obtain ⟨P, rfl⟩ := Int.eq_ofNat_of_zero_le (show 0 ≤ p by omega)
          obtain ⟨F, rfl⟩ := Int.eq_ofNat_of_zero_le f0
          obtain ⟨T, rfl⟩ := Int.eq_ofNat_of_zero_le t0
          have hF : F < P := by omega
          have hT : T < P := by omega
          have hT0 : (0 : Int) ≤ (T : Int) := by omega
          have hT1 : (T : Int) < (P : Int) := by omega
          have hg9 := hid hg
          have hlh := hid (hS.xs_len Road.row_len (by omega))
          have hG := hid (netB_all hg)
          have hn12 : n ≤ 12 := by rw [← hlh.out]; exact hb.2.2
          obtain ⟨L0, hL0⟩ : ∃ L, gi (arrA P xs F m) T = L := ⟨_, rfl⟩
          by_cases hl0 : L0 < 0
          · have hR : Hid (keyR P xs F T m = ([], false)) := by show _ = _; simp [keyR, hL0]; intros; omega
            go_enter Try.func31, Try.ntmps31
            go_wp2_with (first | (first | (go_at_call 38; refine (l12Place _ _ _ _ _ _ _ (hS.bel (by (repeat' (first | (with_reducible exact bel_refl _) | (with_reducible assumption) | (with_reducible refine bel_drew ?_) | (with_reducible refine bel_drewN ?_) | (with_reducible refine bel_alloc ?_) | (with_reducible refine bel_set ?_ ?_) | (with_reducible refine bel_trans ?_ (by with_reducible assumption)) | omega | (simp; done) | (simp; omega))))) hn).mono ?_; rintro _ w1 ⟨rfl, hB1⟩; (first | (with_reducible replace hB2 := bel_trans hB2 hB1) | (with_reducible replace hB2 := bel_trans (bel_alloc hB2) hB1)); obtain ⟨hC1, hF1⟩ := bcell hB2; replace hB1 := hB1) | (go_at_call 39; refine (l12Minute _ _).mono ?_; rintro _ w1 ⟨rfl, rfl⟩)) | (go_at_call 40; refine (arrS _ _ _ P F xs m _ (hS.bel (by (repeat' (first | (with_reducible exact bel_refl _) | (with_reducible assumption) | (with_reducible refine bel_drew ?_) | (with_reducible refine bel_drewN ?_) | (with_reducible refine bel_alloc ?_) | (with_reducible refine bel_set ?_ ?_) | (with_reducible refine bel_trans ?_ (by with_reducible assumption)) | omega | (simp; done) | (simp; omega))))) hg9.out hF hm).mono ?_; rintro _ w2 ⟨A9, c9, rfl, hO9, hb9⟩; obtain ⟨g9, rfl, hg9l, hg9h⟩ := own_form hO9.own (by omega); have f9 := own_gi hO9.own hT; rw [hL0] at f9; replace hB2 := bel_trans hB2 hb9; (try replace hB1 := hB1.trans (hb9.mono hB1.size))))
            go_ret2; exact ⟨some ⟨w.heap.size, 0, none⟩, 0, 0, by rw [hR.out]; rfl, by rw [hR.out]; exact Own.mk_ (own_bel (own_empty (Nat.le_refl _)) (by (repeat' (first | (with_reducible exact bel_refl _) | (with_reducible assumption) | (with_reducible refine bel_drew ?_) | (with_reducible refine bel_drewN ?_) | (with_reducible refine bel_alloc ?_) | (with_reducible refine bel_set ?_ ?_) | (with_reducible refine bel_trans ?_ (by with_reducible assumption)) | omega | (simp; done) | (simp; omega))))), by (repeat' (first | (with_reducible exact bel_refl _) | (with_reducible assumption) | (with_reducible refine bel_drew ?_) | (with_reducible refine bel_drewN ?_) | (with_reducible refine bel_alloc ?_) | (with_reducible refine bel_set ?_ ?_) | (with_reducible refine bel_trans ?_ (by with_reducible assumption)) | omega | (simp; done) | (simp; omega)))⟩
          · have hR : Hid (keyR P xs F T m = (keyL P xs F T m xs.length, true)) := by
              have hc : (netB P xs && inB F 0 ((P : Int) - 1) && inB T 0 ((P : Int) - 1) && inB m 0 999 && decide (0 ≤ gi (arrA ((P : Int).toNat) xs ((F : Int).toNat) m) T)) = true := by simp [hg, h1, h2, h3, hL0]; omega
              show _ = _
              unfold keyR
              rw [if_pos hc]
              simp
            go_enter Try.func31, Try.ntmps31
            go_wp2_with (first | (first | (go_at_call 38; refine (l12Place _ _ _ _ _ _ _ (hS.bel (by (repeat' (first | (with_reducible exact bel_refl _) | (with_reducible assumption) | (with_reducible refine bel_drew ?_) | (with_reducible refine bel_drewN ?_) | (with_reducible refine bel_alloc ?_) | (with_reducible refine bel_set ?_ ?_) | (with_reducible refine bel_trans ?_ (by with_reducible assumption)) | omega | (simp; done) | (simp; omega))))) hn).mono ?_; rintro _ w1 ⟨rfl, hB1⟩; (first | (with_reducible replace hB2 := bel_trans hB2 hB1) | (with_reducible replace hB2 := bel_trans (bel_alloc hB2) hB1)); obtain ⟨hC1, hF1⟩ := bcell hB2; replace hB1 := hB1) | (go_at_call 39; refine (l12Minute _ _).mono ?_; rintro _ w1 ⟨rfl, rfl⟩)) | (go_at_call 40; refine (arrS _ _ _ P F xs m _ (hS.bel (by (repeat' (first | (with_reducible exact bel_refl _) | (with_reducible assumption) | (with_reducible refine bel_drew ?_) | (with_reducible refine bel_drewN ?_) | (with_reducible refine bel_alloc ?_) | (with_reducible refine bel_set ?_ ?_) | (with_reducible refine bel_trans ?_ (by with_reducible assumption)) | omega | (simp; done) | (simp; omega))))) hg9.out hF hm).mono ?_; rintro _ w2 ⟨A9, c9, rfl, hO9, hb9⟩; obtain ⟨g9, rfl, hg9l, hg9h⟩ := own_form hO9.own (by omega); have f9 := own_gi hO9.own hT; rw [hL0] at f9; replace hB2 := bel_trans hB2 hb9; (try replace hB1 := hB1.trans (hb9.mono hB1.size))))
            have hBk := hB2
            clear hg h1 h2 h3 hL0
            go_loopw [12, 13, 14] (fun o v _ wr => ∃ i : Nat, i ≤ n ∧ v = .int .i64 i ∧ (∃ A' k c', o = .slice A' k c' ∧ wr.ownsRow w.heap.size 3 1 (.slice A' k c') k (ints (keyL P xs F T m i))) ∧ Below w.heap.size w wr) (fun _ v _ _ => n - (intOf v).toNat)
            case atStart => exact ⟨0, by omega, rfl, ⟨_, _, _, rfl, by first | (simpa [keyL, ints] using own_low (own_empty (w := w2) (size := 1) (e := 3) (Nat.le_refl _)) hBk.size) | (simpa [keyL, ints] using own_bel (own_empty (w := w) (size := 1) (e := 3) (Nat.le_refl _)) hB2)⟩, by (repeat' (first | (with_reducible exact bel_refl _) | (with_reducible assumption) | (with_reducible refine bel_drew ?_) | (with_reducible refine bel_drewN ?_) | (with_reducible refine bel_alloc ?_) | (with_reducible refine bel_set ?_ ?_) | (with_reducible refine bel_trans ?_ (by with_reducible assumption)) | omega | (simp; done) | (simp; omega)))⟩
            case round =>
              clear hB2 hBk
              obtain ⟨i, hi', rfl, ⟨A', k, c', rfl, hown⟩, hB2⟩ := hrel
              by_cases hlt : i < n
              · have hk : k ≤ i := by
                  have h2 := hown.1
                  rw [ints_len] at h2
                  have h3 := key_len P xs F T m i
                  omega
                obtain ⟨b, o, rfl, _, _⟩ := hS.at_ (by omega)
                have hSr := (hS.bel hB2).drew
                have hcap := hS.cap
                have hmx := hS.max
                have hi0 : (0 : Int) ≤ (i : Int) := by omega
                have hi1 : (i : Int) < (n : Int) := by omega
                have hi2 : (i : Int) + 1 ≤ (n : Int) := by omega
                have hi3 : (i : Int) ≤ (c : Int) := by omega
                have hi4 : (0 : Int) ≤ (i : Int) + 1 := by omega
                have hi5 : (n : Int) ≤ (c : Int) := by omega
                have htn : ((i : Int) + 1).toNat = i + 1 := by omega
                have hwr : IntKind.i64.wrap ((i : Int) + 1) = (i : Int) + 1 := IntWalk.i64_in _ (by omega)
                have hlen : Hid (((xs.drop (i + 1)).flatMap Road.row).length = (n - (i + 1)) * 4) := by show _ = _; rw [flat_len Road.row_len, List.length_drop, hlh.out]
                have hE := own_bel (own_empty (w := wr) (size := 4) (e := 39) (Nat.le_refl _)) (bel_drew (bel_refl _))
                have hlt0 := hid (hSr.takeR (i := i) (by omega)).len
                have hcell0 : Hid (∀ j u, ((xs.take i).flatMap Road.row)[j]? = some u → ((wr.alloc (.cells #[] 39)).drew).cell? ((⟨b, o, none⟩ : Addr).add j) = some u) := fun j u hu => by
                  have hj := (List.getElem?_eq_some_iff.1 hu).1
                  obtain ⟨b', o', e, hb', hcl⟩ := (((hS.bel hB2).takeR (i := i) (by omega)).alloc (.cells #[] 39)).drew.at_ (by rw [hlt0.out] at hj; omega)
                  simp only [Option.some.injEq, Addr.mk.injEq, and_true] at e
                  obtain ⟨rfl, rfl⟩ := e
                  rw [Addr.add_lit]
                  exact hcl j u hu
                obtain ⟨L, hL⟩ : ∃ L, gi (arrA P (without xs i) F m) T = L := ⟨_, rfl⟩
                by_cases hc1 : c = i + 1
                · have hz : c - (i + 1) = 0 := by omega
                  have hi9 : (i : Int) + 1 ≤ (c : Int) := by omega
                  have hc9 := hid hc1
                  have hnil : Hid ((xs.drop (i + 1)).flatMap Road.row = []) := by show _ = _; rw [List.drop_of_length_le (by rw [hlh.out]; omega)]; rfl
                  clear hc1
                  by_cases hl : L < 0
                  · go_wp2_with fail
                    refine wp_region_pick [1, 2, 3, 5, 6, 7, 8] [0, 4, 9, 10] (by kernel_rfl) (by kernel_rfl) (by kernel_rfl) (by kernel_rfl) (by kernel_rfl) (by kernel_rfl) ?_
                    (simp only [opsAt, List.map_cons, List.map_nil, List.getElem?_cons_succ, List.getElem?_cons_zero, Option.getD_some])
                    iterate 7 (refine pick_step rfl (fun w' => by (go_simp; first | done | rfl)) ?_; (try simp only [Act.put, List.setIfInBounds_toArray, List.set_cons_zero, List.set_cons_succ]))
                    rw [if_pos hc9.out]
                    change wpList _ _ _ _ _ wr.drew
                    go_wp2_with (first | (at_builtin; refine wpList_more rfl (.tmp 51) (.tmp 54) 24 rfl wr.heap.size 39 (.agg #[.int .i64 0, .int .i64 0, .int .i64 0, .int .i64 0]) 4 32 Try.underlying24 info_Road rfl (by omega) (some ⟨wr.heap.size, 0, none⟩) 0 0 [] rfl hE ⟨b, o, none⟩ i _ _ rfl hlt0.out hcell0.out (oneCell_roads _) (by omega) (by omega) (by simp) ?_; intro A4 c4 w4 hown4 hb4 hg4) | (at_builtin; refine wpList_more rfl (.tmp 55) (.tmp 59) 24 rfl wr.heap.size 39 (.agg #[.int .i64 0, .int .i64 0, .int .i64 0, .int .i64 0]) 4 32 Try.underlying24 info_Road rfl (by omega) A4 (0 + i) c4 _ (by first | rfl | simp) hown4 ⟨b, o, none⟩ (n - (i + 1)) 0 ((xs.drop (i + 1)).flatMap Road.row) rfl hlen.out (fun j u hu => by rw [hnil.out] at hu; simp at hu) (oneCell_roads _) (by omega) (by omega) (by have := hb4.size; simp at this; omega) ?_; intro A5 c5 w5 hown5 hb5 hg5))
                    have hB5 : Below w.heap.size w w5 := bel_trans hB2 ((bel_drew (bel_alloc (bel_refl wr))).trans (hb4.trans hb5))
                    have hownw := own_bel hown ((bel_drew (bel_alloc (bel_refl wr))).trans (hb4.trans hb5))
                    refine NoPanic.normal ?_
                    have hkb := hid (show keyB P xs F T m i = true by simp [keyB, hL, hl])
                    go_wp2_with (first | (go_at_call 40; refine (arrS_go _ _ _ P F (without xs i) m _ (by rw [without_flat]; first | exact Sl.of_own hown5 | simpa using Sl.of_own hown5) (by omega) (by omega) (without_all hG.out i) hF hm).mono ?_; rintro _ w6 ⟨A6, c6, rfl, hO6, hb6⟩; obtain ⟨g6, rfl, hg6l, hg6h⟩ := own_form hO6.own (by omega); have f6 := own_gi hO6.own hT; rw [hL] at f6; have hB6 := bel_trans hB5 hb6; have hown6 := own_bel hownw hb6) | (at_builtin; refine wpList_push rfl (.tmp 70) (.tmp 72) 27 rfl w.heap.size 3 (.int .i64 0) 1 8 Try.underlying27 info_int rfl (by omega) A' k c' _ [.int .i64 (i : Int)] 3 rfl hown6 rfl rfl (oneCell_int _) (by omega) (by omega) hB6.size ?_; intro A'' c'' w3 hown2 hb3 hg3))
                    go_roundw
                    case rel => exact ⟨i + 1, by omega, by go_num, ⟨_, _, _, rfl, by rw [← key_yes hkb.out, ← ints_snoc]; exact hown2⟩, hB6.trans hb3⟩
                    case measure => first | (simp [intOf]; done) | (simp [intOf]; omega)
                  · go_wp2_with fail
                    refine wp_region_pick [1, 2, 3, 5, 6, 7, 8] [0, 4, 9, 10] (by kernel_rfl) (by kernel_rfl) (by kernel_rfl) (by kernel_rfl) (by kernel_rfl) (by kernel_rfl) ?_
                    (simp only [opsAt, List.map_cons, List.map_nil, List.getElem?_cons_succ, List.getElem?_cons_zero, Option.getD_some])
                    iterate 7 (refine pick_step rfl (fun w' => by (go_simp; first | done | rfl)) ?_; (try simp only [Act.put, List.setIfInBounds_toArray, List.set_cons_zero, List.set_cons_succ]))
                    rw [if_pos hc9.out]
                    change wpList _ _ _ _ _ wr.drew
                    go_wp2_with (first | (at_builtin; refine wpList_more rfl (.tmp 51) (.tmp 54) 24 rfl wr.heap.size 39 (.agg #[.int .i64 0, .int .i64 0, .int .i64 0, .int .i64 0]) 4 32 Try.underlying24 info_Road rfl (by omega) (some ⟨wr.heap.size, 0, none⟩) 0 0 [] rfl hE ⟨b, o, none⟩ i _ _ rfl hlt0.out hcell0.out (oneCell_roads _) (by omega) (by omega) (by simp) ?_; intro A4 c4 w4 hown4 hb4 hg4) | (at_builtin; refine wpList_more rfl (.tmp 55) (.tmp 59) 24 rfl wr.heap.size 39 (.agg #[.int .i64 0, .int .i64 0, .int .i64 0, .int .i64 0]) 4 32 Try.underlying24 info_Road rfl (by omega) A4 (0 + i) c4 _ (by first | rfl | simp) hown4 ⟨b, o, none⟩ (n - (i + 1)) 0 ((xs.drop (i + 1)).flatMap Road.row) rfl hlen.out (fun j u hu => by rw [hnil.out] at hu; simp at hu) (oneCell_roads _) (by omega) (by omega) (by have := hb4.size; simp at this; omega) ?_; intro A5 c5 w5 hown5 hb5 hg5))
                    have hB5 : Below w.heap.size w w5 := bel_trans hB2 ((bel_drew (bel_alloc (bel_refl wr))).trans (hb4.trans hb5))
                    have hownw := own_bel hown ((bel_drew (bel_alloc (bel_refl wr))).trans (hb4.trans hb5))
                    refine NoPanic.normal ?_
                    have hkb := hid (show keyB P xs F T m i = false by simp [keyB, hL]; omega)
                    go_wp2_with (go_at_call 40; refine (arrS_go _ _ _ P F (without xs i) m _ (by rw [without_flat]; first | exact Sl.of_own hown5 | simpa using Sl.of_own hown5) (by omega) (by omega) (without_all hG.out i) hF hm).mono ?_; rintro _ w6 ⟨A6, c6, rfl, hO6, hb6⟩; obtain ⟨g6, rfl, hg6l, hg6h⟩ := own_form hO6.own (by omega); have f6 := own_gi hO6.own hT; rw [hL] at f6; have hB6 := bel_trans hB5 hb6; have hown6 := own_bel hownw hb6)
                    go_roundw
                    case rel => exact ⟨i + 1, by omega, by go_num, ⟨_, _, _, rfl, by rw [← key_no hkb.out]; exact hown6⟩, hB6⟩
                    case measure => simp [intOf]; omega
                · have hc2 : ¬ c - (i + 1) = 0 := by omega
                  by_cases hl : L < 0
                  · go_wp2_with fail
                    refine wp_region_pick [1, 2, 3, 5, 6, 7, 8] [0, 4, 9, 10] (by kernel_rfl) (by kernel_rfl) (by kernel_rfl) (by kernel_rfl) (by kernel_rfl) (by kernel_rfl) ?_
                    (simp only [opsAt, List.map_cons, List.map_nil, List.getElem?_cons_succ, List.getElem?_cons_zero, Option.getD_some])
                    iterate 7 (refine pick_step rfl (fun w' => by (go_simp; first | done | rfl)) ?_; (try simp only [Act.put, List.setIfInBounds_toArray, List.set_cons_zero, List.set_cons_succ]))
                    change wpList _ _ _ _ _ wr.drew
                    go_wp2_with (first | (at_builtin; refine wpList_more rfl (.tmp 51) (.tmp 54) 24 rfl wr.heap.size 39 (.agg #[.int .i64 0, .int .i64 0, .int .i64 0, .int .i64 0]) 4 32 Try.underlying24 info_Road rfl (by omega) (some ⟨wr.heap.size, 0, none⟩) 0 0 [] rfl hE ⟨b, o, none⟩ i _ _ rfl hlt0.out hcell0.out (oneCell_roads _) (by omega) (by omega) (by simp) ?_; intro A4 c4 w4 hown4 hb4 hg4) | (at_builtin; refine wpList_more rfl (.tmp 55) (.tmp 59) 24 rfl wr.heap.size 39 (.agg #[.int .i64 0, .int .i64 0, .int .i64 0, .int .i64 0]) 4 32 Try.underlying24 info_Road rfl (by omega) A4 (0 + i) c4 _ (by first | rfl | simp) hown4 ⟨b, o + (i + 1) * 4, none⟩ (n - (i + 1)) (c - (i + 1)) _ rfl hlen.out (drop_cells ((hS.bel hB2).bel ((bel_drew (bel_alloc (bel_refl wr))).trans hb4)) hlt) (oneCell_roads _) (by omega) (by omega) (by have := hb4.size; simp at this; omega) ?_; intro A5 c5 w5 hown5 hb5 hg5))
                    have hB5 : Below w.heap.size w w5 := bel_trans hB2 ((bel_drew (bel_alloc (bel_refl wr))).trans (hb4.trans hb5))
                    have hownw := own_bel hown ((bel_drew (bel_alloc (bel_refl wr))).trans (hb4.trans hb5))
                    refine NoPanic.normal ?_
                    have hkb := hid (show keyB P xs F T m i = true by simp [keyB, hL, hl])
                    go_wp2_with (first | (go_at_call 40; refine (arrS_go _ _ _ P F (without xs i) m _ (by rw [without_flat]; first | exact Sl.of_own hown5 | simpa using Sl.of_own hown5) (by omega) (by omega) (without_all hG.out i) hF hm).mono ?_; rintro _ w6 ⟨A6, c6, rfl, hO6, hb6⟩; obtain ⟨g6, rfl, hg6l, hg6h⟩ := own_form hO6.own (by omega); have f6 := own_gi hO6.own hT; rw [hL] at f6; have hB6 := bel_trans hB5 hb6; have hown6 := own_bel hownw hb6) | (at_builtin; refine wpList_push rfl (.tmp 70) (.tmp 72) 27 rfl w.heap.size 3 (.int .i64 0) 1 8 Try.underlying27 info_int rfl (by omega) A' k c' _ [.int .i64 (i : Int)] 3 rfl hown6 rfl rfl (oneCell_int _) (by omega) (by omega) hB6.size ?_; intro A'' c'' w3 hown2 hb3 hg3))
                    go_roundw
                    case rel => exact ⟨i + 1, by omega, by go_num, ⟨_, _, _, rfl, by rw [← key_yes hkb.out, ← ints_snoc]; exact hown2⟩, hB6.trans hb3⟩
                    case measure => first | (simp [intOf]; done) | (simp [intOf]; omega)
                  · go_wp2_with fail
                    refine wp_region_pick [1, 2, 3, 5, 6, 7, 8] [0, 4, 9, 10] (by kernel_rfl) (by kernel_rfl) (by kernel_rfl) (by kernel_rfl) (by kernel_rfl) (by kernel_rfl) ?_
                    (simp only [opsAt, List.map_cons, List.map_nil, List.getElem?_cons_succ, List.getElem?_cons_zero, Option.getD_some])
                    iterate 7 (refine pick_step rfl (fun w' => by (go_simp; first | done | rfl)) ?_; (try simp only [Act.put, List.setIfInBounds_toArray, List.set_cons_zero, List.set_cons_succ]))
                    change wpList _ _ _ _ _ wr.drew
                    go_wp2_with (first | (at_builtin; refine wpList_more rfl (.tmp 51) (.tmp 54) 24 rfl wr.heap.size 39 (.agg #[.int .i64 0, .int .i64 0, .int .i64 0, .int .i64 0]) 4 32 Try.underlying24 info_Road rfl (by omega) (some ⟨wr.heap.size, 0, none⟩) 0 0 [] rfl hE ⟨b, o, none⟩ i _ _ rfl hlt0.out hcell0.out (oneCell_roads _) (by omega) (by omega) (by simp) ?_; intro A4 c4 w4 hown4 hb4 hg4) | (at_builtin; refine wpList_more rfl (.tmp 55) (.tmp 59) 24 rfl wr.heap.size 39 (.agg #[.int .i64 0, .int .i64 0, .int .i64 0, .int .i64 0]) 4 32 Try.underlying24 info_Road rfl (by omega) A4 (0 + i) c4 _ (by first | rfl | simp) hown4 ⟨b, o + (i + 1) * 4, none⟩ (n - (i + 1)) (c - (i + 1)) _ rfl hlen.out (drop_cells ((hS.bel hB2).bel ((bel_drew (bel_alloc (bel_refl wr))).trans hb4)) hlt) (oneCell_roads _) (by omega) (by omega) (by have := hb4.size; simp at this; omega) ?_; intro A5 c5 w5 hown5 hb5 hg5))
                    have hB5 : Below w.heap.size w w5 := bel_trans hB2 ((bel_drew (bel_alloc (bel_refl wr))).trans (hb4.trans hb5))
                    have hownw := own_bel hown ((bel_drew (bel_alloc (bel_refl wr))).trans (hb4.trans hb5))
                    refine NoPanic.normal ?_
                    have hkb := hid (show keyB P xs F T m i = false by simp [keyB, hL]; omega)
                    go_wp2_with (go_at_call 40; refine (arrS_go _ _ _ P F (without xs i) m _ (by rw [without_flat]; first | exact Sl.of_own hown5 | simpa using Sl.of_own hown5) (by omega) (by omega) (without_all hG.out i) hF hm).mono ?_; rintro _ w6 ⟨A6, c6, rfl, hO6, hb6⟩; obtain ⟨g6, rfl, hg6l, hg6h⟩ := own_form hO6.own (by omega); have f6 := own_gi hO6.own hT; rw [hL] at f6; have hB6 := bel_trans hB5 hb6; have hown6 := own_bel hownw hb6)
                    go_roundw
                    case rel => exact ⟨i + 1, by omega, by go_num, ⟨_, _, _, rfl, by rw [← key_no hkb.out]; exact hown6⟩, hB6⟩
                    case measure => simp [intOf]; omega
              · go_wp2
                go_ret2
                have e : i = xs.length := by rw [hlh.out]; omega
                exact ⟨A', k, c', by rw [hR.out]; rfl, by rw [hR.out, ← e]; exact Own.mk_ hown, hB2⟩
end Go.Proofs.Ytfimchbjpambfaa
