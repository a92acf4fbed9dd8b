/-
  The crew without which some metres take longest: of the program and of the reference, walked.
-/
import Derived.Test.YthbjgccldoofgaaCrewTop
import Derived.Test.YthbjgccldoofgaaPick
namespace Go.Proofs.Ythbjgccldoofgaa
open Go.RowKit

theorem flat_drop {α : Type} {row : α → List Value} {k : Nat} (hrow : ∀ x, (row x).length = k) : ∀ (xs : List α) (i : Nat), (xs.drop i).flatMap row = (xs.flatMap row).drop (i * k)
  | [], i => by simp
  | x :: xs, 0 => by simp
  | x :: xs, i + 1 => by
    have e : (i + 1) * k = (row x).length + i * k := by rw [hrow, Nat.add_mul]; omega
    rw [List.drop_succ_cons, List.flatMap_cons, flat_drop hrow xs i, e, List.drop_append, List.drop_of_length_le (show (row x).length ≤ (row x).length + i * k from Nat.le_add_right _ _), List.nil_append, Nat.add_sub_cancel_left]
theorem flat_take {α : Type} {row : α → List Value} {k : Nat} (hrow : ∀ x, (row x).length = k) : ∀ (xs : List α) (i : Nat), (xs.take i).flatMap row = (xs.flatMap row).take (i * k)
  | [], i => by simp
  | x :: xs, 0 => by simp
  | x :: xs, i + 1 => by
    have e : (i + 1) * k = (row x).length + i * k := by rw [hrow, Nat.add_mul]; omega
    rw [List.take_succ_cons, List.flatMap_cons, List.flatMap_cons, flat_take hrow xs i, e, List.take_append, List.take_of_length_le (show (row x).length ≤ (row x).length + i * k from Nat.le_add_right _ _), Nat.add_sub_cancel_left]
theorem oneCell_crew (x : Crew) : ∀ u ∈ x.row, u.oneCell' = true := by
  intro u hu
  simp only [Crew.row, List.mem_cons, List.not_mem_nil, or_false] at hu
  rcases hu with rfl | rfl | rfl | rfl | rfl <;> rfl
theorem oneCell_crews (xs : List Crew) : ∀ u ∈ xs.flatMap Crew.row, u.oneCell' = true := fun u hu => by
  obtain ⟨x, _, h⟩ := List.mem_flatMap.1 hu
  exact oneCell_crew x u h
theorem Sl.takeC {w : World} {b o n c i : Nat} {xs : List Crew} (h : Sl w 5 (some ⟨b, o, none⟩) n c (xs.flatMap Crew.row)) (hi : i ≤ n) : Sl w 5 (some ⟨b, o, none⟩) i c ((xs.take i).flatMap Crew.row) := by
  have hl := h.xs_len Crew.row_len (by omega)
  have hc := h.cap
  refine ⟨by rw [flat_len Crew.row_len, List.length_take]; congr 1; omega, by omega, h.max, fun hn => ?_⟩
  obtain ⟨b', o', e, hb, hcl⟩ := h.at_ (by omega)
  simp only [Option.some.injEq, Addr.mk.injEq, and_true] at e
  obtain ⟨rfl, rfl⟩ := e
  refine ⟨b, o, rfl, hb, fun j v hv => hcl j v ?_⟩
  rw [flat_take Crew.row_len, List.getElem?_take] at hv
  split at hv
  · exact hv
  · cases hv
theorem drop_cells {w : World} {b o n c i : Nat} {xs : List Crew} (h : Sl w 5 (some ⟨b, o, none⟩) n c (xs.flatMap Crew.row)) (hi : i < n) : ∀ j u, ((xs.drop (i + 1)).flatMap Crew.row)[j]? = some u → w.cell? ((⟨b, o + (i + 1) * 5, none⟩ : Addr).add j) = some u := fun j u hu => by
  obtain ⟨b', o', e, hb, hcl⟩ := h.at_ (by omega)
  simp only [Option.some.injEq, Addr.mk.injEq, and_true] at e
  obtain ⟨rfl, rfl⟩ := e
  rw [flat_drop Crew.row_len, List.getElem?_drop] at hu
  have := hcl _ _ hu
  rw [Addr.add_lit]
  rwa [show o + (i + 1) * 5 + j = o + ((i + 1) * 5 + j) by omega]
def outL (xs : List Crew) (i : Nat) : List Crew := xs.take i ++ xs.drop (i + 1)
theorem outL_flat (xs : List Crew) (i : Nat) : (outL xs i).flatMap Crew.row = (xs.take i).flatMap Crew.row ++ (xs.drop (i + 1)).flatMap Crew.row := by simp [outL]
theorem all_mem {xs : List Crew} (h : allC xs) : ∀ x ∈ xs, goodC x = true := fun x hx => by
  obtain ⟨i, hi⟩ := List.getElem?_of_mem hx
  exact h i x hi
theorem outL_all {xs : List Crew} (h : allC xs) (i : Nat) : allC (outL xs i) := fun j x hx => by
  have hm := List.mem_of_getElem? hx
  simp only [outL, List.mem_append] at hm
  rcases hm with h1 | h1
  · exact all_mem h x (List.mem_of_mem_take h1)
  · exact all_mem h x (List.mem_of_mem_drop h1)
def neB (k : Int) (y : Crew) : Bool := !(y.id == k)
theorem ids_rise {xs : List Crew} (h : noneBad (badAt goodC Crew.id xs) xs.length = true) : ∀ (d j : Nat) (x y : Crew), xs[j]? = some y → xs[j + d + 1]? = some x → y.id < x.id
  | 0, j, x, y, hy, hx => rises_of h hx hy
  | d + 1, j, x, y, hy, hx => by
    obtain ⟨z, hz⟩ : ∃ z, xs[j + d + 1]? = some z := get_of_lt (by have := (List.getElem?_eq_some_iff.1 hx).1; omega)
    have h1 := ids_rise h d j z y hy hz
    have h2 := rises_of h (i := j + d + 1) hx hz
    omega
theorem filter_out {xs : List Crew} (h : noneBad (badAt goodC Crew.id xs) xs.length = true) {i : Nat} {x : Crew} (hx : xs[i]? = some x) : xs.filter (neB x.id) = outL xs i := by
  have hi := (List.getElem?_eq_some_iff.1 hx).1
  have e : xs = xs.take i ++ x :: xs.drop (i + 1) := by
    have h1 := List.take_append_drop i xs
    rw [List.drop_eq_getElem_cons hi] at h1
    rw [List.getElem?_eq_getElem hi] at hx
    rw [Option.some.inj hx] at h1
    exact h1.symm
  conv => lhs; rw [e]
  rw [List.filter_append, List.filter_cons]
  have h1 : (xs.take i).filter (neB x.id) = xs.take i := List.filter_eq_self.2 fun y hy => by
    obtain ⟨j, hj⟩ := List.getElem?_of_mem hy
    rw [List.getElem?_take] at hj
    split at hj
    · rename_i hlt
      have := ids_rise h (i - j - 1) j x y hj (by rw [show j + (i - j - 1) + 1 = i by omega]; exact hx)
      simp [neB]; omega
    · cases hj
  have h2 : (xs.drop (i + 1)).filter (neB x.id) = xs.drop (i + 1) := List.filter_eq_self.2 fun y hy => by
    obtain ⟨j, hj⟩ := List.getElem?_of_mem hy
    rw [List.getElem?_drop] at hj
    have := ids_rise h j i y x hx (by rw [show i + j + 1 = i + 1 + j by omega]; exact hj)
    simp [neB]; omega
  rw [h1, h2]
  simp [neB, outL]

theorem cloOut (x : Crew) (k : Int) (cb : Nat) (w : World) (hc : w.cell? ⟨cb, 0, none⟩ = some (.int .i64 k)) (hb : cb < w.heap.size) :
    Calls Try.prog 55 #[.agg #[.int .i64 x.id, .int .i64 x.rate, .int .i64 x.tires, .int .i64 x.shift, .int .i64 x.start], .pointer (some ⟨cb, 0, none⟩)] w fun e w' => e = .returned (.bool (neB k x)) ∧ Below w.heap.size w w' := by
  rcases hq : (x.id == k) with _ | _
  · have hq2 : (x.id != k) = true := by simp [bne, hq]
    have hR := hid (show neB k x = true by simp [neB, hq])
    go_enter Try.func55, Try.ntmps55
    go_wp2
    go_ret
    exact ⟨by rw [hR.out]; rfl, by (repeat' (first | (with_reducible exact bel_refl _) | (with_reducible assumption) | (with_reducible refine bel_drew ?_) | (with_reducible refine bel_drewN ?_) | (with_reducible refine bel_alloc ?_) | (with_reducible refine bel_set ?_ ?_) | (with_reducible refine bel_trans ?_ (by with_reducible assumption)) | omega | (simp; done) | (simp; omega)))⟩
  · have hq2 : (x.id != k) = false := by simp [bne, hq]
    have hR := hid (show neB k x = false by simp [neB, hq])
    go_enter Try.func55, Try.ntmps55
    go_wp2
    go_ret
    exact ⟨by rw [hR.out]; rfl, by (repeat' (first | (with_reducible exact bel_refl _) | (with_reducible assumption) | (with_reducible refine bel_drew ?_) | (with_reducible refine bel_drewN ?_) | (with_reducible refine bel_alloc ?_) | (with_reducible refine bel_set ?_ ?_) | (with_reducible refine bel_trans ?_ (by with_reducible assumption)) | omega | (simp; done) | (simp; omega)))⟩
theorem fil_yes {xs : List Crew} {k : Int} {i : Nat} {x : Crew} (hx : xs[i]? = some x) (h : neB k x = true) : ((xs.take i).filter (neB k)).flatMap Crew.row ++ x.row = ((xs.take (i + 1)).filter (neB k)).flatMap Crew.row := by
  rw [List.take_add_one, hx]
  simp [h]
theorem fil_no {xs : List Crew} {k : Int} {i : Nat} {x : Crew} (hx : xs[i]? = some x) (h : neB k x = false) : (xs.take i).filter (neB k) = (xs.take (i + 1)).filter (neB k) := by
  rw [List.take_add_one, hx]
  simp [h]
set_option maxHeartbeats 1000000 in
theorem filterOut (A : Option Addr) (n c : Nat) (xs : List Crew) (id : Int) (cb : Nat) (w : World) (hS : Sl w 5 A n c (xs.flatMap Crew.row)) (hn : n ≤ 6) (hc : w.cell? ⟨cb, 0, none⟩ = some (.int .i64 id)) (hp : cb < w.heap.size) :
    Calls Try.prog 54 #[.slice A n c, .func (.func 55) #[] #[.pointer (some ⟨cb, 0, none⟩)]] w fun e w' => ∃ A' n' c', e = .returned (.slice A' n' c') ∧ Own w.heap.size w'.heap.size w' 25 5 A' n' c' ((xs.filter (neB id)).flatMap Crew.row) ∧ Below w.heap.size w w' := by
  have hlh := hid (hS.xs_len Crew.row_len (by omega))
  go_enter Try.func54, Try.ntmps54
  go_wp2_with fail
  go_loopw [5, 11] (fun q v wr => ∃ i : Nat, i ≤ n ∧ v = .int .i64 i ∧ (∃ A' k c', q = .slice A' k c' ∧ wr.ownsRow w.heap.size 25 5 (.slice A' k c') k (((xs.take i).filter (neB id)).flatMap Crew.row)) ∧ Below w.heap.size w wr) (fun _ v _ => n - (intOf v).toNat)
  case atStart => exact ⟨0, by omega, rfl, ⟨_, _, _, rfl, own_empty (w := w) (size := 5) (e := 25) (Nat.le_refl _)⟩, by (repeat' (first | (with_reducible exact bel_refl _) | (with_reducible assumption) | (with_reducible refine bel_drew ?_) | (with_reducible refine bel_drewN ?_) | (with_reducible refine bel_alloc ?_) | (with_reducible refine bel_set ?_ ?_) | (with_reducible refine bel_trans ?_ (by with_reducible assumption)) | omega | (simp; done) | (simp; omega)))⟩
  case round =>
    obtain ⟨i, hi', rfl, ⟨A', k, c', rfl, hown⟩, hB2⟩ := hrel
    by_cases hlt : i < n
    · obtain ⟨x, hx⟩ : ∃ x, xs[i]? = some x := get_of_lt (by rw [hlh.out]; exact hlt)
      obtain ⟨b, o, rfl, hb, c0, c1, c2, c3, c4⟩ := (hS.bel hB2).crew hx
      have hX := hid hx
      clear hx
      have hcr := (hB2.cell (p := ⟨cb, 0, none⟩) hp).trans hc
      have hps : cb < wr.heap.size := Nat.lt_of_lt_of_le hp hB2.size
      have hk : k ≤ i := by
        have h2 := hown.1
        rw [flat_len Crew.row_len] at h2
        have h3 := List.length_filter_le (neB id) (xs.take i)
        have h4 := List.length_take_le i xs
        omega
      rcases hw : neB id x with _ | _
      · go_wp2_with (go_at_call 55; refine (cloOut x id cb _ (by first | exact hcr | (rw [World.cell?_alloc_past _ _ _ hps]; exact hcr)) (by simp; omega)).mono ?_; rintro _ w2 ⟨rfl, hB1⟩; (first | (with_reducible replace hB2 := bel_trans hB2 hB1) | (with_reducible replace hB2 := bel_trans (bel_alloc hB2) hB1)); (first | (with_reducible replace hown := own_bel hown hB1) | (with_reducible replace hown := own_bel (hown.alloc _) hB1)); obtain ⟨hC1, hF1⟩ := bcell hB1)
        go_roundw
        case rel => exact ⟨i + 1, by omega, by go_num, ⟨_, _, _, rfl, by rw [← fil_no hX.out hw]; exact hown⟩, hB2⟩
        case measure => simp [intOf]; omega
      · go_wp2_with (first | (go_at_call 55; refine (cloOut x id cb _ (by first | exact hcr | (rw [World.cell?_alloc_past _ _ _ hps]; exact hcr)) (by simp; omega)).mono ?_; rintro _ w2 ⟨rfl, hB1⟩; (first | (with_reducible replace hB2 := bel_trans hB2 hB1) | (with_reducible replace hB2 := bel_trans (bel_alloc hB2) hB1)); (first | (with_reducible replace hown := own_bel hown hB1) | (with_reducible replace hown := own_bel (hown.alloc _) hB1)); obtain ⟨hC1, hF1⟩ := bcell hB1) | (at_builtin; refine wpList_push rfl (.tmp 18) (.tmp 20) 36 rfl w.heap.size 25 (.agg #[.int .i64 0, .int .i64 0, .int .i64 0, .int .i64 0, .int .i64 0]) 5 40 Try.underlying36 info_Crew rfl (by omega) A' k c' _ [.int .i64 x.id, .int .i64 x.rate, .int .i64 x.tires, .int .i64 x.shift, .int .i64 x.start] 25 rfl hown rfl rfl (oneCell_crew x) (by omega) (by omega) hB2.size ?_; intro A'' c'' w3 hown2 hb3 hg3))
        go_roundw
        case rel => exact ⟨i + 1, by omega, by go_num, ⟨_, _, _, rfl, by rw [← fil_yes hX.out hw]; exact hown2⟩, hB2.trans hb3⟩
        case measure => simp [intOf]; omega
    · go_wp2
      go_ret
      have e : i = n := by omega
      subst e
      rw [List.take_of_length_le (by rw [hlh.out]; omega)] at hown
      exact ⟨A', k, c', rfl, Own.mk_ hown, hB2⟩
end Go.Proofs.Ythbjgccldoofgaa
