/-
  A slice of scenarios that came in as an argument: each holds a slice of phases and a number.
-/
import Derived.Test.YtdfjfopbhlbmkaaLift
import Derived.Test.YtdfjfopbhlbmkaaEnsTop
namespace Go.Proofs.Ytdfjfopbhlbmkaa
open Go.ChangeShapes Go.WideShapes Go.ChangeAt Go.RowKit Go.Joins

section
variable {H : Type} {enc : TypeId × Value → H} {P : Program}
theorem slice_cells {W : World} {t e : TypeId} {fs : Array Field} {v : Value} {fuel : Nat} {x : DataW H × List MemPlace} (ht : P.underlying t = some (.slice e)) (he : P.underlying e = some (.struct fs)) (hi : intFields P fs = true) (hC : P.cellsOf e = fs.size) (hpos : 0 < fs.size)
    (hf : DataW.trod enc P W 0 (fun _ => true) true fuel t [v] = some x) :
    ∃ (A : Option Addr) (n c : Nat) (L : List (List Int)), v = .slice A n c ∧ (∀ l ∈ L, l.length = fs.size) ∧ Sl W fs.size A n c (L.flatMap ints) := by
  rcases Go.Deep.open_slice ht hf with ⟨hcs, _⟩ | ⟨a, len, cap, m, n', D, Pl, hcs, _, hl, hm, hmm, _, hi'⟩
  · simp only [List.cons.injEq, and_true] at hcs
    subst hcs
    exact ⟨none, 0, 0, [], rfl, by simp, by simp, Nat.le_refl _, Nat.zero_le _, fun h => absurd h (by omega)⟩
  · simp only [List.cons.injEq, and_true] at hcs
    subst hcs
    simp only [if_true] at hmm
    subst hmm
    have rows : ∀ i, i < len → ∃ ks : List Int, ks.length = fs.size ∧ ∀ j v, (ints ks)[j]? = some v → W.cell? (a.add (i * fs.size + j)) = some v := fun i him => by
      obtain ⟨cs', hc, ht'⟩ := hi' i (by omega)
      rw [hC] at hc
      obtain ⟨_, hcl, hat⟩ := World.cells?_some hc
      obtain ⟨ks, hk1, hk2, _⟩ := struct_ints_cells he hi hC ht'
      refine ⟨ks, hk1, fun j v hj => ?_⟩
      have hjl : j < fs.size := by
        have := (List.getElem?_eq_some_iff.1 hj).1
        rw [ints_len] at this
        omega
      have := hat j hjl
      rw [← Go.Deep.add_add, this, hk2]
      exact hj
    obtain ⟨L, hL, hk, hc⟩ := rows_upto rows
    refine ⟨some a, len, _, L, rfl, hk, ?_, hl, hm, fun hn => ?_⟩
    · have := flat_len_of L fs.size hk
      rw [this, hL]
    · obtain ⟨b, off, spot⟩ := a
      have hlen := flat_len_of L fs.size hk
      have h0 : 0 < (L.flatMap ints).length := by rw [hlen, hL]; exact Nat.mul_pos hn hpos
      have hcell0 := hc 0 _ (List.getElem?_eq_getElem h0)
      have hspot : spot = none := by simpa [Addr.add] using World.cell?_spot hcell0
      subst hspot
      refine ⟨b, off, rfl, ?_, fun j v hj => ?_⟩
      · have := block_lt_of_cell hcell0
        simpa [Addr.add] using this
      · rw [← Go.WideShapes.add_plain]
        exact hc j v hj
end
set_option maxRecDepth 100000 in
theorem scen_cells {H : Type} {enc : TypeId × Value → H} {W : World} {cs : List Value} {fuel : Nat} {x : DataW H × List MemPlace} (h : DataW.trod enc Try.prog W 0 (fun _ => true) true fuel 51 cs = some x) :
    ∃ y : Scen, cs = y.row ∧ Sl W 2 y.A y.n y.c (y.ps.flatMap Phase.row) := by
  obtain ⟨xs, n, _, _, hl, hlen, hf⟩ := DataW.trod_struct Try.underlying51 h
  have hcl : cs.length = 2 := hl
  obtain ⟨v0, v1, rfl⟩ : ∃ v0 v1, cs = [v0, v1] := by
    match cs, hcl with
    | [v0, v1], _ => exact ⟨v0, v1, rfl⟩
  have hxl : xs.length = 2 := hlen
  have h0 := hf 0 _ rfl
  have h1 := hf 1 _ rfl
  have hx0 : xs[0]? = some (xs[0]'(by omega)) := List.getElem?_eq_getElem (by omega)
  have hx1 : xs[1]? = some (xs[1]'(by omega)) := List.getElem?_eq_getElem (by omega)
  rw [hx0] at h0
  rw [hx1] at h1
  obtain ⟨A, m, c, L, rfl, hk, hS⟩ := slice_cells Try.underlying49 Try.underlying95 (by kernel_rfl) (by kernel_rfl) (by decide) h0
  obtain ⟨k, rfl, _⟩ := int_field Try.underlying3 h1
  obtain ⟨ps, hps⟩ := Phase.of_lists hk
  rw [← hps] at hS
  exact ⟨⟨A, m, c, ps, k⟩, rfl, hS⟩
theorem scens_upto {W : World} {a : Addr} {q : Nat} (h : ∀ i, i < q → ∃ y : Scen, (∀ j v, y.row[j]? = some v → W.cell? (a.add (i * 2 + j)) = some v) ∧ Sl W 2 y.A y.n y.c (y.ps.flatMap Phase.row)) :
    ∃ xs : List Scen, xs.length = q ∧ ScOk W xs ∧ ∀ j v, (xs.flatMap Scen.row)[j]? = some v → W.cell? (a.add j) = some v := by
  induction q with
  | zero => exact ⟨[], rfl, fun i x hx => by simp at hx, by simp⟩
  | succ q ih =>
    obtain ⟨xs, hl, hk, hc⟩ := ih (fun i hi => h i (by omega))
    obtain ⟨y, hcs, hy⟩ := h q (by omega)
    refine ⟨xs ++ [y], by simp [hl], fun i x hx => ?_, fun j v hj => ?_⟩
    · rw [List.getElem?_append] at hx
      split at hx
      · exact hk i x hx
      · rcases h0 : i - xs.length with _ | k
        · rw [h0] at hx
          simp only [List.getElem?_cons_zero, Option.some.injEq] at hx
          subst hx
          exact hy
        · rw [h0] at hx
          simp at hx
    · have hlen : (xs.flatMap Scen.row).length = q * 2 := by rw [flat_len Scen.row_len, hl]
      rw [List.flatMap_append, List.getElem?_append] at hj
      split at hj
      · exact hc j v hj
      · rename_i hge
        simp only [List.flatMap_cons, List.flatMap_nil, List.append_nil] at hj
        have := hcs (j - (xs.flatMap Scen.row).length) v hj
        rw [hlen] at this hge
        rwa [show q * 2 + (j - q * 2) = j from by omega] at this
set_option maxRecDepth 100000 in
theorem slice_scens {H : Type} {enc : TypeId × Value → H} {W : World} {r : Reach} {b0 : Nat} {v : Value} {d : DataW H} {p : List MemPlace} (hv : Value.okWide Try.prog W r b0 25 v) (h : DataW.Trod enc Try.prog W 0 (fun _ => true) true 25 v d p) :
    ∃ (A : Option Addr) (n c : Nat) (xs : List Scen), v = .slice A n c ∧ Sl W 2 A n c (xs.flatMap Scen.row) ∧ ScOk W xs := by
  obtain ⟨a0, len, cap, rfl⟩ := okWide_slice Try.underlying25 hv
  obtain ⟨fuel, hf⟩ := h
  rcases Go.Deep.open_slice Try.underlying25 hf with ⟨hcs, _⟩ | ⟨a, len', cap', m, n', D, Pl, hcs, _, hl, hm, hmm, _, hi'⟩
  · simp only [Value.cells, List.cons.injEq, Value.slice.injEq, and_true] at hcs
    obtain ⟨rfl, rfl, rfl⟩ := hcs
    exact ⟨none, 0, 0, [], rfl, ⟨by simp, Nat.le_refl _, Nat.zero_le _, fun h => absurd h (by omega)⟩, fun i x hx => by simp at hx⟩
  · simp only [Value.cells, List.cons.injEq, Value.slice.injEq, and_true] at hcs
    obtain ⟨rfl, rfl, rfl⟩ := hcs
    simp only [if_true] at hmm
    subst hmm
    have hC : Try.prog.cellsOf 51 = 2 := by kernel_rfl
    obtain ⟨xs, hL, hO, hc⟩ := scens_upto (W := W) (a := a) (q := len) (fun i him => by
      obtain ⟨cs', hc, ht'⟩ := hi' i (by omega)
      rw [hC] at hc
      obtain ⟨_, hcl, hat⟩ := World.cells?_some hc
      obtain ⟨y, rfl, hy⟩ := scen_cells ht'
      refine ⟨y, fun j v hj => ?_, hy⟩
      have hjl : j < 2 := (List.getElem?_eq_some_iff.1 hj).1
      have := hat j hjl
      rw [← Go.Deep.add_add, this]
      exact hj)
    have hlen : (xs.flatMap Scen.row).length = len * 2 := by rw [flat_len Scen.row_len, hL]
    refine ⟨some a, len, _, xs, rfl, ⟨hlen, hl, hm, fun hn => ?_⟩, hO⟩
    obtain ⟨b, off, spot⟩ := a
    have h0 : 0 < (xs.flatMap Scen.row).length := by omega
    have hcell0 := hc 0 _ (List.getElem?_eq_getElem h0)
    have hspot : spot = none := by simpa [Addr.add] using World.cell?_spot hcell0
    subst hspot
    refine ⟨b, off, rfl, ?_, fun j v hj => ?_⟩
    · have := block_lt_of_cell hcell0
      simpa [Addr.add] using this
    · rw [← Go.WideShapes.add_plain]
      exact hc j v hj
end Go.Proofs.Ytdfjfopbhlbmkaa
