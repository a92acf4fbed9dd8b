/-
  A slice of numbers that came in as an argument.
-/
import Derived.Test.YtcdgkiiokplidaaLift
namespace Go.Proofs.Ytcdgkiiokplidaa
open Go.ChangeShapes Go.WideShapes Go.ChangeAt Go.RowKit Go.Joins

section
variable {H : Type} {enc : TypeId × Value → H} {P : Program}
theorem slice_ints {W : World} {r : Reach} {b0 : Nat} {t e : TypeId} {v : Value} {d : DataW H} {p : List MemPlace} (ht : P.underlying t = some (.slice e)) (he : P.underlying e = some (.int .i64)) (hC : P.cellsOf e = 1)
    (hv : Value.okWide P W r b0 t v) (h : DataW.Trod enc P W 0 (fun _ => true) true t v d p) :
    ∃ (A : Option Addr) (n c : Nat) (xs : List Int), v = .slice A n c ∧ Sl W 1 A n c (ints xs) := by
  have flat : ∀ L : List (List Int), L.flatMap ints = ints L.flatten := fun L => by
    induction L with
    | nil => rfl
    | cons l L ih => rw [List.flatMap_cons, ih, List.flatten_cons]; simp [ints]
  obtain ⟨a0, len, cap, rfl⟩ := okWide_slice ht hv
  obtain ⟨fuel, hf⟩ := h
  rcases Go.Deep.open_slice ht hf with ⟨hcs, _⟩ | ⟨a, len', cap', m, n', D, Pl, hcs, _, hl, hm, hmm, _, hi'⟩
  · simp only [Value.cells, List.cons.injEq, Value.slice.injEq, and_true] at hcs
    obtain ⟨rfl, rfl, rfl⟩ := hcs
    exact ⟨none, 0, 0, [], rfl, rfl, Nat.le_refl _, Nat.zero_le _, fun h => absurd h (by omega)⟩
  · simp only [Value.cells, List.cons.injEq, Value.slice.injEq, and_true] at hcs
    obtain ⟨rfl, rfl, rfl⟩ := hcs
    simp only [if_true] at hmm
    subst hmm
    have rows : ∀ i, i < len → ∃ ks : List Int, ks.length = 1 ∧ ∀ j v, (ints ks)[j]? = some v → W.cell? (a.add (i * 1 + j)) = some v := fun i him => by
      obtain ⟨cs', hc, ht'⟩ := hi' i (by omega)
      rw [hC] at hc
      obtain ⟨_, hcl, hat⟩ := World.cells?_some hc
      obtain ⟨v0, rfl⟩ : ∃ v0, cs' = [v0] := by
        match cs', hcl with
        | [v0], _ => exact ⟨v0, rfl⟩
      obtain ⟨k0, rfl, _⟩ := int_field he ht'
      refine ⟨[k0], rfl, fun j v hj => ?_⟩
      have hjl : j < 1 := by
        have := (List.getElem?_eq_some_iff.1 hj).1
        rw [ints_len] at this
        simpa using this
      have := hat j hjl
      rw [← Go.Deep.add_add, this]
      exact hj
    obtain ⟨L, hL, hk, hc⟩ := rows_upto rows
    refine ⟨some a, len, _, L.flatten, rfl, ?_, hl, hm, fun hn => ?_⟩
    · have := flat_len_of L 1 hk
      rw [← flat, this, hL]
    · obtain ⟨b, off, spot⟩ := a
      have hlen := flat_len_of L 1 hk
      have h0 : 0 < (L.flatMap ints).length := by rw [hlen, hL]; omega
      have hcell0 := hc 0 _ (List.getElem?_eq_getElem h0)
      have hspot : spot = none := by simpa [Addr.add] using World.cell?_spot hcell0
      subst hspot
      refine ⟨b, off, rfl, ?_, fun j v hj => ?_⟩
      · have := block_lt_of_cell hcell0
        simpa [Addr.add] using this
      · rw [← Go.WideShapes.add_plain]
        rw [← flat] at hj
        exact hc j v hj
end
end Go.Proofs.Ytcdgkiiokplidaa
