/-
  A terrain that came in as an argument: a struct that holds a slice of numbers.
-/
import Derived.Test.YtcdgkiiokplidaaLift2
import Derived.Test.YtcdgkiiokplidaaTerrB
namespace Go.Proofs.Ytcdgkiiokplidaa
open Go.ChangeShapes Go.WideShapes Go.ChangeAt Go.RowKit Go.Joins

section
variable {H : Type} {enc : TypeId × Value → H} {P : Program}
theorem slice_intsC {W : World} {t e : TypeId} {v : Value} {fuel : Nat} {x : DataW H × List MemPlace} (ht : P.underlying t = some (.slice e)) (he : P.underlying e = some (.int .i64)) (hC : P.cellsOf e = 1)
    (hf : DataW.trod enc P W 0 (fun _ => true) true fuel t [v] = some x) :
    ∃ (A : Option Addr) (n c : Nat) (xs : List Int), v = .slice A n c ∧ Sl W 1 A n c (ints xs) := by
  have flat : ∀ L : List (List Int), L.flatMap ints = ints L.flatten := fun L => by
    induction L with
    | nil => rfl
    | cons l L ih => rw [List.flatMap_cons, ih, List.flatten_cons]; simp [ints]
  rcases Go.Deep.open_slice ht hf with ⟨hcs, _⟩ | ⟨a, len, cap, m, n', D, Pl, hcs, _, hl, hm, hmm, _, hi'⟩
  · simp only [List.cons.injEq, and_true] at hcs
    subst hcs
    exact ⟨none, 0, 0, [], rfl, rfl, Nat.le_refl _, Nat.zero_le _, fun h => absurd h (by omega)⟩
  · simp only [List.cons.injEq, and_true] at hcs
    subst hcs
    simp only [if_true] at hmm
    subst hmm
    have rows : ∀ i, i < len → ∃ ks : List Int, ks.length = 1 ∧ ∀ j v, (ints ks)[j]? = some v → W.cell? (a.add (i * 1 + j)) = some v := fun i him => by
      obtain ⟨cs', hc, ht'⟩ := hi' i (by omega)
      rw [hC] at hc
      obtain ⟨_, hcl, hat⟩ := World.cells?_some hc
      obtain ⟨v0, rfl⟩ : ∃ v0, cs' = [v0] := by
        match cs', hcl with
        | [v0], _ => exact ⟨v0, rfl⟩
      obtain ⟨k0, rfl, _⟩ := int_field he ht'
      refine ⟨[k0], rfl, fun j v hj => ?_⟩
      have hjl : j < 1 := by
        have := (List.getElem?_eq_some_iff.1 hj).1
        rw [ints_len] at this
        simpa using this
      have := hat j hjl
      rw [← Go.Deep.add_add, this]
      exact hj
    obtain ⟨L, hL, hk, hc⟩ := rows_upto rows
    refine ⟨some a, len, _, L.flatten, rfl, ?_, hl, hm, fun hn => ?_⟩
    · have := flat_len_of L 1 hk
      rw [← flat, this, hL]
    · obtain ⟨b, off, spot⟩ := a
      have hlen := flat_len_of L 1 hk
      have h0 : 0 < (L.flatMap ints).length := by rw [hlen, hL]; omega
      have hcell0 := hc 0 _ (List.getElem?_eq_getElem h0)
      have hspot : spot = none := by simpa [Addr.add] using World.cell?_spot hcell0
      subst hspot
      refine ⟨b, off, rfl, ?_, fun j v hj => ?_⟩
      · have := block_lt_of_cell hcell0
        simpa [Addr.add] using this
      · rw [← Go.WideShapes.add_plain]
        rw [← flat] at hj
        exact hc j v hj
end
set_option maxRecDepth 100000 in
theorem terr_cells {H : Type} {enc : TypeId × Value → H} {W : World} {cs : List Value} {fuel : Nat} {x : DataW H × List MemPlace} (h : DataW.trod enc Try.prog W 0 (fun _ => true) true fuel 24 cs = some x) :
    ∃ t : Terr, cs = [.int .i64 t.W, .int .i64 t.H, .slice t.A t.n t.c] ∧ TOk W t := by
  obtain ⟨xs, n, _, _, hl, hlen, hf⟩ := DataW.trod_struct Try.underlying24 h
  have hcl : cs.length = 3 := hl
  obtain ⟨v0, v1, v2, rfl⟩ : ∃ v0 v1 v2, cs = [v0, v1, v2] := by
    match cs, hcl with
    | [v0, v1, v2], _ => exact ⟨v0, v1, v2, rfl⟩
  have hxl : xs.length = 3 := hlen
  have h0 := hf 0 _ rfl
  have h1 := hf 1 _ rfl
  have h2 := hf 2 _ rfl
  have hx0 : xs[0]? = some (xs[0]'(by omega)) := List.getElem?_eq_getElem (by omega)
  have hx1 : xs[1]? = some (xs[1]'(by omega)) := List.getElem?_eq_getElem (by omega)
  have hx2 : xs[2]? = some (xs[2]'(by omega)) := List.getElem?_eq_getElem (by omega)
  rw [hx0] at h0
  rw [hx1] at h1
  rw [hx2] at h2
  obtain ⟨k0, rfl, _⟩ := int_field Try.underlying3 h0
  obtain ⟨k1, rfl, _⟩ := int_field Try.underlying3 h1
  obtain ⟨A, m, c, ks, rfl, hS⟩ := slice_intsC Try.underlying22 Try.underlying3 (by kernel_rfl) h2
  exact ⟨⟨k0, k1, A, m, c, ks⟩, rfl, hS⟩
set_option maxRecDepth 100000 in
theorem terr_open {H : Type} {enc : TypeId × Value → H} {W : World} {r : Reach} {b0 : Nat} {v : Value} {d : DataW H} {p : List MemPlace} (hv : Value.okWide Try.prog W r b0 24 v) (h : DataW.Trod enc Try.prog W 0 (fun _ => true) true 24 v d p) :
    ∃ t : Terr, v = .agg #[.int .i64 t.W, .int .i64 t.H, .slice t.A t.n t.c] ∧ TOk W t := by
  obtain ⟨cs, rfl, hsz⟩ := okWide_struct Try.underlying24 hv
  obtain ⟨fuel, hf⟩ := h
  obtain ⟨t, h1, h2⟩ := terr_cells hf
  refine ⟨t, ?_, h2⟩
  rw [Value.cells] at h1
  congr 1
  apply Array.ext'
  simpa using h1
end Go.Proofs.Ytcdgkiiokplidaa
