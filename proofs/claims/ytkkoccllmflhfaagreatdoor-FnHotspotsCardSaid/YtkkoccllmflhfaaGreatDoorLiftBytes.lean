/-
  A slice of bytes that came in as an argument.
-/
import Derived.Test.YtkkoccllmflhfaaGreatDoorLift
namespace Go.Proofs.YtkkoccllmflhfaaGreatDoor
open Go.ChangeShapes Go.WideShapes Go.ChangeAt Go.RowKit Go.Joins

section
variable {H : Type} {enc : TypeId × Value → H} {P : Program}
theorem bytes_upto {W : World} {a : Addr} {q : Nat} (h : ∀ i, i < q → ∃ k : Int, W.cell? (a.add i) = some (.int .u8 k) ∧ 0 ≤ k ∧ k ≤ 255) :
    ∃ cs : List Int, cs.length = q ∧ (∀ (i : Nat) (x : Int), cs[i]? = some x → 0 ≤ x ∧ x ≤ 255) ∧ ∀ j v, (cs.map (Value.int .u8))[j]? = some v → W.cell? (a.add j) = some v := by
  induction q with
  | zero => exact ⟨[], rfl, by simp, by simp⟩
  | succ q ih =>
    obtain ⟨cs, hl, hb, hc⟩ := ih (fun i hi => h i (by omega))
    obtain ⟨k, hk, hk2⟩ := h q (by omega)
    refine ⟨cs ++ [k], by simp [hl], fun i x hx => ?_, fun j v hv => ?_⟩
    · rcases Nat.lt_or_ge i q with h1 | h1
      · rw [List.getElem?_append_left (by omega)] at hx
        exact hb i x hx
      · have hi : i < (cs ++ [k]).length := (List.getElem?_eq_some_iff.1 hx).1
        obtain rfl : i = q := by simp at hi; omega
        rw [List.getElem?_append_right (by omega), hl, Nat.sub_self] at hx
        simp only [List.getElem?_cons_zero, Option.some.injEq] at hx
        rw [← hx]; exact hk2
    · rcases Nat.lt_or_ge j q with h1 | h1
      · refine hc j v ?_
        rw [List.map_append, List.getElem?_append_left (by simp; omega)] at hv
        exact hv
      · have hi : j < ((cs ++ [k]).map (Value.int .u8)).length := (List.getElem?_eq_some_iff.1 hv).1
        obtain rfl : j = q := by simp at hi; omega
        rw [List.map_append, List.getElem?_append_right (by simp; omega), List.length_map, hl, Nat.sub_self] at hv
        simp only [List.map_cons, List.map_nil, List.getElem?_cons_zero, Option.some.injEq] at hv
        rw [← hv]; exact hk
theorem slice_bytes {W : World} {r : Reach} {b0 : Nat} {t e : TypeId} {v : Value} {d : DataW H} {p : List MemPlace} (ht : P.underlying t = some (.slice e)) (he : P.underlying e = some (.int .u8)) (hC : P.cellsOf e = 1)
    (hv : Value.okWide P W r b0 t v) (h : DataW.Trod enc P W 0 (fun _ => true) true t v d p) :
    ∃ (A : Option Addr) (n c : Nat) (cs : List Int), v = .slice A n c ∧ Sl W 1 A n c (cs.map (Value.int .u8)) ∧ ∀ (i : Nat) (x : Int), cs[i]? = some x → 0 ≤ x ∧ x ≤ 255 := by
  obtain ⟨a0, len, cap, rfl⟩ := okWide_slice ht hv
  obtain ⟨fuel, hf⟩ := h
  rcases Go.Deep.open_slice ht hf with ⟨hcs, _⟩ | ⟨a, len', cap', m, n', D, Pl, hcs, _, hl, hm, hmm, _, hi'⟩
  · simp only [Value.cells, List.cons.injEq, Value.slice.injEq, and_true] at hcs
    obtain ⟨rfl, rfl, rfl⟩ := hcs
    exact ⟨none, 0, 0, [], rfl, ⟨rfl, Nat.le_refl _, Nat.zero_le _, fun h => absurd h (by omega)⟩, by simp⟩
  · simp only [Value.cells, List.cons.injEq, Value.slice.injEq, and_true] at hcs
    obtain ⟨rfl, rfl, rfl⟩ := hcs
    simp only [if_true] at hmm
    subst hmm
    have rows : ∀ i, i < len → ∃ k : Int, W.cell? (a.add i) = some (.int .u8 k) ∧ 0 ≤ k ∧ k ≤ 255 := fun i him => by
      obtain ⟨cs', hc, ht'⟩ := hi' i (by omega)
      rw [hC] at hc
      obtain ⟨_, hcl, hat⟩ := World.cells?_some hc
      obtain ⟨v0, rfl⟩ : ∃ v0, cs' = [v0] := by
        match cs', hcl with
        | [v0], _ => exact ⟨v0, rfl⟩
      obtain ⟨k0, e0, _, wa⟩ := DataW.trod_int he ht'
      simp only [List.cons.injEq, and_true] at e0
      subst e0
      have h1 := hat 0 (by omega)
      refine ⟨k0, ?_, ?_⟩
      · simpa [Addr.add] using h1
      · simp only [Lit.wf, IntKind.min, IntKind.max, IntKind.signed, IntKind.bits, Bool.and_eq_true] at wa
        simpa using wa
    obtain ⟨cs, hL, hk, hc⟩ := bytes_upto rows
    refine ⟨some a, len, _, cs, rfl, ⟨by simp [hL], hl, hm, fun hn => ?_⟩, hk⟩
    obtain ⟨b, off, spot⟩ := a
    have h0 : 0 < (cs.map (Value.int .u8)).length := by simp; omega
    have hcell0 := hc 0 _ (List.getElem?_eq_getElem h0)
    have hspot : spot = none := by simpa [Addr.add] using World.cell?_spot hcell0
    subst hspot
    refine ⟨b, off, rfl, ?_, fun j v hj => ?_⟩
    · have := block_lt_of_cell hcell0
      simpa [Addr.add] using this
    · rw [← Go.WideShapes.add_plain]
      exact hc j v hj
end
end Go.Proofs.YtkkoccllmflhfaaGreatDoor
