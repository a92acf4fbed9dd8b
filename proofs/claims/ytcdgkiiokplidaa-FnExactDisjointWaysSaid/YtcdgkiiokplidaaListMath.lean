/-
  Lists that are checked place by place, as plain functions.
-/
import Derived.Test.YtcdgkiiokplidaaMem
namespace Go.Proofs.Ytcdgkiiokplidaa
open Go.RowKit

/-- None of the first n places is bad. -/
def noneBad (bad : Nat → Bool) (n : Nat) : Bool := (List.range n).all fun i => !bad i
theorem noneBad_yes {bad : Nat → Bool} {n : Nat} (h : ∀ r, r < n → bad r = false) : noneBad bad n = true := by
  rw [noneBad, List.all_eq_true]
  intro i hi
  simp [h i (List.mem_range.1 hi)]
theorem noneBad_no {bad : Nat → Bool} {n i : Nat} (hi : i < n) (h : bad i = true) : noneBad bad n = false := by
  rw [noneBad, List.all_eq_false]
  exact ⟨i, List.mem_range.2 hi, by simp [h]⟩
theorem noBad_snoc {bad : Nat → Bool} {i : Nat} (h : Hid (∀ r, r < i → bad r = false)) (hb : bad i = false) : Hid (∀ r, r < i + 1 → bad r = false) := fun r hr => by
  rcases Nat.lt_or_ge r i with h1 | h1
  · exact h.out r h1
  · rw [show r = i from by omega]; exact hb
theorem noneBad_at {bad : Nat → Bool} {n i : Nat} (h : noneBad bad n = true) (hi : i < n) : bad i = false := by
  rw [noneBad, List.all_eq_true] at h
  simpa using h i (List.mem_range.2 hi)

/-- The place i of a list is bad: its element is, or it clashes with the one before. -/
def badAt {α : Type} (good : α → Bool) (clash : α → α → Bool) (xs : List α) (i : Nat) : Bool :=
  match xs[i]? with
  | none => false
  | some x => !good x || (match i with
    | 0 => false
    | j + 1 => match xs[j]? with
      | none => false
      | some y => clash y x)
section
variable {α : Type} {good : α → Bool} {clash : α → α → Bool} {xs : List α} {i : Nat} {x y : α}
theorem badAt_ill (hx : xs[i]? = some x) (h : good x = false) : badAt good clash xs i = true := by simp [badAt, hx, h]
theorem badAt_first (hx : xs[0]? = some x) (h : good x = true) : badAt good clash xs 0 = false := by simp only [badAt, hx, h]; rfl
theorem badAt_next (hx : xs[i + 1]? = some x) (hy : xs[i]? = some y) (h : good x = true) : badAt good clash xs (i + 1) = clash y x := by simp only [badAt, hx, hy, h]; rfl
theorem good_of (h : noneBad (badAt good clash xs) xs.length = true) (hx : xs[i]? = some x) : good x = true := by
  have hi : i < xs.length := (List.getElem?_eq_some_iff.1 hx).1
  have hb := noneBad_at h hi
  rcases hg : good x with _ | _
  · rw [badAt_ill hx hg] at hb; cases hb
  · rfl
theorem clash_of (h : noneBad (badAt good clash xs) xs.length = true) (hx : xs[i + 1]? = some x) (hy : xs[i]? = some y) : clash y x = false := by
  have hi : i + 1 < xs.length := (List.getElem?_eq_some_iff.1 hx).1
  have hb := noneBad_at h hi
  rwa [badAt_next hx hy (good_of h hx)] at hb
end
end Go.Proofs.Ytcdgkiiokplidaa
