/-
  The functions that the laws themselves are made of, walked: copies, comparisons, marks.
-/
import Derived.Test.YthbjgccldoofgaaRows
import Derived.Test.YthbjgccldoofgaaMem
namespace Go.Proofs.Ythbjgccldoofgaa
open Go.RowKit

/-! ### Crew -/
structure Crew where
  id : Int
  rate : Int
  tires : Int
  shift : Int
  start : Int
def Crew.row (x : Crew) : List Value := [.int .i64 x.id, .int .i64 x.rate, .int .i64 x.tires, .int .i64 x.shift, .int .i64 x.start]
theorem Crew.row_len (x : Crew) : x.row.length = 5 := rfl
theorem Crew.flat {xs : List Crew} {i : Nat} {x : Crew} (hx : xs[i]? = some x) : (xs.flatMap Crew.row)[i * 5]? = some (.int .i64 x.id) ∧ (xs.flatMap Crew.row)[i * 5 + 1]? = some (.int .i64 x.rate) ∧ (xs.flatMap Crew.row)[i * 5 + 2]? = some (.int .i64 x.tires) ∧ (xs.flatMap Crew.row)[i * 5 + 3]? = some (.int .i64 x.shift) ∧ (xs.flatMap Crew.row)[i * 5 + 4]? = some (.int .i64 x.start) := by
  have fg := flat_get Crew.row_len hx
  exact ⟨fg 0 _ rfl, fg 1 _ rfl, fg 2 _ rfl, fg 3 _ rfl, fg 4 _ rfl⟩
theorem Sl.crew {w : World} {A : Option Addr} {n c : Nat} {xs : List Crew} (h : Sl w 5 A n c (xs.flatMap Crew.row)) {i : Nat} {x : Crew} (hx : xs[i]? = some x) :
    ∃ b o, A = some ⟨b, o, none⟩ ∧ b < w.heap.size ∧ w.cell? ⟨b, o + i * 5, none⟩ = some (.int .i64 x.id) ∧ w.cell? ⟨b, o + i * 5 + 1, none⟩ = some (.int .i64 x.rate) ∧ w.cell? ⟨b, o + i * 5 + 2, none⟩ = some (.int .i64 x.tires) ∧ w.cell? ⟨b, o + i * 5 + 3, none⟩ = some (.int .i64 x.shift) ∧ w.cell? ⟨b, o + i * 5 + 4, none⟩ = some (.int .i64 x.start) := by
  obtain ⟨b, o, rfl, hb, hc⟩ := h.at_row Crew.row_len (by omega) hx
  exact ⟨b, o, rfl, hb, hc 0 _ rfl, hc 1 _ rfl, hc 2 _ rfl, hc 3 _ rfl, hc 4 _ rfl⟩

theorem Crew.of_lists : ∀ {L : List (List Int)}, (∀ l ∈ L, l.length = 5) → ∃ xs : List Crew, xs.flatMap Crew.row = L.flatMap ints
  | [], _ => ⟨[], rfl⟩
  | l :: L, h => by
    obtain ⟨xs, hx⟩ := Crew.of_lists (L := L) (fun l hl => h l (by simp [hl]))
    match l, h l (by simp) with
    | [a0, a1, a2, a3, a4], _ => exact ⟨⟨a0, a1, a2, a3, a4⟩ :: xs, by rw [List.flatMap_cons, List.flatMap_cons, hx]; rfl⟩


theorem info_Crew : (Try.prog.info? 25).map (fun i => (i.zero, i.size, i.bytes)) = some (some (.agg #[.int .i64 0, .int .i64 0, .int .i64 0, .int .i64 0, .int .i64 0]), 5, 40) := by kernel_rfl

/-! ### lists of numbers -/
theorem info_int : (Try.prog.info? 3).map (fun i => (i.zero, i.size, i.bytes)) = some (some (.int .i64 0), 1, 8) := by kernel_rfl
end Go.Proofs.Ythbjgccldoofgaa
