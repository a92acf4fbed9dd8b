/-
  The functions that the laws themselves are made of, walked: copies, comparisons, marks.
-/
import Derived.Test.YtfimchbjpambfaaRows
import Derived.Test.YtfimchbjpambfaaMem
namespace Go.Proofs.Ytfimchbjpambfaa
open Go.RowKit

/-! ### Road -/
structure Road where
  a : Int
  b : Int
  minutes : Int
  closes : Int
def Road.row (x : Road) : List Value := [.int .i64 x.a, .int .i64 x.b, .int .i64 x.minutes, .int .i64 x.closes]
theorem Road.row_len (x : Road) : x.row.length = 4 := rfl
theorem Road.flat {xs : List Road} {i : Nat} {x : Road} (hx : xs[i]? = some x) : (xs.flatMap Road.row)[i * 4]? = some (.int .i64 x.a) ∧ (xs.flatMap Road.row)[i * 4 + 1]? = some (.int .i64 x.b) ∧ (xs.flatMap Road.row)[i * 4 + 2]? = some (.int .i64 x.minutes) ∧ (xs.flatMap Road.row)[i * 4 + 3]? = some (.int .i64 x.closes) := by
  have fg := flat_get Road.row_len hx
  exact ⟨fg 0 _ rfl, fg 1 _ rfl, fg 2 _ rfl, fg 3 _ rfl⟩
theorem Sl.road {w : World} {A : Option Addr} {n c : Nat} {xs : List Road} (h : Sl w 4 A n c (xs.flatMap Road.row)) {i : Nat} {x : Road} (hx : xs[i]? = some x) :
    ∃ b o, A = some ⟨b, o, none⟩ ∧ b < w.heap.size ∧ w.cell? ⟨b, o + i * 4, none⟩ = some (.int .i64 x.a) ∧ w.cell? ⟨b, o + i * 4 + 1, none⟩ = some (.int .i64 x.b) ∧ w.cell? ⟨b, o + i * 4 + 2, none⟩ = some (.int .i64 x.minutes) ∧ w.cell? ⟨b, o + i * 4 + 3, none⟩ = some (.int .i64 x.closes) := by
  obtain ⟨b, o, rfl, hb, hc⟩ := h.at_row Road.row_len (by omega) hx
  exact ⟨b, o, rfl, hb, hc 0 _ rfl, hc 1 _ rfl, hc 2 _ rfl, hc 3 _ rfl⟩

theorem Road.of_lists : ∀ {L : List (List Int)}, (∀ l ∈ L, l.length = 4) → ∃ xs : List Road, xs.flatMap Road.row = L.flatMap ints
  | [], _ => ⟨[], rfl⟩
  | l :: L, h => by
    obtain ⟨xs, hx⟩ := Road.of_lists (L := L) (fun l hl => h l (by simp [hl]))
    match l, h l (by simp) with
    | [a0, a1, a2, a3], _ => exact ⟨⟨a0, a1, a2, a3⟩ :: xs, by rw [List.flatMap_cons, List.flatMap_cons, hx]; rfl⟩



theorem info_Road : (Try.prog.info? 39).map (fun i => (i.zero, i.size, i.bytes)) = some (some (.agg #[.int .i64 0, .int .i64 0, .int .i64 0, .int .i64 0]), 4, 32) := by kernel_rfl



/-! ### lists of numbers -/
theorem info_int : (Try.prog.info? 3).map (fun i => (i.zero, i.size, i.bytes)) = some (some (.int .i64 0), 1, 8) := by kernel_rfl



end Go.Proofs.Ytfimchbjpambfaa
