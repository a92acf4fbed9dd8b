/-
  The functions that the laws themselves are made of, walked: copies, comparisons, marks.
-/
import Derived.Test.YtkkoccllmflhfaaGreatDoorRows
import Derived.Test.YtkkoccllmflhfaaGreatDoorMem
namespace Go.Proofs.YtkkoccllmflhfaaGreatDoor
open Go.RowKit

/-! ### Hotspot -/
structure Hotspot where
  id : Int
  x : Int
  y : Int
  err : Int
  tick : Int
  heat : Int
def Hotspot.row (x : Hotspot) : List Value := [.int .i64 x.id, .int .i64 x.x, .int .i64 x.y, .int .i64 x.err, .int .i64 x.tick, .int .i64 x.heat]
theorem Hotspot.row_len (x : Hotspot) : x.row.length = 6 := rfl
theorem Hotspot.flat {xs : List Hotspot} {i : Nat} {x : Hotspot} (hx : xs[i]? = some x) : (xs.flatMap Hotspot.row)[i * 6]? = some (.int .i64 x.id) ∧ (xs.flatMap Hotspot.row)[i * 6 + 1]? = some (.int .i64 x.x) ∧ (xs.flatMap Hotspot.row)[i * 6 + 2]? = some (.int .i64 x.y) ∧ (xs.flatMap Hotspot.row)[i * 6 + 3]? = some (.int .i64 x.err) ∧ (xs.flatMap Hotspot.row)[i * 6 + 4]? = some (.int .i64 x.tick) ∧ (xs.flatMap Hotspot.row)[i * 6 + 5]? = some (.int .i64 x.heat) := by
  have fg := flat_get Hotspot.row_len hx
  exact ⟨fg 0 _ rfl, fg 1 _ rfl, fg 2 _ rfl, fg 3 _ rfl, fg 4 _ rfl, fg 5 _ rfl⟩
theorem Sl.hotspot {w : World} {A : Option Addr} {n c : Nat} {xs : List Hotspot} (h : Sl w 6 A n c (xs.flatMap Hotspot.row)) {i : Nat} {x : Hotspot} (hx : xs[i]? = some x) :
    ∃ b o, A = some ⟨b, o, none⟩ ∧ b < w.heap.size ∧ w.cell? ⟨b, o + i * 6, none⟩ = some (.int .i64 x.id) ∧ w.cell? ⟨b, o + i * 6 + 1, none⟩ = some (.int .i64 x.x) ∧ w.cell? ⟨b, o + i * 6 + 2, none⟩ = some (.int .i64 x.y) ∧ w.cell? ⟨b, o + i * 6 + 3, none⟩ = some (.int .i64 x.err) ∧ w.cell? ⟨b, o + i * 6 + 4, none⟩ = some (.int .i64 x.tick) ∧ w.cell? ⟨b, o + i * 6 + 5, none⟩ = some (.int .i64 x.heat) := by
  obtain ⟨b, o, rfl, hb, hc⟩ := h.at_row Hotspot.row_len (by omega) hx
  exact ⟨b, o, rfl, hb, hc 0 _ rfl, hc 1 _ rfl, hc 2 _ rfl, hc 3 _ rfl, hc 4 _ rfl, hc 5 _ rfl⟩

theorem Hotspot.of_lists : ∀ {L : List (List Int)}, (∀ l ∈ L, l.length = 6) → ∃ xs : List Hotspot, xs.flatMap Hotspot.row = L.flatMap ints
  | [], _ => ⟨[], rfl⟩
  | l :: L, h => by
    obtain ⟨xs, hx⟩ := Hotspot.of_lists (L := L) (fun l hl => h l (by simp [hl]))
    match l, h l (by simp) with
    | [a0, a1, a2, a3, a4, a5], _ => exact ⟨⟨a0, a1, a2, a3, a4, a5⟩ :: xs, by rw [List.flatMap_cons, List.flatMap_cons, hx]; rfl⟩



theorem info_Hotspot : (Tryz.prog.info? 25).map (fun i => (i.zero, i.size, i.bytes)) = some (some (.agg #[.int .i64 0, .int .i64 0, .int .i64 0, .int .i64 0, .int .i64 0, .int .i64 0]), 6, 48) := by kernel_rfl



/-! ### lists of numbers -/
theorem info_int : (Tryz.prog.info? 3).map (fun i => (i.zero, i.size, i.bytes)) = some (some (.int .i64 0), 1, 8) := by kernel_rfl



end Go.Proofs.YtkkoccllmflhfaaGreatDoor
