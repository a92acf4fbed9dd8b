/-
  The functions that the laws themselves are made of, walked: copies, comparisons, marks.
-/
import Derived.Test.YtkkoccllmflhfaaDoorRows
import Derived.Test.YtkkoccllmflhfaaDoorMem
namespace Go.Proofs.YtkkoccllmflhfaaDoor
open Go.RowKit

/-! ### Hotspot -/
structure Hotspot where
  id : Int
  x : Int
  y : Int
  err : Int
  tick : Int
  heat : Int
def Hotspot.row (x : Hotspot) : List Value := [.int .i64 x.id, .int .i64 x.x, .int .i64 x.y, .int .i64 x.err, .int .i64 x.tick, .int .i64 x.heat]
theorem Hotspot.row_len (x : Hotspot) : x.row.length = 6 := rfl
theorem Hotspot.flat {xs : List Hotspot} {i : Nat} {x : Hotspot} (hx : xs[i]? = some x) : (xs.flatMap Hotspot.row)[i * 6]? = some (.int .i64 x.id) ∧ (xs.flatMap Hotspot.row)[i * 6 + 1]? = some (.int .i64 x.x) ∧ (xs.flatMap Hotspot.row)[i * 6 + 2]? = some (.int .i64 x.y) ∧ (xs.flatMap Hotspot.row)[i * 6 + 3]? = some (.int .i64 x.err) ∧ (xs.flatMap Hotspot.row)[i * 6 + 4]? = some (.int .i64 x.tick) ∧ (xs.flatMap Hotspot.row)[i * 6 + 5]? = some (.int .i64 x.heat) := by
  have fg := flat_get Hotspot.row_len hx
  exact ⟨fg 0 _ rfl, fg 1 _ rfl, fg 2 _ rfl, fg 3 _ rfl, fg 4 _ rfl, fg 5 _ rfl⟩
theorem Sl.hotspot {w : World} {A : Option Addr} {n c : Nat} {xs : List Hotspot} (h : Sl w 6 A n c (xs.flatMap Hotspot.row)) {i : Nat} {x : Hotspot} (hx : xs[i]? = some x) :
    ∃ b o, A = some ⟨b, o, none⟩ ∧ b < w.heap.size ∧ w.cell? ⟨b, o + i * 6, none⟩ = some (.int .i64 x.id) ∧ w.cell? ⟨b, o + i * 6 + 1, none⟩ = some (.int .i64 x.x) ∧ w.cell? ⟨b, o + i * 6 + 2, none⟩ = some (.int .i64 x.y) ∧ w.cell? ⟨b, o + i * 6 + 3, none⟩ = some (.int .i64 x.err) ∧ w.cell? ⟨b, o + i * 6 + 4, none⟩ = some (.int .i64 x.tick) ∧ w.cell? ⟨b, o + i * 6 + 5, none⟩ = some (.int .i64 x.heat) := by
  obtain ⟨b, o, rfl, hb, hc⟩ := h.at_row Hotspot.row_len (by omega) hx
  exact ⟨b, o, rfl, hb, hc 0 _ rfl, hc 1 _ rfl, hc 2 _ rfl, hc 3 _ rfl, hc 4 _ rfl, hc 5 _ rfl⟩

theorem Hotspot.of_lists : ∀ {L : List (List Int)}, (∀ l ∈ L, l.length = 6) → ∃ xs : List Hotspot, xs.flatMap Hotspot.row = L.flatMap ints
  | [], _ => ⟨[], rfl⟩
  | l :: L, h => by
    obtain ⟨xs, hx⟩ := Hotspot.of_lists (L := L) (fun l hl => h l (by simp [hl]))
    match l, h l (by simp) with
    | [a0, a1, a2, a3, a4, a5], _ => exact ⟨⟨a0, a1, a2, a3, a4, a5⟩ :: xs, by rw [List.flatMap_cons, List.flatMap_cons, hx]; rfl⟩

theorem toHotspot (a0 a1 a2 a3 a4 a5 : Int) (w : World) :
    Calls Tryd.prog 6 #[.agg #[.int .i64 a0, .int .i64 a1, .int .i64 a2, .int .i64 a3, .int .i64 a4, .int .i64 a5]] w fun e w' => e = .returned (.agg #[.int .i64 a0, .int .i64 a1, .int .i64 a2, .int .i64 a3, .int .i64 a4, .int .i64 a5]) ∧ Below w.heap.size w w' := by
  go_enter Tryd.func6, Tryd.ntmps6
  go_wp2
  exact bodyPost_ret (v := .agg #[.int .i64 a0, .int .i64 a1, .int .i64 a2, .int .i64 a3, .int .i64 a4, .int .i64 a5]) (by simp [results, Tryd.results6, go_sem]) rfl ⟨rfl, by (repeat' (first | (with_reducible exact bel_refl _) | (with_reducible assumption) | (with_reducible refine bel_drew ?_) | (with_reducible refine bel_drewN ?_) | (with_reducible refine bel_alloc ?_) | (with_reducible refine bel_set ?_ ?_) | (with_reducible refine bel_trans ?_ (by with_reducible assumption)) | omega | (simp; done) | (simp; omega)))⟩


theorem info_Hotspot : (Tryd.prog.info? 26).map (fun i => (i.zero, i.size, i.bytes)) = some (some (.agg #[.int .i64 0, .int .i64 0, .int .i64 0, .int .i64 0, .int .i64 0, .int .i64 0]), 6, 48) := by kernel_rfl
theorem eqHotspot (a0 a1 a2 a3 a4 a5 : Int) (w : World) :
    Calls Tryd.prog 10 #[.agg #[.int .i64 a0, .int .i64 a1, .int .i64 a2, .int .i64 a3, .int .i64 a4, .int .i64 a5], .agg #[.int .i64 a0, .int .i64 a1, .int .i64 a2, .int .i64 a3, .int .i64 a4, .int .i64 a5]] w fun e w' => e = .returned (.bool true) ∧ Below w.heap.size w w' := by
  go_enter Tryd.func10, Tryd.ntmps10
  go_wp2
  go_ret
  exact ⟨rfl, by (repeat' (first | (with_reducible exact bel_refl _) | (with_reducible assumption) | (with_reducible refine bel_drew ?_) | (with_reducible refine bel_drewN ?_) | (with_reducible refine bel_alloc ?_) | (with_reducible refine bel_set ?_ ?_) | (with_reducible refine bel_trans ?_ (by with_reducible assumption)) | omega | (simp; done) | (simp; omega)))⟩



/-! ### lists of numbers -/
theorem info_int : (Tryd.prog.info? 3).map (fun i => (i.zero, i.size, i.bytes)) = some (some (.int .i64 0), 1, 8) := by kernel_rfl



end Go.Proofs.YtkkoccllmflhfaaDoor
