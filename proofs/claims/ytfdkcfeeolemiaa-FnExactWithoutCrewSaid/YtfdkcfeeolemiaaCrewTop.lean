/-
  The exported functions on crews that return numbers, of the program and of the reference, walked.
-/
import Derived.Test.YtfdkcfeeolemiaaCrewList
namespace Go.Proofs.Ytfdkcfeeolemiaa
open Go.RowKit

def builtR (x : Crew) (h : Int) : Int × Bool := if goodC x && inB h 0 240 then (builtN x h.toNat, true) else (0, false)
def hoursForR (x : Crew) (m : Int) : Int × Bool := if goodC x && inB m 0 20000 then hoursR [x] m else (0, false)
def togetherR (xs : List Crew) (h : Int) : Int × Bool := if listC xs && inB h 0 240 then (togetherN xs h.toNat, true) else (0, false)
def hoursTR (xs : List Crew) (m : Int) : Int × Bool := if listC xs && inB m 0 20000 then hoursR xs m else (0, false)
def metresR (x : Crew) : List Int × Bool := if goodC x then (shiftL x, true) else ([], false)

theorem one_sl {w : World} {x : Crew} : Sl (w.alloc (.cells #[.int .i64 x.id, .int .i64 x.rate, .int .i64 x.tires, .int .i64 x.shift, .int .i64 x.start] 34)) 5 (some ⟨w.heap.size, 0, none⟩) 1 1 ([x].flatMap Crew.row) :=
  ⟨by simp [Crew.row], by omega, by simp [maxLen], fun _ => ⟨_, _, rfl, by simp, fun j v hv => by
    rw [Nat.zero_add, cell_of_row _ _ j _ _ (0, 0) (heap_alloc_new w _)]
    simpa [Crew.row] using hv⟩⟩
theorem one_all {x : Crew} (h : goodC x = true) : allC [x] := fun i y hy => by
  rcases i with _ | i
  · simp only [List.getElem?_cons_zero, Option.some.injEq] at hy
    rw [← hy]; exact h
  · simp at hy
theorem one_together (x : Crew) (h : Nat) : togetherN [x] h = builtN x h := by simp [togetherN]
theorem listC_all {xs : List Crew} (h : listC xs = true) : allC xs := fun i x hx => by
  rw [listC, Bool.and_eq_true] at h
  exact good_of h.1 hx
theorem listC_len {xs : List Crew} (h : listC xs = true) : xs.length ≤ 6 := by
  rw [listC, Bool.and_eq_true] at h
  exact of_decide_eq_true h.2

theorem hoursR_bd (xs : List Crew) (m : Int) : 0 ≤ (hoursR xs m).1 ∧ (hoursR xs m).1 ≤ 240 ∧ ((hoursR xs m).2 = false → (hoursR xs m).1 = 0) := by
  unfold hoursR
  split
  · rename_i h e
    have := (List.mem_range.1 (List.mem_of_find?_eq_some e))
    simp
    omega
  · simp
theorem leastI_neg {xs : List Crew} {m : Int} (h : (hoursR xs m).2 = false) : leastI xs m = -1 := by simp [leastI, h]
theorem leastI_pos {xs : List Crew} {m : Int} (h : (hoursR xs m).2 = true) : leastI xs m = (hoursR xs m).1 := by simp [leastI, h]

theorem metres_len (x : Crew) : (metresR x).1.length ≤ 1048576 := by
  unfold metresR
  split
  · rename_i h
    have := goodC_bd h
    simp only [shiftL_len]
    omega
  · simp
end Go.Proofs.Ytfdkcfeeolemiaa
