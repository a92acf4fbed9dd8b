/-
  Arrivals: the program's way, the nearest cell first, walked.
-/
import Derived.Test.YtdfjfopbhlbmkaaArrMath
import Derived.Test.YtdfjfopbhlbmkaaMemSS
namespace Go.Proofs.Ytdfjfopbhlbmkaa
open Go.RowKit

section
variable {P : Program} {w : World}
theorem p_make {ops : Array Oper} {S : World → Prop} {p : PlanO} {o : Oper} {a : Act} {Q : Exit → Act → World → Prop} (hw : Region.wanted o (yielded ops a.tmps) = true) (l c : Operand) (t : TypeId) (hop : o.op = Op.makeSlice t l c)
    (base : Nat) (e : TypeId) (z : Value) (size bytes : Nat) (h1 : P.underlying t = some (.slice e)) (hi : (P.info? e).map (fun i => (i.zero, i.size, i.bytes)) = some (some z, size, bytes))
    (n : Nat) (hl : a.eval l = .int .i64 n) (hc : a.eval c = .int .i64 n) (b2 : bytes * n ≤ 281474976710656) (b3 : n ≤ maxLen) (b4 : base ≤ w.heap.size)
    (hK : ∀ w', w'.ownsRow base e size (.slice (some ⟨w.heap.size, 0, none⟩) n n) n (madeCells z.cells (n * size)).toList → w.grownBy w' none → S w' ∧ wpPlan P ops Q S p (a.put o.dst (.slice (some ⟨w.heap.size, 0, none⟩) n n)) w') :
    wpPlan P ops Q S (.one o p) a w := by
  obtain ⟨i0, hi0, hz0, hz1, hz2⟩ := info_parts hi
  obtain ⟨w', hrun, r1, r2⟩ := run_make_full (P := P) w base t e i0 z size h1 hi0 hz0 hz1 .i64 .i64 n (by rw [hz2]; exact b2) b3 b4
  obtain ⟨hS, hp⟩ := hK w' r1 r2
  refine p_val hw ?_ hS hp
  simp [execOp, hop, hl, hc, hrun, Result.andThen]
end
def bools (xs : List Bool) : List Value := xs.map Value.bool
theorem bools_len (xs : List Bool) : (bools xs).length = xs.length := by simp [bools]
theorem bools_get {xs : List Bool} {i : Nat} {x : Bool} (h : xs[i]? = some x) : (bools xs)[i]? = some (.bool x) := by simp [bools, h]
theorem info_bool : (Try.prog.info? 4).map (fun i => (i.zero, i.size, i.bytes)) = some (some (.bool false), 1, 1) := by kernel_rfl
theorem made_int (n : Nat) : (madeCells (Value.int .i64 0).cells (n * 1)).toList = ints (List.replicate n 0) := by
  simp [madeCells, ints, Value.cells, Nat.mod_one, List.map_const']
theorem made_bool (n : Nat) : (madeCells (Value.bool false).cells (n * 1)).toList = bools (List.replicate n false) := by
  simp [madeCells, bools, Value.cells, Nat.mod_one, List.map_const']
/-- The two slices that the program makes: ticks, and what is settled. -/
structure AS (W : World) (gO gF n cO cF : Nat) (s : List Int) (fx : List Bool) (w : World) : Prop where
  out : w.ownsRow W.heap.size 3 1 (.slice (some ⟨gO, 0, none⟩) n cO) n (ints s)
  fix : w.ownsRow W.heap.size 4 1 (.slice (some ⟨gF, 0, none⟩) n cF) n (bools fx)
  bel : Below W.heap.size W w
section
variable {W w w' : World} {gO gF n cO cF : Nat} {s : List Int} {fx : List Bool}
theorem AS.keep (h : AS W gO gF n cO cF s fx w) (hb : Below w.heap.size w w') : AS W gO gF n cO cF s fx w' := ⟨own_bel h.out hb, own_bel h.fix hb, bel_trans h.bel hb⟩
theorem AS.ne (h : AS W gO gF n cO cF s fx w) : gO ≠ gF := fun e => by
  have := own_type h.out h.fix (g := gO) rfl (by rw [e]; rfl)
  revert this; decide
theorem ints_set (s : List Int) (i : Nat) (v : Int) : (ints s).set i (.int .i64 v) = ints (s.set i v) := by simp [ints, List.map_set]
theorem bools_set (s : List Bool) (i : Nat) (v : Bool) : (bools s).set i (.bool v) = bools (s.set i v) := by simp [bools, List.map_set]
theorem AS.lenO (h : AS W gO gF n cO cF s fx w) : s.length = n := by have := h.out.1; rw [ints_len] at this; omega
theorem AS.lenF (h : AS W gO gF n cO cF s fx w) : fx.length = n := by have := h.fix.1; rw [bools_len] at this; omega
theorem AS.setO (h : AS W gO gF n cO cF s fx w) (i : Nat) (v : Int) : AS W gO gF n cO cF (s.set i v) fx (w.setCell ⟨gO, i, none⟩ (.int .i64 v)) := by
  have h1 := h.out.stored i (.int .i64 v)
  rw [ints_set] at h1
  exact ⟨h1.1, h.fix.kept h1.2 (Or.inr fun e => h.ne (by simp [Value.ownBlock] at e; exact e.symm)), bel_set h.bel (h.out.lt gO rfl).1⟩
theorem AS.setF (h : AS W gO gF n cO cF s fx w) (i : Nat) (v : Bool) : AS W gO gF n cO cF s (fx.set i v) (w.setCell ⟨gF, i, none⟩ (.bool v)) := by
  have h1 := h.fix.stored i (.bool v)
  rw [bools_set] at h1
  exact ⟨h.out.kept h1.2 (Or.inr fun e => h.ne (by simp [Value.ownBlock] at e; exact e)), h1.1, bel_set h.bel (h.fix.lt gF rfl).1⟩
theorem AS.at_ (h : AS W gO gF n cO cF s fx w) {v : Nat} (hv : v < n) : w.cell? ⟨gO, v, none⟩ = some (.int .i64 (gI s v)) ∧ w.cell? ⟨gF, v, none⟩ = some (.bool (gB fx v)) :=
  ⟨(h.out.cellAt v (by omega)).trans (ints_get (gI_some (by rw [h.lenO]; exact hv))), (h.fix.cellAt v (by omega)).trans (bools_get (gB_some (by rw [h.lenF]; exact hv)))⟩
end
end Go.Proofs.Ytdfjfopbhlbmkaa
