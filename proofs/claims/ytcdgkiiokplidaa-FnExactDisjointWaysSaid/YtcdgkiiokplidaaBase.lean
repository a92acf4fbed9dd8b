/-
  Small lemmas that every proof of this seat uses: worlds that agree below a block, a region whose order is drawn and whose calls make memory of their own only.
-/
import Derived.WalkKit
import Derived.WalkSpells
import Derived.WalkLawsBesides
import Derived.Deep.QuietTactic
import Derived.BigQuiet
import Derived.Deep.Draws
import Derived.Lib.Hide
namespace Go.Proofs.Ytcdgkiiokplidaa
open Go.RowKit

theorem bcell {W w1 : World} (hb : Below W.heap.size W w1) : (∀ b o, b < W.heap.size → w1.cell? ⟨b, o, none⟩ = W.cell? ⟨b, o, none⟩) ∧ (∀ b o, b < W.heap.size → w1.frozen? ⟨b, o, none⟩ = W.frozen? ⟨b, o, none⟩) :=
  ⟨fun b o h => hb.cell (p := ⟨b, o, none⟩) h, fun b o h => hb.frozen (p := ⟨b, o, none⟩) h⟩

/-- A world that agrees with 'w' below 'B'. (A structure of its own: simp lays a subtype open.) -/
structure Bel (B : Nat) (w : World) where
  val : World
  prop : Below B w val

instance (B : Nat) (w : World) : Nonempty (Bel B w) := ⟨⟨w, Below.refl _ _⟩⟩

/-- A region that draws its order, every operation of which, in each world that agrees with 'w' below 'B', yields one value and leaves such a world: one walk of the text's order serves. -/
theorem wp_region_bel {P : Program} {id : Nat} {Q : Exit → Act → World → Prop} {a : Act} {w : World} {l : List Oper} (hm : P.follows .mixedOrders = true) (hB : Region.lexB .any l.toArray = true)
    (h : wpQuiet P l.toArray (fun w' => ∃ d : Bel w.heap.size w, w' = d.val) (fun a' => ∀ w1, Below w.heap.size w w1 → Q .normal a' w1) l a) : (Code.region id l.toArray true).wp P Q a w := by
  refine wp_region_quiet (C := fun w' => ∃ d : Bel w.heap.size w, w' = d.val) hm hB ⟨⟨w.drew, (Below.refl _ _).drew⟩, rfl⟩ ?_
  have h2 : wpQuiet P l.toArray (fun w' => ∃ d : Bel w.heap.size w, w' = d.val) (fun a' => ∀ w', (∃ d : Bel w.heap.size w, w' = d.val) → Q .normal a' w') l a := by
    have e : (fun a' => ∀ w', (∃ d : Bel w.heap.size w, w' = d.val) → Q .normal a' w') = (fun a' => ∀ w1, Below w.heap.size w w1 → Q .normal a' w1) := by
      funext a'
      apply propext
      constructor
      · intro g w1 hb
        exact g w1 ⟨⟨w1, hb⟩, rfl⟩
      · rintro g w' ⟨d, rfl⟩
        exact g d.val d.prop
    rw [e]
    exact h
  simpa using h2

/-- At a call inside such a region. -/
theorem calls_bel {P : Program} {f : FuncId} {args : Array Value} {w : World} {d : Bel w.heap.size w} {v : Value}
    (h : Calls P f args d.val fun e w' => e = .returned v ∧ Below d.val.heap.size d.val w') : Calls P f args d.val fun e w'' => e = .returned v ∧ ∃ d' : Bel w.heap.size w, w'' = d'.val :=
  h.mono fun _ w'' ⟨he, hb⟩ => ⟨he, ⟨w'', d.prop.trans (hb.mono d.prop.size)⟩, rfl⟩
theorem calls_bel_same {P : Program} {f : FuncId} {args : Array Value} {w : World} {d : Bel w.heap.size w} {v : Value}
    (h : Calls P f args d.val fun e w' => e = .returned v ∧ d.val = w') : Calls P f args d.val fun e w'' => e = .returned v ∧ ∃ d' : Bel w.heap.size w, w'' = d'.val :=
  h.mono fun _ _ ⟨he, hb⟩ => ⟨he, d, hb.symm⟩
/-- What is known of old cells holds in every such world. -/
theorem bel_cells {W0 w : World} (h : Below W0.heap.size W0 w) (d : Bel w.heap.size w) : (∀ b o, b < W0.heap.size → d.val.cell? ⟨b, o, none⟩ = W0.cell? ⟨b, o, none⟩) ∧ (∀ b o, b < W0.heap.size → d.val.frozen? ⟨b, o, none⟩ = W0.frozen? ⟨b, o, none⟩) :=
  bcell (h.trans (d.prop.mono h.size))

theorem bel_refl (a : World) : Below a.heap.size a a := Below.refl _ _
theorem bel_alloc {a w : World} {o : Obj} (h : Below a.heap.size a w) : Below a.heap.size a (w.alloc o) := h.alloc h.size _
theorem bel_drew {a w : World} (h : Below a.heap.size a w) : Below a.heap.size a w.drew := h.drew
theorem bel_drewN {a w : World} {n : Nat} (h : Below a.heap.size a w) : Below a.heap.size a (w.drewN n) := ⟨h.os, h.tape, h.output, h.size, h.block⟩
theorem bel_trans {a b c : World} (h : Below a.heap.size a b) (k : Below b.heap.size b c) : Below a.heap.size a c := h.trans (k.mono h.size)
theorem bel_set {a w : World} {g o : Nat} {s : Option Nat} {v : Value} (h : Below a.heap.size a w) (hg : a.heap.size ≤ g) : Below a.heap.size a (w.setCell ⟨g, o, s⟩ v) := h.setCell (p := ⟨g, o, s⟩) hg _

theorem hid {p : Prop} (h : p) : Hid p := h
theorem nb {b : Bool} (h : (!b) = false) : b = true := by simpa using h
theorem nt {b : Bool} (h : (!b) = true) : b = false := by simpa using h
theorem ret2 {a b c d : Value} (h : a = c) (h' : b = d) : Ending.returned (.tuple #[a, b]) = .returned (.tuple #[c, d]) := by rw [h, h']
theorem ret_bool {a b : Bool} (h : a = b) : Ending.returned (.bool a) = .returned (.bool b) := by rw [h]
theorem ret_int {k : IntKind} {a b : Int} (h : a = b) : Ending.returned (.int k a) = .returned (.int k b) := by rw [h]

/-- 'lo <= n && n <= hi' -/
def inB (n lo hi : Int) : Bool := decide (lo ≤ n) && decide (n ≤ hi)
theorem inB_iff {n lo hi : Int} : inB n lo hi = true ↔ lo ≤ n ∧ n ≤ hi := by simp [inB]
theorem inB_no {n lo hi : Int} : inB n lo hi = false ↔ n < lo ∨ hi < n := by
  rw [Bool.eq_false_iff, Ne, inB_iff]; omega
end Go.Proofs.Ytcdgkiiokplidaa
