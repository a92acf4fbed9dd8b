/-
  Slices of slices of any elements: made by the call, read; slices made inside a region that draws its order.
-/
import Derived.Test.YtkkoccllmflhfaaMemSS
import Derived.Test.YtkkoccllmflhfaaAppend
import Derived.Test.YtkkoccllmflhfaaRows
namespace Go.Proofs.Ytkkoccllmflhfaa
open Go.RowKit

section
variable {P : Program} {w : World}
theorem p_makeG {ops : Array Oper} {S : World → Prop} {p : PlanO} {o : Oper} {a : Act} {Q : Exit → Act → World → Prop} (hw : Region.wanted o (yielded ops a.tmps) = true) (l c : Operand) (t : TypeId) (hop : o.op = Op.makeSlice t l c)
    (base : Nat) (e : TypeId) (z : Value) (size bytes : Nat) (h1 : P.underlying t = some (.slice e)) (hi : (P.info? e).map (fun i => (i.zero, i.size, i.bytes)) = some (some z, size, bytes))
    (n : Nat) (hl : a.eval l = .int .i64 n) (hc : a.eval c = .int .i64 n) (b2 : bytes * n ≤ 281474976710656) (b3 : n ≤ maxLen) (b4 : base ≤ w.heap.size)
    (hK : ∀ g w', w'.ownsRow base e size (.slice (some ⟨g, 0, none⟩) n n) n (madeCells z.cells (n * size)).toList → w.grownBy w' none → S w' ∧ wpPlan P ops Q S p (a.put o.dst (.slice (some ⟨g, 0, none⟩) n n)) w') :
    wpPlan P ops Q S (.one o p) a w := by
  obtain ⟨i0, hi0, hz0, hz1, hz2⟩ := info_parts hi
  obtain ⟨w', hrun, r1, r2⟩ := run_make_full (P := P) w base t e i0 z size h1 hi0 hz0 hz1 .i64 .i64 n (by rw [hz2]; exact b2) b3 b4
  obtain ⟨hS, hp⟩ := hK _ w' r1 r2
  refine p_val hw ?_ hS hp
  simp [execOp, hop, hl, hc, hrun, Result.andThen]
end
def bools (xs : List Bool) : List Value := xs.map Value.bool
theorem bools_len (xs : List Bool) : (bools xs).length = xs.length := by simp [bools]
theorem bools_get {xs : List Bool} {i : Nat} {x : Bool} (h : xs[i]? = some x) : (bools xs)[i]? = some (.bool x) := by simp [bools, h]
theorem bools_set (xs : List Bool) (i : Nat) (v : Bool) : (bools xs).set i (.bool v) = bools (xs.set i v) := by simp [bools, List.map_set]
theorem info_bool : (Try.prog.info? 4).map (fun i => (i.zero, i.size, i.bytes)) = some (some (.bool false), 1, 1) := by kernel_rfl
theorem made_bool (n : Nat) : (madeCells (Value.bool false).cells (n * 1)).toList = bools (List.replicate n false) := by
  simp [madeCells, bools, Value.cells, Nat.mod_one, List.map_const']
theorem own_keep {w w' : World} {base e k v n L} (h : w.ownsRow base e k v n L) (hg : w.grownBy w' none) : w'.ownsRow base e k v n L := h.kept hg (by cases v.ownBlock <;> simp)
/-- What grows in a block of another type leaves it. -/
theorem own_other {w w' : World} {base base' k k' n m : Nat} {t e : TypeId} {u v : Value} {L L' : List Value} (hx : w.ownsRow base t k u n L) (hy : w.ownsRow base' e k' v m L') (hte : t ≠ e) (hg : w.grownBy w' u.ownBlock) : w'.ownsRow base' e k' v m L' := by
  refine hy.kept hg ?_
  rcases hv : v.ownBlock with _ | g
  · exact Or.inl rfl
  · refine Or.inr fun hu => hte ?_
    exact own_type hx hy hu.symm hv
theorem Own.other {w w' : World} {base lo hi k k' n m c : Nat} {t e : TypeId} {u : Value} {A : Option Addr} {L L' : List Value} (hy : Own lo hi w e k' A m c L') (hx : w.ownsRow base t k u n L) (hte : t ≠ e) (hg : w.grownBy w' u.ownBlock) : Own lo hi w' e k' A m c L' :=
  ⟨own_other hx hy.own hte hg, hy.up⟩

/-- A slice of slices that can be read. -/
def RR (k : Nat) (w : World) (A : Option Addr) (n c : Nat) (LL : List (List Value)) : Prop :=
  ∃ Vs : List Value, Sl w 1 A n c Vs ∧ Vs.length = LL.length ∧ ∀ (i : Nat) (l : List Value), LL[i]? = some l → ∃ a m d, Vs[i]? = some (.slice a m d) ∧ Sl w k a m d l
section
variable {w w' : World} {k n c : Nat} {A : Option Addr} {LL : List (List Value)}
theorem RR.bel (h : RR k w A n c LL) (hb : Below w.heap.size w w') : RR k w' A n c LL := by
  obtain ⟨Vs, h1, h2, h3⟩ := h
  exact ⟨Vs, h1.bel hb, h2, fun i l hl => by
    obtain ⟨a, m, d, hv, hs⟩ := h3 i l hl
    exact ⟨a, m, d, hv, hs.bel hb⟩⟩
theorem RR.len (h : RR k w A n c LL) : LL.length = n := by
  obtain ⟨Vs, h1, h2, _⟩ := h
  have := h1.len
  omega
theorem RR.at_ (h : RR k w A n c LL) {i : Nat} {l : List Value} (hl : LL[i]? = some l) :
    ∃ b o, A = some ⟨b, o, none⟩ ∧ b < w.heap.size ∧ ∃ a m d, w.cell? ⟨b, o + i, none⟩ = some (.slice a m d) ∧ Sl w k a m d l := by
  obtain ⟨Vs, h1, h2, h3⟩ := h
  obtain ⟨a, m, d, hv, hs⟩ := h3 i l hl
  have hi : i < LL.length := (List.getElem?_eq_some_iff.1 hl).1
  have := h1.len
  obtain ⟨b, o, rfl, hb, hc⟩ := h1.at_ (by omega)
  exact ⟨b, o, rfl, hb, a, m, d, hc i _ hv, hs⟩
end
/-- Such a slice of the call's own: all its blocks lie in [lo, hi). -/
structure OwnR (k lo hi : Nat) (w : World) (t e : TypeId) (A : Option Addr) (n c : Nat) (LL : List (List Value)) (Vs : List Value) : Prop where
  out : Own lo hi w t 1 A n c Vs
  len : Vs.length = LL.length
  row : ∀ (i : Nat) (l : List Value), LL[i]? = some l → ∃ a m d, Vs[i]? = some (.slice a m d) ∧ Own lo hi w e k a m d l
section
variable {w w' : World} {t e : TypeId} {k n c lo hi : Nat} {A : Option Addr} {LL : List (List Value)} {Vs : List Value}
theorem OwnR.rr (h : OwnR k lo hi w t e A n c LL Vs) : RR k w A n c LL :=
  ⟨Vs, h.out.sl, h.len, fun i l hl => by
    obtain ⟨a, m, d, hv, ho⟩ := h.row i l hl
    exact ⟨a, m, d, hv, ho.sl⟩⟩
theorem OwnR.bel (h : OwnR k lo hi w t e A n c LL Vs) (hb : Below w.heap.size w w') : OwnR k lo hi w' t e A n c LL Vs :=
  ⟨h.out.bel hb, h.len, fun i l hl => by
    obtain ⟨a, m, d, hv, ho⟩ := h.row i l hl
    exact ⟨a, m, d, hv, ho.bel hb⟩⟩
theorem OwnR.low {lo' : Nat} (h : OwnR k lo hi w t e A n c LL Vs) (hl : lo' ≤ lo) : OwnR k lo' hi w t e A n c LL Vs :=
  ⟨h.out.low hl, h.len, fun i l hl' => by
    obtain ⟨a, m, d, hv, ho⟩ := h.row i l hl'
    exact ⟨a, m, d, hv, ho.low hl⟩⟩
theorem OwnR.high {hi' : Nat} (h : OwnR k lo hi w t e A n c LL Vs) (hl : hi ≤ hi') : OwnR k lo hi' w t e A n c LL Vs :=
  ⟨h.out.high hl, h.len, fun i l hl' => by
    obtain ⟨a, m, d, hv, ho⟩ := h.row i l hl'
    exact ⟨a, m, d, hv, ho.high hl⟩⟩
theorem OwnR.other {base k' n' : Nat} {t' : TypeId} {u : Value} {L' : List Value} (h : OwnR k lo hi w t e A n c LL Vs) (hx : w.ownsRow base t' k' u n' L') (h1 : t' ≠ t) (h2 : t' ≠ e) (hg : w.grownBy w' u.ownBlock) : OwnR k lo hi w' t e A n c LL Vs :=
  ⟨h.out.other hx h1 hg, h.len, fun i l hl => by
    obtain ⟨a, m, d, hv, ho⟩ := h.row i l hl
    exact ⟨a, m, d, hv, ho.other hx h2 hg⟩⟩
/-- Blocks that lie apart from what grows. -/
theorem OwnR.apart {r : Option Nat} (h : OwnR k lo hi w t e A n c LL Vs) (hg : w.grownBy w' r) (hr : ∀ g, r = some g → g < lo ∨ hi ≤ g) : OwnR k lo hi w' t e A n c LL Vs :=
  ⟨h.out.grown hg hr, h.len, fun i l hl => by
    obtain ⟨a, m, d, hv, ho⟩ := h.row i l hl
    exact ⟨a, m, d, hv, ho.grown hg hr⟩⟩
theorem ownR_nil {w : World} {lo hi : Nat} {t e : TypeId} {A : Option Addr} {c : Nat} (h : Own lo hi w t 1 A 0 c []) : OwnR k lo hi w t e A 0 c [] [] :=
  ⟨h, rfl, by simp⟩
theorem OwnR.push (h : OwnR k lo hi w t e A n c LL Vs) {hi' : Nat} {a : Option Addr} {m d : Nat} {l : List Value} {A' : Option Addr} {c' : Nat} (hh : hi ≤ hi') (hte : t ≠ e)
    (hI : Own lo hi' w e k a m d l) (hO : Own lo hi' w' t 1 A' (n + 1) c' (Vs ++ [.slice a m d])) (hg : w.grownBy w' (Value.slice A n c).ownBlock) : OwnR k lo hi' w' t e A' (n + 1) c' (LL ++ [l]) (Vs ++ [.slice a m d]) :=
  ⟨hO, by simp [h.len], fun i l' hl => by
    rcases Nat.lt_or_ge i LL.length with h1 | h1
    · rw [List.getElem?_append_left h1] at hl
      obtain ⟨a', m', d', hv, ho⟩ := h.row i l' hl
      have h2 : i < Vs.length := by rw [h.len]; exact h1
      exact ⟨a', m', d', by rw [List.getElem?_append_left h2]; exact hv, (ho.other h.out.own hte hg).high hh⟩
    · have hi : i < (LL ++ [l]).length := (List.getElem?_eq_some_iff.1 hl).1
      obtain rfl : i = LL.length := by simp at hi; omega
      rw [List.getElem?_append_right (Nat.le_refl _), Nat.sub_self] at hl
      simp only [List.getElem?_cons_zero, Option.some.injEq] at hl
      subst hl
      refine ⟨a, m, d, ?_, hI.other h.out.own hte hg⟩
      rw [← h.len, List.getElem?_append_right (Nat.le_refl _), Nat.sub_self]; rfl⟩
end
end Go.Proofs.Ytkkoccllmflhfaa
