/-
  'append' onto a slice of the call's own, of whatever slice lies in memory, nil too: for the walk and for a region's plan.
-/
import Derived.Test.YtcdgkiiokplidaaMem
import Derived.Test.YtcdgkiiokplidaaPlan
import Derived.Deep.AppendSrc
namespace Go.Proofs.Ytcdgkiiokplidaa
open Go.RowKit

section
variable {P : Program} {w : World}
theorem run_app (t ty : TypeId) (base : Nat) (e : TypeId) (z : Value) (size bytes : Nat) (ht : P.underlying t = some (.slice e)) (hi : (P.info? e).map (fun i => (i.zero, i.size, i.bytes)) = some (some z, size, bytes)) (hzs : z.cells.size = size) (hsz : 0 < size)
    (A : Option Addr) (n c : Nat) (L : List Value) (hown : w.ownsRow base e size (.slice A n c) n L)
    (X : Option Addr) (m c2 : Nat) (news : List Value) (hx : Sl w size X m c2 news) (h1 : ∀ u ∈ news, u.oneCell' = true)
    (hn : n + m ≤ 1073741824) (hby : bytes ≤ 1024) (hbase : base ≤ w.heap.size) :
    ∃ A' c' w', (Builtin.append_ #[t, t] ty #[.slice A n c, .slice X m c2]).run P w = .ok (.slice A' (n + m) c') w' ∧ w'.ownsRow base e size (.slice A' (n + m) c') (n + m) (L ++ news) ∧ Below base w w' ∧ w.grownBy w' (Value.slice A n c).ownBlock := by
  obtain ⟨i0, hi0, hz0, hz1, hz2⟩ := info_parts hi
  have hnb : (n + m) * bytes ≤ 140737488355328 := Nat.le_trans (Nat.mul_le_mul (show n + m ≤ 1073741824 by omega) hby) (by omega)
  have some_ : ∀ ad : Addr, X = some ad → (∀ j u, news[j]? = some u → w.cell? (ad.add j) = some u) → ∃ A' c' w', (Builtin.append_ #[t, t] ty #[.slice A n c, .slice X m c2]).run P w = .ok (.slice A' (n + m) c') w' ∧ w'.ownsRow base e size (.slice A' (n + m) c') (n + m) (L ++ news) ∧ Below base w w' ∧ w.grownBy w' (Value.slice A n c).ownBlock := fun ad hX hc => by
    subst hX
    obtain ⟨v', w', hr, h2, h3, _, _⟩ := run_append_own_at (P := P) w base t ty e i0 z size bytes ht hi0 hz0 hz1 hz2 hzs hsz (.slice A n c) n L hown ad m c2 news hx.len hc h1 (by simp only [maxLen]; omega) hnb hbase
    obtain ⟨A', c', rfl⟩ := own_slice h2
    refine ⟨A', c', w', hr, h2, ⟨h3.os, h3.tape, h3.output, h3.size, fun k hk => h3.block k (by omega) fun e1 => ?_⟩, h3⟩
    have := (hown.lt k e1.symm).1
    omega
  rcases Nat.eq_zero_or_pos m with hm | hm
  · subst hm
    have hn0 : news = [] := List.eq_nil_of_length_eq_zero (by have := hx.len; omega)
    subst hn0
    rcases X with _ | ad
    · rcases hown.2 with ⟨hv, h0⟩ | ⟨g, cap, cur, hv, hg, hh, hnc, hm, hs, htk⟩
      · injection hv with e1 e2 e3
        subst e1; subst e2; subst e3
        refine ⟨none, 0, w, ?_, by simpa using hown, ⟨rfl, rfl, rfl, Nat.le_refl _, fun _ _ => rfl⟩, World.grownBy.refl _ _⟩
        simp [Builtin.append_, run_underlying ht, sizeOf, typeInfo, hi0, Builtin.lenOf, Builtin.firstCells]
      · injection hv with e1 e2 e3
        subst e1; subst e3
        have hsrc := Src.ofNil (P := P) (size := i0.size) w ht c2
        have hr := run_append_room_src w t t ty e i0 ht hi0 g 0 n c (.slice none 0 c2) 0 [] hsrc (by omega) (by intro j hj; simp at hj) (by intro j hj; simp at hj)
        exact ⟨_, c, w, hr, by simpa using hown, ⟨rfl, rfl, rfl, Nat.le_refl _, fun _ _ => rfl⟩, World.grownBy.refl _ _⟩
    · exact some_ ad rfl (by intro j u hu; simp at hu)
  · obtain ⟨b, o, rfl, hb, hc⟩ := hx.at_ hm
    exact some_ _ rfl (fun j u hu => by rw [Addr.add_lit]; exact hc j u hu)
theorem wpList_app {ops : Array Oper} {rest : List Oper} {o : Oper} {a : Act} {Q : Exit → Act → World → Prop} (hgd : o.guard = none) (s x : Operand) (t : TypeId)
    (ho : o.op = .call { callee := .builtin .append, args := #[s, x], argTypes := #[t, t] })
    (base : Nat) (e : TypeId) (z : Value) (size bytes : Nat) (ht : P.underlying t = some (.slice e)) (hi : (P.info? e).map (fun i => (i.zero, i.size, i.bytes)) = some (some z, size, bytes)) (hzs : z.cells.size = size) (hsz : 0 < size)
    (A : Option Addr) (n c : Nat) (L : List Value) (hs : a.eval s = .slice A n c) (hown : w.ownsRow base e size (.slice A n c) n L)
    (X : Option Addr) (m c2 : Nat) (news : List Value) (hx : a.eval x = .slice X m c2) (hsl : Sl w size X m c2 news) (h1 : ∀ u ∈ news, u.oneCell' = true)
    (hn : n + m ≤ 1073741824) (hby : bytes ≤ 1024) (hbase : base ≤ w.heap.size)
    (h : ∀ A' c' w', w'.ownsRow base e size (.slice A' (n + m) c') (n + m) (L ++ news) → Below base w w' → w.grownBy w' (Value.slice A n c).ownBlock → wpList P ops Q rest (a.put o.dst (.slice A' (n + m) c')) w') :
    wpList P ops Q (o :: rest) a w := by
  refine wpList_plain hgd fun K hK => ?_
  obtain ⟨A', c', w', hr, h2, h3, h4⟩ := run_app t o.type base e z size bytes ht hi hzs hsz A n c L hown X m c2 news hsl h1 hn hby hbase
  unfold Oper.wp execOp
  simp only [ho, resolve, invoke, builtin, Sem.run_bind, Sem.run_pure, Result.andThen_ok, List.map_toArray, List.map_cons, List.map_nil, hs, hx, hr]
  exact hK _ _ (h A' c' w' h2 h3 h4)
theorem p_app {ops : Array Oper} {S : World → Prop} {p : PlanO} {o : Oper} {a : Act} {Q : Exit → Act → World → Prop} (hw : Region.wanted o (yielded ops a.tmps) = true) (s x : Operand) (t : TypeId)
    (ho : o.op = .call { callee := .builtin .append, args := #[s, x], argTypes := #[t, t] })
    (base : Nat) (e : TypeId) (z : Value) (size bytes : Nat) (ht : P.underlying t = some (.slice e)) (hi : (P.info? e).map (fun i => (i.zero, i.size, i.bytes)) = some (some z, size, bytes)) (hzs : z.cells.size = size) (hsz : 0 < size)
    (A : Option Addr) (n c : Nat) (L : List Value) (hs : a.eval s = .slice A n c) (hown : w.ownsRow base e size (.slice A n c) n L)
    (X : Option Addr) (m c2 : Nat) (news : List Value) (hx : a.eval x = .slice X m c2) (hsl : Sl w size X m c2 news) (h1 : ∀ u ∈ news, u.oneCell' = true)
    (hn : n + m ≤ 1073741824) (hby : bytes ≤ 1024) (hbase : base ≤ w.heap.size)
    (h : ∀ A' c' w', w'.ownsRow base e size (.slice A' (n + m) c') (n + m) (L ++ news) → Below base w w' → w.grownBy w' (Value.slice A n c).ownBlock → S w' ∧ wpPlan P ops Q S p (a.put o.dst (.slice A' (n + m) c')) w') :
    wpPlan P ops Q S (.one o p) a w := by
  obtain ⟨A', c', w', hr, h2, h3, h4⟩ := run_app t o.type base e z size bytes ht hi hzs hsz A n c L hown X m c2 news hsl h1 hn hby hbase
  obtain ⟨hS, hp⟩ := h A' c' w' h2 h3 h4
  refine p_val hw ?_ hS hp
  unfold execOp
  simp only [ho, resolve, invoke, builtin, Sem.run_bind, Sem.run_pure, Result.andThen_ok, List.map_toArray, List.map_cons, List.map_nil, hs, hx, hr]
end
theorem sl_lit {w : World} {L : List Value} {t : TypeId} {g k n : Nat} (hg : g = w.heap.size) (hl : L.length = n * k) (hn : n ≤ maxLen) : Sl (w.alloc (.cells L.toArray t)) k (some ⟨g, 0, none⟩) n n L := by
  subst hg
  refine ⟨hl, Nat.le_refl _, hn, fun _ => ⟨w.heap.size, 0, rfl, by simp, fun j v hj => ?_⟩⟩
  rw [Nat.zero_add, cell_of_row _ w.heap.size j L.toArray t (0, 0) (heap_alloc_new w _)]
  simpa using hj
theorem Sl.grown {w w' : World} {k n c : Nat} {A : Option Addr} {L : List Value} {r : Option Nat} (h : Sl w k A n c L) (hg : w.grownBy w' r) (hr : ∀ q, A.map (·.block) = some q → some q ≠ r) : Sl w' k A n c L :=
  h.keep hg.size fun b o hA hb => hg.cell_far ⟨b, o, none⟩ hb (hr b hA)
/-- A part of a slice. -/
theorem Sl.part {w : World} {k n c : Nat} {b o : Nat} {L : List Value} (h : Sl w k (some ⟨b, o, none⟩) n c L) {i j : Nat} (hij : i ≤ j) (hj : j ≤ n) (hn : 0 < n) : Sl w k (some ⟨b, o + i * k, none⟩) (j - i) (c - i) ((L.take (j * k)).drop (i * k)) := by
  have hl := h.len
  have h1 := Nat.mul_le_mul_right k hij
  have h2 := Nat.mul_le_mul_right k hj
  refine ⟨?_, by have := h.cap; omega, by have := h.max; omega, fun _ => ?_⟩
  · rw [List.length_drop, List.length_take, hl, Nat.min_eq_left h2, Nat.sub_mul]
  · obtain ⟨b', o', e, hb, hc⟩ := h.at_ hn
    simp only [Option.some.injEq, Addr.mk.injEq, and_true] at e
    obtain ⟨rfl, rfl⟩ := e
    refine ⟨b, o + i * k, rfl, hb, fun q v hq => ?_⟩
    rw [List.getElem?_drop, List.getElem?_take] at hq
    split at hq
    · rw [Nat.add_assoc]
      exact hc _ _ hq
    · cases hq
end Go.Proofs.Ytcdgkiiokplidaa
