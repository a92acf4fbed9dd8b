/-
  Slices in memory: what a slice reads as (Sl), blocks that the call made, and how both are kept.
-/
import Derived.Test.YtcdgkiiokplidaaBase
import Derived.Deep.AppendLies
import Derived.Maps.AppendAt
namespace Go.Proofs.Ytcdgkiiokplidaa
open Go.RowKit

/-- The slice '.slice A n c' of elements of k cells reads as the cells L. -/
structure Sl (w : World) (k : Nat) (A : Option Addr) (n c : Nat) (L : List Value) : Prop where
  len : L.length = n * k
  cap : n ≤ c
  max : c ≤ maxLen
  at_ : 0 < n → ∃ b o, A = some ⟨b, o, none⟩ ∧ b < w.heap.size ∧ ∀ j v, L[j]? = some v → w.cell? ⟨b, o + j, none⟩ = some v

section
variable {w w' : World} {k n c : Nat} {A : Option Addr} {L : List Value}
theorem Sl.keep (h : Sl w k A n c L) (hs : w.heap.size ≤ w'.heap.size) (hk : ∀ b o, A.map (·.block) = some b → b < w.heap.size → w'.cell? ⟨b, o, none⟩ = w.cell? ⟨b, o, none⟩) : Sl w' k A n c L :=
  ⟨h.len, h.cap, h.max, fun hn => by
    obtain ⟨b, o, rfl, hb, hc⟩ := h.at_ hn
    exact ⟨b, o, rfl, Nat.lt_of_lt_of_le hb hs, fun j v hv => (hk b _ rfl hb).trans (hc j v hv)⟩⟩
theorem Sl.bel (h : Sl w k A n c L) (hb : Below w.heap.size w w') : Sl w' k A n c L := h.keep hb.size fun _ _ _ hlt => hb.cell (p := ⟨_, _, none⟩) hlt
theorem Sl.drew (h : Sl w k A n c L) : Sl w.drew k A n c L := h.bel (bel_drew (bel_refl _))
theorem Sl.alloc (h : Sl w k A n c L) (o : Obj) : Sl (w.alloc o) k A n c L := h.bel (bel_alloc (bel_refl _))
theorem Sl.of_own {base : Nat} {e : TypeId} (h : w.ownsRow base e k (.slice A n c) n L) : Sl w k A n c L := by
  obtain ⟨hl, h2⟩ := h
  rcases h2 with ⟨hv, h0⟩ | ⟨g, cap, cur, hv, hg, hh, hn, hm, hs, ht⟩
  · injection hv with h1 h2 h3
    subst h1; subst h2; subst h3
    exact ⟨hl, Nat.le_refl _, by simp [maxLen], fun h => absurd h (by omega)⟩
  · injection hv with h1 h2 h3
    subst h1; subst h3
    refine ⟨hl, hn, hm, fun _ => ⟨g, 0, rfl, (Array.getElem?_eq_some_iff.1 hh).1, fun j v hv => ?_⟩⟩
    rw [Nat.zero_add, cell_of_row w g j cur e (0, 0) hh, ← Array.getElem?_toList]
    rw [← ht, List.getElem?_take] at hv
    split at hv
    · exact hv
    · cases hv
theorem flat_get {α : Type} {row : α → List Value} {k : Nat} (hrow : ∀ x, (row x).length = k) : ∀ {xs : List α} {i : Nat} {x : α}, xs[i]? = some x → ∀ j v, (row x)[j]? = some v → (xs.flatMap row)[i * k + j]? = some v
  | [], _, _, h, _, _, _ => by simp at h
  | y :: ys, 0, x, h, j, v, hv => by
    simp only [List.getElem?_cons_zero, Option.some.injEq] at h
    subst h
    have hj : j < (row y).length := (List.getElem?_eq_some_iff.1 hv).1
    rw [List.flatMap_cons, List.getElem?_append_left (by omega), Nat.zero_mul, Nat.zero_add]
    exact hv
  | y :: ys, i + 1, x, h, j, v, hv => by
    simp only [List.getElem?_cons_succ] at h
    have e : (i + 1) * k + j = (row y).length + (i * k + j) := by rw [hrow, Nat.add_mul]; omega
    rw [List.flatMap_cons, e, List.getElem?_append_right (by omega), Nat.add_sub_cancel_left]
    exact flat_get hrow h j v hv
theorem flat_len {α : Type} {row : α → List Value} {k : Nat} (hrow : ∀ x, (row x).length = k) (xs : List α) : (xs.flatMap row).length = xs.length * k := by
  induction xs with
  | nil => simp
  | cons x xs ih => rw [List.flatMap_cons, List.length_append, ih, hrow, List.length_cons, Nat.add_mul]; omega
theorem Sl.xs_len {α : Type} {row : α → List Value} (hrow : ∀ x, (row x).length = k) (hk : 0 < k) {xs : List α} (h : Sl w k A n c (xs.flatMap row)) : xs.length = n := by
  have := h.len
  rw [flat_len hrow] at this
  exact Nat.eq_of_mul_eq_mul_right hk this
theorem Sl.at_row {α : Type} {row : α → List Value} (hrow : ∀ x, (row x).length = k) (hk : 0 < k) {xs : List α} (h : Sl w k A n c (xs.flatMap row)) {i : Nat} {x : α} (hx : xs[i]? = some x) :
    ∃ b o, A = some ⟨b, o, none⟩ ∧ b < w.heap.size ∧ ∀ j v, (row x)[j]? = some v → w.cell? ⟨b, o + i * k + j, none⟩ = some v := by
  have hl := h.xs_len hrow hk
  have hi : i < xs.length := (List.getElem?_eq_some_iff.1 hx).1
  obtain ⟨b, o, rfl, hb, hc⟩ := h.at_ (by omega)
  exact ⟨b, o, rfl, hb, fun j v hv => by rw [Nat.add_assoc]; exact hc _ _ (flat_get hrow hx j v hv)⟩
theorem own_bel {base : Nat} {e : TypeId} {v : Value} (h : w.ownsRow base e k v n L) (hb : Below w.heap.size w w') : w'.ownsRow base e k v n L :=
  h.kept (row := none) ⟨hb.os, hb.tape, hb.output, hb.size, fun i hi _ => hb.block i hi⟩ (by cases v.ownBlock <;> simp)
theorem own_low {base base' : Nat} {e : TypeId} {v : Value} (h : w.ownsRow base e k v n L) (hb : base' ≤ base) : w.ownsRow base' e k v n L := by
  refine ⟨h.1, ?_⟩
  rcases h.2 with h2 | ⟨g, cap, cur, hv, hg, r⟩
  · exact Or.inl h2
  · exact Or.inr ⟨g, cap, cur, hv, Nat.le_trans hb hg, r⟩
section
variable {base : Nat} {e : TypeId} {g cap p : Nat}
theorem own_at (h : w.ownsRow base e k (.slice (some ⟨g, 0, none⟩) n cap) n L) {j : Nat} (hj : j < n * k) : ∃ u, w.cell? ⟨g, j, none⟩ = some u := by
  rw [h.cellAt j hj]
  exact ⟨_, List.getElem?_eq_getElem (by rw [h.1]; exact hj)⟩
theorem own_fz (h : w.ownsRow base e k (.slice (some ⟨g, 0, none⟩) n cap) n L) (j : Nat) : w.frozen? ⟨g, j, none⟩ = false := h.frozenAt j
theorem mix_set {F Z : List Value} {v : Value} (hl : F.length = Z.length) (hv : F[p]? = some v) : (F.take p ++ Z.drop p).set p v = F.take (p + 1) ++ Z.drop (p + 1) := by
  have hp : p < F.length := (List.getElem?_eq_some_iff.1 hv).1
  have hpz : p < Z.length := by omega
  rw [List.take_add_one, hv, List.drop_eq_getElem_cons hpz]
  have hlen : (F.take p).length = p := by rw [List.length_take]; omega
  rw [List.set_append_right _ _ (by omega), hlen, Nat.sub_self, List.set_cons_zero]
  simp
theorem own_store {F Z : List Value} {v : Value} (h : w.ownsRow base e k (.slice (some ⟨g, 0, none⟩) n cap) n (F.take p ++ Z.drop p)) (hl : F.length = Z.length) (hv : F[p]? = some v) :
    (w.setCell ⟨g, p, none⟩ v).ownsRow base e k (.slice (some ⟨g, 0, none⟩) n cap) n (F.take (p + 1) ++ Z.drop (p + 1)) := by
  have h2 := h.stored p v
  rw [mix_set hl hv] at h2
  exact h2.1
theorem own_store2 {F Z : List Value} {v0 v1 : Value} (h : w.ownsRow base e k (.slice (some ⟨g, 0, none⟩) n cap) n (F.take p ++ Z.drop p)) (hl : F.length = Z.length) (h0 : F[p]? = some v0) (h1 : F[p + 1]? = some v1) :
    ((w.setCell ⟨g, p, none⟩ v0).setCell ⟨g, p + 1, none⟩ v1).ownsRow base e k (.slice (some ⟨g, 0, none⟩) n cap) n (F.take (p + 2) ++ Z.drop (p + 2)) :=
  own_store (own_store h hl h0) hl h1
theorem own_store3 {F Z : List Value} {v0 v1 v2 : Value} (h : w.ownsRow base e k (.slice (some ⟨g, 0, none⟩) n cap) n (F.take p ++ Z.drop p)) (hl : F.length = Z.length) (h0 : F[p]? = some v0) (h1 : F[p + 1]? = some v1) (h2 : F[p + 2]? = some v2) :
    (((w.setCell ⟨g, p, none⟩ v0).setCell ⟨g, p + 1, none⟩ v1).setCell ⟨g, p + 2, none⟩ v2).ownsRow base e k (.slice (some ⟨g, 0, none⟩) n cap) n (F.take (p + 3) ++ Z.drop (p + 3)) :=
  own_store (own_store (own_store h hl h0) hl h1) hl h2
theorem own_store4 {F Z : List Value} {v0 v1 v2 v3 : Value} (h : w.ownsRow base e k (.slice (some ⟨g, 0, none⟩) n cap) n (F.take p ++ Z.drop p)) (hl : F.length = Z.length) (h0 : F[p]? = some v0) (h1 : F[p + 1]? = some v1) (h2 : F[p + 2]? = some v2) (h3 : F[p + 3]? = some v3) :
    ((((w.setCell ⟨g, p, none⟩ v0).setCell ⟨g, p + 1, none⟩ v1).setCell ⟨g, p + 2, none⟩ v2).setCell ⟨g, p + 3, none⟩ v3).ownsRow base e k (.slice (some ⟨g, 0, none⟩) n cap) n (F.take (p + 4) ++ Z.drop (p + 4)) :=
  own_store (own_store (own_store (own_store h hl h0) hl h1) hl h2) hl h3
theorem own_store5 {F Z : List Value} {v0 v1 v2 v3 v4 : Value} (h : w.ownsRow base e k (.slice (some ⟨g, 0, none⟩) n cap) n (F.take p ++ Z.drop p)) (hl : F.length = Z.length) (h0 : F[p]? = some v0) (h1 : F[p + 1]? = some v1) (h2 : F[p + 2]? = some v2) (h3 : F[p + 3]? = some v3) (h4 : F[p + 4]? = some v4) :
    (((((w.setCell ⟨g, p, none⟩ v0).setCell ⟨g, p + 1, none⟩ v1).setCell ⟨g, p + 2, none⟩ v2).setCell ⟨g, p + 3, none⟩ v3).setCell ⟨g, p + 4, none⟩ v4).ownsRow base e k (.slice (some ⟨g, 0, none⟩) n cap) n (F.take (p + 5) ++ Z.drop (p + 5)) :=
  own_store (own_store (own_store (own_store (own_store h hl h0) hl h1) hl h2) hl h3) hl h4
theorem own_store6 {F Z : List Value} {v0 v1 v2 v3 v4 v5 : Value} (h : w.ownsRow base e k (.slice (some ⟨g, 0, none⟩) n cap) n (F.take p ++ Z.drop p)) (hl : F.length = Z.length) (h0 : F[p]? = some v0) (h1 : F[p + 1]? = some v1) (h2 : F[p + 2]? = some v2) (h3 : F[p + 3]? = some v3) (h4 : F[p + 4]? = some v4) (h5 : F[p + 5]? = some v5) :
    ((((((w.setCell ⟨g, p, none⟩ v0).setCell ⟨g, p + 1, none⟩ v1).setCell ⟨g, p + 2, none⟩ v2).setCell ⟨g, p + 3, none⟩ v3).setCell ⟨g, p + 4, none⟩ v4).setCell ⟨g, p + 5, none⟩ v5).ownsRow base e k (.slice (some ⟨g, 0, none⟩) n cap) n (F.take (p + 6) ++ Z.drop (p + 6)) :=
  own_store (own_store (own_store (own_store (own_store (own_store h hl h0) hl h1) hl h2) hl h3) hl h4) hl h5
end
end

theorem grown_set {a w : World} {g o : Nat} {s : Option Nat} (h : a.grownBy w (some g)) (v : Value) : a.grownBy (w.setCell ⟨g, o, s⟩ v) (some g) :=
  ⟨h.os, h.tape, h.output, by simpa [World.setCell] using h.size, fun i hi hne => (Below.heap_setCell w ⟨g, o, s⟩ v i (by
    rintro rfl
    exact hne rfl)).trans (h.block i hi hne)⟩
theorem own_form {w : World} {base : Nat} {e : TypeId} {k n c : Nat} {A : Option Addr} {L : List Value} (h : w.ownsRow base e k (.slice A n c) n L) (hn : 0 < n) : ∃ g, A = some ⟨g, 0, none⟩ ∧ base ≤ g ∧ g < w.heap.size := by
  obtain ⟨g, cap, hv, hb, hl⟩ := h.form hn
  injection hv with h1 _ _
  exact ⟨g, h1, hb, hl⟩

/-- A slice of the call's own, made between two sizes of the heap: its block lies in [lo, hi). -/
structure Own (lo hi : Nat) (w : World) (e : TypeId) (k : Nat) (A : Option Addr) (n c : Nat) (L : List Value) : Prop where
  own : w.ownsRow lo e k (.slice A n c) n L
  up : ∀ g, (Value.slice A n c).ownBlock = some g → g < hi

section
variable {w w' : World} {k n c lo hi : Nat} {e : TypeId} {A : Option Addr} {L : List Value}
theorem Own.mk_ (h : w.ownsRow lo e k (.slice A n c) n L) : Own lo w.heap.size w e k A n c L := ⟨h, fun g hg => (h.lt g hg).2⟩
theorem Own.sl (h : Own lo hi w e k A n c L) : Sl w k A n c L := Sl.of_own h.own
theorem Own.bel (h : Own lo hi w e k A n c L) (hb : Below w.heap.size w w') : Own lo hi w' e k A n c L := ⟨own_bel h.own hb, h.up⟩
theorem Own.grown (h : Own lo hi w e k A n c L) {r : Option Nat} (hg : w.grownBy w' r) (hr : ∀ g, r = some g → g < lo ∨ hi ≤ g) : Own lo hi w' e k A n c L := by
  refine ⟨h.own.kept hg ?_, h.up⟩
  rcases ho : (Value.slice A n c).ownBlock with _ | g
  · exact Or.inl rfl
  · refine Or.inr fun e1 => ?_
    have h1 := (h.own.lt g ho).1
    have h2 := h.up g ho
    have := hr g e1.symm
    omega
theorem Own.low {lo' : Nat} (h : Own lo hi w e k A n c L) (hl : lo' ≤ lo) : Own lo' hi w e k A n c L := ⟨own_low h.own hl, h.up⟩
theorem Own.high {hi' : Nat} (h : Own lo hi w e k A n c L) (hl : hi ≤ hi') : Own lo hi' w e k A n c L := ⟨h.own, fun g hg => Nat.lt_of_lt_of_le (h.up g hg) hl⟩
/-- What was made earlier or later lies elsewhere. -/
theorem Own.ob (h : Own lo hi w e k A n c L) : ∀ g, (Value.slice A n c).ownBlock = some g → lo ≤ g ∧ g < hi := fun g hg => ⟨(h.own.lt g hg).1, h.up g hg⟩
theorem Own.bel_grown {W : World} (h : Own lo hi w e k A n c L) (hb : Below W.heap.size W w) (hg : w.grownBy w' (Value.slice A n c).ownBlock) (hlo : W.heap.size ≤ lo) : Below W.heap.size W w' :=
  hb.grown hg hb.size fun g hg => Nat.le_trans hlo (h.ob g hg).1
end

/-- 'k, k + 1, ..': what the laws mark a slice with. -/
def marks (k : Int) (m : Nat) : List Value := (List.range m).map fun (j : Nat) => Value.int .i64 (k + j)
theorem marks_len (k : Int) (m : Nat) : (marks k m).length = m := by simp [marks]
theorem marks_get {k : Int} {m j : Nat} (hj : j < m) : (marks k m)[j]? = some (.int .i64 (k + j)) := by
  simp [marks, hj]
def ints (xs : List Int) : List Value := xs.map (Value.int .i64)
theorem ints_len (xs : List Int) : (ints xs).length = xs.length := by simp [ints]
theorem ints_get {xs : List Int} {i : Nat} {x : Int} (h : xs[i]? = some x) : (ints xs)[i]? = some (.int .i64 x) := by simp [ints, h]
theorem flat_len_of (L : List (List Int)) (k : Nat) (hk : ∀ l ∈ L, l.length = k) : (L.flatMap ints).length = L.length * k := by
  induction L with
  | nil => simp
  | cons x L ih =>
    rw [List.flatMap_cons, List.length_append, ints_len, hk x (by simp), ih (fun l hm => hk l (by simp [hm])), List.length_cons, Nat.add_mul]
    omega
theorem Sl.int_at {w : World} {A : Option Addr} {n c : Nat} {xs : List Int} (h : Sl w 1 A n c (ints xs)) {i : Nat} {x : Int} (hx : xs[i]? = some x) :
    ∃ b o, A = some ⟨b, o, none⟩ ∧ b < w.heap.size ∧ w.cell? ⟨b, o + i, none⟩ = some (.int .i64 x) := by
  have hi : i < xs.length := (List.getElem?_eq_some_iff.1 hx).1
  have hl := h.len
  rw [ints_len] at hl
  obtain ⟨b, o, rfl, hb, hc⟩ := h.at_ (by omega)
  exact ⟨b, o, rfl, hb, hc i _ (ints_get hx)⟩
theorem Sl.int_len {w : World} {A : Option Addr} {n c : Nat} {xs : List Int} (h : Sl w 1 A n c (ints xs)) : xs.length = n := by
  have := h.len
  rw [ints_len] at this
  omega
theorem get_of_lt {α : Type} {xs : List α} {i : Nat} (h : i < xs.length) : ∃ x, xs[i]? = some x := ⟨_, List.getElem?_eq_getElem h⟩

theorem own_slice {w : World} {base : Nat} {e : TypeId} {k n : Nat} {v : Value} {L : List Value} (h : w.ownsRow base e k v n L) : ∃ A c, v = .slice A n c := by
  rcases h.2 with ⟨hv, h0⟩ | ⟨g, cap, cur, hv, _⟩
  · exact ⟨none, 0, by rw [hv, h0]⟩
  · exact ⟨_, _, hv⟩
theorem new_cells (w : World) (news : List Value) (t : TypeId) : ∀ j u, news[j]? = some u → (w.alloc (.cells news.toArray t)).cell? ((⟨w.heap.size, 0, none⟩ : Addr).add j) = some u := by
  intro j u hu
  rw [Addr.add_lit, Nat.zero_add, cell_of_row _ w.heap.size j news.toArray t (0, 0) (heap_alloc_new w _)]
  simpa using hu

/-- 'append(out, x)': x lies in a block of its own that has just been made. -/
theorem wpList_push {P : Program} {w : World} {ops : Array Oper} {rest : List Oper} {o : Oper} {a : Act} {Q : Exit → Act → World → Prop} (hgd : o.guard = none) (s x : Operand) (t : TypeId)
    (ho : o.op = .call { callee := .builtin .append, args := #[s, x], argTypes := #[t, t] })
    (base : Nat) (e : TypeId) (z : Value) (size bytes : Nat) (ht : P.underlying t = some (.slice e)) (hi : (P.info? e).map (fun i => (i.zero, i.size, i.bytes)) = some (some z, size, bytes)) (hzs : z.cells.size = size) (hsz : 0 < size)
    (A : Option Addr) (n c : Nat) (L news : List Value) (t2 : TypeId) (hs : a.eval s = .slice A n c) (hown : w.ownsRow base e size (.slice A n c) n L)
    (hx : a.eval x = .slice (some ⟨w.heap.size, 0, none⟩) 1 1) (hl : news.length = size) (h1 : ∀ u ∈ news, u.oneCell' = true)
    (hn : n ≤ 1073741824) (hby : bytes ≤ 1024) (hbase : base ≤ w.heap.size)
    (h : ∀ A' c' w', w'.ownsRow base e size (.slice A' (n + 1) c') (n + 1) (L ++ news) → Below base w w' → w.grownBy w' (Value.slice A n c).ownBlock → wpList P ops Q rest (a.put o.dst (.slice A' (n + 1) c')) w') :
    wpList P ops Q (o :: rest) a (w.alloc (.cells news.toArray t2)) := by
  obtain ⟨i0, hi0, hz0, hz1, hz2⟩ := info_parts hi
  have hnb : (n + 1) * bytes ≤ 140737488355328 := Nat.le_trans (Nat.mul_le_mul (show n + 1 ≤ 1073741825 by omega) hby) (by omega)
  refine wpList_append_own _ hgd s x t ho base e i0 z size bytes ht hi0 hz0 hz1 hz2 hzs hsz _ n L hs (hown.alloc _) ⟨w.heap.size, 0, none⟩ 1 1 news hx (by rw [hl, Nat.one_mul]) (new_cells w news t2) h1 (by simp only [maxLen]; omega) hnb (by simp; omega) ?_
  intro v' w' hown' hg' _
  obtain ⟨A', c', rfl⟩ := own_slice hown'
  have hg2 : w.grownBy w' (Value.slice A n c).ownBlock :=
    ⟨hg'.os, hg'.tape, hg'.output, Nat.le_trans (by simp) hg'.size, fun k hk hne => (hg'.block k (by simp; omega) hne).trans (Below.heap_alloc w _ k hk)⟩
  refine h A' c' w' hown' ⟨hg2.os, hg2.tape, hg2.output, hg2.size, fun k hk => hg2.block k (by omega) fun e1 => ?_⟩ hg2
  have := (hown.lt k e1.symm).1
  omega

/-- A slice literal without elements: a block of its own. -/
theorem own_empty {w : World} {base size : Nat} {e : TypeId} (hb : base ≤ w.heap.size) : (w.alloc (.cells #[] e)).ownsRow base e size (.slice (some ⟨w.heap.size, 0, none⟩) 0 0) 0 [] :=
  World.ownsRow_made w #[] 0 hb (Nat.zero_le _) (by simp)
theorem oneCell_int (n : Int) : ∀ u ∈ [Value.int .i64 n], u.oneCell' = true := by
  intro u hu
  rw [List.mem_singleton.1 hu]
  rfl
theorem ints_snoc (xs : List Int) (x : Int) : ints xs ++ [.int .i64 x] = ints (xs ++ [x]) := by simp [ints]
theorem range_snoc {f : Nat → Int} {i : Nat} : (List.range i).map f ++ [f i] = (List.range (i + 1)).map f := by rw [List.range_succ, List.map_append]; rfl

/-- The built-in min and max of two ints, as 'min' and 'max'. -/
theorem run_max2 {P : Program} {w : World} (ts : Array TypeId) (t : TypeId) (k k' : IntKind) (x y : Int) : (Builtin.max_ ts t #[.int k x, .int k' y]).run P w = .ok (.int k (max x y)) w := by
  rw [run_max_int2]
  congr 2
  split <;> omega
theorem run_min2 {P : Program} {w : World} (ts : Array TypeId) (t : TypeId) (k k' : IntKind) (x y : Int) : (Builtin.min_ ts t #[.int k x, .int k' y]).run P w = .ok (.int k (min x y)) w := by
  rw [run_min_int2]
  congr 2
  split <;> omega
attribute [go_sem high] run_max2 run_min2
end Go.Proofs.Ytcdgkiiokplidaa
