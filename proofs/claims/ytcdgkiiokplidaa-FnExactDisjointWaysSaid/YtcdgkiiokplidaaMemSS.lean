/-
  Lists of lists of numbers in memory: what a slice of slices reads as (SS), such a slice of the call's own (OwnSS), and how both are kept.
-/
import Derived.Test.YtcdgkiiokplidaaMem
namespace Go.Proofs.Ytcdgkiiokplidaa
open Go.RowKit

/-- The slice '.slice A n c' of slices of one-cell elements reads as the rows LL. -/
def SS (w : World) (A : Option Addr) (n c : Nat) (LL : List (List Value)) : Prop :=
  ∃ Vs : List Value, Sl w 1 A n c Vs ∧ Vs.length = LL.length ∧
    ∀ (i : Nat) (l : List Value), LL[i]? = some l → ∃ a m d, Vs[i]? = some (.slice a m d) ∧ Sl w 1 a m d l

section
variable {w w' : World} {n c lo hi : Nat} {A : Option Addr} {LL : List (List Value)}
theorem SS.bel (h : SS w A n c LL) (hb : Below w.heap.size w w') : SS w' A n c LL := by
  obtain ⟨Vs, h1, h2, h3⟩ := h
  refine ⟨Vs, h1.bel hb, h2, fun i l hl => ?_⟩
  obtain ⟨a, m, d, hv, hs⟩ := h3 i l hl
  exact ⟨a, m, d, hv, hs.bel hb⟩
theorem SS.len (h : SS w A n c LL) : LL.length = n := by
  obtain ⟨Vs, h1, h2, _⟩ := h
  have := h1.len
  omega
theorem SS.at_ (h : SS w A n c LL) {i : Nat} {l : List Value} (hl : LL[i]? = some l) :
    ∃ b o, A = some ⟨b, o, none⟩ ∧ b < w.heap.size ∧ ∃ a m d, w.cell? ⟨b, o + i, none⟩ = some (.slice a m d) ∧ Sl w 1 a m d l := by
  obtain ⟨Vs, h1, h2, h3⟩ := h
  obtain ⟨a, m, d, hv, hs⟩ := h3 i l hl
  have hi : i < LL.length := (List.getElem?_eq_some_iff.1 hl).1
  have := h1.len
  obtain ⟨b, o, rfl, hb, hc⟩ := h1.at_ (by omega)
  exact ⟨b, o, rfl, hb, a, m, d, hc i _ hv, hs⟩
end

/-- Such a slice of the call's own: all its blocks lie in [lo, hi), those of the rows apart. -/
structure OwnSS (lo hi : Nat) (w : World) (t e : TypeId) (A : Option Addr) (n c : Nat) (LL : List (List Value)) (Vs : List Value) : Prop where
  out : Own lo hi w t 1 A n c Vs
  len : Vs.length = LL.length
  row : ∀ (i : Nat) (l : List Value), LL[i]? = some l → ∃ a d, Vs[i]? = some (.slice a l.length d) ∧ Own lo hi w e 1 a l.length d l
  apart : ∀ (i j : Nat) (u v : Value) (g : Nat), Vs[i]? = some u → Vs[j]? = some v → u.ownBlock = some g → v.ownBlock = some g → i = j

section
variable {w w' : World} {t e : TypeId} {n c lo hi : Nat} {A : Option Addr} {LL : List (List Value)} {Vs : List Value}
theorem OwnSS.ss (h : OwnSS lo hi w t e A n c LL Vs) : SS w A n c LL :=
  ⟨Vs, h.out.sl, h.len, fun i l hl => by
    obtain ⟨a, d, hv, ho⟩ := h.row i l hl
    exact ⟨a, l.length, d, hv, ho.sl⟩⟩
theorem OwnSS.bel (h : OwnSS lo hi w t e A n c LL Vs) (hb : Below w.heap.size w w') : OwnSS lo hi w' t e A n c LL Vs :=
  ⟨h.out.bel hb, h.len, fun i l hl => by
    obtain ⟨a, d, hv, ho⟩ := h.row i l hl
    exact ⟨a, d, hv, ho.bel hb⟩, h.apart⟩
theorem OwnSS.low {lo' : Nat} (h : OwnSS lo hi w t e A n c LL Vs) (hl : lo' ≤ lo) : OwnSS lo' hi w t e A n c LL Vs :=
  ⟨h.out.low hl, h.len, fun i l hl' => by
    obtain ⟨a, d, hv, ho⟩ := h.row i l hl'
    exact ⟨a, d, hv, ho.low hl⟩, h.apart⟩
theorem OwnSS.high {hi' : Nat} (h : OwnSS lo hi w t e A n c LL Vs) (hl : hi ≤ hi') : OwnSS lo hi' w t e A n c LL Vs :=
  ⟨h.out.high hl, h.len, fun i l hl' => by
    obtain ⟨a, d, hv, ho⟩ := h.row i l hl'
    exact ⟨a, d, hv, ho.high hl⟩, h.apart⟩
/-- What grows outside its blocks leaves it. -/
theorem OwnSS.grown (h : OwnSS lo hi w t e A n c LL Vs) {r : Option Nat} (hg : w.grownBy w' r) (hr : ∀ g, r = some g → g < lo ∨ hi ≤ g) : OwnSS lo hi w' t e A n c LL Vs :=
  ⟨h.out.grown hg hr, h.len, fun i l hl => by
    obtain ⟨a, d, hv, ho⟩ := h.row i l hl
    exact ⟨a, d, hv, ho.grown hg hr⟩, h.apart⟩
theorem own_type {w : World} {base base' : Nat} {t e : TypeId} {k k' n m : Nat} {u v : Value} {L L' : List Value} {g : Nat} (h : w.ownsRow base t k u n L) (h' : w.ownsRow base' e k' v m L') (hu : u.ownBlock = some g) (hv : v.ownBlock = some g) : t = e := by
  rcases h.2 with ⟨rfl, _⟩ | ⟨g1, c1, cur1, rfl, _, hh1, _⟩
  · cases hu
  rcases h'.2 with ⟨rfl, _⟩ | ⟨g2, c2, cur2, rfl, _, hh2, _⟩
  · cases hv
  simp only [Value.ownBlock, Option.some.injEq] at hu hv
  subst hu; subst hv
  rw [hh1] at hh2
  simp only [Option.some.injEq, Obj.cells.injEq] at hh2
  exact hh2.2.1
theorem own_nil {w : World} {lo hi : Nat} {t e : TypeId} {A : Option Addr} {c : Nat} (h : Own lo hi w t 1 A 0 c []) : OwnSS lo hi w t e A 0 c [] [] :=
  ⟨h, rfl, fun i l hl => by simp at hl, fun i j u v g hu => by simp at hu⟩
/-- A row is written: the others stay. -/
theorem OwnSS.set_row (h : OwnSS lo hi w t e A n c LL Vs) (hte : t ≠ e) {i : Nat} {l l' : List Value} {a : Option Addr} {d : Nat} (hl : LL[i]? = some l) (hv : Vs[i]? = some (.slice a l.length d)) (hn : l'.length = l.length)
    (ho : Own lo hi w' e 1 a l.length d l') (hg : w.grownBy w' (Value.slice a l.length d).ownBlock) : OwnSS lo hi w' t e A n c (LL.set i l') Vs := by
  have hil : i < LL.length := (List.getElem?_eq_some_iff.1 hl).1
  obtain ⟨a0, d0, hv0, ho0⟩ := h.row i l hl
  rw [hv] at hv0
  simp only [Option.some.injEq, Value.slice.injEq, true_and] at hv0
  obtain ⟨rfl, rfl⟩ := hv0
  refine ⟨⟨h.out.own.kept hg ?_, h.out.up⟩, by rw [List.length_set]; exact h.len, fun j lj hj => ?_, h.apart⟩
  · rcases hb : (Value.slice A n c).ownBlock with _ | g
    · exact Or.inl rfl
    · exact Or.inr fun e1 => hte (own_type h.out.own ho0.own hb e1.symm)
  · rw [List.getElem?_set] at hj
    split at hj
    · rename_i e1
      subst e1
      simp only [Option.some.injEq] at hj
      subst hj
      rw [hn]
      exact ⟨a, d, hv, ho⟩
    · rename_i hne
      obtain ⟨a1, d1, hv1, ho1⟩ := h.row j lj hj
      refine ⟨a1, d1, hv1, ho1.own.kept hg ?_, ho1.up⟩
      rcases hb : (Value.slice a1 lj.length d1).ownBlock with _ | g
      · exact Or.inl rfl
      · exact Or.inr fun e1 => hne (h.apart i j _ _ g hv hv1 e1.symm hb)
/-- A row is added: the outer slice has grown, the new row lies in a block of its own. -/
theorem OwnSS.push (h : OwnSS lo hi w t e A n c LL Vs) {hi' : Nat} {a : Option Addr} {d : Nat} {l : List Value} {A' : Option Addr} {c' : Nat} (hh : hi ≤ hi') (hte : t ≠ e)
    (ho : Own hi hi' w e 1 a l.length d l) (hout : Own lo hi' w' t 1 A' (n + 1) c' (Vs ++ [.slice a l.length d])) (hg : w.grownBy w' (Value.slice A n c).ownBlock) (hlo : lo ≤ hi) : OwnSS lo hi' w' t e A' (n + 1) c' (LL ++ [l]) (Vs ++ [.slice a l.length d]) := by
  have keep : ∀ {b : Option Addr} {m k : Nat} {L : List Value} {lo1 hi1 : Nat}, Own lo1 hi1 w e 1 b m k L → Own lo1 hi1 w' e 1 b m k L := fun {b m k L lo1 hi1} h1 => ⟨h1.own.kept hg (by
    rcases hb : (Value.slice b m k).ownBlock with _ | g
    · exact Or.inl rfl
    · exact Or.inr fun e1 => hte (own_type h.out.own h1.own e1.symm hb)), h1.up⟩
  refine ⟨hout, by simp [h.len], fun i l' hl' => ?_, fun i j u v g hu hv hgu hgv => ?_⟩
  · rw [List.getElem?_append] at hl' ⊢
    rw [h.len]
    split at hl'
    · rename_i hlt
      rw [if_pos hlt]
      obtain ⟨a1, d1, hv1, ho1⟩ := h.row i l' hl'
      exact ⟨a1, d1, hv1, (keep ho1).high hh⟩
    · rename_i hlt
      rw [if_neg hlt]
      rcases hi0 : i - LL.length with _ | k
      · rw [hi0] at hl'
        simp only [List.getElem?_cons_zero, Option.some.injEq] at hl'
        subst hl'
        exact ⟨a, d, rfl, (keep ho).low hlo⟩
      · rw [hi0] at hl'
        simp at hl'
  · have old : ∀ (i : Nat) (u : Value), Vs[i]? = some u → u.ownBlock = some g → g < hi := fun i u hu hgu => by
      have hi1 : i < LL.length := by rw [← h.len]; exact (List.getElem?_eq_some_iff.1 hu).1
      obtain ⟨a1, d1, hv1, ho1⟩ := h.row i _ (List.getElem?_eq_getElem hi1)
      rw [hu] at hv1
      simp only [Option.some.injEq] at hv1
      subst hv1
      exact (ho1.ob g hgu).2
    have new : ∀ (v : Value) (k : Nat), [Value.slice a l.length d][k]? = some v → v.ownBlock = some g → k = 0 ∧ hi ≤ g := fun v k hv hgv => by
      rcases k with _ | k
      · simp only [List.getElem?_cons_zero, Option.some.injEq] at hv
        subst hv
        exact ⟨rfl, (ho.ob g hgv).1⟩
      · simp at hv
    rw [List.getElem?_append] at hu hv
    split at hu
    · split at hv
      · exact h.apart i j u v g hu hv hgu hgv
      · have h1 := old i u hu hgu
        have h2 := new v _ hv hgv
        omega
    · split at hv
      · have h1 := old j v hv hgv
        have h2 := new u _ hu hgu
        omega
      · have h1 := new u _ hu hgu
        have h2 := new v _ hv hgv
        omega
end
def rows (LL : List (List Int)) : List (List Value) := LL.map ints
theorem rows_get {LL : List (List Int)} {i : Nat} {l : List Int} (h : LL[i]? = some l) : (rows LL)[i]? = some (ints l) := by simp [rows, h]
theorem rows_len (LL : List (List Int)) : (rows LL).length = LL.length := by simp [rows]
theorem rows_snoc (LL : List (List Int)) (l : List Int) : rows LL ++ [ints l] = rows (LL ++ [l]) := by simp [rows]

/-- Only blocks in [lo, hi) and new ones may differ. -/
structure GrownIn (lo hi : Nat) (w w' : World) : Prop where
  os : w'.os = w.os
  tape : w'.tape = w.tape
  output : w'.output = w.output
  size : w.heap.size ≤ w'.heap.size
  block : ∀ k, k < w.heap.size → (k < lo ∨ hi ≤ k) → w'.heap[k]? = w.heap[k]?
section
variable {lo hi : Nat} {w w' w'' : World}
theorem GrownIn.refl (lo hi : Nat) (w : World) : GrownIn lo hi w w := ⟨rfl, rfl, rfl, Nat.le_refl _, fun _ _ _ => rfl⟩
theorem GrownIn.trans (h : GrownIn lo hi w w') (h' : GrownIn lo hi w' w'') : GrownIn lo hi w w'' :=
  ⟨h'.os.trans h.os, h'.tape.trans h.tape, h'.output.trans h.output, Nat.le_trans h.size h'.size, fun k hk hr => (h'.block k (Nat.lt_of_lt_of_le hk h.size) hr).trans (h.block k hk hr)⟩
theorem GrownIn.of {r : Option Nat} (h : w.grownBy w' r) (hr : ∀ g, r = some g → lo ≤ g ∧ g < hi) : GrownIn lo hi w w' :=
  ⟨h.os, h.tape, h.output, h.size, fun k hk hkr => h.block k hk fun e => by have := hr k e.symm; omega⟩
theorem GrownIn.own {base : Nat} {e : TypeId} {k n : Nat} {v : Value} {L : List Value} (h : GrownIn lo hi w w') (ho : w.ownsRow base e k v n L) (hd : ∀ g, v.ownBlock = some g → g < lo ∨ hi ≤ g) : w'.ownsRow base e k v n L := by
  refine ⟨ho.1, ?_⟩
  rcases ho.2 with h1 | ⟨g, cap, cur, hv, hb, hh, r⟩
  · exact Or.inl h1
  · refine Or.inr ⟨g, cap, cur, hv, hb, ?_, r⟩
    have hlt : g < w.heap.size := (Array.getElem?_eq_some_iff.1 hh).1
    rw [h.block g hlt (hd g (by rw [hv]; rfl))]
    exact hh
theorem Own.grownIn {lo' hi' : Nat} {e : TypeId} {k n c : Nat} {A : Option Addr} {L : List Value} (ho : Own lo' hi' w e k A n c L) (h : GrownIn lo hi w w') (hd : hi' ≤ lo ∨ hi ≤ lo') : Own lo' hi' w' e k A n c L :=
  ⟨h.own ho.own fun g hg => by have := ho.ob g hg; omega, ho.up⟩
theorem OwnSS.grownIn {lo' hi' : Nat} {t e : TypeId} {n c : Nat} {A : Option Addr} {LL : List (List Value)} {Vs : List Value} (ho : OwnSS lo' hi' w t e A n c LL Vs) (h : GrownIn lo hi w w') (hd : hi' ≤ lo ∨ hi ≤ lo') : OwnSS lo' hi' w' t e A n c LL Vs :=
  ⟨ho.out.grownIn h hd, ho.len, fun i l hl => by
    obtain ⟨a, d, hv, h1⟩ := ho.row i l hl
    exact ⟨a, d, hv, h1.grownIn h hd⟩, ho.apart⟩
theorem GrownIn.bel {W : World} (h : GrownIn lo hi w w') (hb : Below W.heap.size W w) (hl : W.heap.size ≤ lo) : Below W.heap.size W w' :=
  ⟨h.os.trans hb.os, h.tape.trans hb.tape, h.output.trans hb.output, Nat.le_trans hb.size h.size, fun i hi => (h.block i (Nat.lt_of_lt_of_le hi hb.size) (Or.inl (by omega))).trans (hb.block i hi)⟩
end
/-- The rows that a marked slice of slices holds. -/
def mkRows (k : Int) : List Nat → List (List Value)
  | [] => []
  | m :: ms => marks k m :: mkRows (k + m) ms
theorem mkRows_len : ∀ (k : Int) (ms : List Nat), (mkRows k ms).length = ms.length
  | _, [] => rfl
  | k, m :: ms => by simp [mkRows, mkRows_len (k + m) ms]
theorem mkRows_get : ∀ {k : Int} {ms : List Nat} {i m : Nat}, ms[i]? = some m → (mkRows k ms)[i]? = some (marks (k + (ms.take i).sum) m)
  | _, [], _, _, h => by simp at h
  | k, x :: ms, 0, m, h => by
    simp only [List.getElem?_cons_zero, Option.some.injEq] at h
    subst h
    simp [mkRows]
  | k, x :: ms, i + 1, m, h => by
    simp only [List.getElem?_cons_succ] at h
    simp only [mkRows, List.getElem?_cons_succ, mkRows_get h, List.take_succ_cons, List.sum_cons]
    congr 2
    push_cast
    omega
theorem sum_next {ms : List Nat} {i m : Nat} (h : ms[i]? = some m) : (ms.take (i + 1)).sum = (ms.take i).sum + m := by
  rw [List.take_add_one, h]
  simp
theorem sum_le (ms : List Nat) (i : Nat) : (ms.take i).sum ≤ ms.sum := by
  have := congrArg List.sum (List.take_append_drop i ms)
  rw [List.sum_append] at this
  omega
theorem lens_get {LL : List (List Value)} {i : Nat} {l : List Value} (h : LL[i]? = some l) : (LL.map List.length)[i]? = some l.length := by simp [h]
end Go.Proofs.Ytcdgkiiokplidaa
