/-
  A matrix of numbers in memory (Mat), and a queue: a slice that is taken from in front and appended to (Que).
-/
import Derived.Test.YtcdgkiiokplidaaFlowBfs
import Derived.Test.YtcdgkiiokplidaaMemSS
import Derived.Test.YtcdgkiiokplidaaAppend
namespace Go.Proofs.Ytcdgkiiokplidaa
open Go.RowKit

theorem own_seti {w : World} {lo g n c : Nat} {e : TypeId} {xs : List Int} {i : Nat} (v : Int) (h : w.ownsRow lo e 1 (.slice (some ⟨g, 0, none⟩) n c) n (ints xs)) :
    (w.setCell ⟨g, i, none⟩ (.int .i64 v)).ownsRow lo e 1 (.slice (some ⟨g, 0, none⟩) n c) n (ints (xs.set i v)) := by
  have := (h.stored i (.int .i64 v)).1
  rwa [show (ints xs).set i (.int .i64 v) = ints (xs.set i v) by simp [ints, List.map_set]] at this
theorem own_at_int {w : World} {lo g n c : Nat} {e : TypeId} {xs : List Int} {i : Nat} {v : Int} (h : w.ownsRow lo e 1 (.slice (some ⟨g, 0, none⟩) n c) n (ints xs)) (hv : xs[i]? = some v) : w.cell? ⟨g, i, none⟩ = some (.int .i64 v) := by
  have hl := h.1
  rw [ints_len] at hl
  have hi := (List.getElem?_eq_some_iff.1 hv).1
  rw [h.cellAt i (by omega)]
  exact ints_get hv
theorem gro_cell (w : World) (g o : Nat) (v : Value) : w.grownBy (w.setCell ⟨g, o, none⟩ v) (some g) := grown_set (World.grownBy.refl _ _) v
section
variable {P : Program} {w : World}
theorem p_makeG {ops : Array Oper} {S : World → Prop} {p : PlanO} {o : Oper} {a : Act} {Q : Exit → Act → World → Prop} (hw : Region.wanted o (yielded ops a.tmps) = true) (l c : Operand) (t : TypeId) (hop : o.op = Op.makeSlice t l c)
    (base : Nat) (e : TypeId) (z : Value) (size bytes : Nat) (h1 : P.underlying t = some (.slice e)) (hi : (P.info? e).map (fun i => (i.zero, i.size, i.bytes)) = some (some z, size, bytes))
    (n : Nat) (hl : a.eval l = .int .i64 n) (hc : a.eval c = .int .i64 n) (b2 : bytes * n ≤ 281474976710656) (b3 : n ≤ maxLen) (b4 : base ≤ w.heap.size)
    (hK : ∀ g w', w'.ownsRow base e size (.slice (some ⟨g, 0, none⟩) n n) n (madeCells z.cells (n * size)).toList → w.grownBy w' none → S w' ∧ wpPlan P ops Q S p (a.put o.dst (.slice (some ⟨g, 0, none⟩) n n)) w') :
    wpPlan P ops Q S (.one o p) a w := by
  obtain ⟨i0, hi0, hz0, hz1, hz2⟩ := info_parts hi
  obtain ⟨w', hrun, r1, r2⟩ := run_make_full (P := P) w base t e i0 z size h1 hi0 hz0 hz1 .i64 .i64 n (by rw [hz2]; exact b2) b3 b4
  obtain ⟨hS, hp⟩ := hK _ w' r1 r2
  refine p_val hw ?_ hS hp
  simp [execOp, hop, hl, hc, hrun, Result.andThen]
end
theorem made_int (n : Nat) : (madeCells (Value.int .i64 0).cells (n * 1)).toList = ints (List.replicate n 0) := by
  simp [madeCells, ints, Value.cells, Nat.mod_one, List.map_const']
theorem own_keep {w w' : World} {base e k v n L} (h : w.ownsRow base e k v n L) (hg : w.grownBy w' none) : w'.ownsRow base e k v n L := h.kept hg (by cases v.ownBlock <;> simp)
/-! ### Matrices -/
def matF (LL : List (List Int)) (u v : Nat) : Int := (LL.getD u []).getD v 0
/-- One number of a matrix set. -/
def putM (LL : List (List Int)) (x y : Nat) (v : Int) : List (List Int) := LL.set x ((LL.getD x []).set y v)
/-- A matrix of the call's own. -/
structure Mat (lo hi : Nat) (w : World) (gA : Nat) (N c : Nat) (LL : List (List Int)) (Vs : List Value) : Prop where
  own : OwnSS lo hi w 22 3 (some ⟨gA, 0, none⟩) N c (rows LL) Vs
  len : LL.length = N
  row : ∀ l ∈ LL, l.length = N
section
variable {lo hi gA N c : Nat} {w w' : World} {LL : List (List Int)} {Vs : List Value}
theorem getD_row (h : Mat lo hi w gA N c LL Vs) {x : Nat} (hx : x < N) : LL[x]? = some (LL.getD x []) ∧ (LL.getD x []).length = N := by
  have hx' : x < LL.length := by rw [h.len]; exact hx
  have e : LL[x]? = some (LL.getD x []) := by simp [List.getD, List.getElem?_eq_getElem hx']
  exact ⟨e, h.row _ (List.mem_of_getElem? e)⟩
theorem matF_get (h : Mat lo hi w gA N c LL Vs) {x y : Nat} (hx : x < N) (hy : y < N) : (LL.getD x [])[y]? = some (matF LL x y) := by
  have hy' : y < (LL.getD x []).length := by rw [(getD_row h hx).2]; exact hy
  unfold matF
  rw [List.getD_eq_getElem?_getD (l := LL.getD x []) (i := y), List.getElem?_eq_getElem hy']
  rfl
theorem matF_put (h : Mat lo hi w gA N c LL Vs) {x y : Nat} (hx : x < N) (hy : y < N) (v : Int) : matF (putM LL x y v) = fun a b => if a = x ∧ b = y then v else matF LL a b := by
  have h1 := getD_row h hx
  have hx' : x < LL.length := by rw [h.len]; exact hx
  funext a b
  unfold matF putM
  by_cases e : a = x
  · subst e
    have e1 : (LL.set a ((LL.getD a []).set y v)).getD a [] = (LL.getD a []).set y v := by
      rw [List.getD_eq_getElem?_getD, List.getElem?_set, if_pos rfl, if_pos hx']; rfl
    rw [e1, List.getD_eq_getElem?_getD, List.getElem?_set]
    by_cases e2 : b = y
    · subst e2
      rw [if_pos rfl, if_pos (by rw [h1.2]; exact hy), if_pos ⟨rfl, rfl⟩]
      rfl
    · rw [if_neg (fun e => e2 e.symm), if_neg (fun e => e2 e.2), ← List.getD_eq_getElem?_getD]
  · have e1 : (LL.set x ((LL.getD x []).set y v)).getD a [] = LL.getD a [] := by
      rw [List.getD_eq_getElem?_getD, List.getElem?_set_ne (fun e' => e e'.symm), ← List.getD_eq_getElem?_getD]
    rw [e1, if_neg (fun e' => e e'.1)]
theorem Mat.bel (h : Mat lo hi w gA N c LL Vs) (hb : Below w.heap.size w w') : Mat lo hi w' gA N c LL Vs := ⟨h.own.bel hb, h.len, h.row⟩
theorem Mat.grownIn {lo' hi' : Nat} (h : Mat lo hi w gA N c LL Vs) (hg : GrownIn lo' hi' w w') (hd : hi ≤ lo') : Mat lo hi w' gA N c LL Vs := ⟨h.own.grownIn hg (.inl hd), h.len, h.row⟩
theorem Mat.at_ (h : Mat lo hi w gA N c LL Vs) {x : Nat} (hx : x < N) :
    lo ≤ gA ∧ gA < hi ∧ gA < w.heap.size ∧ ∃ ga d, Vs[x]? = some (.slice (some ⟨ga, 0, none⟩) N d) ∧ gA ≠ ga ∧ lo ≤ ga ∧ ga < hi ∧ ga < w.heap.size ∧ w.cell? ⟨gA, x, none⟩ = some (.slice (some ⟨ga, 0, none⟩) N d) ∧
      (∀ y, y < N → w.cell? ⟨ga, y, none⟩ = some (.int .i64 (matF LL x y))) ∧ ∀ y, w.frozen? ⟨ga, y, none⟩ = false := by
  obtain ⟨hr, hl⟩ := getD_row h hx
  obtain ⟨a, d, hv, ho⟩ := h.own.row x _ (rows_get hr)
  rw [ints_len, hl] at hv ho
  obtain ⟨ga, rfl, h1, h2⟩ := own_form ho.own (by omega)
  have hA := h.own.out.ob gA rfl
  have hc : w.cell? ⟨gA, x, none⟩ = some (.slice (some ⟨ga, 0, none⟩) N d) := by
    rw [h.own.out.own.cellAt x (by omega)]
    exact hv
  refine ⟨hA.1, hA.2, World.block_lt_of_cell? _ _ hc, ga, d, hv, fun e => absurd (own_type h.own.out.own ho.own (g := ga) (by rw [e]; rfl) rfl) (by decide), h1, (ho.ob ga rfl).2, h2, hc, fun y hy => ?_, own_fz ho.own⟩
  exact own_at_int ho.own (matF_get h hx hy)
theorem rows_set (LL : List (List Int)) (x : Nat) (l : List Int) : (rows LL).set x (ints l) = rows (LL.set x l) := by simp [rows, List.map_set]
theorem Mat.put (h : Mat lo hi w gA N c LL Vs) {x y ga d : Nat} (hx : x < N) (hv : Vs[x]? = some (.slice (some ⟨ga, 0, none⟩) N d)) (v : Int) : Mat lo hi (w.setCell ⟨ga, y, none⟩ (.int .i64 v)) gA N c (putM LL x y v) Vs := by
  obtain ⟨hr, hl⟩ := getD_row h hx
  obtain ⟨a, d', hv', ho⟩ := h.own.row x _ (rows_get hr)
  rw [ints_len, hl] at hv' ho
  rw [hv] at hv'
  simp only [Option.some.injEq, Value.slice.injEq, true_and] at hv'
  obtain ⟨rfl, rfl⟩ := hv'
  have hs := h.own.set_row (by decide) (rows_get hr) (by rw [ints_len, hl]; exact hv) (l' := ints ((LL.getD x []).set y v)) (by rw [ints_len, ints_len, List.length_set]) (by rw [ints_len, hl]; exact ⟨own_seti v ho.own, ho.up⟩) (gro_cell w ga y _)
  rw [rows_set] at hs
  refine ⟨hs, by rw [putM, List.length_set]; exact h.len, fun l hm => ?_⟩
  rcases List.mem_or_eq_of_mem_set hm with h1 | rfl
  · exact h.row l h1
  · rw [List.length_set]; exact hl
end
/-! ### Queues -/
structure Que (lo : Nat) (w : World) (A : Option Addr) (n c : Nat) (xs : List Int) : Prop where
  len : xs.length = n
  cap : n ≤ c
  max : c ≤ maxLen
  at_ : 0 < c → ∃ g o, A = some ⟨g, o, none⟩ ∧ lo ≤ g ∧ g < w.heap.size ∧ (∀ j x, xs[j]? = some x → w.cell? ⟨g, o + j, none⟩ = some (.int .i64 x)) ∧ ∀ j, j < c → (w.cell? ⟨g, o + j, none⟩).isSome = true ∧ w.frozen? ⟨g, o + j, none⟩ = false
section
variable {lo n c : Nat} {w w' : World} {A : Option Addr} {xs : List Int}
theorem Que.keep (h : Que lo w A n c xs) (hs : w.heap.size ≤ w'.heap.size) (hk : ∀ k, lo ≤ k → k < w.heap.size → w'.heap[k]? = w.heap[k]?) : Que lo w' A n c xs :=
  ⟨h.len, h.cap, h.max, fun h0 => by
    obtain ⟨g, o, rfl, h1, h2, h3, h4⟩ := h.at_ h0
    have e := hk g h1 h2
    refine ⟨g, o, rfl, h1, by omega, fun j x hx => (World.cell?_of_block (a := ⟨g, o + j, none⟩) e).trans (h3 j x hx), fun j hj => ?_⟩
    rw [World.cell?_of_block (a := ⟨g, o + j, none⟩) e, World.frozen?_of_block (a := ⟨g, o + j, none⟩) e]
    exact h4 j hj⟩
theorem Que.bel (h : Que lo w A n c xs) (hb : Below w.heap.size w w') : Que lo w' A n c xs := h.keep hb.size fun k _ hk => hb.block k hk
theorem Que.grown (h : Que lo w A n c xs) {q : Nat} (hg : w.grownBy w' (some q)) (hq : q < lo) : Que lo w' A n c xs :=
  h.keep hg.size fun k h1 h2 => hg.block k h2 (by simp only [Option.some.injEq, ne_eq]; omega)
theorem Que.front {x : Int} (h : Que lo w A n c (x :: xs)) : ∃ g o, A = some ⟨g, o, none⟩ ∧ lo ≤ g ∧ g < w.heap.size ∧ w.cell? ⟨g, o, none⟩ = some (.int .i64 x) := by
  have h0 := h.cap
  have h1 := h.len
  rw [List.length_cons] at h1
  obtain ⟨g, o, rfl, h2, h3, h4, _⟩ := h.at_ (by omega)
  exact ⟨g, o, rfl, h2, h3, h4 0 x rfl⟩
theorem Que.pop {x : Int} {g o : Nat} (h : Que lo w (some ⟨g, o, none⟩) n c (x :: xs)) : Que lo w (if c = 1 then some ⟨g, o, none⟩ else some ⟨g, o + 1, none⟩) (n - 1) (c - 1) xs := by
  have h0 := h.cap
  have h1 := h.len
  have hm := h.max
  rw [List.length_cons] at h1
  refine ⟨by omega, by omega, by omega, fun hc => ?_⟩
  obtain ⟨g', o', e, h2, h3, h4, h5⟩ := h.at_ (by omega)
  simp only [Option.some.injEq, Addr.mk.injEq, and_true] at e
  obtain ⟨rfl, rfl⟩ := e
  rw [if_neg (by omega)]
  refine ⟨g, o + 1, rfl, h2, h3, fun j y hy => ?_, fun j hj => ?_⟩
  · rw [Nat.add_assoc, Nat.add_comm 1 j]
    exact h4 (j + 1) y (by rw [List.getElem?_cons_succ]; exact hy)
  · rw [Nat.add_assoc, Nat.add_comm 1 j]
    exact h5 (j + 1) (by omega)
theorem Que.lit (w : World) (v : Int) (t : TypeId) (h : lo ≤ w.heap.size) : Que lo (w.alloc (.cells #[.int .i64 v] t)) (some ⟨w.heap.size, 0, none⟩) 1 1 [v] := by
  have e : ∀ j, (w.alloc (.cells #[.int .i64 v] t)).cell? ⟨w.heap.size, 0 + j, none⟩ = #[Value.int .i64 v][j]? := fun j => by rw [Nat.zero_add, cell_of_row _ w.heap.size j _ t (0, 0) (heap_alloc_new w _)]
  refine ⟨rfl, Nat.le_refl _, by simp [maxLen], fun _ => ⟨w.heap.size, 0, rfl, h, by simp, fun j x hx => ?_, fun j hj => ⟨?_, ?_⟩⟩⟩
  · rw [e]
    cases j with
    | zero => simpa using hx
    | succ j => simp at hx
  · rw [e]
    obtain rfl : j = 0 := by omega
    rfl
  · exact World.frozen?_alloc_new w _ _ _
end
theorem mat_push {lo hi gA N c : Nat} {w : World} {LL : List (List Int)} {Vs : List Value} (h : Mat lo hi w gA N c LL Vs) {x y ga d : Nat} (hx : x < N) (hy : y < N) (hxy : x ≠ y) (hv : Vs[x]? = some (.slice (some ⟨ga, 0, none⟩) N d)) :
    matF (putM LL x y (matF LL x y - 1)) y x = matF LL y x ∧ matF (putM (putM LL x y (matF LL x y - 1)) y x (matF LL y x + 1)) = push1 (matF LL) x y := by
  have e1 : ∀ a b, matF (putM LL x y (matF LL x y - 1)) a b = if a = x ∧ b = y then matF LL x y - 1 else matF LL a b := fun a b => congrFun (congrFun (matF_put h hx hy (matF LL x y - 1)) a) b
  have h1 := h.put (y := y) hx hv (matF LL x y - 1)
  refine ⟨by rw [e1, if_neg (fun e => hxy e.1.symm)], ?_⟩
  rw [matF_put h1 hy hx]
  funext a b
  unfold push1
  show (if a = y ∧ b = x then matF LL y x + 1 else matF (putM LL x y (matF LL x y - 1)) a b) = _
  rw [e1]
  by_cases e2 : a = x ∧ b = y
  · obtain ⟨rfl, rfl⟩ := e2
    rw [if_neg (fun e => hxy e.1), if_pos ⟨rfl, rfl⟩, if_pos ⟨rfl, rfl⟩]
  · rw [if_neg e2, if_neg e2]
    by_cases e3 : a = y ∧ b = x
    · obtain ⟨rfl, rfl⟩ := e3
      simp
    · rw [if_neg e3, if_neg e3]
theorem grownIn_bel {w w' : World} (lo hi : Nat) (h : Below w.heap.size w w') : GrownIn lo hi w w' := ⟨h.os, h.tape, h.output, h.size, fun k hk _ => h.block k hk⟩
theorem grownIn_set {lo hi g o : Nat} {w w' : World} {v : Value} (h : GrownIn lo hi w w') (h1 : lo ≤ g) (h2 : g < hi) : GrownIn lo hi w (w'.setCell ⟨g, o, none⟩ v) :=
  h.trans (GrownIn.of (gro_cell w' g o v) fun q hq => by simp only [Option.some.injEq] at hq; omega)
def natsI (l : List Nat) : List Int := l.map fun (x : Nat) => (x : Int)
/-- What 'one unit more' gives. -/
def PushR (lo hi gA N c s t : Nat) (C : Nat → Nat → Int) (k : Int) (Vs : List Value) (w : World) (e : Ending) (w' : World) : Prop :=
  ∃ (b : Bool) (LL' : List (List Int)), e = .returned (.bool b) ∧ Mat lo hi w' gA N c LL' Vs ∧ GrownIn lo hi w w' ∧ (b = true → FlowSt N s t C (matF LL') (k + 1)) ∧ (b = false → Cert N s t C k)
/-- What the search holds in memory: the queue, the marks. -/
structure Srh (base q0 g cb N : Nat) (B : List Int) (Q : List Nat) (q : Value) (wk : World) : Prop where
  que : ∃ A n cq, q = .slice A n cq ∧ Que q0 wk A n cq (natsI Q)
  own : wk.ownsRow base 3 1 (.slice (some ⟨g, 0, none⟩) N cb) N (ints B)
  le : q0 ≤ wk.heap.size
theorem Srh.bel {base q0 g cb N : Nat} {B : List Int} {Q : List Nat} {q : Value} {w w' : World} (h : Srh base q0 g cb N B Q q w) (hb : Below w.heap.size w w') : Srh base q0 g cb N B Q q w' := by
  obtain ⟨A, n, cq, h1, h2⟩ := h.que
  exact ⟨⟨A, n, cq, h1, h2.bel hb⟩, own_bel h.own hb, Nat.le_trans h.le hb.size⟩
theorem grownIn_cell {lo hi : Nat} {w w' : World} (h : GrownIn lo hi w w') {g o : Nat} {v : Value} (hc : w.cell? ⟨g, o, none⟩ = some v) (hg : g < lo ∨ hi ≤ g) : w'.cell? ⟨g, o, none⟩ = some v :=
  (World.cell?_of_block (a := ⟨g, o, none⟩) (h.block g (World.block_lt_of_cell? _ _ hc) hg)).trans hc
theorem fill_get {N i : Nat} (hi : i < N) : (List.replicate i (-1 : Int) ++ List.replicate (N - i) 0)[i]? = some 0 := by
  rw [List.getElem?_append_right (by simp), List.length_replicate, Nat.sub_self, List.getElem?_replicate, if_pos (by omega)]
theorem fill_next {N i : Nat} (hi : i < N) : (List.replicate i (-1 : Int) ++ List.replicate (N - i) 0).set i (-1) = List.replicate (i + 1) (-1) ++ List.replicate (N - (i + 1)) 0 := by
  rw [List.set_append_right _ _ (by simp), List.length_replicate, Nat.sub_self, show N - i = N - (i + 1) + 1 by omega, List.replicate_succ, List.set_cons_zero, List.replicate_succ', List.append_assoc]
  rfl

/-- 'append(queue, v)': v lies in a block of its own that has just been made. -/
theorem wpList_que {P : Program} {w : World} {ops : Array Oper} {rest : List Oper} {o : Oper} {a : Act} {Q : Exit → Act → World → Prop} (hgd : o.guard = none) (s x : Operand) (t : TypeId)
    (ho : o.op = .call { callee := .builtin .append, args := #[s, x], argTypes := #[t, t] })
    (lo : Nat) (e : TypeId) (ht : P.underlying t = some (.slice e)) (hi : (P.info? e).map (fun i => (i.zero, i.size, i.bytes)) = some (some (.int .i64 0), 1, 8))
    (A : Option Addr) (n c : Nat) (xs : List Int) (v : Int) (t2 : TypeId) (hs : a.eval s = .slice A n c) (hq : Que lo w A n c xs)
    (hx : a.eval x = .slice (some ⟨w.heap.size, 0, none⟩) 1 1) (hn : n ≤ 1048576) (hlo : lo ≤ w.heap.size)
    (h : ∀ A' c' w', Que lo w' A' (n + 1) c' (xs ++ [v]) → GrownIn lo w.heap.size w w' → wpList P ops Q rest (a.put o.dst (.slice A' (n + 1) c')) w') :
    wpList P ops Q (o :: rest) a (w.alloc (.cells #[.int .i64 v] t2)) := by
  obtain ⟨i0, hi0, hz0, hz1, hz2⟩ := info_parts hi
  obtain ⟨w1, hw1⟩ : ∃ w1, w.alloc (.cells #[.int .i64 v] t2) = w1 := ⟨_, rfl⟩
  have hb : Below w.heap.size w w1 := by rw [← hw1]; exact bel_alloc (bel_refl w)
  have hsz : w1.heap.size = w.heap.size + 1 := by rw [← hw1]; simp
  have hsrc : Src P i0.size t (.slice (some ⟨w.heap.size, 0, none⟩) 1 1) 1 [.int .i64 v] w1 := by
    rw [← hw1]
    exact Src.ofSlice _ ht _ 1 1 [.int .i64 v] (by rw [hz1]; rfl) (new_cells w [.int .i64 v] t2) (oneCell_int v)
  have hq1 := hq.bel hb
  rw [hw1]
  have hcap := hq1.cap
  have hmax := hq1.max
  have hlen := hq1.len
  have key : ∃ A' c' w', (Builtin.append_ #[t, t] o.type #[.slice A n c, .slice (some ⟨w.heap.size, 0, none⟩) 1 1]).run P w1 = .ok (.slice A' (n + 1) c') w' ∧ Que lo w' A' (n + 1) c' (xs ++ [v]) ∧ GrownIn lo w.heap.size w w' := by
    by_cases hr : n + 1 ≤ c
    · obtain ⟨g, o', rfl, h1, h2, h3, h4⟩ := hq1.at_ (by omega)
      have hg : g < w.heap.size := by
        obtain ⟨g', o'', e', _, hg', _⟩ := hq.at_ (by omega)
        simp only [Option.some.injEq, Addr.mk.injEq, and_true] at e'
        rw [e'.1]; exact hg'
      have hrun := run_append_room_src (P := P) w1 t t o.type e i0 ht hi0 g o' n c _ 1 [.int .i64 v] hsrc hr (fun j hj => by
        obtain rfl : j = 0 := by simpa using hj
        rw [hz1, Nat.mul_one]; exact (h4 n (by omega)).1) (fun j hj => by
        obtain rfl : j = 0 := by simpa using hj
        rw [hz1, Nat.mul_one]; exact (h4 n (by omega)).2)
      have eset : w1.setCells g (o' + n * i0.size) [.int .i64 v] = w1.setCell ⟨g, o' + n, none⟩ (.int .i64 v) := by rw [hz1, Nat.mul_one]; rfl
      rw [eset] at hrun
      have hgr := gro_cell w1 g (o' + n) (.int .i64 v)
      refine ⟨_, _, _, hrun, ⟨by simp [hlen], by omega, hmax, fun _ => ⟨g, o', rfl, h1, by have := hgr.size; omega, fun j y hy => ?_, fun j hj => ⟨?_, ?_⟩⟩⟩, ⟨hgr.os.trans hb.os, hgr.tape.trans hb.tape, hgr.output.trans hb.output, Nat.le_trans hb.size hgr.size, fun k hk hr' => (hgr.block k (by omega) (by simp only [Option.some.injEq, ne_eq]; omega)).trans (hb.block k hk)⟩⟩
      · rw [List.getElem?_append] at hy
        split at hy
        · rename_i hj
          rw [World.cell?_setCell_other (a := ⟨g, o' + n, none⟩) (b := ⟨g, o' + j, none⟩) (h := by simp only [ne_eq, Addr.mk.injEq]; omega)]
          exact h3 j y hy
        · rename_i hj
          have hjn : j = n := by
            have := (List.getElem?_eq_some_iff.1 hy).1
            simp at this; omega
          subst hjn
          rw [hlen, Nat.sub_self] at hy
          simp only [List.getElem?_cons_zero, Option.some.injEq] at hy
          subst hy
          obtain ⟨u, hu⟩ := Option.isSome_iff_exists.1 (h4 j (by omega)).1
          exact World.cell?_setCell_same (v := _) (h := hu)
      · by_cases e1 : j = n
        · subst e1
          obtain ⟨u, hu⟩ := Option.isSome_iff_exists.1 (h4 j hj).1
          rw [World.cell?_setCell_same (h := hu)]; rfl
        · rw [World.cell?_setCell_other (a := ⟨g, o' + n, none⟩) (b := ⟨g, o' + j, none⟩) (h := by simp only [ne_eq, Addr.mk.injEq]; omega)]
          exact (h4 j hj).1
      · rw [World.frozen?_setCell]
        exact (h4 j hj).2
    · have hold : (Builtin.firstCells i0.size n (.slice A n c)).run P w1.drew = .ok (ints xs).toArray w1.drew := by
        rcases A with _ | ad
        · have hc0 : c = 0 := by
            rcases Nat.eq_zero_or_pos c with h0 | h0
            · exact h0
            · obtain ⟨g, o', e', _⟩ := hq1.at_ h0
              cases e'
          have hxs : xs = [] := List.eq_nil_of_length_eq_zero (by omega)
          subst hxs
          exact run_firstCells_none _ _ _ _ _
        · refine run_firstCells_some (P := P) w1.drew i0.size n ad n c (ints xs) (by rw [hz1, ints_len]; omega) fun j u hu => ?_
          have hj : j < xs.length := by
            have := (List.getElem?_eq_some_iff.1 hu).1
            rwa [ints_len] at this
          obtain ⟨g, o', e', h1, h2, h3, h4⟩ := hq1.at_ (by omega)
          simp only [Option.some.injEq] at e'
          subst e'
          rw [Addr.add_lit]
          obtain ⟨y, hy⟩ := get_of_lt hj
          rw [ints_get hy] at hu
          rw [← hu]
          exact h3 j y hy
      have hrun := run_append_grow_src (P := P) w1 t t o.type e i0 (.int .i64 0) ht hi0 hz0 A n c (ints xs) hold _ 1 [.int .i64 v] hsrc (by omega) (by omega) (growslice_fits (by omega) (by rw [hz2]; omega))
      have hge := grownCap_ge w1 (n + 1) c e
      have hcm := grownCap_le_maxLen w1 (n + 1) c e (by simp only [maxLen]; omega)
      have hL : (ints xs ++ [Value.int .i64 v]).length = n + 1 := by rw [List.length_append, ints_len, hlen]; rfl
      have hL2 : (ints xs ++ [Value.int .i64 v]) = ints (xs ++ [v]) := ints_snoc xs v
      obtain ⟨cur, hcur⟩ : ∃ cur, ((ints xs ++ [Value.int .i64 v]).toArray ++ Builtin.zeroCells (Value.int .i64 0).cells (grownCap w1 (n + 1) c e - (n + 1))) = cur := ⟨_, rfl⟩
      rw [hcur] at hrun
      have hcs : cur.size = grownCap w1 (n + 1) c e := by
        rw [← hcur, Array.size_append, List.size_toArray, hL, size_zeroCells]
        have : (Value.int .i64 0).cells.size = 1 := rfl
        rw [this]; omega
      have ecell : ∀ j, (w1.drew.alloc (.cells cur e)).cell? ⟨w1.heap.size, 0 + j, none⟩ = cur[j]? := fun j => by
        rw [Nat.zero_add, cell_of_row _ w1.heap.size j cur e (0, 0) (heap_alloc_new w1.drew _)]
      have hb2 : Below w1.heap.size w1 (w1.drew.alloc (.cells cur e)) := bel_alloc (bel_drew (bel_refl w1))
      have hs2 := hb2.size
      refine ⟨_, _, _, hrun, ⟨by simp [hlen], hge, hcm, fun _ => ⟨w1.heap.size, 0, rfl, by omega, by simp, fun j y hy => ?_, fun j hj => ⟨?_, ?_⟩⟩⟩, ⟨hb2.os.trans hb.os, hb2.tape.trans hb.tape, hb2.output.trans hb.output, by omega, fun k hk _ => (hb2.block k (by omega)).trans (hb.block k hk)⟩⟩
      · rw [ecell, ← hcur, Array.getElem?_append_left (by
          have := (List.getElem?_eq_some_iff.1 hy).1
          rw [List.size_toArray, hL]
          simp [hlen] at this; omega), List.getElem?_toArray, hL2]
        exact ints_get hy
      · rw [ecell, Array.getElem?_eq_getElem (by rw [hcs]; exact hj)]
        rfl
      · exact World.frozen?_alloc_new w1.drew _ _ _
  obtain ⟨A', c', w', hr, h2, h3⟩ := key
  refine wpList_plain hgd fun K hK => ?_
  unfold Oper.wp execOp
  simp only [ho, resolve, invoke, builtin, Sem.run_bind, Sem.run_pure, Result.andThen_ok, List.map_toArray, List.map_cons, List.map_nil, hs, hx, hr]
  exact hK _ _ (h A' c' w' h2 h3)
end Go.Proofs.Ytcdgkiiokplidaa
