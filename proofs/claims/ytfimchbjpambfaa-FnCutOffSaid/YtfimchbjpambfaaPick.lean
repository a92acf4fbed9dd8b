/-
  A region that draws its order: operations that yield the same in whatever world are taken in an order of our own; what is left comes in one order.
-/
import Derived.Test.YtfimchbjpambfaaMem
import Derived.OrdersHeld
import Derived.Deep.RegionHeld3
namespace Go.Proofs.Ytfimchbjpambfaa
open Go.RowKit

section
variable {P : Program} {ops : Array Oper} {Q : Exit → Act → World → Prop} {md : Region.Mode}
def wpPick (P : Program) (ops : Array Oper) (K : Act → Prop) : List Nat → Act → Prop
  | [], a => K a
  | k :: ks, a => ∃ o, ops[k]? = some o ∧ ∃ v, Yields P ops o v a ∧ wpPick P ops K ks (a.put o.dst v)
def seqLB (md : Region.Mode) (ops : Array Oper) : List Nat → Array Bool → Bool
  | [], listed => (Region.ready md ops listed).isEmpty
  | t :: ts, listed => decide (Region.ready md ops listed = [t]) && seqLB md ops ts (listed.setIfInBounds t true)
def pickB (md : Region.Mode) (ops : Array Oper) (tl : List Nat) : List Nat → Array Bool → Bool
  | [], listed => seqLB md ops tl listed
  | k :: ks, listed => (Region.ready md ops listed).contains k && Region.free md ops listed k && pickB md ops tl ks (listed.setIfInBounds k true)
theorem wpAny_of_seqL : ∀ (tl : List Nat) (os : List Oper) (listed : Array Bool) (a : Act) (w : World), tl.map (ops[·]?) = os.map some → seqLB md ops tl listed = true → wpList P ops Q os a w → wpAny P md ops Q tl.length listed a w
  | [], os, listed, a, w, ho, hB, h => by
    obtain rfl : os = [] := by simpa using ho.symm
    exact ⟨by simpa [seqLB] using hB, h⟩
  | t :: ts, os, listed, a, w, ho, hB, h => by
    rcases os with _ | ⟨o, os⟩
    · simp at ho
    · simp only [List.map_cons, List.cons.injEq] at ho
      simp only [seqLB, Bool.and_eq_true, decide_eq_true_eq] at hB
      refine ⟨fun h1 => (by rw [hB.1] at h1; cases h1), fun i hi => ?_⟩
      rw [hB.1, List.mem_singleton] at hi
      subst hi
      have hw : wpOp P ops Q i (wpList P ops Q os) a w := by unfold wpOp; simp only [ho.1]; exact h
      exact wpOp_mono (fun a' w' h' => wpAny_of_seqL ts os _ a' w' ho.2 hB.2 h') hw
theorem wpAny_of_pick (hsel : Region.noSelect ops = true) (hQ : ∀ c a b w, Q (.panic c) a w → Q (.panic c) b w) {tl : List Nat} {os : List Oper} (ho : tl.map (ops[·]?) = os.map some) {w : World} :
    ∀ (hd : List Nat) (listed : Array Bool) (a : Act), pickB md ops tl hd listed = true → wpPick P ops (fun a' => wpList P ops Q os a' w) hd a → wpAny P md ops Q (hd.length + tl.length) listed a w
  | [], listed, a, hB, h => by
    rw [List.length_nil, Nat.zero_add]
    exact wpAny_of_seqL tl os listed a w ho hB h
  | k :: ks, listed, a, hB, h => by
    simp only [pickB, Bool.and_eq_true] at hB
    obtain ⟨o, hk, v, hy, h⟩ := h
    rw [List.length_cons, show ks.length + 1 + tl.length = (ks.length + tl.length) + 1 by omega]
    exact wpAny_take hk hsel hB.1.2 hB.1.1 (fun c a w => hQ c _ _ w) hy (wpAny_of_pick hsel hQ ho ks _ _ hB.2 h)
def noOper : Oper := { dst := none, op := Op.move (Operand.tmp 0), type := 0, pos := "", after := #[], guard := none }
def opsAt (l : List Oper) (tl : List Nat) : List Oper := tl.map fun t => (l[t]?).getD noOper
theorem opsAt_some {l : List Oper} : ∀ {tl : List Nat}, (tl.all fun t => decide (t < l.length)) = true → tl.map (l.toArray[·]?) = (opsAt l tl).map some
  | [], _ => rfl
  | t :: ts, h => by
    simp only [List.all_cons, Bool.and_eq_true, decide_eq_true_eq] at h
    have h1 : l.toArray[t]? = some ((l[t]?).getD noOper) := by
      rw [List.getElem?_toArray, List.getElem?_eq_getElem h.1]
      rfl
    simp only [List.map_cons, opsAt, h1]
    congr 1
    exact opsAt_some h.2
def wpPickL (P : Program) (ops : Array Oper) (K : Act → Prop) : List Oper → Act → Prop
  | [], a => K a
  | o :: os, a => ∃ v, Yields P ops o v a ∧ wpPickL P ops K os (a.put o.dst v)
theorem pick_of_L {l : List Oper} {K : Act → Prop} : ∀ {hd : List Nat} {a : Act}, (hd.all fun t => decide (t < l.length)) = true → wpPickL P l.toArray K (opsAt l hd) a → wpPick P l.toArray K hd a
  | [], _, _, h => h
  | t :: ts, a, hb, h => by
    simp only [List.all_cons, Bool.and_eq_true, decide_eq_true_eq] at hb
    have h1 : l.toArray[t]? = some ((l[t]?).getD noOper) := by
      rw [List.getElem?_toArray, List.getElem?_eq_getElem hb.1]
      rfl
    obtain ⟨v, hy, h⟩ := h
    exact ⟨_, h1, v, hy, pick_of_L hb.2 h⟩
theorem wp_region_pick {id : Nat} {a : Act} {w : World} {l : List Oper} (hd tl : List Nat) (hm : P.follows .mixedOrders = true) (hs : Region.noSelect l.toArray = true) (hh : (hd.all fun t => decide (t < l.length)) = true) (ho : (tl.all fun t => decide (t < l.length)) = true) (hn : (hd.length + tl.length == l.toArray.size) = true)
    (hB : pickB .any l.toArray tl hd (Array.replicate l.toArray.size false) = true)
    (h : wpPickL P l.toArray (fun a' => wpList P l.toArray (NoPanic Q) (opsAt l tl) a' w.drew) (opsAt l hd) a) : (Code.region id l.toArray true).wp P Q a w := by
  refine wp_region_noPanic (wp_region_any hm ?_)
  rw [← eq_of_beq hn]
  exact wpAny_of_pick hs (fun c a b w h => by simp [NoPanic] at h) (opsAt_some ho) hd _ a (by rw [eq_of_beq hn]; exact hB) (pick_of_L hh h)
theorem pick_step {K : Act → Prop} {os : List Oper} {a : Act} {o : Oper} {v : Value} (hw : Region.wanted o (yielded ops a.tmps) = true) (hv : ∀ w, (execOp a.eval o).run P w = .ok (.value v) w) (h : wpPickL P ops K os (a.put o.dst v)) : wpPickL P ops K (o :: os) a :=
  ⟨v, Or.inl ⟨hw, hv⟩, h⟩
/-- 'append(s, x..)': x lies in old memory. -/
theorem wpList_more {w : World} {rest : List Oper} {o : Oper} {a : Act} (hgd : o.guard = none) (s x : Operand) (t : TypeId)
    (ho : o.op = .call { callee := .builtin .append, args := #[s, x], argTypes := #[t, t] })
    (base : Nat) (e : TypeId) (z : Value) (size bytes : Nat) (ht : P.underlying t = some (.slice e)) (hi : (P.info? e).map (fun i => (i.zero, i.size, i.bytes)) = some (some z, size, bytes)) (hzs : z.cells.size = size) (hsz : 0 < size)
    (A : Option Addr) (n c : Nat) (L : List Value) (hs : a.eval s = .slice A n c) (hown : w.ownsRow base e size (.slice A n c) n L)
    (ad : Addr) (m c2 : Nat) (news : List Value) (hx : a.eval x = .slice (some ad) m c2) (hl : news.length = m * size) (hc : ∀ j u, news[j]? = some u → w.cell? (ad.add j) = some u) (h1 : ∀ u ∈ news, u.oneCell' = true)
    (hn : n + m ≤ 1073741824) (hby : bytes ≤ 1024) (hbase : base ≤ w.heap.size)
    (h : ∀ A' c' w', w'.ownsRow base e size (.slice A' (n + m) c') (n + m) (L ++ news) → Below base w w' → w.grownBy w' (Value.slice A n c).ownBlock → wpList P ops Q rest (a.put o.dst (.slice A' (n + m) c')) w') :
    wpList P ops Q (o :: rest) a w := by
  obtain ⟨i0, hi0, hz0, hz1, hz2⟩ := info_parts hi
  have hnb : (n + m) * bytes ≤ 140737488355328 := Nat.le_trans (Nat.mul_le_mul (show n + m ≤ 1073741824 by omega) hby) (by omega)
  refine wpList_append_own _ hgd s x t ho base e i0 z size bytes ht hi0 hz0 hz1 hz2 hzs hsz _ n L hs hown ad m c2 news hx hl hc h1 (by simp only [maxLen]; omega) hnb hbase ?_
  intro v' w' hown' hg' _
  obtain ⟨A', c', rfl⟩ := own_slice hown'
  refine h A' c' w' hown' ⟨hg'.os, hg'.tape, hg'.output, hg'.size, fun k hk => hg'.block k (by omega) fun e1 => ?_⟩ hg'
  have := (hown.lt k e1.symm).1
  omega
end
end Go.Proofs.Ytfimchbjpambfaa
