/-
  A region that draws its order and stores: the operations that only read are taken in the text's order, those that may come behind a store are shown to yield the same there; the stores come in one order.
-/
import Derived.Test.YtkkoccllmflhfaaGreatDoorBase
import Derived.OrdersHeld
import Derived.Deep.RegionHeld3
namespace Go.Proofs.YtkkoccllmflhfaaGreatDoor
open Go.RowKit

section
variable {P : Program} {ops : Array Oper} {Q : Exit → Act → World → Prop} {md : Region.Mode} {S : World → Prop} {N : List Nat}
/-- Whatever order is picked, S holds behind each operation, and those outside N leave the world as it is. -/
def wpAnyN (P : Program) (md : Region.Mode) (ops : Array Oper) (Q : Exit → Act → World → Prop) (S : World → Prop) (N : List Nat) : Nat → Array Bool → Act → World → Prop
  | 0, listed, a, w => Region.ready md ops listed = [] ∧ Q .normal a w
  | fuel + 1, listed, a, w =>
    (Region.ready md ops listed = [] → Q .normal a w) ∧
    ∀ i ∈ Region.ready md ops listed, wpOp P ops Q i (fun a' w' => S w' ∧ (i ∉ N → w' = w) ∧ wpAnyN P md ops Q S N fuel (listed.setIfInBounds i true) a' w') a w
theorem wpAny_of_N : ∀ (fuel : Nat) (listed : Array Bool) (a : Act) (w : World), wpAnyN P md ops Q S N fuel listed a w → wpAny P md ops Q fuel listed a w
  | 0, _, _, _, h => h
  | fuel + 1, _, _, _, h => ⟨h.1, fun i hi => wpOp_mono (fun a' w' h' => wpAny_of_N fuel _ a' w' h'.2.2) (h.2 i hi)⟩
/-- The operation j waits for i at once. -/
def waitsB (md : Region.Mode) (ops : Array Oper) (j i : Nat) : Bool :=
  match ops[j]? with
  | some oj => oj.after.any fun e => Region.binds md e && e.on == i
  | none => true
theorem waits_not_ready {listed : Array Bool} {i j : Nat} (h : waitsB md ops j i = true) (hi : listed.getD i true = false) : j ∉ Region.ready md ops listed := fun hj => by
  obtain ⟨_, oj, hoj, hall⟩ := mem_ready.1 hj
  unfold waitsB at h
  rw [hoj] at h
  obtain ⟨e, he, hb⟩ := Array.any_eq_true'.1 h
  simp only [Bool.and_eq_true, beq_iff_eq] at hb
  have h1 := hall e he hb.1
  rw [hb.2] at h1
  rcases Nat.lt_or_ge i listed.size with h' | h'
  · simp [h'] at hi h1; rw [hi] at h1; cases h1
  · simp [Array.getElem?_eq_none h'] at h1
theorem wpAnyN_first {i : Nat} {oi : Oper} {v : Value} (hi : ops[i]? = some oi) (hsel : ∀ (j : Nat) (o : Oper) cs b, ops[j]? = some o → o.op ≠ .select cs b)
    (hQ : ∀ c a w, Q (.panic c) (a.put oi.dst v) w → Q (.panic c) a w) :
    ∀ (fuel : Nat) (listed : Array Bool) (a : Act) (w : World) (T : World → Prop),
      (∀ j oj, ops[j]? = some oj → j ≠ i → listed.getD j true = false → (∀ e ∈ oj.after, Region.binds md e = true → e.on ≠ i) → oi.apart ops oj = true) →
      i ∈ Region.ready md ops listed → YieldsIf P ops T oi v a → S w → T w → ((∀ w', S w' → T w') ∨ ((∀ w', w' = w → T w') ∧ ∀ j ∈ N, waitsB md ops j i = true)) →
      wpAnyN P md ops Q S N fuel (listed.setIfInBounds i true) (a.put oi.dst v) w → wpAnyN P md ops Q S N (fuel + 1) listed a w := by
  intro fuel
  induction fuel with
  | zero =>
    intro listed a w T _ hr hy hS hT _ H
    refine ⟨fun h => (by rw [h] at hr; cases hr), fun j hj => ?_⟩
    by_cases hji : j = i
    · subst hji; exact hy.wpOp hi hT ⟨hS, fun _ => rfl, H⟩
    · have := ready_mono hj hji
      rw [H.1] at this
      cases this
  | succ fuel ih =>
    intro listed a w T hfree hr hy hS hT hC H
    have hun := (mem_ready.1 hr).1
    refine ⟨fun h => (by rw [h] at hr; cases hr), fun j hj => ?_⟩
    by_cases hji : j = i
    · subst hji; exact hy.wpOp hi hT ⟨hS, fun _ => rfl, H⟩
    · have h1 := H.2 j (ready_mono hj hji)
      obtain ⟨hjun, oj, hoj, hall⟩ := mem_ready.1 hj
      have hnot : ∀ e ∈ oj.after, Region.binds md e = true → e.on ≠ i := fun e he hb heq => by
        have h1 := hall e he hb
        rw [heq] at h1
        rcases Nat.lt_or_ge i listed.size with h' | h'
        · simp [h'] at hun h1; rw [hun] at h1; cases h1
        · simp [Array.getElem?_eq_none h'] at h1
      have h2 := wpOp_putIf hoj (hfree j oj hoj hji hjun hnot) (fun cs b => hsel i oi cs b hi) (fun cs b => hsel j oj cs b hoj) hQ hy h1
      have hfree' : ∀ k ok, ops[k]? = some ok → k ≠ i → (listed.setIfInBounds j true).getD k true = false →
          (∀ e ∈ ok.after, Region.binds md e = true → e.on ≠ i) → oi.apart ops ok = true := fun k ok hk hki hun hno => by
        refine hfree k ok hk hki ?_ hno
        by_cases hjk : j = k
        · subst hjk; exact hjun
        · rw [getD_set_ne true hjk] at hun; exact hun
      refine wpOp_mono (fun a' w' h3 => ?_) h2
      obtain ⟨hy', hS', hN', H'⟩ := h3
      have hstep : T w' ∧ ((∀ u, S u → T u) ∨ ((∀ u, u = w' → T u) ∧ ∀ j ∈ N, waitsB md ops j i = true)) := by
        rcases hC with hC | ⟨hC1, hC2⟩
        · exact ⟨hC w' hS', Or.inl hC⟩
        · have hjN : j ∉ N := fun hjN => waits_not_ready (hC2 j hjN) hun hj
          have e := hN' hjN
          exact ⟨hC1 w' e, Or.inr ⟨fun u hu => hC1 u (hu.trans e), hC2⟩⟩
      refine ⟨hS', hN', ih (listed.setIfInBounds j true) a' w' T hfree' (ready_mono hr (Ne.symm hji)) hy' hS' hstep.1 hstep.2 ?_⟩
      rw [Array.setIfInBounds_comm _ _ hji]
      exact H'

/-- The walk in the text's order: an operation outside N yields one value, in every world that meets S, or (where all of N wait for it) in the world at hand; one of N makes a world that meets S. -/
def wpLate (P : Program) (md : Region.Mode) (ops : Array Oper) (Q : Exit → Act → World → Prop) (S : World → Prop) (N : List Nat) : List Oper → Nat → Act → World → Prop
  | [], _, a, w => Q .normal a w
  | o :: l, k, a, w =>
    (k ∉ N ∧ ∃ v, YieldsIf P ops (fun w' => if (N.all fun j => waitsB md ops j k) = true then w' = w else S w') o v a ∧ wpLate P md ops Q S N l (k + 1) (a.put o.dst v) w) ∨
    (k ∈ N ∧ ∃ w', Region.wanted o (yielded ops a.tmps) = true ∧ (execOp a.eval o).run P w = .ok .skip w' ∧ S w' ∧ wpLate P md ops Q S N l (k + 1) (a.put o.dst undef) w')
def lateB (md : Region.Mode) (ops : Array Oper) (N : List Nat) : Nat → Nat → Array Bool → Bool
  | 0, _, listed => (Region.ready md ops listed).isEmpty
  | g + 1, k, listed => (Region.ready md ops listed).contains k && Region.free md ops listed k && (!(decide (k ∈ N)) || decide (Region.ready md ops listed = [k])) && lateB md ops N g (k + 1) (listed.setIfInBounds k true)
theorem wpAnyN_late (hsel : Region.noSelect ops = true) (hQ : ∀ c a b w, Q (.panic c) a w → Q (.panic c) b w) :
    ∀ (l : List Oper) (k : Nat) (listed : Array Bool) (a : Act) (w : World), (∀ j, l[j]? = ops[k + j]?) → lateB md ops N l.length k listed = true → S w →
      wpLate P md ops Q S N l k a w → wpAnyN P md ops Q S N l.length listed a w
  | [], k, listed, a, w, _, hB, _, h => ⟨by simpa [lateB] using hB, h⟩
  | o :: l, k, listed, a, w, hl, hB, hS, h => by
    have h0 : ops[k]? = some o := by simpa using (hl 0).symm
    have hl' : ∀ j, l[j]? = ops[k + 1 + j]? := fun j => by have := hl (j + 1); simpa [Nat.add_assoc, Nat.add_comm 1 j] using this
    simp only [List.length_cons, lateB, Bool.and_eq_true] at hB
    obtain ⟨⟨⟨hr, hf⟩, hN⟩, hB'⟩ := hB
    rcases h with ⟨hk, v, hy, h⟩ | ⟨hk, w', hw, hrun, hS', h⟩
    · have ih := wpAnyN_late hsel hQ l (k + 1) _ _ _ hl' hB' hS h
      refine wpAnyN_first h0 (Region.noSelect_spec hsel) (fun c a w => hQ c _ _ w) l.length listed a w _ (Region.free_spec h0 hf) (by simpa using hr) hy hS ?_ ?_ ih
      · by_cases hs : (N.all fun j => waitsB md ops j k) = true
        · rw [if_pos hs]
        · rw [if_neg hs]; exact hS
      · by_cases hs : (N.all fun j => waitsB md ops j k) = true
        · refine Or.inr ⟨fun w' e => by rw [if_pos hs]; exact e, fun j hj => List.all_eq_true.1 hs j hj⟩
        · exact Or.inl fun w' h1 => by rw [if_neg hs]; exact h1
    · have ih := wpAnyN_late hsel hQ l (k + 1) _ _ _ hl' hB' hS' h
      simp only [hk, decide_true, Bool.not_true, Bool.false_or, decide_eq_true_eq] at hN
      show wpAnyN P md ops Q S N (l.length + 1) listed a w
      refine ⟨fun h1 => (by rw [hN] at h1; cases h1), fun i hi => ?_⟩
      rw [hN, List.mem_singleton] at hi
      subst hi
      unfold wpOp
      simp only [h0, hw, if_true]
      refine Or.inl ?_
      unfold Oper.wp
      rw [hrun]
      exact ⟨hS', fun h1 => absurd hk h1, ih⟩
theorem wp_region_late {id : Nat} {a : Act} {w : World} {l : List Oper} (S : World → Prop) (N : List Nat) (hm : P.follows .mixedOrders = true) (hs : Region.noSelect l.toArray = true)
    (hB : lateB .any l.toArray N l.length 0 (Array.replicate l.toArray.size false) = true) (hS : S w.drew)
    (h : wpLate P .any l.toArray (NoPanic Q) S N l 0 a w.drew) : (Code.region id l.toArray true).wp P Q a w := by
  refine wp_region_noPanic (wp_region_any hm (wpAny_of_N (S := S) (N := N) _ _ _ _ ?_))
  have := wpAnyN_late (md := .any) (ops := l.toArray) hs (fun c a b w h => by simp [NoPanic] at h) l 0 (Array.replicate l.toArray.size false) a w.drew (fun j => by simp) hB hS h
  simpa using this
theorem late_step {o : Oper} {l : List Oper} {k : Nat} {a : Act} {w : World} {v : Value} (hk : (decide (k ∈ N)) = false) (hw : Region.wanted o (yielded ops a.tmps) = true) (hS : S w)
    (hv : ∀ w', S w' → (execOp a.eval o).run P w' = .ok (.value v) w') (h : wpLate P md ops Q S N l (k + 1) (a.put o.dst v) w) : wpLate P md ops Q S N (o :: l) k a w :=
  Or.inl ⟨of_decide_eq_false hk, v, Or.inl ⟨hw, fun w' hw' => by
    by_cases hs : (N.all fun j => waitsB md ops j k) = true
    · simp only [hs, if_true] at hw'
      rw [hw']
      exact hv w hS
    · simp only [hs] at hw'
      exact hv w' hw'⟩, h⟩
theorem late_here {o : Oper} {l : List Oper} {k : Nat} {a : Act} {w : World} {v : Value} (hk : (decide (k ∈ N)) = false) (hw : Region.wanted o (yielded ops a.tmps) = true) (hs : (N.all fun j => waitsB md ops j k) = true)
    (hv : (execOp a.eval o).run P w = .ok (.value v) w) (h : wpLate P md ops Q S N l (k + 1) (a.put o.dst v) w) : wpLate P md ops Q S N (o :: l) k a w :=
  Or.inl ⟨of_decide_eq_false hk, v, Or.inl ⟨hw, fun w' hw' => by simp only [hs, if_true] at hw'; rw [hw']; exact hv⟩, h⟩
theorem late_store {o : Oper} {l : List Oper} {k : Nat} {a : Act} {w w' : World} (hk : (decide (k ∈ N)) = true) (hw : Region.wanted o (yielded ops a.tmps) = true)
    (hv : (execOp a.eval o).run P w = .ok .skip w') (hS : S w') (h : wpLate P md ops Q S N l (k + 1) (a.put o.dst undef) w') : wpLate P md ops Q S N (o :: l) k a w :=
  Or.inr ⟨of_decide_eq_true hk, w', hw, hv, hS, h⟩
theorem late_nil {k : Nat} {a : Act} {w : World} (h : Q .normal a w) : wpLate P md ops (NoPanic Q) S N [] k a w := NoPanic.normal h
end
end Go.Proofs.YtkkoccllmflhfaaGreatDoor
