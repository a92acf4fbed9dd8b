/-
  A region that draws its order: operations that yield the same in every world of a class are taken first, in an order of our own; what is left comes in one order and stays in the class.
-/
import Derived.Test.YtlffolfooiijhaaBase
import Derived.OrdersHeld
import Derived.Deep.RegionHeld3
namespace Go.Proofs.Ytlffolfooiijhaa
open Go.RowKit

section
variable {P : Program} {ops : Array Oper} {Q : Exit → Act → World → Prop} {md : Region.Mode} {S : World → Prop} {N : List Nat}
/-- Whatever order is picked, S holds behind each operation, and those outside N leave the world as it is. -/
def wpAnyF (P : Program) (md : Region.Mode) (ops : Array Oper) (Q : Exit → Act → World → Prop) (S : World → Prop) (N : List Nat) : Nat → Array Bool → Act → World → Prop
  | 0, listed, a, w => Region.ready md ops listed = [] ∧ Q .normal a w
  | fuel + 1, listed, a, w =>
    (Region.ready md ops listed = [] → Q .normal a w) ∧
    ∀ i ∈ Region.ready md ops listed, wpOp P ops Q i (fun a' w' => S w' ∧ (i ∉ N → w' = w) ∧ wpAnyF P md ops Q S N fuel (listed.setIfInBounds i true) a' w') a w
theorem wpAny_of_F : ∀ (fuel : Nat) (listed : Array Bool) (a : Act) (w : World), wpAnyF P md ops Q S N fuel listed a w → wpAny P md ops Q fuel listed a w
  | 0, _, _, _, h => h
  | fuel + 1, _, _, _, h => ⟨h.1, fun i hi => wpOp_mono (fun a' w' h' => wpAny_of_F fuel _ a' w' h'.2.2) (h.2 i hi)⟩
/-- The operation j waits for i at once. -/
def waitsF (md : Region.Mode) (ops : Array Oper) (j i : Nat) : Bool :=
  match ops[j]? with
  | some oj => oj.after.any fun e => Region.binds md e && e.on == i
  | none => true
theorem waitsF_not_ready {listed : Array Bool} {i j : Nat} (h : waitsF md ops j i = true) (hi : listed.getD i true = false) : j ∉ Region.ready md ops listed := fun hj => by
  obtain ⟨_, oj, hoj, hall⟩ := mem_ready.1 hj
  unfold waitsF at h
  rw [hoj] at h
  obtain ⟨e, he, hb⟩ := Array.any_eq_true'.1 h
  simp only [Bool.and_eq_true, beq_iff_eq] at hb
  have h1 := hall e he hb.1
  rw [hb.2] at h1
  rcases Nat.lt_or_ge i listed.size with h' | h'
  · simp [h'] at hi h1; rw [hi] at h1; cases h1
  · simp [Array.getElem?_eq_none h'] at h1
theorem wpAnyF_first {i : Nat} {oi : Oper} {v : Value} (hi : ops[i]? = some oi) (hsel : ∀ (j : Nat) (o : Oper) cs b, ops[j]? = some o → o.op ≠ .select cs b)
    (hQ : ∀ c a w, Q (.panic c) (a.put oi.dst v) w → Q (.panic c) a w) :
    ∀ (fuel : Nat) (listed : Array Bool) (a : Act) (w : World) (T : World → Prop),
      (∀ j oj, ops[j]? = some oj → j ≠ i → listed.getD j true = false → (∀ e ∈ oj.after, Region.binds md e = true → e.on ≠ i) → oi.apart ops oj = true) →
      i ∈ Region.ready md ops listed → YieldsIf P ops T oi v a → S w → T w → ((∀ w', S w' → T w') ∨ ((∀ w', w' = w → T w') ∧ ∀ j ∈ N, waitsF md ops j i = true)) →
      wpAnyF P md ops Q S N fuel (listed.setIfInBounds i true) (a.put oi.dst v) w → wpAnyF P md ops Q S N (fuel + 1) listed a w := by
  intro fuel
  induction fuel with
  | zero =>
    intro listed a w T _ hr hy hS hT _ H
    refine ⟨fun h => (by rw [h] at hr; cases hr), fun j hj => ?_⟩
    by_cases hji : j = i
    · subst hji; exact hy.wpOp hi hT ⟨hS, fun _ => rfl, H⟩
    · have := ready_mono hj hji
      rw [H.1] at this
      cases this
  | succ fuel ih =>
    intro listed a w T hfree hr hy hS hT hC H
    have hun := (mem_ready.1 hr).1
    refine ⟨fun h => (by rw [h] at hr; cases hr), fun j hj => ?_⟩
    by_cases hji : j = i
    · subst hji; exact hy.wpOp hi hT ⟨hS, fun _ => rfl, H⟩
    · have h1 := H.2 j (ready_mono hj hji)
      obtain ⟨hjun, oj, hoj, hall⟩ := mem_ready.1 hj
      have hnot : ∀ e ∈ oj.after, Region.binds md e = true → e.on ≠ i := fun e he hb heq => by
        have h1 := hall e he hb
        rw [heq] at h1
        rcases Nat.lt_or_ge i listed.size with h' | h'
        · simp [h'] at hun h1; rw [hun] at h1; cases h1
        · simp [Array.getElem?_eq_none h'] at h1
      have h2 := wpOp_putIf hoj (hfree j oj hoj hji hjun hnot) (fun cs b => hsel i oi cs b hi) (fun cs b => hsel j oj cs b hoj) hQ hy h1
      have hfree' : ∀ k ok, ops[k]? = some ok → k ≠ i → (listed.setIfInBounds j true).getD k true = false →
          (∀ e ∈ ok.after, Region.binds md e = true → e.on ≠ i) → oi.apart ops ok = true := fun k ok hk hki hun hno => by
        refine hfree k ok hk hki ?_ hno
        by_cases hjk : j = k
        · subst hjk; exact hjun
        · rw [getD_set_ne true hjk] at hun; exact hun
      refine wpOp_mono (fun a' w' h3 => ?_) h2
      obtain ⟨hy', hS', hN', H'⟩ := h3
      have hstep : T w' ∧ ((∀ u, S u → T u) ∨ ((∀ u, u = w' → T u) ∧ ∀ j ∈ N, waitsF md ops j i = true)) := by
        rcases hC with hC | ⟨hC1, hC2⟩
        · exact ⟨hC w' hS', Or.inl hC⟩
        · have hjN : j ∉ N := fun hjN => waitsF_not_ready (hC2 j hjN) hun hj
          have e := hN' hjN
          exact ⟨hC1 w' e, Or.inr ⟨fun u hu => hC1 u (hu.trans e), hC2⟩⟩
      refine ⟨hS', hN', ih (listed.setIfInBounds j true) a' w' T hfree' (ready_mono hr (Ne.symm hji)) hy' hS' hstep.1 hstep.2 ?_⟩
      rw [Array.setIfInBounds_comm _ _ hji]
      exact H'


/-- The walk in an order of our own: a free operation (false) yields one value in every world of the class; a bound one (true) is the only one that may come, and leaves a world of the class. -/
def wpGo (P : Program) (ops : Array Oper) (Q : Exit → Act → World → Prop) (S : World → Prop) : List (Bool × Oper) → Act → World → Prop
  | [], a, w => Q .normal a w
  | (false, o) :: l, a, w => ∃ v, YieldsIf P ops S o v a ∧ wpGo P ops Q S l (a.put o.dst v) w
  | (true, o) :: l, a, w =>
    (Region.wanted o (yielded ops a.tmps) = true ∧ ((∃ v w', (execOp a.eval o).run P w = .ok (.value v) w' ∧ S w' ∧ wpGo P ops Q S l (a.put o.dst v) w') ∨
      (∃ w', (execOp a.eval o).run P w = .ok .skip w' ∧ S w' ∧ wpGo P ops Q S l (a.put o.dst undef) w') ∨
      (∃ f args, (execOp a.eval o).run P w = .ok (.enter f args) w ∧ Calls P f args w (fun e w' => ∃ v, e = .returned v ∧ S w' ∧ wpGo P ops Q S l (a.put o.dst v) w')))) ∨
    (Region.wanted o (yielded ops a.tmps) = false ∧ wpGo P ops Q S l (a.put o.dst undef) w)
def goB (md : Region.Mode) (ops : Array Oper) : List (Bool × Nat) → Array Bool → Bool
  | [], listed => (Region.ready md ops listed).isEmpty
  | (b, k) :: ks, listed => (if b then decide (Region.ready md ops listed = [k]) else (Region.ready md ops listed).contains k && Region.free md ops listed k) && goB md ops ks (listed.setIfInBounds k true)
theorem wpAnyF_of_go (hsel : Region.noSelect ops = true) (hQ : ∀ c a b w, Q (.panic c) a w → Q (.panic c) b w) :
    ∀ (ks : List (Bool × Nat)) (os : List (Bool × Oper)) (listed : Array Bool) (a : Act) (w : World), ks.map (fun k => ops[k.2]?.map fun o => (k.1, o)) = os.map some → (∀ k ∈ ks, k.1 = true → k.2 ∈ N) → goB md ops ks listed = true → S w →
      wpGo P ops Q S os a w → wpAnyF P md ops Q S N ks.length listed a w
  | [], os, listed, a, w, ho, _, hB, _, h => by
    obtain rfl : os = [] := by simpa using ho.symm
    exact ⟨by simpa [goB] using hB, h⟩
  | (b, k) :: ks, os, listed, a, w, ho, hN, hB, hS, h => by
    rcases os with _ | ⟨⟨b', o⟩, os⟩
    · simp at ho
    simp only [List.map_cons, List.cons.injEq] at ho
    obtain ⟨ho1, ho⟩ := ho
    rcases hk : ops[k]? with _ | o1
    · rw [hk] at ho1; simp at ho1
    rw [hk] at ho1
    simp only [Option.map_some, Option.some.injEq, Prod.mk.injEq] at ho1
    obtain ⟨rfl, rfl⟩ := ho1
    have hNs : ∀ u ∈ ks, u.1 = true → u.2 ∈ N := fun u hu => hN u (by simp [hu])
    simp only [goB, Bool.and_eq_true] at hB
    show wpAnyF P md ops Q S N (ks.length + 1) listed a w
    rcases b with _ | _
    · obtain ⟨v, hy, h⟩ := h
      simp only [Bool.false_eq_true, if_false, Bool.and_eq_true] at hB
      exact wpAnyF_first hk (Region.noSelect_spec hsel) (fun c a w => hQ c _ _ w) _ listed a w S (Region.free_spec hk hB.1.2) (by simpa using hB.1.1) hy hS hS (Or.inl fun _ h => h)
        (wpAnyF_of_go hsel hQ ks os _ _ w ho hNs hB.2 hS h)
    · simp only [if_true, decide_eq_true_eq] at hB
      have hNt : k ∈ N := hN (true, k) (by simp) rfl
      refine ⟨fun h1 => (by rw [hB.1] at h1; cases h1), fun i hi => ?_⟩
      rw [hB.1, List.mem_singleton] at hi
      subst hi
      have next : ∀ a' w', S w' → wpGo P ops Q S os a' w' → S w' ∧ (i ∉ N → w' = w) ∧ wpAnyF P md ops Q S N ks.length (listed.setIfInBounds i true) a' w' :=
        fun a' w' hS h' => ⟨hS, fun h1 => absurd hNt h1, wpAnyF_of_go hsel hQ ks os _ a' w' ho hNs hB.2 hS h'⟩
      unfold wpOp
      simp only [hk]
      rcases h with ⟨hw, h⟩ | ⟨hw, h⟩
      · rw [if_pos hw]
        refine Or.inl ?_
        unfold Oper.wp
        rcases h with ⟨v, w', hr, hS, h⟩ | ⟨w', hr, hS, h⟩ | ⟨f, args, hr, hc⟩
        · rw [hr]
          exact next _ _ hS h
        · rw [hr]
          exact next _ _ hS h
        · rw [hr]
          simp only [Oper.upon]
          refine hc.mono fun e w' ⟨v, he, hS, h⟩ => ?_
          subst he
          exact next _ _ hS h
      · rw [if_neg (by rw [hw]; simp)]
        exact ⟨hS, fun _ => trivial, (next _ _ hS h).2.2⟩
def noOpF : Oper := { dst := none, op := Op.move (Operand.tmp 0), type := 0, pos := "", after := #[], guard := none }
def opsAtF (l : List Oper) (ks : List (Bool × Nat)) : List (Bool × Oper) := ks.map fun k => (k.1, (l[k.2]?).getD noOpF)
theorem opsAtF_some {l : List Oper} : ∀ {ks : List (Bool × Nat)}, (ks.all fun k => decide (k.2 < l.length)) = true → ks.map (fun k => l.toArray[k.2]?.map fun o => (k.1, o)) = (opsAtF l ks).map some
  | [], _ => rfl
  | (b, k) :: ks, h => by
    simp only [List.all_cons, Bool.and_eq_true, decide_eq_true_eq] at h
    have h1 : l.toArray[k]? = some ((l[k]?).getD noOpF) := by
      rw [List.getElem?_toArray, List.getElem?_eq_getElem h.1]
      rfl
    simp only [List.map_cons, opsAtF, h1, Option.map_some]
    congr 1
    exact opsAtF_some h.2
def freeB (l : List Oper) (ks : List (Bool × Nat)) : Bool :=
  Region.noSelect l.toArray && (ks.all fun t => decide (t.2 < l.length)) && (ks.length == l.toArray.size) && goB .any l.toArray ks (Array.replicate l.toArray.size false)
theorem wp_region_free {id : Nat} {a : Act} {w : World} {l : List Oper} (S : World → Prop) (ks : List (Bool × Nat)) (hm : P.follows .mixedOrders = true) (hB : freeB l ks = true) (hS : S w.drew)
    (h : wpGo P l.toArray (NoPanic Q) S (opsAtF l ks) a w.drew) : (Code.region id l.toArray true).wp P Q a w := by
  simp only [freeB, Bool.and_eq_true] at hB
  obtain ⟨⟨⟨hs, hh⟩, hn⟩, hB⟩ := hB
  refine wp_region_noPanic (wp_region_any hm (wpAny_of_F (S := S) (N := ks.map (·.2)) _ _ _ _ ?_))
  rw [← eq_of_beq hn]
  exact wpAnyF_of_go hs (fun c a b w h => by simp [NoPanic] at h) ks _ _ a _ (opsAtF_some hh) (fun k hk _ => List.mem_map_of_mem hk) (by rw [eq_of_beq hn]; exact hB) hS h
/-- The class: worlds that agree with 'w' below its heap. -/
theorem wp_region_freeB {id : Nat} {a : Act} {w : World} {l : List Oper} (ks : List (Bool × Nat)) (hm : P.follows .mixedOrders = true) (hB : freeB l ks = true)
    (h : wpGo P l.toArray (NoPanic Q) (fun w' => ∃ d : Bel w.heap.size w, w' = d.val) (opsAtF l ks) a w.drew) : (Code.region id l.toArray true).wp P Q a w :=
  wp_region_free _ ks hm hB ⟨⟨w.drew, bel_drew (bel_refl w)⟩, rfl⟩ h
theorem head_step {l : List (Bool × Oper)} {a : Act} {o : Oper} {v : Value} {w : World} (hw : Region.wanted o (yielded ops a.tmps) = true) (hv : ∀ w, S w → (execOp a.eval o).run P w = .ok (.value v) w) (h : wpGo P ops Q S l (a.put o.dst v) w) : wpGo P ops Q S ((false, o) :: l) a w :=
  ⟨v, Or.inl ⟨hw, hv⟩, h⟩
theorem head_skip {l : List (Bool × Oper)} {a : Act} {o : Oper} {w : World} (hw : Region.wanted o (yielded ops a.tmps) = false) (h : wpGo P ops Q S l (a.put o.dst undef) w) : wpGo P ops Q S ((false, o) :: l) a w :=
  ⟨undef, Or.inr ⟨hw, rfl⟩, h⟩
theorem tail_step {l : List (Bool × Oper)} {a : Act} {o : Oper} {v : Value} {w w' : World} (hw : Region.wanted o (yielded ops a.tmps) = true) (hv : (execOp a.eval o).run P w = .ok (.value v) w') (hS : S w') (h : wpGo P ops Q S l (a.put o.dst v) w') : wpGo P ops Q S ((true, o) :: l) a w :=
  Or.inl ⟨hw, Or.inl ⟨v, w', hv, hS, h⟩⟩
theorem tail_store {l : List (Bool × Oper)} {a : Act} {o : Oper} {w w' : World} (hw : Region.wanted o (yielded ops a.tmps) = true) (hv : (execOp a.eval o).run P w = .ok .skip w') (hS : S w') (h : wpGo P ops Q S l (a.put o.dst undef) w') : wpGo P ops Q S ((true, o) :: l) a w :=
  Or.inl ⟨hw, Or.inr (Or.inl ⟨w', hv, hS, h⟩)⟩
theorem tail_call {l : List (Bool × Oper)} {a : Act} {o : Oper} {w : World} {f : FuncId} {args : Array Value} (hw : Region.wanted o (yielded ops a.tmps) = true) (hv : (execOp a.eval o).run P w = .ok (.enter f args) w)
    (h : Calls P f args w (fun e w' => ∃ v, e = .returned v ∧ S w' ∧ wpGo P ops Q S l (a.put o.dst v) w')) : wpGo P ops Q S ((true, o) :: l) a w :=
  Or.inl ⟨hw, Or.inr (Or.inr ⟨f, args, hv, h⟩)⟩
theorem tail_skip {l : List (Bool × Oper)} {a : Act} {o : Oper} {w : World} (hw : Region.wanted o (yielded ops a.tmps) = false) (h : wpGo P ops Q S l (a.put o.dst undef) w) : wpGo P ops Q S ((true, o) :: l) a w :=
  Or.inr ⟨hw, h⟩
theorem go_end {a : Act} {w : World} (h : Q .normal a w) : wpGo P ops (NoPanic Q) S [] a w := NoPanic.normal h
end
end Go.Proofs.Ytlffolfooiijhaa
