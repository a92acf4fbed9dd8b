/-
  A region that draws its order, walked by a plan: free operations are taken first, in an order of our own; where several may come, each is walked.
-/
import Derived.Test.YtcdgkiiokplidaaBase
import Derived.OrdersHeld
import Derived.Deep.RegionHeld3
namespace Go.Proofs.Ytcdgkiiokplidaa
open Go.RowKit

/-- The order in which a region's operations are walked. -/
inductive Plan where
  | stop
  | free (k : Nat) (p : Plan)
  | here (k : Nat) (p : Plan)
  | one (k : Nat) (p : Plan)
  | two (k1 : Nat) (p1 : Plan) (k2 : Nat) (p2 : Plan)
inductive PlanO where
  | stop
  | free (o : Oper) (p : PlanO)
  | here (o : Oper) (p : PlanO)
  | one (o : Oper) (p : PlanO)
  | two (o1 : Oper) (p1 : PlanO) (o2 : Oper) (p2 : PlanO)
def noOpP : Oper := { dst := none, op := Op.move (Operand.tmp 0), type := 0, pos := "", after := #[], guard := none }
def Plan.ops (l : List Oper) : Plan → PlanO
  | .stop => .stop
  | .free k p => .free ((l[k]?).getD noOpP) (p.ops l)
  | .here k p => .here ((l[k]?).getD noOpP) (p.ops l)
  | .one k p => .one ((l[k]?).getD noOpP) (p.ops l)
  | .two k1 p1 k2 p2 => .two ((l[k1]?).getD noOpP) (p1.ops l) ((l[k2]?).getD noOpP) (p2.ops l)
/-- The operations that change the world, or that what is known of the world waits for. -/
def Plan.bound : Plan → List Nat
  | .stop => []
  | .free _ p => p.bound
  | .here _ p => p.bound
  | .one k p => k :: p.bound
  | .two k1 p1 k2 p2 => k1 :: k2 :: (p1.bound ++ p2.bound)

section
variable {P : Program} {ops : Array Oper} {Q : Exit → Act → World → Prop} {md : Region.Mode} {S : World → Prop} {N : List Nat}
/-- Whatever order is picked, S holds behind each operation, and those outside N leave the world as it is. -/
def wpAnyP (P : Program) (md : Region.Mode) (ops : Array Oper) (Q : Exit → Act → World → Prop) (S : World → Prop) (N : List Nat) : Nat → Array Bool → Act → World → Prop
  | 0, listed, a, w => Region.ready md ops listed = [] ∧ Q .normal a w
  | fuel + 1, listed, a, w =>
    (Region.ready md ops listed = [] → Q .normal a w) ∧
    ∀ i ∈ Region.ready md ops listed, wpOp P ops Q i (fun a' w' => S w' ∧ (i ∉ N → w' = w) ∧ wpAnyP P md ops Q S N fuel (listed.setIfInBounds i true) a' w') a w
theorem wpAny_of_P : ∀ (fuel : Nat) (listed : Array Bool) (a : Act) (w : World), wpAnyP P md ops Q S N fuel listed a w → wpAny P md ops Q fuel listed a w
  | 0, _, _, _, h => h
  | fuel + 1, _, _, _, h => ⟨h.1, fun i hi => wpOp_mono (fun a' w' h' => wpAny_of_P fuel _ a' w' h'.2.2) (h.2 i hi)⟩
/-- The operation j waits for i at once. -/
def waitsP (md : Region.Mode) (ops : Array Oper) (j i : Nat) : Bool :=
  match ops[j]? with
  | some oj => oj.after.any fun e => Region.binds md e && e.on == i
  | none => true
theorem waitsP_not_ready {listed : Array Bool} {i j : Nat} (h : waitsP md ops j i = true) (hi : listed.getD i true = false) : j ∉ Region.ready md ops listed := fun hj => by
  obtain ⟨_, oj, hoj, hall⟩ := mem_ready.1 hj
  unfold waitsP at h
  rw [hoj] at h
  obtain ⟨e, he, hb⟩ := Array.any_eq_true'.1 h
  simp only [Bool.and_eq_true, beq_iff_eq] at hb
  have h1 := hall e he hb.1
  rw [hb.2] at h1
  rcases Nat.lt_or_ge i listed.size with h' | h'
  · simp [h'] at hi h1; rw [hi] at h1; cases h1
  · simp [Array.getElem?_eq_none h'] at h1
theorem wpAnyP_first {i : Nat} {oi : Oper} {v : Value} (hi : ops[i]? = some oi) (hsel : ∀ (j : Nat) (o : Oper) cs b, ops[j]? = some o → o.op ≠ .select cs b)
    (hQ : ∀ c a w, Q (.panic c) (a.put oi.dst v) w → Q (.panic c) a w) :
    ∀ (fuel : Nat) (listed : Array Bool) (a : Act) (w : World) (T : World → Prop),
      (∀ j oj, ops[j]? = some oj → j ≠ i → listed.getD j true = false → (∀ e ∈ oj.after, Region.binds md e = true → e.on ≠ i) → oi.apart ops oj = true) →
      i ∈ Region.ready md ops listed → YieldsIf P ops T oi v a → S w → T w → ((∀ w', S w' → T w') ∨ ((∀ w', w' = w → T w') ∧ ∀ j ∈ N, waitsP md ops j i = true)) →
      wpAnyP P md ops Q S N fuel (listed.setIfInBounds i true) (a.put oi.dst v) w → wpAnyP P md ops Q S N (fuel + 1) listed a w := by
  intro fuel
  induction fuel with
  | zero =>
    intro listed a w T _ hr hy hS hT _ H
    refine ⟨fun h => (by rw [h] at hr; cases hr), fun j hj => ?_⟩
    by_cases hji : j = i
    · subst hji; exact hy.wpOp hi hT ⟨hS, fun _ => rfl, H⟩
    · have := ready_mono hj hji
      rw [H.1] at this
      cases this
  | succ fuel ih =>
    intro listed a w T hfree hr hy hS hT hC H
    have hun := (mem_ready.1 hr).1
    refine ⟨fun h => (by rw [h] at hr; cases hr), fun j hj => ?_⟩
    by_cases hji : j = i
    · subst hji; exact hy.wpOp hi hT ⟨hS, fun _ => rfl, H⟩
    · have h1 := H.2 j (ready_mono hj hji)
      obtain ⟨hjun, oj, hoj, hall⟩ := mem_ready.1 hj
      have hnot : ∀ e ∈ oj.after, Region.binds md e = true → e.on ≠ i := fun e he hb heq => by
        have h1 := hall e he hb
        rw [heq] at h1
        rcases Nat.lt_or_ge i listed.size with h' | h'
        · simp [h'] at hun h1; rw [hun] at h1; cases h1
        · simp [Array.getElem?_eq_none h'] at h1
      have h2 := wpOp_putIf hoj (hfree j oj hoj hji hjun hnot) (fun cs b => hsel i oi cs b hi) (fun cs b => hsel j oj cs b hoj) hQ hy h1
      have hfree' : ∀ k ok, ops[k]? = some ok → k ≠ i → (listed.setIfInBounds j true).getD k true = false →
          (∀ e ∈ ok.after, Region.binds md e = true → e.on ≠ i) → oi.apart ops ok = true := fun k ok hk hki hun hno => by
        refine hfree k ok hk hki ?_ hno
        by_cases hjk : j = k
        · subst hjk; exact hjun
        · rw [getD_set_ne true hjk] at hun; exact hun
      refine wpOp_mono (fun a' w' h3 => ?_) h2
      obtain ⟨hy', hS', hN', H'⟩ := h3
      have hstep : T w' ∧ ((∀ u, S u → T u) ∨ ((∀ u, u = w' → T u) ∧ ∀ j ∈ N, waitsP md ops j i = true)) := by
        rcases hC with hC | ⟨hC1, hC2⟩
        · exact ⟨hC w' hS', Or.inl hC⟩
        · have hjN : j ∉ N := fun hjN => waitsP_not_ready (hC2 j hjN) hun hj
          have e := hN' hjN
          exact ⟨hC1 w' e, Or.inr ⟨fun u hu => hC1 u (hu.trans e), hC2⟩⟩
      refine ⟨hS', hN', ih (listed.setIfInBounds j true) a' w' T hfree' (ready_mono hr (Ne.symm hji)) hy' hS' hstep.1 hstep.2 ?_⟩
      rw [Array.setIfInBounds_comm _ _ hji]
      exact H'



/-- A bound operation, and what comes behind it. -/
def wpBound (P : Program) (ops : Array Oper) (S : World → Prop) (o : Oper) (K : Act → World → Prop) (a : Act) (w : World) : Prop :=
  (Region.wanted o (yielded ops a.tmps) = true ∧ ((∃ v w', (execOp a.eval o).run P w = .ok (.value v) w' ∧ S w' ∧ K (a.put o.dst v) w') ∨
    (∃ w', (execOp a.eval o).run P w = .ok .skip w' ∧ S w' ∧ K (a.put o.dst undef) w') ∨
    (∃ f args, (execOp a.eval o).run P w = .ok (.enter f args) w ∧ Calls P f args w (fun e w' => ∃ v, e = .returned v ∧ S w' ∧ K (a.put o.dst v) w')))) ∨
  (Region.wanted o (yielded ops a.tmps) = false ∧ K (a.put o.dst undef) w)
def wpPlan (P : Program) (ops : Array Oper) (Q : Exit → Act → World → Prop) (S : World → Prop) : PlanO → Act → World → Prop
  | .stop, a, w => Q .normal a w
  | .free o p, a, w => ∃ v, YieldsIf P ops S o v a ∧ wpPlan P ops Q S p (a.put o.dst v) w
  | .here o p, a, w => ∃ v, YieldsIf P ops (fun w' => w' = w) o v a ∧ wpPlan P ops Q S p (a.put o.dst v) w
  | .one o p, a, w => wpBound P ops S o (wpPlan P ops Q S p) a w
  | .two o1 p1 o2 p2, a, w => wpBound P ops S o1 (wpPlan P ops Q S p1) a w ∧ wpBound P ops S o2 (wpPlan P ops Q S p2) a w
def planB (md : Region.Mode) (ops : Array Oper) (N : List Nat) : Plan → Nat → Array Bool → Bool
  | .stop, g, listed => (g == 0) && (Region.ready md ops listed).isEmpty
  | .free k p, g + 1, listed => (Region.ready md ops listed).contains k && Region.free md ops listed k && planB md ops N p g (listed.setIfInBounds k true)
  | .here k p, g + 1, listed => (Region.ready md ops listed).contains k && Region.free md ops listed k && (N.all fun j => waitsP md ops j k) && planB md ops N p g (listed.setIfInBounds k true)
  | .one k p, g + 1, listed => decide (k ∈ N) && decide (Region.ready md ops listed = [k]) && planB md ops N p g (listed.setIfInBounds k true)
  | .two k1 p1 k2 p2, g + 1, listed => decide (k1 ∈ N) && decide (k2 ∈ N) && decide (Region.ready md ops listed = [k1, k2]) && planB md ops N p1 g (listed.setIfInBounds k1 true) && planB md ops N p2 g (listed.setIfInBounds k2 true)
  | _, 0, _ => false
theorem wpOp_of_bound {i : Nat} {o : Oper} {a : Act} {w : World} {K K' : Act → World → Prop} (hk : ops[i]? = some o) (hS : S w) (hK : ∀ a' w', S w' → K a' w' → K' a' w') (h : wpBound P ops S o K a w) : wpOp P ops Q i K' a w := by
  unfold wpOp
  simp only [hk]
  rcases h with ⟨hw, h⟩ | ⟨hw, h⟩
  · rw [if_pos hw]
    refine Or.inl ?_
    unfold Oper.wp
    rcases h with ⟨v, w', hr, hS, h⟩ | ⟨w', hr, hS, h⟩ | ⟨f, args, hr, hc⟩
    · rw [hr]
      exact hK _ _ hS h
    · rw [hr]
      exact hK _ _ hS h
    · rw [hr]
      simp only [Oper.upon]
      refine hc.mono fun e w' ⟨v, he, hS, h⟩ => ?_
      subst he
      exact hK _ _ hS h
  · rw [if_neg (by rw [hw]; simp)]
    exact hK _ _ hS h
theorem wpAnyP_of_plan {l : List Oper} (hsel : Region.noSelect l.toArray = true) (hQ : ∀ c a b w, Q (.panic c) a w → Q (.panic c) b w) :
    ∀ (p : Plan) (g : Nat) (listed : Array Bool) (a : Act) (w : World), planB md l.toArray N p g listed = true → S w → wpPlan P l.toArray Q S (p.ops l) a w → wpAnyP P md l.toArray Q S N g listed a w
  | .stop, g, listed, a, w, hB, hS, h => by
    simp only [planB, Bool.and_eq_true, beq_iff_eq] at hB
    obtain ⟨rfl, hB⟩ := hB
    exact ⟨by simpa using hB, h⟩
  | .free k p, 0, listed, a, w, hB, hS, h => by simp [planB] at hB
  | .here k p, 0, listed, a, w, hB, hS, h => by simp [planB] at hB
  | .one k p, 0, listed, a, w, hB, hS, h => by simp [planB] at hB
  | .two k1 p1 k2 p2, 0, listed, a, w, hB, hS, h => by simp [planB] at hB
  | .free k p, g + 1, listed, a, w, hB, hS, h => by
    simp only [planB, Bool.and_eq_true] at hB
    obtain ⟨⟨hr, hf⟩, hB⟩ := hB
    have hm : k ∈ Region.ready md l.toArray listed := by simpa using hr
    obtain ⟨_, o, hk, _⟩ := mem_ready.1 hm
    have hg : (l[k]?).getD noOpP = o := by simp only [List.getElem?_toArray] at hk; rw [hk]; rfl
    simp only [Plan.ops, wpPlan, hg] at h
    obtain ⟨v, hy, h⟩ := h
    exact wpAnyP_first hk (Region.noSelect_spec hsel) (fun c a w => hQ c _ _ w) _ listed a w S (Region.free_spec hk hf) hm hy hS hS (Or.inl fun _ h => h)
      (wpAnyP_of_plan hsel hQ p g _ _ w hB hS h)
  | .here k p, g + 1, listed, a, w, hB, hS, h => by
    simp only [planB, Bool.and_eq_true] at hB
    obtain ⟨⟨⟨hr, hf⟩, hN⟩, hB⟩ := hB
    have hm : k ∈ Region.ready md l.toArray listed := by simpa using hr
    obtain ⟨_, o, hk, _⟩ := mem_ready.1 hm
    have hg : (l[k]?).getD noOpP = o := by simp only [List.getElem?_toArray] at hk; rw [hk]; rfl
    simp only [Plan.ops, wpPlan, hg] at h
    obtain ⟨v, hy, h⟩ := h
    exact wpAnyP_first hk (Region.noSelect_spec hsel) (fun c a w => hQ c _ _ w) _ listed a w (fun w' => w' = w) (Region.free_spec hk hf) hm hy hS rfl (Or.inr ⟨fun _ h => h, fun j hj => List.all_eq_true.1 hN j hj⟩)
      (wpAnyP_of_plan hsel hQ p g _ _ w hB hS h)
  | .one k p, g + 1, listed, a, w, hB, hS, h => by
    simp only [planB, Bool.and_eq_true, decide_eq_true_eq] at hB
    obtain ⟨⟨hN, hr⟩, hB⟩ := hB
    have hm : k ∈ Region.ready md l.toArray listed := by rw [hr]; simp
    obtain ⟨_, o, hk, _⟩ := mem_ready.1 hm
    have hg : (l[k]?).getD noOpP = o := by simp only [List.getElem?_toArray] at hk; rw [hk]; rfl
    simp only [Plan.ops, wpPlan, hg] at h
    refine ⟨fun h1 => (by rw [hr] at h1; cases h1), fun i hi => ?_⟩
    rw [hr, List.mem_singleton] at hi
    subst hi
    exact wpOp_of_bound hk hS (fun a' w' hS' h' => ⟨hS', fun h1 => absurd hN h1, wpAnyP_of_plan hsel hQ p g _ a' w' hB hS' h'⟩) h
  | .two k1 p1 k2 p2, g + 1, listed, a, w, hB, hS, h => by
    simp only [planB, Bool.and_eq_true, decide_eq_true_eq] at hB
    obtain ⟨⟨⟨⟨hN1, hN2⟩, hr⟩, hB1⟩, hB2⟩ := hB
    have hm1 : k1 ∈ Region.ready md l.toArray listed := by rw [hr]; simp
    have hm2 : k2 ∈ Region.ready md l.toArray listed := by rw [hr]; simp
    obtain ⟨_, o1, hk1, _⟩ := mem_ready.1 hm1
    obtain ⟨_, o2, hk2, _⟩ := mem_ready.1 hm2
    have hg1 : (l[k1]?).getD noOpP = o1 := by simp only [List.getElem?_toArray] at hk1; rw [hk1]; rfl
    have hg2 : (l[k2]?).getD noOpP = o2 := by simp only [List.getElem?_toArray] at hk2; rw [hk2]; rfl
    simp only [Plan.ops, wpPlan, hg1, hg2] at h
    refine ⟨fun h1 => (by rw [hr] at h1; cases h1), fun i hi => ?_⟩
    rw [hr] at hi
    simp only [List.mem_cons, List.not_mem_nil, or_false] at hi
    rcases hi with rfl | rfl
    · exact wpOp_of_bound hk1 hS (fun a' w' hS' h' => ⟨hS', fun h1 => absurd hN1 h1, wpAnyP_of_plan hsel hQ p1 g _ a' w' hB1 hS' h'⟩) h.1
    · exact wpOp_of_bound hk2 hS (fun a' w' hS' h' => ⟨hS', fun h1 => absurd hN2 h1, wpAnyP_of_plan hsel hQ p2 g _ a' w' hB2 hS' h'⟩) h.2
def planOk (l : List Oper) (p : Plan) : Bool :=
  Region.noSelect l.toArray && planB .any l.toArray p.bound p l.toArray.size (Array.replicate l.toArray.size false)
theorem wp_region_plan {id : Nat} {a : Act} {w : World} {l : List Oper} (S : World → Prop) (p : Plan) (hm : P.follows .mixedOrders = true) (hB : planOk l p = true) (hS : S w.drew)
    (h : wpPlan P l.toArray (NoPanic Q) S (p.ops l) a w.drew) : (Code.region id l.toArray true).wp P Q a w := by
  simp only [planOk, Bool.and_eq_true] at hB
  exact wp_region_noPanic (wp_region_any hm (wpAny_of_P (S := S) (N := p.bound) _ _ _ _ (wpAnyP_of_plan hB.1 (fun c a b w h => by simp [NoPanic] at h) p _ _ a _ hB.2 hS h)))
/-- The class: worlds that agree with 'w' below its heap. -/
theorem wp_region_planB {id : Nat} {a : Act} {w : World} {l : List Oper} (p : Plan) (hm : P.follows .mixedOrders = true) (hB : planOk l p = true)
    (h : wpPlan P l.toArray (NoPanic Q) (fun w' => ∃ d : Bel w.heap.size w, w' = d.val) (p.ops l) a w.drew) : (Code.region id l.toArray true).wp P Q a w :=
  wp_region_plan _ p hm hB ⟨⟨w.drew, bel_drew (bel_refl w)⟩, rfl⟩ h
theorem p_free {p : PlanO} {a : Act} {o : Oper} {v : Value} {w : World} (hw : Region.wanted o (yielded ops a.tmps) = true) (hv : ∀ w, S w → (execOp a.eval o).run P w = .ok (.value v) w) (h : wpPlan P ops Q S p (a.put o.dst v) w) : wpPlan P ops Q S (.free o p) a w :=
  ⟨v, Or.inl ⟨hw, hv⟩, h⟩
theorem p_free_skip {p : PlanO} {a : Act} {o : Oper} {w : World} (hw : Region.wanted o (yielded ops a.tmps) = false) (h : wpPlan P ops Q S p (a.put o.dst undef) w) : wpPlan P ops Q S (.free o p) a w :=
  ⟨undef, Or.inr ⟨hw, rfl⟩, h⟩
theorem p_here {p : PlanO} {a : Act} {o : Oper} {v : Value} {w : World} (hw : Region.wanted o (yielded ops a.tmps) = true) (hv : (execOp a.eval o).run P w = .ok (.value v) w) (h : wpPlan P ops Q S p (a.put o.dst v) w) : wpPlan P ops Q S (.here o p) a w :=
  ⟨v, Or.inl ⟨hw, fun w' hw' => by subst hw'; exact hv⟩, h⟩
theorem p_here_skip {p : PlanO} {a : Act} {o : Oper} {w : World} (hw : Region.wanted o (yielded ops a.tmps) = false) (h : wpPlan P ops Q S p (a.put o.dst undef) w) : wpPlan P ops Q S (.here o p) a w :=
  ⟨undef, Or.inr ⟨hw, rfl⟩, h⟩
theorem p_val {p : PlanO} {a : Act} {o : Oper} {v : Value} {w w' : World} (hw : Region.wanted o (yielded ops a.tmps) = true) (hv : (execOp a.eval o).run P w = .ok (.value v) w') (hS : S w') (h : wpPlan P ops Q S p (a.put o.dst v) w') : wpPlan P ops Q S (.one o p) a w :=
  Or.inl ⟨hw, Or.inl ⟨v, w', hv, hS, h⟩⟩
theorem p_store {p : PlanO} {a : Act} {o : Oper} {w w' : World} (hw : Region.wanted o (yielded ops a.tmps) = true) (hv : (execOp a.eval o).run P w = .ok .skip w') (hS : S w') (h : wpPlan P ops Q S p (a.put o.dst undef) w') : wpPlan P ops Q S (.one o p) a w :=
  Or.inl ⟨hw, Or.inr (Or.inl ⟨w', hv, hS, h⟩)⟩
theorem p_call {p : PlanO} {a : Act} {o : Oper} {w : World} {f : FuncId} {args : Array Value} (hw : Region.wanted o (yielded ops a.tmps) = true) (hv : (execOp a.eval o).run P w = .ok (.enter f args) w)
    (h : Calls P f args w (fun e w' => ∃ v, e = .returned v ∧ S w' ∧ wpPlan P ops Q S p (a.put o.dst v) w')) : wpPlan P ops Q S (.one o p) a w :=
  Or.inl ⟨hw, Or.inr (Or.inr ⟨f, args, hv, h⟩)⟩
theorem p_skip {p : PlanO} {a : Act} {o : Oper} {w : World} (hw : Region.wanted o (yielded ops a.tmps) = false) (h : wpPlan P ops Q S p (a.put o.dst undef) w) : wpPlan P ops Q S (.one o p) a w :=
  Or.inr ⟨hw, h⟩
theorem p_two {p1 p2 : PlanO} {a : Act} {o1 o2 : Oper} {w : World} (h1 : wpPlan P ops Q S (.one o1 p1) a w) (h2 : wpPlan P ops Q S (.one o2 p2) a w) : wpPlan P ops Q S (.two o1 p1 o2 p2) a w := ⟨h1, h2⟩
theorem p_stop {a : Act} {w : World} (h : Q .normal a w) : wpPlan P ops (NoPanic Q) S .stop a w := NoPanic.normal h
end
end Go.Proofs.Ytcdgkiiokplidaa
