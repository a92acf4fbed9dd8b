/-
  Flows, plainly: how many units go through a net is told by any state that no unit can be added to.
-/
import Derived.Test.YtcdgkiiokplidaaBase
namespace Go.Proofs.Ytcdgkiiokplidaa

def sumN (N : Nat) (f : Nat → Int) : Int := ((List.range N).map f).sum
theorem sumN_zero (f : Nat → Int) : sumN 0 f = 0 := rfl
theorem sumN_succ (N : Nat) (f : Nat → Int) : sumN (N + 1) f = sumN N f + f N := by simp [sumN, List.range_succ]
theorem sumN_congr {N : Nat} {f g : Nat → Int} (h : ∀ i, i < N → f i = g i) : sumN N f = sumN N g := by
  induction N with
  | zero => rfl
  | succ N ih => rw [sumN_succ, sumN_succ, ih fun i hi => h i (by omega), h N (by omega)]
theorem sumN_add (N : Nat) (f g : Nat → Int) : sumN N (fun i => f i + g i) = sumN N f + sumN N g := by
  induction N with
  | zero => rfl
  | succ N ih => rw [sumN_succ, sumN_succ, sumN_succ, ih]; omega
theorem sumN_neg (N : Nat) (f : Nat → Int) : sumN N (fun i => -f i) = -sumN N f := by
  induction N with
  | zero => rfl
  | succ N ih => rw [sumN_succ, sumN_succ, ih]; omega
theorem sumN_le {N : Nat} {f g : Nat → Int} (h : ∀ i, i < N → f i ≤ g i) : sumN N f ≤ sumN N g := by
  induction N with
  | zero => exact Int.le_refl _
  | succ N ih =>
    rw [sumN_succ, sumN_succ]
    have h1 := ih fun i hi => h i (by omega)
    have h2 := h N (by omega)
    omega
theorem sumN_nil (N : Nat) : sumN N (fun _ => 0) = 0 := by
  induction N with
  | zero => rfl
  | succ N ih => rw [sumN_succ, ih]; rfl
theorem sumN_comm (M N : Nat) (f : Nat → Nat → Int) : sumN M (fun u => sumN N (f u)) = sumN N (fun v => sumN M (fun u => f u v)) := by
  induction M with
  | zero => rw [sumN_zero]; exact (sumN_nil N).symm
  | succ M ih =>
    rw [sumN_succ, ih, ← sumN_add]
    exact sumN_congr fun i _ => (sumN_succ M _).symm
theorem sumN_one {N y : Nat} (hy : y < N) (f : Nat → Int) (d : Int) : sumN N (fun v => f v + if v = y then d else 0) = sumN N f + d := by
  induction N with
  | zero => omega
  | succ N ih =>
    rw [sumN_succ, sumN_succ]
    by_cases h : y = N
    · subst h
      rw [if_pos rfl, sumN_congr (g := f) fun i hi => by rw [if_neg (by omega)]; omega]
      omega
    · rw [ih (by omega), if_neg (by omega)]
      omega
/-- What leaves a set. -/
def outX (N : Nat) (X : Nat → Bool) (f : Nat → Nat → Int) : Int := sumN N fun u => sumN N fun v => if X u = true ∧ X v = false then f u v else 0
theorem outX_le {N : Nat} {X : Nat → Bool} {f g : Nat → Nat → Int} (h : ∀ u v, u < N → v < N → X u = true → X v = false → f u v ≤ g u v) : outX N X f ≤ outX N X g :=
  sumN_le fun u hu => sumN_le fun v hv => by
    split
    · rename_i hc
      exact h u v hu hv hc.1 hc.2
    · exact Int.le_refl _
/-- A state of a net: what may still go, after k units have gone. -/
structure FlowSt (N s t : Nat) (C R : Nat → Nat → Int) (k : Int) : Prop where
  nn : ∀ u v, u < N → v < N → 0 ≤ R u v
  sym : ∀ u v, u < N → v < N → R u v + R v u = C u v + C v u
  net : ∀ u, u < N → u ≠ t → sumN N (fun v => C u v - R u v) = if u = s then k else 0
/-- Whatever set holds the source and not the sink, k units leave it. -/
theorem FlowSt.out {N s t : Nat} {C R : Nat → Nat → Int} {k : Int} (h : FlowSt N s t C R k) (X : Nat → Bool) (hs : s < N) (hXs : X s = true) (hXt : X t = false) : k = outX N X fun u v => C u v - R u v := by
  have h1 : sumN N (fun u => if X u = true then sumN N (fun v => C u v - R u v) else 0) = k := by
    have h2 : sumN N (fun u => if X u = true then sumN N (fun v => C u v - R u v) else 0) = sumN N (fun u => 0 + if u = s then k else 0) := sumN_congr fun u hu => by
      by_cases hx : X u = true
      · rw [if_pos hx, h.net u hu (fun e => by rw [e, hXt] at hx; cases hx)]
        omega
      · rw [if_neg hx, if_neg (fun e => hx (by rw [e]; exact hXs))]
        omega
    rw [h2, sumN_one hs (fun _ => 0), sumN_nil]
    omega
  let G : Nat → Nat → Int := fun u v => if X u = true ∧ X v = true then C u v - R u v else 0
  have hG : ∀ u v, u < N → v < N → G u v = -G v u := fun u v hu hv => by
    show (if X u = true ∧ X v = true then C u v - R u v else 0) = -(if X v = true ∧ X u = true then C v u - R v u else 0)
    by_cases hx : X u = true ∧ X v = true
    · rw [if_pos hx, if_pos ⟨hx.2, hx.1⟩]
      have := h.sym u v hu hv
      omega
    · rw [if_neg hx, if_neg (fun e => hx ⟨e.2, e.1⟩)]
      rfl
  have hz : sumN N (fun u => sumN N (G u)) = 0 := by
    have e1 := sumN_comm N N G
    have e2 : sumN N (fun v => sumN N (fun u => G u v)) = sumN N (fun v => -sumN N (G v)) := sumN_congr fun v hv => by
      rw [← sumN_neg]
      exact sumN_congr fun u hu => hG u v hu hv
    rw [e2, sumN_neg] at e1
    omega
  have hsplit : sumN N (fun u => if X u = true then sumN N (fun v => C u v - R u v) else 0) = sumN N (fun u => sumN N (G u)) + outX N X (fun u v => C u v - R u v) := by
    unfold outX
    rw [← sumN_add]
    refine sumN_congr fun u hu => ?_
    rw [← sumN_add]
    by_cases hx : X u = true
    · rw [if_pos hx]
      refine sumN_congr fun v hv => ?_
      show C u v - R u v = (if X u = true ∧ X v = true then C u v - R u v else 0) + (if X u = true ∧ X v = false then C u v - R u v else 0)
      cases hv2 : X v
      · rw [if_neg (by simp), if_pos ⟨hx, rfl⟩]; omega
      · rw [if_pos ⟨hx, rfl⟩, if_neg (by simp)]; omega
    · rw [if_neg hx]
      refine (sumN_nil N).symm.trans (sumN_congr fun v hv => ?_)
      show (0 : Int) = (if X u = true ∧ X v = true then C u v - R u v else 0) + (if X u = true ∧ X v = false then C u v - R u v else 0)
      rw [if_neg (fun e => hx e.1), if_neg (fun e => hx e.1)]
      rfl
  rw [h1, hz] at hsplit
  omega
/-- Nothing more can go: a set that holds what is reached. -/
def Cert (N s t : Nat) (C : Nat → Nat → Int) (k : Int) : Prop :=
  ∃ (R : Nat → Nat → Int) (X : Nat → Bool), FlowSt N s t C R k ∧ X s = true ∧ X t = false ∧ ∀ u v, u < N → v < N → X u = true → X v = false → R u v = 0
theorem Cert.le {N s t : Nat} {C : Nat → Nat → Int} {k k' : Int} (hs : s < N) (h : Cert N s t C k) (h' : Cert N s t C k') : k ≤ k' := by
  obtain ⟨R, _, hR, _⟩ := h
  obtain ⟨R', X', hR', h1, h2, h3⟩ := h'
  have e1 := hR.out X' hs h1 h2
  have e2 := hR'.out X' hs h1 h2
  rw [e1, e2]
  refine outX_le fun u v hu hv hx hy => ?_
  have := hR.nn u v hu hv
  rw [h3 u v hu hv hx hy]
  omega
/-- How many units go is one alone. -/
theorem Cert.same {N s t : Nat} {C : Nat → Nat → Int} {k k' : Int} (hs : s < N) (h : Cert N s t C k) (h' : Cert N s t C k') : k = k' :=
  Int.le_antisymm (h.le hs h') (h'.le hs h)
theorem FlowSt.bound {N s t : Nat} {C R : Nat → Nat → Int} {k : Int} (h : FlowSt N s t C R k) (hs : s < N) (hst : s ≠ t) (hC : ∀ v, v < N → C s v ≤ 1) : k ≤ N := by
  have h1 := h.net s hs hst
  rw [if_pos rfl] at h1
  rw [← h1]
  have h2 : sumN N (fun v => C s v - R s v) ≤ sumN N (fun _ => 1) := sumN_le fun v hv => by
    have := h.nn s v hs hv
    have := hC v hv
    omega
  have h3 : ∀ M : Nat, sumN M (fun _ => 1) = M := fun M => by
    induction M with
    | zero => rfl
    | succ M ih => rw [sumN_succ, ih]; omega
  rw [h3] at h2
  exact h2
theorem FlowSt.start (N s t : Nat) (C : Nat → Nat → Int) (h : ∀ u v, u < N → v < N → 0 ≤ C u v) : FlowSt N s t C C 0 :=
  ⟨h, fun _ _ _ _ => rfl, fun u _ _ => by
    rw [sumN_congr (g := fun _ => 0) (fun v _ => by omega), sumN_nil]
    split <;> rfl⟩
/-! ### One unit more, back along the way that was found -/
/-- One unit less from x to y, one more back. -/
def push1 (R : Nat → Nat → Int) (x y : Nat) : Nat → Nat → Int := fun u v => if u = x ∧ v = y then R u v - 1 else if u = y ∧ v = x then R u v + 1 else R u v
/-- On the way back, at y: one unit stands there. -/
structure Mid (N s t : Nat) (C R : Nat → Nat → Int) (k : Int) (y : Nat) : Prop where
  nn : ∀ u v, u < N → v < N → 0 ≤ R u v
  sym : ∀ u v, u < N → v < N → R u v + R v u = C u v + C v u
  net : ∀ u, u < N → u ≠ t → sumN N (fun v => C u v - R u v) = (if u = s then k else 0) + if u = y then 1 else 0
theorem FlowSt.mid {N s t : Nat} {C R : Nat → Nat → Int} {k : Int} (h : FlowSt N s t C R k) : Mid N s t C R k t :=
  ⟨h.nn, h.sym, fun u hu ht => by rw [h.net u hu ht, if_neg ht]; omega⟩
theorem Mid.done {N s t : Nat} {C R : Nat → Nat → Int} {k : Int} (h : Mid N s t C R k s) : FlowSt N s t C R (k + 1) :=
  ⟨h.nn, h.sym, fun u hu ht => by
    rw [h.net u hu ht]
    split <;> rfl⟩
theorem Mid.step {N s t : Nat} {C R : Nat → Nat → Int} {k : Int} {x y : Nat} (h : Mid N s t C R k y) (hx : x < N) (hy : y < N) (hxy : x ≠ y) (hys : y ≠ s) (hr : 1 ≤ R x y) : Mid N s t C (push1 R x y) k x := by
  refine ⟨fun u v hu hv => ?_, fun u v hu hv => ?_, fun u hu ht => ?_⟩
  · have := h.nn u v hu hv
    unfold push1
    split
    · rename_i e
      obtain ⟨rfl, rfl⟩ := e
      omega
    · split <;> omega
  · have := h.sym u v hu hv
    unfold push1
    by_cases e1 : u = x ∧ v = y
    · obtain ⟨rfl, rfl⟩ := e1
      rw [if_pos ⟨rfl, rfl⟩, if_neg (fun e => hxy e.1.symm), if_pos ⟨rfl, rfl⟩]
      omega
    · by_cases e2 : u = y ∧ v = x
      · obtain ⟨rfl, rfl⟩ := e2
        rw [if_neg e1, if_pos ⟨rfl, rfl⟩, if_pos ⟨rfl, rfl⟩]
        omega
      · rw [if_neg e1, if_neg e2, if_neg (fun e => e2 ⟨e.2, e.1⟩), if_neg (fun e => e1 ⟨e.2, e.1⟩)]
        exact this
  · have h1 := h.net u hu ht
    by_cases e1 : u = x
    · subst e1
      have e2 : sumN N (fun v => C u v - push1 R u y u v) = sumN N (fun v => (C u v - R u v) + if v = y then 1 else 0) := sumN_congr fun v _ => by
        unfold push1
        by_cases e : v = y
        · rw [if_pos ⟨rfl, e⟩, if_pos e]; omega
        · rw [if_neg (fun e' => e e'.2), if_neg (fun e' => hxy e'.1), if_neg e]; omega
      rw [e2, sumN_one hy, h1, if_neg hxy, if_pos rfl]
      omega
    · by_cases e3 : u = y
      · subst e3
        have e2 : sumN N (fun v => C u v - push1 R x u u v) = sumN N (fun v => (C u v - R u v) + if v = x then (-1) else 0) := sumN_congr fun v _ => by
          unfold push1
          by_cases e : v = x
          · rw [if_neg (fun e' => e1 e'.1), if_pos ⟨rfl, e⟩, if_pos e]; omega
          · rw [if_neg (fun e' => e1 e'.1), if_neg (fun e' => e e'.2), if_neg e]; omega
        rw [e2, sumN_one hx, h1, if_neg hys, if_pos rfl, if_neg e1]
        omega
      · have e2 : sumN N (fun v => C u v - push1 R x y u v) = sumN N (fun v => C u v - R u v) := sumN_congr fun v _ => by
          unfold push1
          rw [if_neg (fun e' => e1 e'.1), if_neg (fun e' => e3 e'.1)]
        rw [e2, h1, if_neg e1, if_neg e3]
/-! ### The same net under other numbers -/
theorem perm_sumI {l l' : List Int} (h : l.Perm l') : l.sum = l'.sum := by
  induction h with
  | nil => rfl
  | cons a _ ih => rw [List.sum_cons, List.sum_cons, ih]
  | swap a b l => simp only [List.sum_cons]; omega
  | trans _ _ h1 h2 => exact h1.trans h2
theorem sumN_perm {N : Nat} {p : Nat → Nat} (hp : ((List.range N).map p).Perm (List.range N)) (f : Nat → Int) : sumN N (fun v => f (p v)) = sumN N f := by
  have h := perm_sumI (hp.map f)
  unfold sumN
  rw [← h, List.map_map]
  rfl
theorem Cert.rename {N s t s' t' : Nat} {C C' : Nat → Nat → Int} {k : Int} {p : Nat → Nat} (hp : ((List.range N).map p).Perm (List.range N)) (hlt : ∀ u, u < N → p u < N) (hinj : ∀ u v, u < N → v < N → p u = p v → u = v) (hs : p s' = s) (ht : p t' = t) (hsN : s' < N) (htN : t' < N)
    (hC : ∀ u v, u < N → v < N → C' u v = C (p u) (p v)) (h : Cert N s t C k) : Cert N s' t' C' k := by
  obtain ⟨R, X, hR, h1, h2, h3⟩ := h
  refine ⟨fun u v => R (p u) (p v), fun u => X (p u), ⟨fun u v hu hv => hR.nn _ _ (hlt u hu) (hlt v hv), fun u v hu hv => ?_, fun u hu hut => ?_⟩, by show X (p s') = true; rw [hs]; exact h1, by show X (p t') = false; rw [ht]; exact h2, fun u v hu hv hx hy => h3 _ _ (hlt u hu) (hlt v hv) hx hy⟩
  · rw [hC u v hu hv, hC v u hv hu]
    exact hR.sym _ _ (hlt u hu) (hlt v hv)
  · have e := hR.net (p u) (hlt u hu) (fun e => hut (hinj u t' hu htN (e.trans ht.symm)))
    rw [← sumN_perm hp] at e
    rw [sumN_congr (g := fun v => C (p u) (p v) - R (p u) (p v)) (fun v hv => by rw [hC u v hu hv]), e]
    by_cases h : u = s'
    · rw [if_pos h, if_pos (by rw [h]; exact hs)]
    · rw [if_neg h, if_neg (fun e => h (hinj u s' hu hsN (e.trans hs.symm)))]
end Go.Proofs.Ytcdgkiiokplidaa
