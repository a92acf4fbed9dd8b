/-
  Relaxing: as many passes over all legs as there are places reach what no pass changes any more.
-/
import Derived.Test.YtfimchbjpambfaaBase
namespace Go.Proofs.Ytfimchbjpambfaa
open Go.RowKit

structure Leg where
  src : Nat
  dst : Nat
  f : Nat → Nat
/-- A leg is sound: later in, later out; it takes time; what is not reached reaches nothing. -/
structure Leg.Ok (B P : Nat) (l : Leg) : Prop where
  hs : l.src < P
  hd : l.dst < P
  mono : ∀ t t', t ≤ t' → l.f t ≤ l.f t'
  more : ∀ t, t < B → t < l.f t
  big : B ≤ l.f B
def legStep (s : Nat → Nat) (l : Leg) : Nat → Nat := fun v => if v = l.dst then min (s v) (l.f (s l.src)) else s v
def legPass (ls : List Leg) (s : Nat → Nat) : Nat → Nat := ls.foldl legStep s
def legRun (ls : List Leg) : Nat → (Nat → Nat) → (Nat → Nat)
  | 0, s => s
  | k + 1, s => legPass ls (legRun ls k s)
theorem legStep_le (s : Nat → Nat) (l : Leg) (v : Nat) : legStep s l v ≤ s v := by
  unfold legStep; split <;> omega
theorem legPass_le : ∀ (ls : List Leg) (s : Nat → Nat) (v : Nat), legPass ls s v ≤ s v
  | [], _, _ => Nat.le_refl _
  | l :: ls, s, v => Nat.le_trans (legPass_le ls (legStep s l) v) (legStep_le s l v)
theorem legRun_le (ls : List Leg) (s : Nat → Nat) (v : Nat) : ∀ {k j : Nat}, k ≤ j → legRun ls j s v ≤ legRun ls k s v := by
  intro k j h
  induction j with
  | zero => rw [show k = 0 by omega]; exact Nat.le_refl _
  | succ j ih =>
    rcases Nat.lt_or_ge k (j + 1) with h1 | h1
    · exact Nat.le_trans (legPass_le _ _ _) (ih (by omega))
    · rw [show k = j + 1 by omega]; exact Nat.le_refl _
theorem legRun_stay {ls : List Leg} {s : Nat → Nat} {K : Nat} (h : legPass ls (legRun ls K s) = legRun ls K s) : ∀ {j : Nat}, K ≤ j → legRun ls j s = legRun ls K s := by
  intro j hj
  induction j with
  | zero => rw [show K = 0 by omega]
  | succ j ih =>
    rcases Nat.lt_or_ge K (j + 1) with h1 | h1
    · show legPass ls (legRun ls j s) = _
      rw [ih (by omega), h]
    · rw [show K = j + 1 by omega]
/-- What holds of the start and is kept by each leg holds after each pass. -/
theorem legPass_keep {I : (Nat → Nat) → Prop} {ls0 : List Leg} (hk : ∀ l ∈ ls0, ∀ s, I s → I (legStep s l)) : ∀ (ls : List Leg), (∀ l ∈ ls, l ∈ ls0) → ∀ s, I s → I (legPass ls s)
  | [], _, _, h => h
  | l :: ls, hl, s, h => legPass_keep hk ls (fun x hx => hl x (by simp [hx])) _ (hk l (hl l (by simp)) s h)
theorem legRun_keep {I : (Nat → Nat) → Prop} {ls : List Leg} (hk : ∀ l ∈ ls, ∀ s, I s → I (legStep s l)) {s : Nat → Nat} (h : I s) : ∀ k, I (legRun ls k s)
  | 0 => h
  | k + 1 => legPass_keep hk ls (fun _ h => h) _ (legRun_keep hk h k)

section
variable {B P v0 t0 : Nat} {ls : List Leg}
def legStart (B v0 t0 : Nat) : Nat → Nat := fun v => if v = v0 then t0 else B
/-- The invariant: no value below the start's, each other place that is reached has a leg that reaches it. -/
def LegInv (B v0 t0 : Nat) (ls : List Leg) (s : Nat → Nat) : Prop :=
  s v0 = t0 ∧ (∀ v, t0 ≤ s v) ∧ (∀ v, s v ≤ B) ∧ ∀ v, v ≠ v0 → s v < B → ∃ l ∈ ls, l.dst = v ∧ l.f (s l.src) ≤ s v
theorem legInv_start (h : t0 < B) : LegInv B v0 t0 ls (legStart B v0 t0) :=
  ⟨by simp [legStart], fun v => by unfold legStart; split <;> omega, fun v => by unfold legStart; split <;> omega, fun v hv hb => by simp [legStart, hv] at hb⟩
theorem Leg.Ok.ge {l : Leg} (h : l.Ok B P) {t : Nat} (ht : t ≤ B) : t ≤ l.f t := by
  rcases Nat.lt_or_ge t B with h1 | h1
  · exact Nat.le_of_lt (h.more t h1)
  · rw [show t = B by omega]; exact h.big
theorem legInv_step (hok : ∀ l ∈ ls, l.Ok B P) (h0 : t0 < B) {l : Leg} (hl : l ∈ ls) {s : Nat → Nat} (h : LegInv B v0 t0 ls s) : LegInv B v0 t0 ls (legStep s l) := by
  obtain ⟨i1, i2, i3, i4⟩ := h
  have hL := hok l hl
  have hge : t0 < l.f (s l.src) := by
    rcases Nat.lt_or_ge (s l.src) B with h1 | h1
    · exact Nat.lt_of_le_of_lt (i2 l.src) (hL.more _ h1)
    · have := hL.ge (i3 l.src); have := i3 l.src; omega
  refine ⟨?_, fun v => ?_, fun v => ?_, fun v hv hb => ?_⟩
  · unfold legStep
    split
    · rename_i e
      rw [i1]; omega
    · exact i1
  · unfold legStep
    split
    · have := i2 v; omega
    · exact i2 v
  · exact Nat.le_trans (legStep_le s l v) (i3 v)
  · have old : s v < B → ∃ l' ∈ ls, l'.dst = v ∧ l'.f (legStep s l l'.src) ≤ s v := fun hsv => by
      obtain ⟨l', hl', hd, hf⟩ := i4 v hv hsv
      exact ⟨l', hl', hd, Nat.le_trans ((hok l' hl').mono _ _ (legStep_le s l _)) hf⟩
    by_cases e : v = l.dst
    · by_cases hlt : l.f (s l.src) < s v
      · refine ⟨l, hl, e.symm, ?_⟩
        have e2 : legStep s l v = l.f (s l.src) := by unfold legStep; rw [if_pos e]; omega
        rw [e2]
        exact hL.mono _ _ (legStep_le s l _)
      · have e2 : legStep s l v = s v := by unfold legStep; rw [if_pos e]; omega
        rw [e2] at hb ⊢
        exact old hb
    · have e2 : legStep s l v = s v := by unfold legStep; rw [if_neg e]
      rw [e2] at hb ⊢
      exact old hb
theorem legInv_run (hok : ∀ l ∈ ls, l.Ok B P) (h0 : t0 < B) (k : Nat) : LegInv B v0 t0 ls (legRun ls k (legStart B v0 t0)) :=
  legRun_keep (I := LegInv B v0 t0 ls) (fun _ hl _ h => legInv_step hok h0 hl h) (legInv_start h0) k
/-- How many places have a smaller value. -/
def rank (F : Nat → Nat) (P v : Nat) : Nat := (List.range P).countP fun w => decide (F w < F v)
theorem rank_lt {F : Nat → Nat} {u v : Nat} (hu : u < P) (h : F u < F v) : rank F P u < rank F P v := by
  unfold rank
  have key : ∀ (xs : List Nat), (xs.countP (fun w => decide (F w < F u)) + if u ∈ xs then 1 else 0) ≤ xs.countP (fun w => decide (F w < F v)) := by
    intro xs
    induction xs with
    | nil => simp
    | cons x xs ih =>
      rw [List.countP_cons, List.countP_cons]
      by_cases e : u = x
      · subst e
        have h1 : ¬ F u < F u := Nat.lt_irrefl _
        simp only [h1, h, List.mem_cons, true_or, if_true, decide_false, decide_true]
        have : (xs.countP (fun w => decide (F w < F u))) ≤ xs.countP (fun w => decide (F w < F v)) := by
          have := ih
          split at this <;> omega
        simp
        omega
      · have e3 : (u ∈ x :: xs) = (u ∈ xs) := by simp [e]
        simp only [e3]
        by_cases h2 : F x < F u
        · have h3 : F x < F v := by omega
          simp only [h2, h3, decide_true, if_true]
          omega
        · have h4 : (if decide (F x < F u) = true then 1 else 0) = 0 := by simp [h2]
          rw [h4]
          omega
  have := key (List.range P)
  rw [if_pos (List.mem_range.2 hu)] at this
  omega
theorem rank_le {F : Nat → Nat} {v : Nat} (hv : v < P) : rank F P v < P := by
  unfold rank
  have h1 := List.countP_le_length (p := fun w => decide (F w < F v)) (l := List.range P)
  rw [List.length_range] at h1
  rcases Nat.lt_or_ge ((List.range P).countP fun w => decide (F w < F v)) P with h | h
  · exact h
  · have h2 : (List.range P).countP (fun w => decide (F w < F v)) = (List.range P).length := by rw [List.length_range]; omega
    rw [List.countP_eq_length] at h2
    have := h2 v (List.mem_range.2 hv)
    simp at this
theorem legPass_mid {ls1 ls2 : List Leg} {l : Leg} {s : Nat → Nat} : legPass (ls1 ++ l :: ls2) s = legPass ls2 (legStep (legPass ls1 s) l) := by
  simp [legPass]
/-- As many passes as there are places reach what no pass changes any more. -/
theorem legRun_done (hok : ∀ l ∈ ls, l.Ok B P) (h0 : t0 < B) {K : Nat} (hK : legPass ls (legRun ls K (legStart B v0 t0)) = legRun ls K (legStart B v0 t0)) :
    ∀ v, v < P → legRun ls P (legStart B v0 t0) v = legRun ls K (legStart B v0 t0) v := by
  have hle : ∀ k v, legRun ls K (legStart B v0 t0) v ≤ legRun ls k (legStart B v0 t0) v := fun k v => by
    rcases Nat.lt_or_ge k K with h | h
    · exact legRun_le ls _ v (by omega)
    · rw [legRun_stay hK h]; exact Nat.le_refl _
  obtain ⟨f1, f2, f3, f4⟩ := legInv_run (v0 := v0) hok h0 K
  generalize legRun ls K (legStart B v0 t0) = F at hle f1 f2 f3 f4
  have main : ∀ k v, v < P → F v < B → rank F P v ≤ k → legRun ls k (legStart B v0 t0) v ≤ F v := by
    intro k
    induction k with
    | zero =>
      intro v hv hb hr
      by_cases e : v = v0
      · subst e
        rw [f1]
        exact Nat.le_of_eq (by simp [legRun, legStart])
      · obtain ⟨l, hl, hd, hf⟩ := f4 v e hb
        have hlt : F l.src < F v := by
          rcases Nat.lt_or_ge (F l.src) B with h1 | h1
          · exact Nat.lt_of_lt_of_le ((hok l hl).more _ h1) hf
          · have := (hok l hl).ge (f3 l.src); omega
        have := rank_lt (P := P) (hok l hl).hs hlt
        omega
    | succ k ih =>
      intro v hv hb hr
      by_cases e : v = v0
      · subst e
        rw [f1, (legInv_run (v0 := v) hok h0 (k + 1)).1]
        exact Nat.le_refl _
      · obtain ⟨l, hl, hd, hf⟩ := f4 v e hb
        have hlt : F l.src < F v := by
          rcases Nat.lt_or_ge (F l.src) B with h1 | h1
          · exact Nat.lt_of_lt_of_le ((hok l hl).more _ h1) hf
          · have := (hok l hl).ge (f3 l.src); omega
        have hrk := rank_lt (P := P) (hok l hl).hs hlt
        have h1 := ih l.src (hok l hl).hs (by omega) (by omega)
        obtain ⟨ls1, ls2, hsp⟩ := List.append_of_mem hl
        have e1 : legRun ls (k + 1) (legStart B v0 t0) = legPass ls2 (legStep (legPass ls1 (legRun ls k (legStart B v0 t0))) l) := by
          have hm := legPass_mid (ls1 := ls1) (ls2 := ls2) (l := l) (s := legRun ls k (legStart B v0 t0))
          rw [← hsp] at hm
          exact hm
        rw [e1]
        refine Nat.le_trans (legPass_le _ _ _) ?_
        unfold legStep
        rw [if_pos hd.symm]
        have h2 := (hok l hl).mono _ _ (Nat.le_trans (legPass_le ls1 (legRun ls k (legStart B v0 t0)) l.src) h1)
        omega
  intro v hv
  have h1 := hle P v
  have h3 := (legInv_run (v0 := v0) hok h0 P).2.2.1 v
  rcases Nat.lt_or_ge (F v) B with hb | hb
  · have h2 := main P v hv hb (Nat.le_of_lt (rank_le hv))
    omega
  · omega
end
end Go.Proofs.Ytfimchbjpambfaa
