/-
  Clusters, plainly: which hot spots are reached from which, the clusters in order, closed sets.
-/
import Derived.Test.YtkkoccllmflhfaaSpotWalks
namespace Go.Proofs.Ytkkoccllmflhfaa
open Go.RowKit

/-- Two of the list may be one. -/
def nearI (xs : List Hotspot) (i j : Nat) : Bool :=
  match xs[i]?, xs[j]? with
  | some a, some b => sameB a b
  | _, _ => false
theorem sameB_symm (a b : Hotspot) : sameB a b = sameB b a := by
  unfold sameB farI
  rw [Bool.eq_iff_iff, decide_eq_true_eq, decide_eq_true_eq]
  omega
theorem sameB_self {a : Hotspot} (h : goodH a = true) : sameB a a = true := by
  have := goodH_bd h
  unfold sameB farI
  rw [decide_eq_true_eq]
  omega
theorem nearI_symm {xs : List Hotspot} {i j : Nat} (h : nearI xs i j = true) : nearI xs j i = true := by
  unfold nearI at h ⊢
  rcases hi : xs[i]? with _ | a <;> rcases hj : xs[j]? with _ | b <;> rw [hi, hj] at h
  · exact h
  · cases h
  · cases h
  · show sameB b a = true
    rw [← sameB_symm a b]; exact h
theorem nearI_lt {xs : List Hotspot} {i j : Nat} (h : nearI xs i j = true) : i < xs.length ∧ j < xs.length := by
  unfold nearI at h
  rcases hi : xs[i]? with _ | a <;> rcases hj : xs[j]? with _ | b <;> rw [hi, hj] at h
  · cases h
  · cases h
  · cases h
  · exact ⟨(List.getElem?_eq_some_iff.1 hi).1, (List.getElem?_eq_some_iff.1 hj).1⟩
theorem nearI_at {xs : List Hotspot} {i j : Nat} {a b : Hotspot} (hi : xs[i]? = some a) (hj : xs[j]? = some b) : nearI xs i j = sameB a b := by
  unfold nearI
  rw [hi, hj]
/-- Reached by a chain. -/
inductive Rch (xs : List Hotspot) : Nat → Nat → Prop where
  | refl (i : Nat) : Rch xs i i
  | step {i j k : Nat} : Rch xs i j → nearI xs j k = true → Rch xs i k
theorem Rch.trans {xs : List Hotspot} {i j k : Nat} (h : Rch xs i j) (h' : Rch xs j k) : Rch xs i k := by
  induction h' with
  | refl => exact h
  | step _ hn ih => exact .step ih hn
theorem Rch.symm {xs : List Hotspot} {i j : Nat} (h : Rch xs i j) : Rch xs j i := by
  induction h with
  | refl => exact .refl _
  | step _ hn ih => exact (Rch.step (.refl _) (nearI_symm hn)).trans ih
theorem Rch.lt {xs : List Hotspot} {i j : Nat} (h : Rch xs i j) (hi : i < xs.length) : j < xs.length := by
  induction h with
  | refl => exact hi
  | step _ hn _ => exact (nearI_lt hn).2
open Classical in
/-- The cluster of one. -/
noncomputable def comp (xs : List Hotspot) (i : Nat) : List Nat := (List.range xs.length).filter fun k => decide (Rch xs i k)
theorem mem_comp {xs : List Hotspot} {i k : Nat} : k ∈ comp xs i ↔ k < xs.length ∧ Rch xs i k := by
  simp [comp, List.mem_filter, List.mem_range]
/-- Not reached from an earlier one. -/
def newI (xs : List Hotspot) (i : Nat) : Prop := ∀ j, j < i → ¬ Rch xs j i
open Classical in
noncomputable def clusU (xs : List Hotspot) (m : Nat) : List (List Nat) := ((List.range m).filter fun i => decide (newI xs i)).map (comp xs)
noncomputable def clusL (xs : List Hotspot) : List (List Nat) := clusU xs xs.length
theorem clusU_yes {xs : List Hotspot} {m : Nat} (h : newI xs m) : clusU xs (m + 1) = clusU xs m ++ [comp xs m] := by
  simp [clusU, List.range_succ, List.filter_append, h]
theorem clusU_no {xs : List Hotspot} {m : Nat} (h : ¬ newI xs m) : clusU xs (m + 1) = clusU xs m := by
  simp [clusU, List.range_succ, List.filter_append, h]
theorem clusU_len (xs : List Hotspot) (m : Nat) : (clusU xs m).length ≤ m := by
  unfold clusU
  rw [List.length_map]
  exact Nat.le_trans (List.length_filter_le _ _) (by simp)
theorem comp_len (xs : List Hotspot) (i : Nat) : (comp xs i).length ≤ xs.length := by
  unfold comp
  exact Nat.le_trans (List.length_filter_le _ _) (by simp)
/-- Rising lists with the same members are the same. -/
theorem rising_same : ∀ {A B : List Nat}, A.Pairwise (· < ·) → B.Pairwise (· < ·) → (∀ k, k ∈ A ↔ k ∈ B) → A = B
  | [], [], _, _, _ => rfl
  | [], b :: B, _, _, h => absurd ((h b).2 (by simp)) (by simp)
  | a :: A, [], _, _, h => absurd ((h a).1 (by simp)) (by simp)
  | a :: A, b :: B, hA, hB, h => by
    rw [List.pairwise_cons] at hA hB
    have hab : a = b := by
      have h1 := (h a).1 (by simp)
      have h2 := (h b).2 (by simp)
      rw [List.mem_cons] at h1 h2
      rcases h1 with h1 | h1
      · exact h1
      · rcases h2 with h2 | h2
        · exact h2.symm
        · have := hB.1 a h1
          have := hA.1 b h2
          omega
    subst hab
    rw [rising_same hA.2 hB.2 fun k => by
      constructor
      · intro hk
        have h1 := (h k).1 (by simp [hk])
        rw [List.mem_cons] at h1
        rcases h1 with h1 | h1
        · have := hA.1 k hk; omega
        · exact h1
      · intro hk
        have h1 := (h k).2 (by simp [hk])
        rw [List.mem_cons] at h1
        rcases h1 with h1 | h1
        · have := hB.1 k hk; omega
        · exact h1]
theorem range_rising (n : Nat) : (List.range n).Pairwise (· < ·) := List.pairwise_lt_range
theorem comp_rising (xs : List Hotspot) (i : Nat) : (comp xs i).Pairwise (· < ·) := (range_rising _).filter _
/-- A set that lies in the cluster, holds its first, and is closed, is the cluster. -/
theorem closed_comp {xs : List Hotspot} {i : Nat} {M : List Nat} (hi : i ∈ M) (hM : ∀ k ∈ M, k < xs.length ∧ Rch xs i k) (hc : ∀ x ∈ M, ∀ k, nearI xs x k = true → k ∈ M) (k : Nat) : k ∈ M ↔ k ∈ comp xs i := by
  rw [mem_comp]
  constructor
  · exact hM k
  · rintro ⟨_, hr⟩
    induction hr with
    | refl => exact hi
    | step hr hn ih => exact hc _ (ih (nearI_lt hn).1) _ hn
theorem rising_comp {xs : List Hotspot} {i : Nat} {M : List Nat} (hs : M.Pairwise (· < ·)) (hi : i ∈ M) (hM : ∀ k ∈ M, k < xs.length ∧ Rch xs i k) (hc : ∀ x ∈ M, ∀ k, nearI xs x k = true → k ∈ M) : M = comp xs i :=
  rising_same hs (comp_rising xs i) (closed_comp hi hM hc)
/-- The members of the clusters told so far. -/
theorem in_clusU {xs : List Hotspot} {m k : Nat} (_hm : m ≤ xs.length) : k ∈ (clusU xs m).flatten ↔ k < xs.length ∧ ∃ j, j < m ∧ Rch xs j k := by
  rw [List.mem_flatten]
  constructor
  · rintro ⟨l, hl, hk⟩
    simp only [clusU, List.mem_map, List.mem_filter, List.mem_range] at hl
    obtain ⟨j, ⟨hj, _⟩, rfl⟩ := hl
    rw [mem_comp] at hk
    exact ⟨hk.1, j, hj, hk.2⟩
  · rintro ⟨hk, j, hj, hr⟩
    induction j using Nat.strongRecOn with
    | _ j ih =>
      by_cases hn : newI xs j
      · refine ⟨comp xs j, ?_, mem_comp.2 ⟨hk, hr⟩⟩
        simp only [clusU, List.mem_map, List.mem_filter, List.mem_range, decide_eq_true_eq]
        exact ⟨j, ⟨hj, hn⟩, rfl⟩
      · simp only [newI, Classical.not_forall, Classical.not_not] at hn
        obtain ⟨i, hi, hri⟩ := hn
        exact ih i hi (by omega) (hri.trans hr)
theorem new_iff {xs : List Hotspot} {m : Nat} (hm : m < xs.length) : newI xs m ↔ m ∉ (clusU xs m).flatten := by
  rw [in_clusU (by omega)]
  constructor
  · rintro h ⟨_, j, hj, hr⟩
    exact h j hj hr
  · intro h j hj hr
    exact h ⟨hm, j, hj, hr⟩
/-- What is near one of a new cluster is in no earlier one. -/
theorem new_apart {xs : List Hotspot} {i x k : Nat} (hn : newI xs i) (hx : Rch xs i x) (hk : nearI xs x k = true) : k ∉ (clusU xs i).flatten := by
  intro h
  unfold clusU at h
  rw [List.mem_flatten] at h
  obtain ⟨l, hl, hk'⟩ := h
  simp only [List.mem_map, List.mem_filter, List.mem_range] at hl
  obtain ⟨j, ⟨hj, _⟩, rfl⟩ := hl
  rw [mem_comp] at hk'
  exact hn j hj ((hk'.2.step (nearI_symm hk)).trans hx.symm)
theorem comp_pos {xs : List Hotspot} {i : Nat} (hi : i < xs.length) : i ∈ comp xs i := mem_comp.2 ⟨hi, .refl _⟩
end Go.Proofs.Ytkkoccllmflhfaa
