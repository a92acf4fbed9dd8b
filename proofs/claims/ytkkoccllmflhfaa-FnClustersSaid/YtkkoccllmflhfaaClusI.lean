/-
  The clusters of hot spots, the program's way: walked.
-/
import Derived.Test.YtkkoccllmflhfaaClusMath
import Derived.Test.YtkkoccllmflhfaaOwnR
import Derived.Test.YtkkoccllmflhfaaSortInts
import Derived.Test.YtkkoccllmflhfaaSpotMay
import Derived.Deep.DeepCutAuto
namespace Go.Proofs.Ytkkoccllmflhfaa
open Go.RowKit

def pickH (xs : List Hotspot) (l : List Nat) : List Hotspot := l.filterMap (xs[·]?)
def hrows (xs : List Hotspot) (LL : List (List Nat)) : List (List Value) := LL.map fun l => (pickH xs l).flatMap Hotspot.row
theorem pick_next {xs : List Hotspot} {l : List Nat} {j k : Nat} {x : Hotspot} (hk : l[j]? = some k) (hx : xs[k]? = some x) : pickH xs (l.take (j + 1)) = pickH xs (l.take j) ++ [x] := by
  rw [List.take_add_one, hk]
  simp [pickH, List.filterMap_append, hx]
theorem pick_all {xs : List Hotspot} {l : List Nat} (h : ∀ k ∈ l, k < xs.length) : (pickH xs l).length = l.length := by
  induction l with
  | nil => rfl
  | cons k l ih =>
    have hk := h k (by simp)
    have := ih (fun k hk => h k (by simp [hk]))
    simp only [pickH] at this ⊢
    rw [List.filterMap_cons, List.getElem?_eq_getElem hk]
    simp [this]
theorem hrows_snoc (xs : List Hotspot) (LL : List (List Nat)) (l : List Nat) : hrows xs LL ++ [(pickH xs l).flatMap Hotspot.row] = hrows xs (LL ++ [l]) := by simp [hrows]
abbrev nats (M : List Nat) : List Int := M.map fun (k : Nat) => (k : Int)
/-- The members sorted are the cluster. -/
theorem sorted_comp {xs : List Hotspot} {i : Nat} {M : List Nat} {ys : List Int} (hi : i ∈ M) (hN : M.Nodup) (hM : ∀ k ∈ M, k < xs.length ∧ Rch xs i k) (hc : ∀ x ∈ M, ∀ k, nearI xs x k = true → k ∈ M)
    (hp : ys.Perm (nats M)) (hs : Upto M.length ys) : ys = nats (comp xs i) := by
  have hl : ys.length = M.length := by rw [hp.length_eq]; simp [nats]
  have e1 : ys = nats (ys.map Int.toNat) := by
    rw [nats, List.map_map]
    conv => lhs; rw [← List.map_id ys]
    refine List.map_congr_left fun y hy => ?_
    have := (hp.mem_iff).1 hy
    simp only [nats, List.mem_map] at this
    obtain ⟨k, _, rfl⟩ := this
    simp
  have hp2 : (ys.map Int.toNat).Perm M := by
    have := hp.map Int.toNat
    rw [nats, List.map_map] at this
    refine this.trans (List.Perm.of_eq ?_)
    conv => rhs; rw [← List.map_id M]
    refine List.map_congr_left fun y _ => ?_
    simp
  have hnd : (ys.map Int.toNat).Nodup := hp2.nodup_iff.2 hN
  have hr : (ys.map Int.toNat).Pairwise (· < ·) := by
    rw [List.pairwise_iff_getElem]
    intro p q h1 h2 hpq
    rw [List.length_map] at h1 h2
    have h3 := hs p q _ _ hpq (by omega) (List.getElem?_eq_getElem h1) (List.getElem?_eq_getElem h2)
    have h4 := List.pairwise_iff_getElem.1 hnd p q (by simpa using h1) (by simpa using h2) hpq
    simp only [List.getElem_map] at h4 ⊢
    omega
  rw [e1, rising_comp hr (hp2.mem_iff.2 hi) (fun k hk => hM k (hp2.mem_iff.1 hk)) (fun x hx k hk => hp2.mem_iff.2 (hc x (hp2.mem_iff.1 hx) k hk))]
/-- What holds inside the search: B is what is taken, M the members, those before k looked through, and of the next one those below m. -/
structure Srch (xs : List Hotspot) (i k m : Nat) (B : List Bool) (M : List Nat) : Prop where
  nodup : M.Nodup
  mem : ∀ x ∈ M, x < xs.length ∧ Rch xs i x
  first : i ∈ M
  taken : ∀ x, x < xs.length → (B[x]? = some true ↔ x ∈ (clusU xs i).flatten ∨ x ∈ M)
  done : ∀ p y, p < k → M[p]? = some y → ∀ x, nearI xs y x = true → x ∈ M
  part : ∀ y, M[k]? = some y → ∀ x, x < m → nearI xs y x = true → x ∈ M
theorem nodup_len : ∀ (n : Nat) (M : List Nat), M.Nodup → (∀ x ∈ M, x < n) → M.length ≤ n
  | 0, [], _, _ => Nat.le_refl _
  | 0, x :: M, _, h => absurd (h x (by simp)) (by omega)
  | n + 1, M, hN, h => by
    by_cases hm : n ∈ M
    · have h1 := nodup_len n (M.erase n) (hN.erase n) fun x hx => by
        rw [hN.mem_erase_iff] at hx
        have := h x hx.2
        omega
      rw [List.length_erase_of_mem hm] at h1
      omega
    · have h1 := nodup_len n M hN fun x hx => by
        have := h x hx
        have : x ≠ n := fun e => hm (e ▸ hx)
        omega
      omega
section
variable {xs : List Hotspot} {i k m : Nat} {B : List Bool} {M : List Nat}
theorem srch_len (h : Srch xs i k m B M) : M.length ≤ xs.length := nodup_len _ M h.nodup fun x hx => (h.mem x hx).1
theorem srch_start (hi : i < xs.length) (hB : B.length = xs.length) (hT : ∀ x, x < xs.length → (B[x]? = some true ↔ x ∈ (clusU xs i).flatten)) : Srch xs i 0 0 (B.set i true) [i] :=
  ⟨by simp, fun x hx => by simp only [List.mem_singleton] at hx; subst hx; exact ⟨hi, .refl _⟩, by simp, fun x hx => by
    rw [List.getElem?_set]
    by_cases e : i = x
    · subst e
      simp [hB, hi]
    · rw [if_neg e, hT x hx]
      have : ¬ x = i := fun h => e h.symm
      simp [this], fun p y hp => absurd hp (by omega), fun y _ x hx => absurd hx (by omega)⟩
theorem srch_skip (hn : newI xs i) (h : Srch xs i k m B M) (hm : m < xs.length) (hb : B[m]? = some true) : Srch xs i k (m + 1) B M :=
  ⟨h.nodup, h.mem, h.first, h.taken, h.done, fun y hy x hx hxy => by
    rcases Nat.lt_or_ge x m with h1 | h1
    · exact h.part y hy x h1 hxy
    · obtain rfl : x = m := by omega
      rcases (h.taken x hm).1 hb with h2 | h2
      · exact absurd h2 (new_apart hn (h.mem y (List.mem_of_getElem? hy)).2 hxy)
      · exact h2⟩
theorem srch_far (h : Srch xs i k m B M) {y : Nat} (hy : M[k]? = some y) (hf : nearI xs y m = false) : Srch xs i k (m + 1) B M :=
  ⟨h.nodup, h.mem, h.first, h.taken, h.done, fun z hz x hx hxy => by
    rcases Nat.lt_or_ge x m with h1 | h1
    · exact h.part z hz x h1 hxy
    · obtain rfl : x = m := by omega
      rw [hy] at hz
      cases hz
      rw [hf] at hxy
      cases hxy⟩
theorem srch_add (h : Srch xs i k m B M) (hB : B.length = xs.length) {y : Nat} (hy : M[k]? = some y) (hb : B[m]? = some false) (hf : nearI xs y m = true) : Srch xs i k (m + 1) (B.set m true) (M ++ [m]) := by
  have hm := (nearI_lt hf).2
  have hkl := (List.getElem?_eq_some_iff.1 hy).1
  have hmM : m ∉ M := fun hc => by
    have := (h.taken m hm).2 (Or.inr hc)
    rw [hb] at this
    cases this
  refine ⟨?_, fun x hx => ?_, by simp [h.first], fun x hx => ?_, fun p z hp hz x hxy => ?_, fun z hz x hx hxy => ?_⟩
  · rw [List.nodup_append]
    exact ⟨h.nodup, by simp, fun a ha b hb e => by simp only [List.mem_singleton] at hb; subst hb; subst e; exact hmM ha⟩
  · rcases List.mem_append.1 hx with h1 | h1
    · exact h.mem x h1
    · simp only [List.mem_singleton] at h1
      subst h1
      exact ⟨hm, (h.mem y (List.mem_of_getElem? hy)).2.step hf⟩
  · rw [List.getElem?_set]
    by_cases e : m = x
    · subst e
      simp [hB, hm]
    · rw [if_neg e, h.taken x hx]
      have : ¬ x = m := fun h => e h.symm
      simp [this]
  · rw [List.getElem?_append_left (by omega)] at hz
    exact List.mem_append_left _ (h.done p z hp hz x hxy)
  · rw [List.getElem?_append_left hkl, hy] at hz
    cases hz
    rcases Nat.lt_or_ge x m with h1 | h1
    · exact List.mem_append_left _ (h.part y hy x h1 hxy)
    · obtain rfl : x = m := by omega
      simp
theorem srch_next (h : Srch xs i k xs.length B M) : Srch xs i (k + 1) 0 B M :=
  ⟨h.nodup, h.mem, h.first, h.taken, fun p y hp hy x hxy => by
    rcases Nat.lt_or_ge p k with h1 | h1
    · exact h.done p y h1 hy x hxy
    · obtain rfl : p = k := by omega
      exact h.part y hy x (nearI_lt hxy).2 hxy, fun y _ x hx => absurd hx (by omega)⟩
theorem srch_end (h : Srch xs i M.length m B M) {ys : List Int} (hp : ys.Perm (nats M)) (hs : Upto M.length ys) : ys = nats (comp xs i) :=
  sorted_comp h.first h.nodup h.mem (fun x hx k hk => by
    obtain ⟨p, hp⟩ := List.getElem?_of_mem hx
    exact h.done p x (List.getElem?_eq_some_iff.1 hp).1 hp k hk) hp hs
theorem srch_taken (hn : newI xs i) (h : Srch xs i M.length m B M) (x : Nat) (hx : x < xs.length) : B[x]? = some true ↔ x ∈ (clusU xs (i + 1)).flatten := by
  rw [h.taken x hx, clusU_yes hn, List.flatten_append, List.mem_append]
  have hc : ∀ y ∈ M, ∀ k, nearI xs y k = true → k ∈ M := fun y hy k hk => by
    obtain ⟨p, hp⟩ := List.getElem?_of_mem hy
    exact h.done p y (List.getElem?_eq_some_iff.1 hp).1 hp k hk
  have := closed_comp h.first h.mem hc x
  simp [this]
end
end Go.Proofs.Ytkkoccllmflhfaa
