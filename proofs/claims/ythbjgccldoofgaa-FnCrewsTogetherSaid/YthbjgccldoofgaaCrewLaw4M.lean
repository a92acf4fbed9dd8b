/-
  What crews build: whole days, the hour that is enough, an idle hour: plain.
-/
import Derived.Test.YthbjgccldoofgaaCrewMore
import Derived.Test.YthbjgccldoofgaaCrewOut
namespace Go.Proofs.Ythbjgccldoofgaa
open Go.RowKit

/-! ### whole days -/
def ratS (x : Crew) (m : Nat) : Int := ((List.range m).map (rateAt x)).sum
theorem ratS_next (x : Crew) (m : Nat) : ratS x (m + 1) = ratS x m + rateAt x m := by
  simp [ratS, List.range_succ]
theorem day_step {x : Crew} (hg : goodC x = true) (k j : Nat) (hj : j < 24) : builtN x (24 * k + j + 1) = builtN x (24 * k + j) + if x.start.toNat ≤ j ∧ j < x.start.toNat + x.shift.toNat then rateAt x (j - x.start.toNat) else 0 := by
  have hb := goodC_bd hg
  have e : ((24 * k + j : Nat) : Int) % 24 = j := by omega
  rw [builtN, worksB, e]
  by_cases h : x.start.toNat ≤ j ∧ j < x.start.toNat + x.shift.toNat
  · rw [if_pos h, if_pos (by rw [inB_iff]; omega)]
    congr 2
    omega
  · rw [if_neg h, if_neg (by rw [inB_iff]; omega)]
theorem day_part {x : Crew} (hg : goodC x = true) (k : Nat) : ∀ j : Nat, j ≤ 24 → builtN x (24 * k + j) = builtN x (24 * k) + ratS x (min x.shift.toNat (j - x.start.toNat))
  | 0, _ => by simp [ratS]
  | j + 1, h => by
    rw [← Nat.add_assoc, day_step hg k j (by omega), day_part hg k j (by omega)]
    by_cases h1 : x.start.toNat ≤ j ∧ j < x.start.toNat + x.shift.toNat
    · rw [if_pos h1, show min x.shift.toNat (j + 1 - x.start.toNat) = (j - x.start.toNat) + 1 by omega, show min x.shift.toNat (j - x.start.toNat) = j - x.start.toNat by omega, ratS_next]
      omega
    · rw [if_neg h1, show min x.shift.toNat (j + 1 - x.start.toNat) = min x.shift.toNat (j - x.start.toNat) by omega]
      omega
theorem days {x : Crew} (hg : goodC x = true) : ∀ k : Nat, builtN x (24 * k) = k * (shiftL x).sum
  | 0 => by simp [builtN]
  | k + 1 => by
    have hb := goodC_bd hg
    rw [show 24 * (k + 1) = 24 * k + 24 by omega, day_part hg k 24 (by omega), days hg k, show min x.shift.toNat (24 - x.start.toNat) = x.shift.toNat by omega]
    show _ + (shiftL x).sum = _
    push_cast
    rw [Int.add_mul]
    omega
theorem built_days {x : Crew} {h : Int} (hok : (builtR x h).2 = true) (h24 : h % 24 = 0) : (builtR x h).1 = h / 24 * (metresR x).1.sum := by
  unfold builtR at hok ⊢
  split at hok
  · rename_i hc
    rw [if_pos hc]
    simp only [Bool.and_eq_true, inB_iff] at hc
    have e := days hc.1 (h / 24).toNat
    rw [show 24 * (h / 24).toNat = h.toNat by omega] at e
    rw [metresR, if_pos hc.1]
    show builtN x h.toNat = _
    rw [e, show (((h / 24).toNat : Nat) : Int) = h / 24 by omega]
  · cases hok
theorem metres_bd (x : Crew) : ∀ m ∈ (metresR x).1, 0 ≤ m ∧ m ≤ 200 := by
  intro m hm
  unfold metresR at hm
  split at hm
  · rename_i hg
    simp only [shiftL, List.mem_map, List.mem_range] at hm
    obtain ⟨i, _, rfl⟩ := hm
    exact rateAt_bd hg i
  · simp at hm
theorem metres_len2 (x : Crew) : (metresR x).1.length ≤ 24 := by
  unfold metresR
  split
  · rename_i hg
    have := goodC_bd hg
    rw [shiftL_len]
    omega
  · simp
theorem metres_ok (x : Crew) : (metresR x).2 = goodC x := by
  unfold metresR
  split <;> simp_all
theorem built_h {x : Crew} {h : Int} (hok : (builtR x h).2 = true) : goodC x = true ∧ 0 ≤ h ∧ h ≤ 240 := by
  unfold builtR at hok
  split at hok
  · rename_i hc
    simp only [Bool.and_eq_true, inB_iff] at hc
    exact hc
  · cases hok
theorem built_ok {x : Crew} {h : Int} (hg : goodC x = true) (h0 : 0 ≤ h) (h1 : h ≤ 240) : builtR x h = (builtN x h.toNat, true) := by
  rw [builtR, if_pos (by rw [hg, Bool.true_and, inB_iff]; exact ⟨h0, h1⟩)]
/-! ### enough -/
theorem hoursR_spec {xs : List Crew} {m : Int} (h : (hoursR xs m).2 = true) : ∃ k : Nat, (hoursR xs m).1 = k ∧ k ≤ 240 ∧ m ≤ togetherN xs k ∧ ∀ j, j < k → togetherN xs j < m := by
  rcases hf : (List.range 241).find? fun h => decide (m ≤ togetherN xs h) with _ | k
  · rw [hoursR, hf] at h; cases h
  · rw [List.find?_range_eq_some] at hf
    obtain ⟨h1, h2, h3⟩ := hf
    have h4 : hoursR xs m = ((k : Int), true) := hoursR_yes (by rw [List.mem_range] at h2; omega) (by simpa using h1) (fun j hj => by simpa using h3 j hj)
    refine ⟨k, by rw [h4], by rw [List.mem_range] at h2; omega, by simpa using h1, fun j hj => by simpa using h3 j hj⟩
theorem for_enough {y : Crew} {m : Int} (h : (hoursForR y m).2 = true) : (builtR y (hoursForR y m).1).2 = true ∧ m ≤ (builtR y (hoursForR y m).1).1 ∧ 0 ≤ (hoursForR y m).1 ∧ (hoursForR y m).1 ≤ 240 ∧ ((builtR y ((hoursForR y m).1 - 1)).2 = true → (builtR y ((hoursForR y m).1 - 1)).1 < m) := by
  unfold hoursForR at h ⊢
  split at h
  · rename_i hc
    rw [if_pos hc]
    simp only [Bool.and_eq_true, inB_iff] at hc
    obtain ⟨k, h1, h2, h3, h4⟩ := hoursR_spec h
    rw [h1, built_ok hc.1 (by omega) (by omega)]
    rw [one_together] at h3
    refine ⟨rfl, h3, by omega, by omega, fun h5 => ?_⟩
    have h6 := built_h h5
    rw [built_ok hc.1 h6.2.1 h6.2.2]
    have h7 := h4 (k - 1) (by omega)
    rw [one_together] at h7
    show builtN y ((k : Int) - 1).toNat < m
    rw [show ((k : Int) - 1).toNat = k - 1 by omega]
    exact h7
  · cases h
/-! ### idle -/
theorem ids_same {xs : List Crew} (h : noneBad (badAt goodC Crew.id xs) xs.length = true) {i j : Nat} {x y : Crew} (hx : xs[i]? = some x) (hy : xs[j]? = some y) (e : x.id = y.id) : x = y := by
  rcases Nat.lt_trichotomy i j with h1 | h1 | h1
  · have := ids_rise h (j - i - 1) i y x hx (by rw [show i + (j - i - 1) + 1 = j by omega]; exact hy); omega
  · subst h1; rw [hx] at hy; simpa using hy
  · have := ids_rise h (i - j - 1) j x y hy (by rw [show j + (i - j - 1) + 1 = i by omega]; exact hx); omega
theorem idle_ok {xs : List Crew} {h : Int} (hok : (idleR xs h).2 = true) : listC xs = true ∧ 0 ≤ h ∧ h ≤ 240 ∧ (idleR xs h).1 = idleL xs h := by
  unfold idleR at hok ⊢
  split at hok
  · rename_i hc
    rw [if_pos hc]
    simp only [Bool.and_eq_true, inB_iff] at hc
    exact ⟨hc.1, hc.2.1, hc.2.2, rfl⟩
  · cases hok
theorem idle_same {xs : List Crew} {h : Int} (hok : (idleR xs h).2 = true) {i : Nat} {x : Crew} (hx : xs[i]? = some x) (hm : ((idleR xs h).1.any fun y => y == x.id) = true) : builtN x h.toNat = builtN x (h + 1).toNat := by
  obtain ⟨hl, h0, h1, he⟩ := idle_ok hok
  rw [he, List.any_eq_true] at hm
  obtain ⟨y, hy, hyx⟩ := hm
  simp only [idleL, List.mem_map, List.mem_filter] at hy
  obtain ⟨z, ⟨hz, hw⟩, rfl⟩ := hy
  obtain ⟨j, hj⟩ := List.getElem?_of_mem hz
  simp only [listC, Bool.and_eq_true] at hl
  have e := ids_same hl.1 hj hx (by simpa using hyx)
  subst e
  have hw2 : worksB z h = false := by simpa using hw
  rw [show (h + 1).toNat = h.toNat + 1 by omega, builtN, show ((h.toNat : Nat) : Int) = h by omega, hw2]
  simp
end Go.Proofs.Ythbjgccldoofgaa
