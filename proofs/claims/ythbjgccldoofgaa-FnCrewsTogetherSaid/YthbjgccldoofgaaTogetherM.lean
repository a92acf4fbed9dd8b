/-
  Shares of a line, sums of what crews build, a line without a crew: plain.
-/
import Derived.Test.YthbjgccldoofgaaCrewLaw4M
import Derived.Test.YthbjgccldoofgaaCrewOut2
namespace Go.Proofs.Ythbjgccldoofgaa
open Go.RowKit

theorem allC_tail {x : Crew} {xs : List Crew} (h : allC (x :: xs)) : allC xs := fun i y hy => h (i + 1) y hy
theorem shareL_sum (H : Nat) : ∀ (xs : List Crew) (m : Int), (shareL H xs m).sum = m - restL H xs m
  | [], m => by simp [shareL, restL]
  | x :: xs, m => by
    rw [shareL, restL, List.sum_cons, shareL_sum H xs]
    omega
theorem restL_max (H : Nat) : ∀ (xs : List Crew) (m : Int), allC xs → 0 ≤ m → restL H xs m = max 0 (m - togetherN xs H)
  | [], m, _, h0 => by simp [restL, togetherN]; omega
  | x :: xs, m, hg, h0 => by
    have hb := builtN_bd (hg 0 x rfl) H
    have hs : 0 ≤ togetherN xs H := by
      have e : xs.take xs.length = xs := List.take_of_length_le (Nat.le_refl _)
      have h2 : ∀ ys : List Crew, allC ys → 0 ≤ togetherN ys H := by
        intro ys
        induction ys with
        | nil => intro _; simp [togetherN]
        | cons y ys ih =>
          intro hy
          have h3 := builtN_bd (hy 0 y rfl) H
          have h4 := ih (allC_tail hy)
          simp only [togetherN, List.map_cons, List.sum_cons] at h4 ⊢
          omega
      exact h2 xs (allC_tail hg)
    rw [restL, restL_max H xs _ (allC_tail hg) (by omega)]
    simp only [togetherN, List.map_cons, List.sum_cons] at hs ⊢
    omega
theorem shareL_get {H : Nat} : ∀ {xs : List Crew} {i : Nat} {x : Crew} (m : Int), allC xs → 0 ≤ m → xs[i]? = some x → ∃ r, (shareL H xs m)[i]? = some (min (builtN x H) r) ∧ 0 ≤ r
  | [], _, _, _, _, _, h => by simp at h
  | y :: ys, 0, x, m, hg, h0, h => by
    simp only [List.getElem?_cons_zero, Option.some.injEq] at h
    subst h
    exact ⟨m, by rw [shareL]; rfl, h0⟩
  | y :: ys, i + 1, x, m, hg, h0, h => by
    have hb := builtN_bd (hg 0 y rfl) H
    rw [shareL]
    simpa using shareL_get (H := H) (m - min (builtN y H) m) (allC_tail hg) (by omega) (by simpa using h)
theorem share_ok (xs : List Crew) (m : Int) : (shareR xs m).2 = (hoursTR xs m).2 := by
  unfold shareR
  split <;> simp_all
theorem hoursT_spec {xs : List Crew} {m : Int} (h : (hoursTR xs m).2 = true) : listC xs = true ∧ 0 ≤ m ∧ m ≤ 20000 ∧ ∃ k : Nat, (hoursTR xs m).1 = k ∧ k ≤ 240 ∧ m ≤ togetherN xs k ∧ ∀ j, j < k → togetherN xs j < m := by
  unfold hoursTR at h ⊢
  split at h
  · rename_i hc
    rw [if_pos hc]
    simp only [Bool.and_eq_true, inB_iff] at hc
    exact ⟨hc.1, hc.2.1, hc.2.2, hoursR_spec h⟩
  · cases h
theorem share_sum {xs : List Crew} {m : Int} (h : (shareR xs m).2 = true) : (shareR xs m).1.sum = m := by
  rw [share_ok] at h
  obtain ⟨hl, h0, _, k, h1, h2, h3, _⟩ := hoursT_spec h
  unfold shareR
  rw [if_pos h]
  show (shareL _ xs m).sum = m
  rw [h1, shareL_sum, restL_max _ _ _ (listC_all hl) h0]
  simp only [Int.toNat_natCast]
  omega
theorem share_at {xs : List Crew} {m : Int} {i : Nat} {x : Crew} (h : (shareR xs m).2 = true) (hx : xs[i]? = some x) : ∃ s, (shareR xs m).1[i]? = some s ∧ 0 ≤ s ∧ s ≤ (builtR x (hoursTR xs m).1).1 ∧ (builtR x (hoursTR xs m).1).2 = true := by
  have h' := h
  rw [share_ok] at h
  obtain ⟨hl, h0, _, k, h1, h2, _, _⟩ := hoursT_spec h
  have hg := listC_all hl
  have hgx := hg i x hx
  obtain ⟨r, hr, hr0⟩ := shareL_get (H := k) m hg h0 hx
  have hb := builtN_bd hgx k
  rw [h1, built_ok hgx (by omega) (by omega)]
  unfold shareR
  rw [if_pos h, h1]
  refine ⟨_, hr, by omega, ?_, rfl⟩
  show min (builtN x k) r ≤ builtN x ((k : Nat) : Int).toNat
  simp only [Int.toNat_natCast]
  omega
theorem share_len (xs : List Crew) (m : Int) : (shareR xs m).1.length = if (shareR xs m).2 then xs.length else 0 := by
  unfold shareR
  split
  · rw [if_pos rfl]; exact shareL_len _ _ _
  · rfl
theorem together_ok {xs : List Crew} {h : Int} (hok : (togetherR xs h).2 = true) : listC xs = true ∧ 0 ≤ h ∧ h ≤ 240 ∧ (togetherR xs h).1 = togetherN xs h.toNat := by
  unfold togetherR at hok ⊢
  split at hok
  · rename_i hc
    rw [if_pos hc]
    simp only [Bool.and_eq_true, inB_iff] at hc
    exact ⟨hc.1, hc.2.1, hc.2.2, rfl⟩
  · cases hok
/-! ### without a crew -/
theorem outL_le {xs : List Crew} (hg : allC xs) (i H : Nat) : togetherN (outL xs i) H ≤ togetherN xs H := by
  have hs : ∀ (ys : List Crew) (H : Nat), allC ys → 0 ≤ togetherN ys H := by
    intro ys H
    induction ys with
    | nil => intro _; simp [togetherN]
    | cons y ys ih =>
      intro hy
      have h3 := builtN_bd (hy 0 y rfl) H
      have h4 := ih (allC_tail hy)
      simp only [togetherN, List.map_cons, List.sum_cons] at h4 ⊢
      omega
  have hap : ∀ (a b : List Crew), togetherN (a ++ b) H = togetherN a H + togetherN b H := fun a b => by simp [togetherN]
  rcases Nat.lt_or_ge i xs.length with h1 | h1
  · have e : xs = xs.take i ++ (xs[i] :: xs.drop (i + 1)) := by rw [← List.drop_eq_getElem_cons h1, List.take_append_drop]
    have h2 := builtN_bd (hg i xs[i] (List.getElem?_eq_getElem h1)) H
    have h3 : togetherN xs H = togetherN (xs.take i) H + (builtN xs[i] H + togetherN (xs.drop (i + 1)) H) := by
      have e2 := congrArg (fun ys => togetherN ys H) e
      refine e2.trans ((hap _ _).trans ?_)
      simp only [togetherN, List.map_cons, List.sum_cons]
    rw [outL, hap, h3]
    omega
  · have e : outL xs i = xs := by rw [outL, List.take_of_length_le h1, List.drop_of_length_le (by omega), List.append_nil]
    rw [e]
    omega
theorem outS_up {xs : List Crew} {m : Int} (i : Nat) (hi : i < xs.length) : (outS xs m i).2 ≤ (outS xs m (i + 1)).2 ∧ leastI (outL xs i) m ≤ (outS xs m (i + 1)).2 := by
  obtain ⟨x, hx⟩ := get_of_lt hi
  by_cases h : (outS xs m i).2 < leastI (outL xs i) m
  · rw [outS_yes hx rfl h]
    exact ⟨by show _ ≤ leastI (outL xs i) m; omega, Int.le_refl _⟩
  · rw [outS_no rfl h]
    omega
theorem outS_ge {xs : List Crew} {m : Int} : ∀ (d i : Nat), i + d + 1 ≤ xs.length → leastI (outL xs i) m ≤ (outS xs m (i + d + 1)).2
  | 0, i, h => (outS_up i (by omega)).2
  | d + 1, i, h => Int.le_trans (outS_ge d i (by omega)) (outS_up (i + d + 1) (by omega)).1
theorem hoursR_le {xs : List Crew} {m : Int} {L : Nat} (hL : L ≤ 240) (h : m ≤ togetherN xs L) : (hoursR xs m).2 = true ∧ (hoursR xs m).1 ≤ L := by
  rcases hf : (List.range 241).find? fun h => decide (m ≤ togetherN xs h) with _ | k
  · rw [List.find?_eq_none] at hf
    have := hf L (by rw [List.mem_range]; omega)
    simp at this
    omega
  · have h4 : hoursR xs m = ((k : Int), true) := by rw [hoursR, hf]
    rw [h4]
    refine ⟨rfl, ?_⟩
    rw [List.find?_range_eq_some] at hf
    have h5 : ¬ L < k := fun hlt => by
      have := hf.2.2 L hlt
      simp at this
      omega
    show (k : Int) ≤ L
    omega
theorem without_ok {xs : List Crew} {m : Int} (h : (outR xs m).2.2 = true) : (hoursTR xs m).2 = true ∧ (hoursTR xs m).1 ≤ (outR xs m).2.1 := by
  unfold outR at h ⊢
  split at h
  · rename_i hc
    rw [if_pos hc]
    simp only [Bool.and_eq_true, decide_eq_true_eq] at hc
    obtain ⟨⟨⟨hl, hm⟩, h0⟩, hn⟩ := hc
    have hb := noneBad_at hn h0
    simp only [outBad, decide_eq_false_iff_not] at hb
    have hg := listC_all hl
    have h2 : (hoursR (outL xs 0) m).2 = true := by
      rcases h3 : (hoursR (outL xs 0) m).2 with _ | _
      · rw [leastI_neg h3] at hb; omega
      · rfl
    obtain ⟨k, h3, h4, h5, _⟩ := hoursR_spec h2
    have h6 := hoursR_le h4 (Int.le_trans h5 (outL_le hg 0 k))
    have h7 := outS_ge (xs := xs) (m := m) (xs.length - 1) 0 (by omega)
    rw [show 0 + (xs.length - 1) + 1 = xs.length by omega, leastI_pos h2, h3] at h7
    rw [hoursTR, if_pos (by rw [hl, hm]; rfl)]
    exact ⟨h6.1, Int.le_trans h6.2 h7⟩
  · cases h
end Go.Proofs.Ythbjgccldoofgaa
