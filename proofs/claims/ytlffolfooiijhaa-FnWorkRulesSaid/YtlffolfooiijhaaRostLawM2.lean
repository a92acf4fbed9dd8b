/-
  Work rules, plainly: what a crew that may work keeps, the next free hour, thin hours.
-/
import Derived.Test.YtlffolfooiijhaaRostMay
import Derived.Test.YtlffolfooiijhaaRostThin
import Derived.Test.YtlffolfooiijhaaRostStable
namespace Go.Proofs.Ytlffolfooiijhaa
open Go.RowKit

theorem may_all {xs : List Duty} {r : WorkRule} {d : Duty} (h : (mayR xs r d).1 = true) : rosterB xs = true ∧ goodW r = true ∧ goodD d = true ∧ rosterB (insS d xs) = true ∧ brokenL (insS d xs) d.crew r = [] := by
  unfold mayR at h
  split at h
  · rename_i hc
    simp only [Bool.and_eq_true] at hc
    have h2 : mayB xs r d = true := h
    simp only [mayB, Bool.and_eq_true, List.isEmpty_iff] at h2
    exact ⟨hc.1.1, hc.1.2, hc.2, h2.1, h2.2⟩
  · cases h
theorem may_add {xs : List Duty} {r : WorkRule} {d : Duty} (h : (mayR xs r d).1 = true) : addR xs d = (insS d xs, true) := by
  obtain ⟨h1, -, -, h4, -⟩ := may_all h
  rw [addR, h1, h4]; rfl
theorem may_broken {xs : List Duty} {r : WorkRule} {d : Duty} (h : (mayR xs r d).1 = true) : brokenR (insS d xs) d.crew r = ([], true) := by
  obtain ⟨h1, h2, h3, h4, h5⟩ := may_all h
  have h6 : inB d.crew 1 20 = true := by
    simp only [goodD, Bool.and_eq_true] at h3
    exact h3.1.1
  rw [brokenR, h4, h6, h2, h5]; rfl
theorem broken_ok {xs : List Duty} {cr : Int} {r : WorkRule} (h : (brokenR xs cr r).2 = true) : brokenR xs cr r = (brokenL xs cr r, true) ∧ mostR xs cr r.span = (mostN xs cr r.span, true) := by
  unfold brokenR at h ⊢
  split at h
  · rename_i hc
    rw [if_pos hc]
    simp only [Bool.and_eq_true] at hc
    have h2 : inB r.span 1 200 = true := by
      have := hc.2
      simp only [goodW, Bool.and_eq_true] at this
      exact this.1.2
    refine ⟨rfl, ?_⟩
    rw [mostR, hc.1.1, hc.1.2, h2]; rfl
  · cases h
theorem broken_span (xs : List Duty) (cr : Int) (r : WorkRule) : ((brokenL xs cr r).any fun x => decide (x = wSpan)) = decide (r.most < mostN xs cr r.span) := by
  simp only [brokenL, wordsL, flagL]
  generalize overU (stintsP xs cr) r.work (stintsP xs cr).length = a
  generalize nearU (stintsP xs cr) r.rest (stintsP xs cr).length = b
  generalize decide (r.most < mostN xs cr r.span) = c
  revert a b c
  decide
theorem nextU_ok {xs : List Duty} {r : WorkRule} {cr hh : Int} : ∀ (k : Nat) (h : Int), (nextU xs r cr hh k h).2 = true → h ≤ (nextU xs r cr hh k h).1 ∧ (nextU xs r cr hh k h).1 + hh ≤ 500 ∧ mayB xs r ⟨cr, (nextU xs r cr hh k h).1, (nextU xs r cr hh k h).1 + hh⟩ = true ∧ (h < (nextU xs r cr hh k h).1 → mayB xs r ⟨cr, (nextU xs r cr hh k h).1 - 1, (nextU xs r cr hh k h).1 - 1 + hh⟩ = false)
  | 0, h, hn => by simp [nextU] at hn
  | k + 1, h, hn => by
    by_cases h0 : h + hh ≤ 500
    · rcases hm : mayB xs r ⟨cr, h, h + hh⟩ with _ | _
      · rw [next_go h0 hm] at hn ⊢
        have ih := nextU_ok k (h + 1) hn
        refine ⟨by omega, ih.2.1, ih.2.2.1, fun hlt => ?_⟩
        by_cases he : h + 1 < (nextU xs r cr hh k (h + 1)).1
        · exact ih.2.2.2 he
        · have e : (nextU xs r cr hh k (h + 1)).1 - 1 = h := by omega
          rw [e]; exact hm
      · rw [next_yes h0 hm]
        exact ⟨Int.le_refl _, h0, hm, fun hlt => absurd hlt (by simp)⟩
    · rw [next_no h0] at hn
      cases hn
theorem next_ok {xs : List Duty} {r : WorkRule} {cr f hh : Int} (h : (nextR xs r cr f hh).2 = true) : 0 ≤ f ∧ f ≤ (nextR xs r cr f hh).1 ∧ (nextR xs r cr f hh).1 ≤ 500 ∧ 1 ≤ hh ∧ hh ≤ 48 ∧ mayR xs r ⟨cr, (nextR xs r cr f hh).1, (nextR xs r cr f hh).1 + hh⟩ = (true, true)
    ∧ (f < (nextR xs r cr f hh).1 → mayR xs r ⟨cr, (nextR xs r cr f hh).1 - 1, (nextR xs r cr f hh).1 - 1 + hh⟩ = (false, true)) := by
  unfold nextR at h ⊢
  split at h
  · rename_i hc
    rw [if_pos hc]
    simp only [Bool.and_eq_true] at hc
    obtain ⟨⟨⟨⟨h1, h2⟩, h3⟩, h4⟩, h5⟩ := hc
    have b4 := inB_iff.1 h4
    have b5 := inB_iff.1 h5
    obtain ⟨K, hK⟩ : ∃ K : Nat, 501 = K := ⟨_, rfl⟩
    rw [hK] at h ⊢
    have key := nextU_ok K f h
    generalize (nextU xs r cr hh K f).1 = H at key
    refine ⟨b4.1, key.1, by omega, b5.1, b5.2, ?_, fun hlt => ?_⟩
    · have hd : goodD ⟨cr, H, H + hh⟩ = true := by
        simp only [goodD, Bool.and_eq_true]
        exact ⟨⟨h3, inB_iff.2 (by omega)⟩, inB_iff.2 (by omega)⟩
      rw [mayR, h1, h2, hd, key.2.2.1]; rfl
    · have hd : goodD ⟨cr, H - 1, H - 1 + hh⟩ = true := by
        simp only [goodD, Bool.and_eq_true]
        exact ⟨⟨h3, inB_iff.2 (by omega)⟩, inB_iff.2 (by omega)⟩
      rw [mayR, h1, h2, hd, key.2.2.2 hlt]; rfl
  · cases h
theorem stepT_low {xs : List Duty} {l f h : Int} {out : List (Int × Int)} (ho : ∀ p ∈ out, f ≤ p.1 ∧ p.1 < h ∧ ((atL xs p.1).length : Int) < l) (hf : f ≤ h) : ∀ p ∈ stepT xs l out h, f ≤ p.1 ∧ p.1 < h + 1 ∧ ((atL xs p.1).length : Int) < l := fun p hp => by
  have old : ∀ p ∈ out, f ≤ p.1 ∧ p.1 < h + 1 ∧ ((atL xs p.1).length : Int) < l := fun p hp => by
    have := ho p hp
    exact ⟨this.1, by omega, this.2.2⟩
  unfold stepT at hp
  split at hp
  · exact old p hp
  · rename_i hl
    have new : f ≤ h ∧ h < h + 1 ∧ ((atL xs h).length : Int) < l := ⟨hf, by omega, by omega⟩
    split at hp
    · rename_i q hq
      obtain ⟨qs, rfl⟩ := List.getLast?_eq_some_iff.1 hq
      split at hp
      · rw [List.dropLast_concat] at hp
        rcases List.mem_append.1 hp with h1 | h1
        · exact old p (by simp [h1])
        · simp only [List.mem_singleton] at h1
          subst h1
          exact old q (by simp)
      · rcases List.mem_append.1 hp with h1 | h1
        · exact old p h1
        · simp only [List.mem_singleton] at h1
          subst h1
          exact new
    · simp only [List.mem_singleton] at hp
      subst hp
      exact new
theorem thinU_low (xs : List Duty) (l f : Int) : ∀ j : Nat, ∀ p ∈ thinU xs l f j, f ≤ p.1 ∧ p.1 < f + j ∧ ((atL xs p.1).length : Int) < l
  | 0, p, hp => by simp [thinU] at hp
  | j + 1, p, hp => by
    have := stepT_low (thinU_low xs l f j) (by omega) p hp
    refine ⟨this.1, ?_, this.2.2⟩
    have := this.2.1
    push_cast
    omega
theorem thin_ok {xs : List Duty} {f t l : Int} {i : Nat} {ll : List Int} (h : (thinR xs f t l).1[i]? = some ll) : ∃ a b : Int, ll = [a, b] ∧ atR xs a = (atL xs a, true) ∧ ((atL xs a).length : Int) < l := by
  unfold thinR at h
  split at h
  · rename_i hc
    simp only [Bool.and_eq_true] at hc
    obtain ⟨⟨⟨h1, h2⟩, h3⟩, h4⟩ := hc
    have b2 := inB_iff.1 h2
    have b3 := inB_iff.1 h3
    simp only [pairs, List.getElem?_map, Option.map_eq_some_iff] at h
    obtain ⟨p, hp, rfl⟩ := h
    have h5 := thinU_low xs l f (t - f).toNat p (List.mem_of_getElem? hp)
    have h6 : inB p.1 0 499 = true := inB_iff.2 (by omega)
    exact ⟨p.1, p.2, rfl, by rw [atR, h1, h6]; rfl, h5.2.2⟩
  · simp at h
theorem thin_len2 {xs : List Duty} {f t l : Int} : (thinR xs f t l).1.length ≤ 500 := by
  unfold thinR
  split
  · rename_i hc
    simp only [Bool.and_eq_true, inB_iff] at hc
    have h2 := thin_len xs l f (t - f).toNat
    show (pairs _).length ≤ _
    rw [pairs_len]; omega
  · simp
end Go.Proofs.Ytlffolfooiijhaa
