/-
  What cut places and key roads are, in the law's words: plain.
-/
import Derived.Test.YtfimchbjpambfaaRoadTripLaw
import Derived.Test.YtfimchbjpambfaaRoadKey
import Derived.Test.YtfimchbjpambfaaRoadLastTop
namespace Go.Proofs.Ytfimchbjpambfaa
open Go.RowKit

theorem any_filter (f : Nat → Bool) (k a : Nat) (h : a < k) : ((((List.range k).filter f).map Int.ofNat).any fun x => x == (a : Int)) = f a := by
  rw [Bool.eq_iff_iff, List.any_eq_true]
  constructor
  · rintro ⟨x, hx, hxa⟩
    obtain ⟨y, hy, rfl⟩ := List.mem_map.1 hx
    have h1 := (List.mem_filter.1 hy).2
    have : y = a := by have h3 : (Int.ofNat y) = (a : Int) := of_decide_eq_true hxa; exact Int.ofNat.inj h3
    rw [← this]; exact h1
  · intro hf
    exact ⟨(a : Int), List.mem_map.2 ⟨a, List.mem_filter.2 ⟨List.mem_range.2 h, hf⟩, rfl⟩, by simp⟩
theorem cut_law {p : Int} {xs : List Road} {vs : List Int} {m : Int} (h : (cutR p xs vs m).2 = true) :
    ∃ P : Nat, p = P ∧ P ≤ 7 ∧ (0 ≤ m ∧ m ≤ 999) ∧ netB P xs = true ∧ placesB P vs = true ∧ risesB vs = true ∧ (cutR p xs vs m).1 = cutL P xs vs m P := by
  unfold cutR at h ⊢
  split at h
  · rename_i hc
    rw [if_pos hc]
    simp only [Bool.and_eq_true, inB_iff] at hc
    obtain ⟨⟨⟨hg, hv⟩, hr⟩, hm⟩ := hc
    have hb := netB_bd hg
    obtain ⟨P, rfl⟩ := Int.eq_ofNat_of_zero_le (show 0 ≤ p by omega)
    exact ⟨P, rfl, by omega, hm, hg, hv, hr, rfl⟩
  · cases h
theorem last_yes {P a : Nat} {xs : List Road} {vs : List Int} (hg : netB P xs = true) (hv : placesB P vs = true) (hr : risesB vs = true) (ha : a < P) (h : 0 ≤ lastL P xs a vs) : lastR P xs a vs = (lastL P xs a vs, true) := by
  unfold lastR
  rw [if_pos (by simp [hg, hv, hr, inB_iff, h]; omega)]
  rfl
theorem last_no {P a : Nat} {xs : List Road} {vs : List Int} (h : lastL P xs a vs < 0) : lastR P xs a vs = (0, false) := by
  unfold lastR
  rw [if_neg (by simp; intros; omega)]
theorem fold_max_le (f : Int → Int) : ∀ (vs : List Int) (z : Int), z ≤ vs.foldl (fun m v => max m (f v)) z
  | [], z => Int.le_refl _
  | v :: vs, z => by
    have := fold_max_le f vs (max z (f v))
    rw [List.foldl_cons]; omega
theorem fold_max_mem (f : Int → Int) {v : Int} : ∀ (vs : List Int) (z : Int), v ∈ vs → f v ≤ vs.foldl (fun m v => max m (f v)) z
  | u :: vs, z, h => by
    rw [List.foldl_cons]
    rcases List.mem_cons.1 h with rfl | h
    · have := fold_max_le f vs (max z (f v)); omega
    · exact fold_max_mem f vs _ h
theorem last_self {P a : Nat} {xs : List Road} {vs : List Int} (hg : netB P xs = true) (hv : placesB P vs = true) (ha : a < P) (h : (vs.any fun x => x == (a : Int)) = true) : lastL P xs a vs = 999 := by
  obtain ⟨x, hx, hxa⟩ := List.any_eq_true.1 h
  obtain rfl : x = a := of_decide_eq_true hxa
  have h1 : gi (arrD P xs (a : Int).toNat 999) a ≤ lastL P xs a vs := fold_max_mem (fun v => gi (arrD P xs v.toNat 999) a) vs (-1) hx
  have h2 := last_bd (F := a) (xs := xs) (good_mem (netB_all hg)) hv vs.length
  rw [List.take_length] at h2
  have h3 := dep_last (xs := xs) (P := P) (T := a) (good_mem (netB_all hg)) ha
  rw [Int.toNat_natCast, h3] at h1
  omega
theorem net_without {P : Nat} {xs : List Road} (h : netB P xs = true) (i : Nat) (hi : i < xs.length) : netB P (without xs i) = true := by
  have hb := netB_bd h
  have hall := without_all (netB_all h) i
  have hlen : (without xs i).length = xs.length - 1 := by simp [without]; omega
  have hget : ∀ j, (without xs i)[j]? = if j < i then xs[j]? else xs[j + 1]? := fun j => by
    rw [without, List.getElem?_append]
    simp only [List.length_take, List.getElem?_take, List.getElem?_drop]
    by_cases hj : j < i
    · rw [if_pos (by omega), if_pos hj, if_pos hj]
    · rw [if_neg (by omega), if_neg hj]
      congr 1; omega
  rw [netB, Bool.and_eq_true, Bool.and_eq_true]
  refine ⟨⟨inB_iff.2 (by omega), decide_eq_true (by omega)⟩, noneBad_yes ?_⟩
  intro j hj
  obtain ⟨x, hx⟩ : ∃ x, (without xs i)[j]? = some x := get_of_lt hj
  have hgx := hall _ _ hx
  rcases j with _ | j
  · rw [badAt_first (clash := clashR) hx hgx]
  · obtain ⟨y, hy⟩ : ∃ y, (without xs i)[j]? = some y := get_of_lt (by omega)
    rw [badAt_next (clash := clashR) hx hy hgx]
    have hlt : y.a < x.a ∨ (y.a = x.a ∧ y.b < x.b) := by
      rw [hget] at hx hy
      by_cases h1 : j + 1 < i
      · rw [if_pos h1] at hx
        rw [if_pos (by omega)] at hy
        exact net_next h hy hx
      · rw [if_neg h1] at hx
        by_cases h2 : j < i
        · rw [if_pos h2] at hy
          exact net_rise h hy 1 x hx
        · rw [if_neg h2] at hy
          exact net_next h hy hx
    rw [clashR, Bool.or_eq_false_iff, Bool.and_eq_false_iff]
    refine ⟨decide_eq_false (by omega), ?_⟩
    rcases Decidable.em (x.a = y.a) with h1 | h1
    · exact Or.inr (decide_eq_false (by omega))
    · exact Or.inl (decide_eq_false h1)
theorem key_law {p : Int} {xs : List Road} {f t m : Int} (h : (keyR p xs f t m).2 = true) :
    ∃ P F T : Nat, p = P ∧ f = F ∧ t = T ∧ F < P ∧ T < P ∧ xs.length ≤ 12 ∧ (0 ≤ m ∧ m ≤ 999) ∧ netB P xs = true ∧ (keyR p xs f t m).1 = keyL P xs F T m xs.length ∧ (tripR p xs f t m).2 = true := by
  unfold keyR at h ⊢
  split at h
  · rename_i hc
    have ht : (tripR p xs f t m).2 = true := by unfold tripR; rw [if_pos hc]
    rw [if_pos hc]
    simp only [Bool.and_eq_true, inB_iff, decide_eq_true_eq] at hc
    obtain ⟨⟨⟨⟨hg, hf⟩, ht'⟩, hm⟩, h0⟩ := hc
    have hb := netB_bd hg
    obtain ⟨P, rfl⟩ := Int.eq_ofNat_of_zero_le (show 0 ≤ p by omega)
    obtain ⟨F, rfl⟩ := Int.eq_ofNat_of_zero_le hf.1
    obtain ⟨T, rfl⟩ := Int.eq_ofNat_of_zero_le ht'.1
    exact ⟨P, F, T, rfl, rfl, rfl, by omega, by omega, hb.2.2, hm, hg, rfl, ht⟩
  · cases h
theorem key_two {P F T : Nat} {xs : List Road} {m : Int} (hg : netB P xs = true) (hF : F < P) (hT : T < P) (hm : 0 ≤ m ∧ m ≤ 999) {i : Nat} (hi : i < xs.length) :
    (tripR P (without xs i) F T m).2 = !((keyL P xs F T m xs.length).any fun x => x == (i : Int)) := by
  rw [keyL, any_filter _ _ _ hi, keyB]
  have hn := net_without hg i hi
  unfold tripR
  by_cases h0 : 0 ≤ gi (arrA P (without xs i) F m) T
  · rw [if_pos (by simp [hn, inB_iff, h0]; omega), decide_eq_false (by omega)]
    rfl
  · rw [if_neg (by simp; intros; omega), decide_eq_true (by omega)]
    rfl
end Go.Proofs.Ytfimchbjpambfaa
