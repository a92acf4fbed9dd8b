/-
  Arrivals and departures are dual: a trip that begins at a minute arrives exactly if that minute is not behind the last one: plain.
-/
import Derived.Test.YtfimchbjpambfaaRoadTripMath
import Derived.Test.YtfimchbjpambfaaRoadLast
namespace Go.Proofs.Ytfimchbjpambfaa
open Go.RowKit

theorem runD_shift (rs : List Road) (s : List Int) : ∀ k, runD rs k (passD rs s) = runD rs (k + 1) s
  | 0 => rfl
  | k + 1 => by
    show passD rs (runD rs k (passD rs s)) = passD rs (runD rs (k + 1) s)
    rw [runD_shift rs s k]
theorem runD_fix {P : Nat} {rs : List Road} (hr : ∀ r ∈ rs, goodR P r = true) : ∀ (n : Nat) (s : List Int), Arr P s → totD P s ≤ n → ∃ K, passD rs (runD rs K s) = runD rs K s := by
  intro n
  induction n with
  | zero =>
    intro s hs ht
    refine ⟨0, arr_extD (hs.passD hr) hs fun v hv => ?_⟩
    have h1 : stD (passD rs s) v ≤ stD s v := by rw [stD_pass hr hs]; exact legPass_le _ _ _
    have h2 : ¬ stD (passD rs s) v < stD s v := fun h => by
      have : totD P (passD rs s) < totD P s := sum_map_lt (v0 := v) (fun u _ => by rw [stD_pass hr hs]; exact legPass_le _ _ _) (List.mem_range.2 hv) h
      omega
    show stD (passD rs s) v = stD s v
    omega
  | succ n ih =>
    intro s hs ht
    by_cases hf : passD rs s = s
    · exact ⟨0, hf⟩
    · have hlt : totD P (passD rs s) < totD P s := by
        rcases Nat.lt_or_ge (totD P (passD rs s)) (totD P s) with h | h
        · exact h
        · refine absurd (arr_extD (hs.passD hr) hs fun v hv => ?_) hf
          have h1 : stD (passD rs s) v ≤ stD s v := by rw [stD_pass hr hs]; exact legPass_le _ _ _
          have h2 : ¬ stD (passD rs s) v < stD s v := fun h3 => by
            have : totD P (passD rs s) < totD P s := sum_map_lt (v0 := v) (fun u _ => by rw [stD_pass hr hs]; exact legPass_le _ _ _) (List.mem_range.2 hv) h3
            omega
          omega
      obtain ⟨K, hK⟩ := ih (passD rs s) (hs.passD hr) (by omega)
      refine ⟨K + 1, ?_⟩
      rwa [runD_shift] at hK
section
variable {P F : Nat} {xs : List Road} {m : Int}
theorem arrD_arr_ (hr : ∀ r ∈ xs, goodR P r = true) (hF : F < P) (hm : 0 ≤ m ∧ m ≤ 999) : Arr P (arrD P xs F m) := (arr_start hF hm).runD hr P
theorem arrD_fix (hr : ∀ r ∈ xs, goodR P r = true) (hF : F < P) (hm : 0 ≤ m ∧ m ≤ 999) : passD xs (arrD P xs F m) = arrD P xs F m := by
  obtain ⟨K, hK⟩ := runD_fix hr _ _ (arr_start hF hm) (Nat.le_refl _)
  have := runD_done hr hF hm hK
  unfold arrD
  rw [← this]
  exact hK
theorem arrD_inv (hr : ∀ r ∈ xs, goodR P r = true) (hF : F < P) (hm : 0 ≤ m ∧ m ≤ 999) : LegInv 5000 F (valD m) (legsD xs) (stD (arrD P xs F m)) := by
  have hst : stD ((List.replicate P (-1)).set F m) = legStart 5000 F (valD m) := by
    funext v
    unfold stD legStart gi
    rw [List.getD_eq_getElem?_getD, List.getElem?_set]
    simp only [Int.toNat_natCast]
    by_cases e : F = v
    · subst e
      simp [hF]
    · rw [if_neg e, if_neg (fun h => e h.symm), List.getElem?_replicate]
      split <;> simp [valD]
  have hm5 : valD m < 5000 := by unfold valD; split <;> omega
  unfold arrD
  rw [stD_run hr (arr_start hF hm), hst]
  exact legInv_run (legsD_ok hr) hm5 P
end
section
variable {P F T : Nat} {xs : List Road} {m : Int}
/-- Both directions of the roads. -/
def IsLeg (xs : List Road) (r : Road) (a b : Int) : Prop := r ∈ xs ∧ ((a = r.a ∧ b = r.b) ∨ (a = r.b ∧ b = r.a))
theorem leg_bd (hr : ∀ r ∈ xs, goodR P r = true) {r : Road} {a b : Int} (h : IsLeg xs r a b) : (0 ≤ a ∧ a < P) ∧ (0 ≤ b ∧ b < P) ∧ 1 ≤ r.minutes ∧ r.minutes ≤ 100 ∧ 0 ≤ r.closes ∧ r.closes ≤ 999 := by
  have hb := goodR_bd (hr r h.1)
  rcases h.2 with ⟨rfl, rfl⟩ | ⟨rfl, rfl⟩ <;> omega
theorem legA_mem {r : Road} {a b : Int} (h : IsLeg xs r a b) : legA r a b ∈ legsA xs := by
  refine List.mem_flatMap.2 ⟨r, h.1, ?_⟩
  rcases h.2 with ⟨rfl, rfl⟩ | ⟨rfl, rfl⟩ <;> simp
theorem legD_mem {r : Road} {a b : Int} (h : IsLeg xs r a b) : legD r b a ∈ legsD xs := by
  refine List.mem_flatMap.2 ⟨r, h.1, ?_⟩
  rcases h.2 with ⟨rfl, rfl⟩ | ⟨rfl, rfl⟩ <;> simp
theorem arr_leg (hr : ∀ r ∈ xs, goodR P r = true) (hF : F < P) (hm : 0 ≤ m ∧ m ≤ 999) {r : Road} {a b : Int} (h : IsLeg xs r a b) (h0 : 0 ≤ gi (arrA P xs F m) a) (hc : gi (arrA P xs F m) a + r.minutes ≤ r.closes) :
    0 ≤ gi (arrA P xs F m) b ∧ gi (arrA P xs F m) b ≤ gi (arrA P xs F m) a + r.minutes := by
  obtain ⟨ha, hb, hm1, _, hc0, hc1⟩ := leg_bd hr h
  have hA := arrA_arr hr hF hm
  have hge := legPass_fix (ls := legsA xs) (t := stA (arrA P xs F m)) (by rw [← stA_pass hr hA, arrA_fix hr hF hm]) (legA_mem h)
  generalize arrA P xs F m = s at *
  have e1 : ((a.toNat : Nat) : Int) = a := by omega
  have e2 : ((b.toNat : Nat) : Int) = b := by omega
  have hba := hA.bd a
  have hbb := hA.bd b
  simp only [legA, stA, e1, e2] at hge
  unfold legFA valA at hge
  split at hge <;> split at hge <;> (try split at hge) <;> omega
theorem dep_leg (hr : ∀ r ∈ xs, goodR P r = true) (hT : T < P) {r : Road} {a b : Int} (h : IsLeg xs r a b) (h0 : 0 ≤ gi (arrD P xs T 999) b) (hc : 0 ≤ min (gi (arrD P xs T 999) b) r.closes - r.minutes) :
    min (gi (arrD P xs T 999) b) r.closes - r.minutes ≤ gi (arrD P xs T 999) a := by
  obtain ⟨ha, hb, hm1, _, hc0, hc1⟩ := leg_bd hr h
  have hA := arrD_arr_ (m := 999) hr hT (by omega)
  have hge := legPass_fix (ls := legsD xs) (t := stD (arrD P xs T 999)) (by rw [← stD_pass hr hA, arrD_fix hr hT (by omega)]) (legD_mem h)
  generalize arrD P xs T 999 = s at *
  have e1 : ((a.toNat : Nat) : Int) = a := by omega
  have e2 : ((b.toNat : Nat) : Int) = b := by omega
  have hba := hA.bd a
  have hbb := hA.bd b
  simp only [legD, stD, e1, e2] at hge
  unfold legFD valD at hge
  split at hge <;> split at hge <;> (try split at hge) <;> omega
theorem arr_why (hr : ∀ r ∈ xs, goodR P r = true) (hF : F < P) (hm : 0 ≤ m ∧ m ≤ 999) {v : Nat} (hv : v ≠ F) (h0 : 0 ≤ gi (arrA P xs F m) v) :
    ∃ r a, IsLeg xs r a v ∧ 0 ≤ gi (arrA P xs F m) a ∧ gi (arrA P xs F m) a + r.minutes = gi (arrA P xs F m) v ∧ gi (arrA P xs F m) v ≤ r.closes := by
  obtain ⟨r, hrm, h | h⟩ := tight_of hr hF hm hv h0
  · obtain ⟨e, h1, h2, h3⟩ := tight_iff.1 h
    exact ⟨r, r.a, ⟨hrm, Or.inl ⟨rfl, e.symm⟩⟩, h1, by rw [← e]; exact h2, by rw [← e]; exact h3⟩
  · obtain ⟨e, h1, h2, h3⟩ := tight_iff.1 h
    exact ⟨r, r.b, ⟨hrm, Or.inr ⟨rfl, e.symm⟩⟩, h1, by rw [← e]; exact h2, by rw [← e]; exact h3⟩
theorem dep_why (hr : ∀ r ∈ xs, goodR P r = true) (hT : T < P) {v : Nat} (hv : v ≠ T) (h0 : 0 ≤ gi (arrD P xs T 999) v) :
    ∃ r b, IsLeg xs r v b ∧ 0 ≤ gi (arrD P xs T 999) b ∧ gi (arrD P xs T 999) v + r.minutes ≤ min (gi (arrD P xs T 999) b) r.closes := by
  have hA := arrD_arr_ (m := 999) hr hT (by omega)
  obtain ⟨_, _, _, h4⟩ := arrD_inv (m := 999) hr hT (by omega)
  generalize arrD P xs T 999 = s at hA h4 h0
  have hbv := hA.bd v
  have hlt : stD s v < 5000 := by unfold stD valD; split <;> omega
  obtain ⟨l, hl, hd, hf⟩ := h4 v hv hlt
  simp only [legsD, List.mem_flatMap, List.mem_cons, List.not_mem_nil, or_false] at hl
  obtain ⟨r, hrm, hl⟩ := hl
  have hgb := goodR_bd (hr r hrm)
  have key : ∀ a b : Int, 0 ≤ a → 0 ≤ b → l = legD r b a → a = v ∧ 0 ≤ gi s b ∧ gi s v + r.minutes ≤ min (gi s b) r.closes := fun a b ha hb e => by
    subst e
    have e1 : ((b.toNat : Nat) : Int) = b := by omega
    have e2 : (a.toNat : Nat) = v := hd
    have hbb := hA.bd b
    simp only [legD, stD, e1] at hf
    unfold legFD valD at hf
    refine ⟨by omega, ?_⟩
    split at hf <;> split at hf <;> (try split at hf) <;> omega
  rcases hl with e | e
  · obtain ⟨k1, k2, k3⟩ := key _ _ (by omega) (by omega) e
    exact ⟨r, _, ⟨hrm, by first | exact Or.inl ⟨k1.symm, rfl⟩ | exact Or.inr ⟨k1.symm, rfl⟩⟩, k2, k3⟩
  · obtain ⟨k1, k2, k3⟩ := key _ _ (by omega) (by omega) e
    exact ⟨r, _, ⟨hrm, by first | exact Or.inl ⟨k1.symm, rfl⟩ | exact Or.inr ⟨k1.symm, rfl⟩⟩, k2, k3⟩
theorem arr_first (hr : ∀ r ∈ xs, goodR P r = true) (hF : F < P) (hm : 0 ≤ m ∧ m ≤ 999) : gi (arrA P xs F m) F = m := by
  have hA := arrA_arr hr hF hm
  have h1 := (arrA_inv hr hF hm).1
  have hb := hA.bd F
  unfold stA valA at h1
  split at h1 <;> split at h1 <;> omega
theorem dep_last (hr : ∀ r ∈ xs, goodR P r = true) (hT : T < P) : gi (arrD P xs T 999) T = 999 := by
  have hA := arrD_arr_ (m := 999) hr hT (by omega)
  have h1 := (arrD_inv (m := 999) hr hT (by omega)).1
  have hb := hA.bd T
  unfold stD valD at h1
  split at h1 <;> split at h1 <;> omega
theorem dual_to (hr : ∀ r ∈ xs, goodR P r = true) (hF : F < P) (hT : T < P) (hm : 0 ≤ m ∧ m ≤ 999) : ∀ (k : Nat) (v : Nat), v < P → (gi (arrA P xs F m) v).toNat ≤ k → 0 ≤ gi (arrA P xs F m) v → gi (arrA P xs F m) v ≤ gi (arrD P xs T 999) v → m ≤ gi (arrD P xs T 999) F := by
  intro k
  induction k with
  | zero =>
    intro v hv hk h0 hd
    by_cases e : v = F
    · subst e; rw [arr_first hr hF hm] at hd; exact hd
    · obtain ⟨r, a, hl, h1, h2, h3⟩ := arr_why hr hF hm e h0
      have := leg_bd hr hl
      omega
  | succ k ih =>
    intro v hv hk h0 hd
    by_cases e : v = F
    · subst e; rw [arr_first hr hF hm] at hd; exact hd
    · obtain ⟨r, a, hl, h1, h2, h3⟩ := arr_why hr hF hm e h0
      have hb := leg_bd hr hl
      have h4 := dep_leg hr hT hl (by omega) (by omega)
      have ea : ((a.toNat : Nat) : Int) = a := by omega
      exact ih a.toNat (by omega) (by rw [ea]; omega) (by rw [ea]; exact h1) (by rw [ea]; omega)
theorem dual_from (hr : ∀ r ∈ xs, goodR P r = true) (hF : F < P) (hT : T < P) (hm : 0 ≤ m ∧ m ≤ 999) : ∀ (k : Nat) (v : Nat), v < P → (999 - gi (arrD P xs T 999) v).toNat ≤ k → 0 ≤ gi (arrA P xs F m) v → gi (arrA P xs F m) v ≤ gi (arrD P xs T 999) v → 0 ≤ gi (arrA P xs F m) T := by
  intro k
  induction k with
  | zero =>
    intro v hv hk h0 hd
    by_cases e : v = T
    · subst e; exact h0
    · obtain ⟨r, b, hl, h1, h2⟩ := dep_why hr hT e (by omega)
      have := leg_bd hr hl
      have := (arrD_arr_ (m := 999) hr hT (by omega)).bd b
      omega
  | succ k ih =>
    intro v hv hk h0 hd
    by_cases e : v = T
    · subst e; exact h0
    · obtain ⟨r, b, hl, h1, h2⟩ := dep_why hr hT e (by omega)
      have hb := leg_bd hr hl
      have h4 := arr_leg hr hF hm hl h0 (by omega)
      have eb : ((b.toNat : Nat) : Int) = b := by omega
      exact ih b.toNat (by omega) (by rw [eb]; omega) (by rw [eb]; exact h4.1) (by rw [eb]; omega)
/-- A trip that begins at the last minute or before arrives, and one that begins later does not. -/
theorem dual (hr : ∀ r ∈ xs, goodR P r = true) (hF : F < P) (hT : T < P) (hm : 0 ≤ m ∧ m ≤ 999) : 0 ≤ gi (arrA P xs F m) T ↔ m ≤ gi (arrD P xs T 999) F := by
  constructor
  · intro h
    refine dual_to hr hF hT hm _ T hT (Nat.le_refl _) h ?_
    rw [dep_last hr hT]
    exact ((arrA_arr hr hF hm).bd T).2
  · intro h
    refine dual_from hr hF hT hm _ F hF (Nat.le_refl _) ?_ ?_
    · rw [arr_first hr hF hm]; omega
    · rw [arr_first hr hF hm]; exact h
end
end Go.Proofs.Ytfimchbjpambfaa
