/-
  Rosters, plainly: the hours of all stints, what lies between them, what fits into a span.
-/
import Derived.Test.YtlffolfooiijhaaRostStTop
import Derived.Test.YtlffolfooiijhaaRostIns
import Derived.Test.YtlffolfooiijhaaRostStable
namespace Go.Proofs.Ytlffolfooiijhaa
open Go.RowKit

theorem clash_no {y x : Duty} (h : clashD y x = false) : y.crew ≤ x.crew ∧ (y.crew = x.crew → y.til ≤ x.fr) := by
  simp only [clashD, Bool.or_eq_false_iff, Bool.and_eq_false_iff, decide_eq_false_iff_not] at h
  omega
/-- In a roster an earlier duty of the same crew is over before a later one begins. -/
theorem roster_apart {xs : List Duty} (h : rosterB xs = true) : ∀ (k i : Nat) (y x : Duty), xs[i]? = some y → xs[i + 1 + k]? = some x → y.crew ≤ x.crew ∧ (y.crew = x.crew → y.til ≤ x.fr)
  | 0, i, y, x, hy, hx => clash_no (rosterB_at h hy hx)
  | k + 1, i, y, x, hy, hx => by
    have hl : i + 1 + k < xs.length := by have := (List.getElem?_eq_some_iff.1 hx).1; omega
    obtain ⟨z, hz⟩ : ∃ z, xs[i + 1 + k]? = some z := get_of_lt hl
    have h1 := roster_apart h k i y z hy hz
    have h2 := clash_no (rosterB_at h hz (by rw [show i + 1 + k + 1 = i + 1 + (k + 1) by omega]; exact hx))
    have h3 := goodD_bd (rosterB_all h _ z hz)
    omega
theorem roster_after {xs : List Duty} (h : rosterB xs = true) {i j : Nat} {y x : Duty} (hy : xs[i]? = some y) (hx : xs[j]? = some x) (hij : i < j) (hc : y.crew = x.crew) : y.til ≤ x.fr := by
  obtain ⟨k, rfl⟩ : ∃ k, j = i + 1 + k := ⟨j - i - 1, by omega⟩
  exact (roster_apart h k i y x hy hx).2 hc
/-- What the stints of the first duties are. -/
structure StInv (xs : List Duty) (cr : Int) (i : Nat) (ps : List (Int × Int)) : Prop where
  sum : (ps.map fun p => p.2 - p.1).sum = hoursN (xs.take i) cr 0 500
  sep : ∀ (k : Nat) (p q : Int × Int), ps[k]? = some p → ps[k + 1]? = some q → p.2 < q.1
  bd : ∀ p ∈ ps, 0 ≤ p.1 ∧ p.1 < p.2 ∧ p.2 ≤ 500
  first : ∀ p, ps[0]? = some p → ∀ (j : Nat) (x : Duty), j < i → xs[j]? = some x → x.crew = cr → p.1 ≤ x.fr
  last : ∀ p, ps.getLast? = some p → (∀ (j : Nat) (x : Duty), j < i → xs[j]? = some x → x.crew = cr → x.til ≤ p.2) ∧ ∃ (j : Nat) (x : Duty), j < i ∧ xs[j]? = some x ∧ x.crew = cr ∧ x.til = p.2
  none_ : ps = [] → ∀ (j : Nat) (x : Duty), j < i → xs[j]? = some x → x.crew ≠ cr
theorem partD_all {x : Duty} (h : goodD x = true) : partD x x.crew 0 500 = x.til - x.fr := by
  have := goodD_bd h
  rw [partD, if_pos rfl]; omega
theorem partD_not {x : Duty} {c f t : Int} (h : x.crew ≠ c) : partD x c f t = 0 := by rw [partD, if_neg h]
theorem st_none {xs : List Duty} {cr : Int} {i : Nat} {ps : List (Int × Int)} (h : StInv xs cr i ps) {x : Duty} (hx : xs[i]? = some x) (hc : x.crew ≠ cr) : StInv xs cr (i + 1) ps := by
  have key : ∀ (j : Nat) (y : Duty), j < i + 1 → xs[j]? = some y → y.crew = cr → j < i := fun j y hj hy hcy => by
    rcases Nat.lt_or_ge j i with h1 | h1
    · exact h1
    · obtain rfl : j = i := by omega
      rw [hx] at hy
      cases hy
      exact absurd hcy hc
  refine ⟨?_, h.sep, h.bd, fun p hp j y hj hy hcy => h.first p hp j y (key j y hj hy hcy) hy hcy, fun p hp => ?_, fun he j y hj hy hcy => h.none_ he j y (key j y hj hy hcy) hy hcy⟩
  · rw [hours_next hx, partD_not hc, h.sum, Int.add_zero]
  · obtain ⟨h1, j, y, hj, hy, hcy, he⟩ := h.last p hp
    exact ⟨fun j y hj hy hcy => h1 j y (key j y hj hy hcy) hy hcy, j, y, by omega, hy, hcy, he⟩
theorem st_push {xs : List Duty} {cr : Int} {i : Nat} {ps : List (Int × Int)} (hr : rosterB xs = true) (h : StInv xs cr i ps) {x : Duty} (hx : xs[i]? = some x) (hc : x.crew = cr) (hne : ∀ p, ps.getLast? = some p → p.2 ≠ x.fr) : StInv xs cr (i + 1) (ps ++ [(x.fr, x.til)]) := by
  have hgx := rosterB_all hr i x hx
  have hb := goodD_bd hgx
  have old : ∀ (j : Nat) (y : Duty), j < i → xs[j]? = some y → y.crew = cr → y.til ≤ x.fr := fun j y hj hy hcy => roster_after hr hy hx hj (by omega)
  refine ⟨?_, fun k p q hp hq => ?_, fun p hp => ?_, fun p hp j y hj hy hcy => ?_, fun p hp => ?_, fun he => by simp at he⟩
  · rw [hours_next hx, List.map_append, List.sum_append, h.sum]
    subst hc
    rw [partD_all hgx]
    simp
  · have hk : k + 1 < (ps ++ [(x.fr, x.til)]).length := (List.getElem?_eq_some_iff.1 hq).1
    simp only [List.length_append, List.length_cons, List.length_nil] at hk
    rw [List.getElem?_append_left (by omega)] at hp
    rcases Nat.lt_or_ge (k + 1) ps.length with h1 | h1
    · rw [List.getElem?_append_left h1] at hq
      exact h.sep k p q hp hq
    · have hl : ps.getLast? = some p := by rw [List.getLast?_eq_getElem?, show ps.length - 1 = k by omega]; exact hp
      rw [List.getElem?_append_right h1, show k + 1 - ps.length = 0 by omega] at hq
      simp only [List.getElem?_cons_zero, Option.some.injEq] at hq
      subst hq
      obtain ⟨_, j, y, hj, hy, hcy, he⟩ := h.last p hl
      have h2 := old j y hj hy hcy
      have h3 := hne p hl
      show p.2 < x.fr
      omega
  · rcases List.mem_append.1 hp with h1 | h1
    · exact h.bd p h1
    · simp only [List.mem_singleton] at h1
      subst h1
      show 0 ≤ x.fr ∧ x.fr < x.til ∧ x.til ≤ 500
      omega
  · rcases ps with _ | ⟨p0, ps⟩
    · simp only [List.nil_append, List.getElem?_cons_zero, Option.some.injEq] at hp
      subst hp
      rcases Nat.lt_or_ge j i with h1 | h1
      · exact absurd hcy (h.none_ rfl j y h1 hy)
      · obtain rfl : j = i := by omega
        rw [hx] at hy
        cases hy
        exact Int.le_refl _
    · have hp' : (p0 :: ps)[0]? = some p := by simpa using hp
      rcases Nat.lt_or_ge j i with h1 | h1
      · exact h.first p hp' j y h1 hy hcy
      · obtain rfl : j = i := by omega
        rw [hx] at hy
        cases hy
        obtain ⟨q, hq⟩ : ∃ q, (p0 :: ps).getLast? = some q := by
          rcases hl : (p0 :: ps).getLast? with _ | q
          · simp at hl
          · exact ⟨q, rfl⟩
        obtain ⟨_, j, z, hj, hz, hcz, he⟩ := h.last q hq
        have h2 := old j z hj hz hcz
        have h3 := h.first p hp' j z hj hz hcz
        have h4 := goodD_bd (rosterB_all hr j z hz)
        omega
  · rw [List.getLast?_append] at hp
    simp only [List.getLast?_singleton, Option.some_or, Option.some.injEq] at hp
    subst hp
    refine ⟨fun j y hj hy hcy => ?_, i, x, by omega, hx, hc, rfl⟩
    show y.til ≤ x.til
    rcases Nat.lt_or_ge j i with h1 | h1
    · have := old j y h1 hy hcy
      omega
    · obtain rfl : j = i := by omega
      rw [hx] at hy
      cases hy
      exact Int.le_refl _
theorem st_join {xs : List Duty} {cr : Int} {i : Nat} {ps : List (Int × Int)} {p : Int × Int} (hr : rosterB xs = true) (h : StInv xs cr i (ps ++ [p])) {x : Duty} (hx : xs[i]? = some x) (hc : x.crew = cr) (he : p.2 = x.fr) : StInv xs cr (i + 1) (ps ++ [(p.1, x.til)]) := by
  have hgx := rosterB_all hr i x hx
  have hb := goodD_bd hgx
  have old : ∀ (j : Nat) (y : Duty), j < i → xs[j]? = some y → y.crew = cr → y.til ≤ x.fr := fun j y hj hy hcy => roster_after hr hy hx hj (by omega)
  have hpb := h.bd p (by simp)
  have hnew : ∀ q, (ps ++ [(p.1, x.til)])[0]? = some q → ∃ q', (ps ++ [p])[0]? = some q' ∧ q'.1 = q.1 := fun q hq => by
    rcases ps with _ | ⟨p0, ps⟩
    · simp only [List.nil_append, List.getElem?_cons_zero, Option.some.injEq] at hq
      subst hq
      exact ⟨p, rfl, rfl⟩
    · exact ⟨q, by simpa using hq, rfl⟩
  refine ⟨?_, fun k q r hq hr' => ?_, fun q hq => ?_, fun q hq j y hj hy hcy => ?_, fun q hq => ?_, fun he => by simp at he⟩
  · have h1 := h.sum
    rw [hours_next hx, List.map_append, List.sum_append]
    rw [List.map_append, List.sum_append] at h1
    subst hc
    rw [partD_all hgx]
    simp only [List.map_cons, List.map_nil, List.sum_cons, List.sum_nil] at h1 ⊢
    omega
  · have hk : k + 1 < (ps ++ [(p.1, x.til)]).length := (List.getElem?_eq_some_iff.1 hr').1
    simp only [List.length_append, List.length_cons, List.length_nil] at hk
    rw [List.getElem?_append_left (by omega)] at hq
    rcases Nat.lt_or_ge (k + 1) ps.length with h1 | h1
    · rw [List.getElem?_append_left h1] at hr'
      exact h.sep k q r (by rw [List.getElem?_append_left (by omega)]; exact hq) (by rw [List.getElem?_append_left h1]; exact hr')
    · rw [List.getElem?_append_right h1, show k + 1 - ps.length = 0 by omega] at hr'
      simp only [List.getElem?_cons_zero, Option.some.injEq] at hr'
      subst hr'
      exact h.sep k q p (by rw [List.getElem?_append_left (by omega)]; exact hq) (by rw [List.getElem?_append_right h1, show k + 1 - ps.length = 0 by omega]; rfl)
  · rcases List.mem_append.1 hq with h1 | h1
    · exact h.bd q (by simp [h1])
    · simp only [List.mem_singleton] at h1
      subst h1
      show 0 ≤ p.1 ∧ p.1 < x.til ∧ x.til ≤ 500
      omega
  · obtain ⟨q', hq', e⟩ := hnew q hq
    rw [← e]
    rcases Nat.lt_or_ge j i with h1 | h1
    · exact h.first q' hq' j y h1 hy hcy
    · obtain rfl : j = i := by omega
      rw [hx] at hy
      cases hy
      obtain ⟨_, j, z, hj, hz, hcz, he⟩ := h.last p (by simp)
      have h2 := old j z hj hz hcz
      have h3 := h.first q' hq' j z hj hz hcz
      have h4 := goodD_bd (rosterB_all hr j z hz)
      omega
  · rw [List.getLast?_append] at hq
    simp only [List.getLast?_singleton, Option.some_or, Option.some.injEq] at hq
    subst hq
    refine ⟨fun j y hj hy hcy => ?_, i, x, by omega, hx, hc, rfl⟩
    show y.til ≤ x.til
    rcases Nat.lt_or_ge j i with h1 | h1
    · have := old j y h1 hy hcy
      omega
    · obtain rfl : j = i := by omega
      rw [hx] at hy
      cases hy
      exact Int.le_refl _
theorem st_inv {xs : List Duty} (cr : Int) (hr : rosterB xs = true) : ∀ i, i ≤ xs.length → StInv xs cr i (stintsP (xs.take i) cr)
  | 0, _ => ⟨by simp [stintsP, hoursN], by simp [stintsP], by simp [stintsP], by simp [stintsP], by simp [stintsP], fun _ j _ hj => absurd hj (by omega)⟩
  | i + 1, hi => by
    have ih := st_inv cr hr i (by omega)
    obtain ⟨x, hx⟩ : ∃ x, xs[i]? = some x := get_of_lt (by omega)
    rw [stints_next hx, stepP]
    generalize stintsP (xs.take i) cr = ps at ih
    split
    · rename_i hc
      split
      · rename_i p hp
        obtain ⟨qs, rfl⟩ := List.getLast?_eq_some_iff.1 hp
        split
        · rename_i he
          rw [List.dropLast_concat]
          exact st_join hr ih hx hc he
        · rename_i he
          exact st_push hr ih hx hc (fun p' hp' => by rw [hp] at hp'; cases hp'; exact he)
      · rename_i hp
        have := st_push hr ih hx hc (fun p' hp' => by rw [hp] at hp'; cases hp')
        rw [List.getLast?_eq_none_iff] at hp
        rw [hp] at this
        exact this
    · rename_i hc
      exact st_none ih hx hc
theorem st_all {xs : List Duty} (cr : Int) (hr : rosterB xs = true) : StInv xs cr xs.length (stintsP xs cr) := by
  have := st_inv cr hr xs.length (Nat.le_refl _)
  rwa [List.take_length] at this
/-- No more hours than there are. -/
theorem hours_fit {xs : List Duty} (cr : Int) {f t : Int} (hr : rosterB xs = true) (h0 : 0 ≤ f) (_h1 : f ≤ t) : ∀ i, i ≤ xs.length → ∃ E : Int, 0 ≤ E ∧ hoursN (xs.take i) cr f t ≤ max 0 (min E t - f) ∧ ∀ (j : Nat) (x : Duty), i ≤ j → xs[j]? = some x → x.crew = cr → E ≤ x.fr
  | 0, _ => ⟨0, by omega, by simp [hoursN]; omega, fun j x _ hx _ => (goodD_bd (rosterB_all hr j x hx)).2.2.1⟩
  | i + 1, hi => by
    obtain ⟨E, hE, hs, hl⟩ := hours_fit cr hr h0 _h1 i (by omega)
    obtain ⟨x, hx⟩ : ∃ x, xs[i]? = some x := get_of_lt (by omega)
    rw [hours_next hx]
    have hb := goodD_bd (rosterB_all hr i x hx)
    by_cases hc : x.crew = cr
    · have h2 := hl i x (Nat.le_refl _) hx hc
      refine ⟨x.til, by omega, ?_, fun j y hj hy hcy => roster_after hr hx hy (by omega) (by omega)⟩
      rw [partD, if_pos hc]
      omega
    · exact ⟨E, hE, by rw [partD_not hc]; omega, fun j y hj hy hcy => hl j y (by omega) hy hcy⟩
theorem hours_le {xs : List Duty} (cr : Int) {f t : Int} (hr : rosterB xs = true) (h0 : 0 ≤ f) (h1 : f ≤ t) : hoursN xs cr f t ≤ t - f := by
  obtain ⟨E, _, hs, _⟩ := hours_fit cr hr h0 h1 xs.length (Nat.le_refl _)
  rw [List.take_length] at hs
  omega
theorem hours_mono {cr f t : Int} (h0 : 0 ≤ f) : ∀ xs : List Duty, allD xs → hoursN xs cr f t ≤ hoursN xs cr 0 500
  | [], _ => by simp [hoursN]
  | x :: xs, h => by
    have ih := hours_mono (cr := cr) (t := t) h0 xs (fun i y hy => h (i + 1) y hy)
    have hb := goodD_bd (h 0 x rfl)
    simp only [hoursN, List.map_cons, List.sum_cons] at ih ⊢
    have : partD x cr f t ≤ partD x cr 0 500 := by
      unfold partD
      split <;> omega
    omega
theorem hours_within {cr f t : Int} : ∀ xs : List Duty, allD xs → (∀ x ∈ xs, x.crew = cr → f ≤ x.fr ∧ x.til ≤ t) → hoursN xs cr f t = hoursN xs cr 0 500
  | [], _, _ => by simp [hoursN]
  | x :: xs, h, hw => by
    have ih := hours_within (cr := cr) (f := f) (t := t) xs (fun i y hy => h (i + 1) y hy) (fun y hy => hw y (by simp [hy]))
    have hb := goodD_bd (h 0 x rfl)
    simp only [hoursN, List.map_cons, List.sum_cons] at ih ⊢
    have : partD x cr f t = partD x cr 0 500 := by
      by_cases hc : x.crew = cr
      · have := hw x (by simp) hc
        rw [partD, if_pos hc, partD, if_pos hc]
        omega
      · rw [partD_not hc, partD_not hc]
    omega
theorem mostU_le {xs : List Duty} {cr s M : Int} (h0 : 0 ≤ M) (h : ∀ k : Nat, hoursN xs cr k (k + s) ≤ M) : ∀ k, mostU xs cr s k ≤ M
  | 0 => by simpa [mostU] using h0
  | k + 1 => by
    have := mostU_le h0 h k
    have := h k
    simp only [mostU]
    omega
theorem mostU_ge {xs : List Duty} {cr s : Int} : ∀ {K : Nat} {k : Nat}, k < K → hoursN xs cr k (k + s) ≤ mostU xs cr s K
  | 0, _, h => absurd h (by omega)
  | K + 1, k, h => by
    simp only [mostU]
    rcases Nat.lt_or_ge k K with h1 | h1
    · have := mostU_ge (xs := xs) (cr := cr) (s := s) h1
      omega
    · obtain rfl : k = K := by omega
      omega
theorem most_span {xs : List Duty} {cr s : Int} (hr : rosterB xs = true) (hs : 0 ≤ s) : mostN xs cr s ≤ s := by
  obtain ⟨K, hK⟩ : ∃ K : Nat, K = 500 := ⟨_, rfl⟩
  rw [← mostN_eq hK]
  refine mostU_le hs (fun k => ?_) K
  have := hours_le cr hr (f := k) (t := k + s) (by omega) (by omega)
  omega
theorem most_all {xs : List Duty} {cr s : Int} (hr : rosterB xs = true) : mostN xs cr s ≤ hoursN xs cr 0 500 := by
  obtain ⟨K, hK⟩ : ∃ K : Nat, K = 500 := ⟨_, rfl⟩
  rw [← mostN_eq hK]
  have hg := rosterB_all hr
  refine mostU_le (hours_bd2 hg (by have := rosterB_len hr; omega)).1 (fun k => hours_mono (by omega) xs hg) K
theorem most_full {xs : List Duty} {cr s : Int} (hr : rosterB xs = true) {p q : Int × Int} (hp : (stintsP xs cr)[0]? = some p) (hq : (stintsP xs cr).getLast? = some q) (hs : q.2 - p.1 ≤ s) : mostN xs cr s = hoursN xs cr 0 500 := by
  have hI := st_all cr hr
  have hg := rosterB_all hr
  have hb := hI.bd p (List.mem_of_getElem? hp)
  have h1 := most_all (cr := cr) (s := s) hr
  obtain ⟨K, hK⟩ : ∃ K : Nat, K = 500 := ⟨_, rfl⟩
  obtain ⟨k, hk⟩ : ∃ k : Nat, p.1 = k := ⟨p.1.toNat, by omega⟩
  have h2 := mostU_ge (xs := xs) (cr := cr) (s := s) (K := K) (k := k) (by omega)
  rw [mostN_eq hK] at h2
  have h3 := hours_within (cr := cr) (f := k) (t := k + s) xs hg (fun x hx hc => by
    obtain ⟨j, hj⟩ := List.getElem?_of_mem hx
    have hjl := (List.getElem?_eq_some_iff.1 hj).1
    have h4 := hI.first p hp j x hjl hj hc
    have h5 := (hI.last q hq).1 j x hjl hj hc
    omega)
  omega
/-- What the law says of all stints. -/
theorem stints_law (xs : List Duty) (cr : Int) : ∃ ps : List (Int × Int), (stintsR xs cr).1 = pairs ps ∧ (hoursOfR xs cr).1 = (ps.map fun p => p.2 - p.1).sum ∧ (hoursOfR xs cr).2 = (stintsR xs cr).2 ∧ ps.length ≤ 12 ∧ (∀ (k : Nat) (p q : Int × Int), ps[k]? = some p → ps[k + 1]? = some q → p.2 < q.1) ∧ (∀ p ∈ ps, 0 ≤ p.1 ∧ p.1 < p.2 ∧ p.2 ≤ 500) := by
  unfold stintsR hoursOfR
  split
  · rename_i hc
    simp only [Bool.and_eq_true] at hc
    have h := st_all cr hc.1
    have hl := stints_len xs cr xs.length
    rw [List.take_length] at hl
    have := rosterB_len hc.1
    refine ⟨stintsP xs cr, rfl, ?_, rfl, by omega, h.sep, h.bd⟩
    rw [h.sum, List.take_length]
  · exact ⟨[], rfl, rfl, rfl, by simp, by simp, by simp⟩
theorem diff_bd {ps : List (Int × Int)} (h : ∀ p ∈ ps, 0 ≤ p.1 ∧ p.1 < p.2 ∧ p.2 ≤ 500) : ∀ i : Nat, 0 ≤ ((ps.take i).map fun p => p.2 - p.1).sum ∧ ((ps.take i).map fun p => p.2 - p.1).sum ≤ 500 * i
  | 0 => by simp
  | i + 1 => by
    have ih := diff_bd h i
    rcases hx : ps[i]? with _ | p
    · rw [List.take_add_one, hx]
      simp only [Option.toList_none, List.append_nil]
      omega
    · have := h p (List.mem_of_getElem? hx)
      rw [List.take_add_one, hx, List.map_append, List.sum_append]
      simp only [Option.toList_some, List.map_cons, List.map_nil, List.sum_cons, List.sum_nil]
      omega
theorem diff_next {ps : List (Int × Int)} {i : Nat} {p : Int × Int} (hx : ps[i]? = some p) : ((ps.take (i + 1)).map fun p => p.2 - p.1).sum = ((ps.take i).map fun p => p.2 - p.1).sum + p.2 - p.1 := by
  rw [List.take_add_one, hx, List.map_append, List.sum_append]
  simp only [Option.toList_some, List.map_cons, List.map_nil, List.sum_cons, List.sum_nil]
  omega
/-- What the law says of the longest span. -/
theorem most_law {xs : List Duty} {cr s : Int} (h : (mostR xs cr s).2 = true) : 0 ≤ (mostR xs cr s).1 ∧ (mostR xs cr s).1 ≤ s ∧ s ≤ 200 ∧ (hoursOfR xs cr).2 = true ∧ (mostR xs cr s).1 ≤ (hoursOfR xs cr).1 ∧ (hoursOfR xs cr).1 ≤ 6500 ∧ ∃ ps : List (Int × Int), stintsR xs cr = (pairs ps, true) ∧ ps.length ≤ 12 ∧ (∀ p ∈ ps, 0 ≤ p.1 ∧ p.1 < p.2 ∧ p.2 ≤ 500)
    ∧ ∀ p q, ps[0]? = some p → ps[ps.length - 1]? = some q → q.2 - p.1 ≤ s → (mostR xs cr s).1 = (hoursOfR xs cr).1 := by
  unfold mostR at h ⊢
  split at h
  · rename_i hc
    rw [if_pos hc]
    simp only [Bool.and_eq_true] at hc
    obtain ⟨⟨h1, h2⟩, h3⟩ := hc
    have hb := inB_iff.1 h3
    have hI := st_all cr h1
    have hl := stints_len xs cr xs.length
    rw [List.take_length] at hl
    have hlx := rosterB_len h1
    have hg := rosterB_all h1
    have e1 : hoursOfR xs cr = (hoursN xs cr 0 500, true) := by rw [hoursOfR, h1, h2]; rfl
    have e2 : stintsR xs cr = (pairs (stintsP xs cr), true) := by rw [stintsR, h1, h2]; rfl
    have h0 : 0 ≤ mostN xs cr s := by
      obtain ⟨K, hK⟩ : ∃ K : Nat, K = 500 := ⟨_, rfl⟩
      rw [← mostN_eq hK]
      exact (mostU_bd hg (by omega) K).1
    rw [e1, e2]
    refine ⟨h0, most_span h1 (by omega), hb.2, rfl, most_all h1, (hours_bd2 hg (by omega)).2, stintsP xs cr, rfl, by omega, hI.bd, fun p q hp hq hs => ?_⟩
    exact most_full h1 hp (by rw [List.getLast?_eq_getElem?]; exact hq) hs
  · cases h
theorem add_law {xs : List Duty} {d : Duty} (h : (addR xs d).2 = true) : rosterB (addR xs d).1 = true ∧ (addR xs d).1.length = xs.length + 1 := by
  unfold addR at h ⊢
  split at h
  · rename_i hc
    rw [if_pos hc]
    simp only [Bool.and_eq_true] at hc
    exact ⟨hc.2, insS_len xs d⟩
  · cases h
end Go.Proofs.Ytlffolfooiijhaa
