/-
  Trips as plain functions: each place that is reached has a leg that reaches it in time, the smallest place before it, the places of the trip.
-/
import Derived.Test.YtfimchbjpambfaaRoadArrS
namespace Go.Proofs.Ytfimchbjpambfaa
open Go.RowKit

theorem legPass_fix {ls : List Leg} {t : Nat → Nat} (h : legPass ls t = t) {l : Leg} (hl : l ∈ ls) : t l.dst ≤ l.f (t l.src) := by
  obtain ⟨ls1, ls2, rfl⟩ := List.append_of_mem hl
  rw [legPass_mid] at h
  have h1 : ∀ v, t v ≤ legStep (legPass ls1 t) l v := fun v => by
    have := legPass_le ls2 (legStep (legPass ls1 t) l) v
    rwa [h] at this
  have h2 : legPass ls1 t = t := funext fun v => Nat.le_antisymm (legPass_le ls1 t v) (Nat.le_trans (h1 v) (legStep_le _ _ v))
  have h3 := h1 l.dst
  rw [h2] at h3
  unfold legStep at h3
  rw [if_pos rfl] at h3
  omega
theorem runA_shift (rs : List Road) (s : List Int) : ∀ k, runA rs k (passA rs s) = runA rs (k + 1) s
  | 0 => rfl
  | k + 1 => by
    show passA rs (runA rs k (passA rs s)) = passA rs (runA rs (k + 1) s)
    rw [runA_shift rs s k]
theorem runA_fix {P : Nat} {rs : List Road} (hr : ∀ r ∈ rs, goodR P r = true) : ∀ (n : Nat) (s : List Int), Arr P s → totA P s ≤ n → ∃ K, passA rs (runA rs K s) = runA rs K s := by
  intro n
  induction n with
  | zero =>
    intro s hs ht
    refine ⟨0, arr_extA (hs.passA hr) hs fun v hv => ?_⟩
    have h1 : stA (passA rs s) v ≤ stA s v := by rw [stA_pass hr hs]; exact legPass_le _ _ _
    have h2 : ¬ stA (passA rs s) v < stA s v := fun h => by
      have : totA P (passA rs s) < totA P s := sum_map_lt (v0 := v) (fun u _ => by rw [stA_pass hr hs]; exact legPass_le _ _ _) (List.mem_range.2 hv) h
      omega
    show stA (passA rs s) v = stA s v
    omega
  | succ n ih =>
    intro s hs ht
    by_cases hf : passA rs s = s
    · exact ⟨0, hf⟩
    · have hlt : totA P (passA rs s) < totA P s := by
        rcases Nat.lt_or_ge (totA P (passA rs s)) (totA P s) with h | h
        · exact h
        · refine absurd (arr_extA (hs.passA hr) hs fun v hv => ?_) hf
          have h1 : stA (passA rs s) v ≤ stA s v := by rw [stA_pass hr hs]; exact legPass_le _ _ _
          have h2 : ¬ stA (passA rs s) v < stA s v := fun h3 => by
            have : totA P (passA rs s) < totA P s := sum_map_lt (v0 := v) (fun u _ => by rw [stA_pass hr hs]; exact legPass_le _ _ _) (List.mem_range.2 hv) h3
            omega
          omega
      obtain ⟨K, hK⟩ := ih (passA rs s) (hs.passA hr) (by omega)
      refine ⟨K + 1, ?_⟩
      rwa [runA_shift] at hK
section
variable {P F : Nat} {xs : List Road} {m : Int}
theorem arrA_arr (hr : ∀ r ∈ xs, goodR P r = true) (hF : F < P) (hm : 0 ≤ m ∧ m ≤ 999) : Arr P (arrA P xs F m) := (arr_start hF hm).runA hr P
theorem arrA_fix (hr : ∀ r ∈ xs, goodR P r = true) (hF : F < P) (hm : 0 ≤ m ∧ m ≤ 999) : passA xs (arrA P xs F m) = arrA P xs F m := by
  obtain ⟨K, hK⟩ := runA_fix hr _ _ (arr_start hF hm) (Nat.le_refl _)
  have := runA_done hr hF hm hK
  unfold arrA
  rw [← this]
  exact hK
theorem arrA_inv (hr : ∀ r ∈ xs, goodR P r = true) (hF : F < P) (hm : 0 ≤ m ∧ m ≤ 999) : LegInv 5000 F (valA m) (legsA xs) (stA (arrA P xs F m)) := by
  have hst : stA ((List.replicate P (-1)).set F m) = legStart 5000 F (valA m) := by
    funext v
    unfold stA legStart gi
    rw [List.getD_eq_getElem?_getD, List.getElem?_set]
    simp only [Int.toNat_natCast]
    by_cases e : F = v
    · subst e
      simp [hF]
    · rw [if_neg e, if_neg (fun h => e h.symm), List.getElem?_replicate]
      split <;> simp [valA]
  have hm5 : valA m < 5000 := by unfold valA; split <;> omega
  unfold arrA
  rw [stA_run hr (arr_start hF hm), hst]
  exact legInv_run (legsA_ok hr) hm5 P
def tightB (s : List Int) (r : Road) (a b v : Int) : Bool := decide (b = v) && decide (0 ≤ gi s a) && decide (gi s a + r.minutes = gi s b) && decide (gi s b ≤ r.closes)
theorem tight_iff {s : List Int} {r : Road} {a b v : Int} : tightB s r a b v = true ↔ b = v ∧ 0 ≤ gi s a ∧ gi s a + r.minutes = gi s b ∧ gi s b ≤ r.closes := by
  simp only [tightB, Bool.and_eq_true, decide_eq_true_eq]
  omega
/-- Each place that is reached, other than the first, is reached by a leg in time. -/
theorem tight_of (hr : ∀ r ∈ xs, goodR P r = true) (hF : F < P) (hm : 0 ≤ m ∧ m ≤ 999) {v : Nat} (hv : v ≠ F) (h0 : 0 ≤ gi (arrA P xs F m) v) :
    ∃ r ∈ xs, tightB (arrA P xs F m) r r.a r.b v = true ∨ tightB (arrA P xs F m) r r.b r.a v = true := by
  have hA := arrA_arr hr hF hm
  have hfx := arrA_fix hr hF hm
  obtain ⟨_, _, _, h4⟩ := arrA_inv hr hF hm
  generalize arrA P xs F m = s at hA hfx h4 h0
  have hbv := hA.bd v
  have hlt : stA s v < 5000 := by unfold stA valA; split <;> omega
  obtain ⟨l, hl, hd, hf⟩ := h4 v hv hlt
  have hge := legPass_fix (ls := legsA xs) (t := stA s) (by rw [← stA_pass hr hA, hfx]) hl
  rw [hd] at hge
  have heq : l.f (stA s l.src) = stA s v := Nat.le_antisymm hf hge
  simp only [legsA, List.mem_flatMap, List.mem_cons, List.not_mem_nil, or_false] at hl
  obtain ⟨r, hrm, hl⟩ := hl
  have hg := hr r hrm
  have hgb := goodR_bd hg
  have key : ∀ a b : Int, 0 ≤ a → 0 ≤ b → l = legA r a b → tightB s r a b v = true := fun a b ha hb e => by
    subst e
    have e1 : ((a.toNat : Nat) : Int) = a := by omega
    have e2 : (b.toNat : Nat) = v := hd
    have e3 : b = v := by omega
    have hba := hA.bd a
    simp only [legA, stA, e1] at heq
    rw [tight_iff]
    rw [e3]
    unfold legFA valA at heq
    split at heq <;> split at heq <;> (try split at heq) <;> omega
  rcases hl with e | e
  · exact ⟨r, hrm, Or.inl (key _ _ (by omega) (by omega) e)⟩
  · exact ⟨r, hrm, Or.inr (key _ _ (by omega) (by omega) e)⟩
end
/-- The smallest place before another one, as the program finds it: the least of all legs that reach it in time. -/
def befStep (s : List Int) (v acc : Int) (r : Road) (a b : Int) : Int := if tightB s r a b v then min acc a else acc
def befRoad (s : List Int) (v acc : Int) (r : Road) : Int := befStep s v (befStep s v acc r r.a r.b) r r.b r.a
def befFold (s : List Int) (v : Int) (xs : List Road) (acc : Int) : Int := xs.foldl (befRoad s v) acc
theorem befFold_next {s : List Int} {v acc : Int} {xs : List Road} {i : Nat} {x : Road} (hx : xs[i]? = some x) : befFold s v (xs.take (i + 1)) acc = befStep s v (befStep s v (befFold s v (xs.take i) acc) x x.a x.b) x x.b x.a := by
  rw [List.take_add_one, hx]
  simp [befFold, befRoad]
/-- As the reference finds it: the first place that has such a road. -/
def canB (s : List Int) (v : Int) (r : Road) (a : Int) : Bool := decide (otherI r a = v) && decide (0 ≤ gi s a) && decide (rideA r (gi s a) = gi s v)
def canAny (s : List Int) (v : Int) (xs : List Road) (a : Nat) : Bool := xs.any fun r => canB s v r a
def befS (P : Nat) (xs : List Road) (s : List Int) (v : Int) : Int :=
  match (List.range P).find? (canAny s v xs) with
  | some a => a
  | none => -1
theorem can_iff {p : Int} {s : List Int} {r : Road} {v a : Int} (hg : goodR p r = true) (hv : 0 ≤ v) (h0 : 0 ≤ gi s v) : canB s v r a = true ↔ (a = r.a ∧ tightB s r r.a r.b v = true) ∨ (a = r.b ∧ tightB s r r.b r.a v = true) := by
  have hgb := goodR_bd hg
  rw [tight_iff, tight_iff]
  simp only [canB, Bool.and_eq_true, decide_eq_true_eq]
  unfold otherI rideA
  constructor
  · rintro ⟨⟨h1, h2⟩, h3⟩
    split at h1
    · rename_i e
      subst e; subst h1
      split at h3
      · omega
      · exact Or.inl ⟨rfl, rfl, h2, h3, by omega⟩
    · split at h1
      · rename_i e
        subst e; subst h1
        split at h3
        · omega
        · exact Or.inr ⟨rfl, rfl, h2, h3, by omega⟩
      · omega
  · rintro (⟨rfl, h1, h2, h3, h4⟩ | ⟨rfl, h1, h2, h3, h4⟩)
    · subst h1
      rw [if_pos rfl, if_neg (by omega)]
      exact ⟨⟨rfl, h2⟩, h3⟩
    · subst h1
      rw [if_neg (by omega), if_pos rfl, if_neg (by omega)]
      exact ⟨⟨rfl, h2⟩, h3⟩
section
variable {s : List Int} {v : Int} {P : Nat}
theorem bef_le : ∀ {xs : List Road} {acc : Int}, befFold s v xs acc ≤ acc
  | [], _ => Int.le_refl _
  | x :: xs, acc => by
    have h := bef_le (xs := xs) (acc := befRoad s v acc x)
    have h2 : befRoad s v acc x ≤ acc := by unfold befRoad befStep; split <;> split <;> omega
    exact Int.le_trans h h2
theorem bef_mem : ∀ {xs : List Road} {acc : Int}, befFold s v xs acc = acc ∨ ∃ r ∈ xs, (befFold s v xs acc = r.a ∧ tightB s r r.a r.b v = true) ∨ (befFold s v xs acc = r.b ∧ tightB s r r.b r.a v = true)
  | [], _ => Or.inl rfl
  | x :: xs, acc => by
    have e : befFold s v (x :: xs) acc = befFold s v xs (befRoad s v acc x) := rfl
    rcases bef_mem (xs := xs) (acc := befRoad s v acc x) with h | ⟨r, hr, h⟩
    · rw [e, h]
      rcases h1 : tightB s x x.a x.b v with _ | _ <;> rcases h2 : tightB s x x.b x.a v with _ | _
      · exact Or.inl (by simp [befRoad, befStep, h1, h2])
      · have e2 : befRoad s v acc x = min acc x.b := by simp [befRoad, befStep, h1, h2]
        rcases Int.le_total acc x.b with g | g
        · exact Or.inl (by rw [e2]; omega)
        · exact Or.inr ⟨x, by simp, Or.inr ⟨by rw [e2]; omega, h2⟩⟩
      · have e2 : befRoad s v acc x = min acc x.a := by simp [befRoad, befStep, h1, h2]
        rcases Int.le_total acc x.a with g | g
        · exact Or.inl (by rw [e2]; omega)
        · exact Or.inr ⟨x, by simp, Or.inl ⟨by rw [e2]; omega, h1⟩⟩
      · have e2 : befRoad s v acc x = min (min acc x.a) x.b := by simp [befRoad, befStep, h1, h2]
        rcases Int.le_total (min acc x.a) x.b with g | g
        · rcases Int.le_total acc x.a with g' | g'
          · exact Or.inl (by rw [e2]; omega)
          · exact Or.inr ⟨x, by simp, Or.inl ⟨by rw [e2]; omega, h1⟩⟩
        · exact Or.inr ⟨x, by simp, Or.inr ⟨by rw [e2]; omega, h2⟩⟩
    · exact Or.inr ⟨r, by simp [hr], by rw [e]; exact h⟩
theorem bef_low : ∀ {xs : List Road} {acc : Int} {r : Road}, r ∈ xs → (tightB s r r.a r.b v = true → befFold s v xs acc ≤ r.a) ∧ (tightB s r r.b r.a v = true → befFold s v xs acc ≤ r.b)
  | [], _, _, h => by simp at h
  | x :: xs, acc, r, h => by
    have e : befFold s v (x :: xs) acc = befFold s v xs (befRoad s v acc x) := rfl
    have hle := bef_le (s := s) (v := v) (xs := xs) (acc := befRoad s v acc x)
    rw [e]
    rcases List.mem_cons.1 h with rfl | h
    · refine ⟨fun h1 => Int.le_trans hle ?_, fun h1 => Int.le_trans hle ?_⟩
      · unfold befRoad befStep
        rw [if_pos h1]
        split <;> omega
      · unfold befRoad
        generalize befStep s v acc r r.a r.b = q
        unfold befStep
        rw [if_pos h1]
        omega
    · exact bef_low h
/-- Both find the same. -/
theorem bef_eq {xs : List Road} (hr : ∀ r ∈ xs, goodR P r = true) (hv : 0 ≤ v) (h0 : 0 ≤ gi s v) (hex : ∃ r ∈ xs, tightB s r r.a r.b v = true ∨ tightB s r r.b r.a v = true) :
    befFold s v xs P = befS P xs s v ∧ 0 ≤ befS P xs s v ∧ befS P xs s v < P ∧ 0 ≤ gi s (befS P xs s v) ∧ gi s (befS P xs s v) < gi s v := by
  have hany : ∀ a : Nat, canAny s v xs a = true ↔ ∃ r ∈ xs, ((a : Int) = r.a ∧ tightB s r r.a r.b v = true) ∨ ((a : Int) = r.b ∧ tightB s r r.b r.a v = true) := fun a => by
    unfold canAny
    rw [List.any_eq_true]
    constructor
    · rintro ⟨r, hm, h⟩
      exact ⟨r, hm, (can_iff (hr r hm) hv h0).1 h⟩
    · rintro ⟨r, hm, h⟩
      exact ⟨r, hm, (can_iff (hr r hm) hv h0).2 h⟩
  have hmem : ∀ {a : Nat}, canAny s v xs a = true → befFold s v xs P ≤ a ∧ 0 ≤ gi s a ∧ gi s a < gi s v := fun {a} h => by
    obtain ⟨r, hm, h | h⟩ := (hany a).1 h
    · have h2 := tight_iff.1 h.2
      have hgb := goodR_bd (hr r hm)
      rw [h.1]
      refine ⟨(bef_low hm).1 h.2, h2.2.1, ?_⟩
      rw [← h2.1]
      omega
    · have h2 := tight_iff.1 h.2
      have hgb := goodR_bd (hr r hm)
      rw [h.1]
      refine ⟨(bef_low hm).2 h.2, h2.2.1, ?_⟩
      rw [← h2.1]
      omega
  obtain ⟨a0, ha0, hc0⟩ : ∃ a0 : Nat, a0 < P ∧ canAny s v xs a0 = true := by
    obtain ⟨r, hm, h⟩ := hex
    have hgb := goodR_bd (hr r hm)
    rcases h with h | h
    · exact ⟨r.a.toNat, by omega, (hany _).2 ⟨r, hm, Or.inl ⟨by omega, h⟩⟩⟩
    · exact ⟨r.b.toNat, by omega, (hany _).2 ⟨r, hm, Or.inr ⟨by omega, h⟩⟩⟩
  rcases hf : (List.range P).find? (canAny s v xs) with _ | a
  · rw [List.find?_eq_none] at hf
    exact absurd hc0 (hf a0 (List.mem_range.2 ha0))
  · have hS : befS P xs s v = (a : Int) := by unfold befS; rw [hf]
    have hca := List.find?_some hf
    have haP := List.mem_range.1 (List.mem_of_find?_eq_some hf)
    have hm := hmem hca
    rw [hS]
    refine ⟨?_, by omega, by omega, hm.2⟩
    have hle := hm.1
    rcases bef_mem (s := s) (v := v) (xs := xs) (acc := (P : Int)) with h | ⟨r, hrm, h⟩
    · omega
    · have hgb := goodR_bd (hr r hrm)
      have hc : canAny s v xs (befFold s v xs P).toNat = true := (hany _).2 ⟨r, hrm, by
        rcases h with h | h
        · exact Or.inl ⟨by omega, h.2⟩
        · exact Or.inr ⟨by omega, h.2⟩⟩
      have hlt : (befFold s v xs P).toNat < P := by rcases h with h | h <;> omega
      have hge : a ≤ (befFold s v xs P).toNat := by
        rcases Nat.lt_or_ge (befFold s v xs P).toNat a with h1 | h1
        · have h2 := List.find?_eq_some_iff_getElem.1 hf
          obtain ⟨_, i, hi, hia, hj⟩ := h2
          rw [List.getElem_range] at hia
          have h3 := hj (befFold s v xs P).toNat (by omega)
          rw [List.getElem_range] at h3
          rw [hc] at h3
          cases h3
        · exact h1
      rcases h with h | h <;> omega
end
/-- The places of the trip, from the last one on. -/
def tripN (F : Int) (nxt : Int → Int) : Nat → List Int → List Int
  | 0, l => l
  | n + 1, l => if l.headD 0 = F then l else tripN F nxt n (nxt (l.headD 0) :: l)
theorem tripN_len {F : Int} {nxt : Int → Int} : ∀ (n : Nat) (l : List Int), (tripN F nxt n l).length ≤ l.length + n
  | 0, _ => Nat.le_refl _
  | n + 1, l => by
    unfold tripN
    split
    · omega
    · have := tripN_len (F := F) (nxt := nxt) n (nxt (l.headD 0) :: l)
      rw [List.length_cons] at this
      omega
theorem tripN_end {F : Int} {nxt : Int → Int} {n : Nat} {l : List Int} (h : l.headD 0 = F) : tripN F nxt n l = l := by
  cases n with
  | zero => rfl
  | succ n => unfold tripN; rw [if_pos h]
theorem tripN_step {F : Int} {nxt : Int → Int} {n : Nat} {l : List Int} (h : l.headD 0 ≠ F) : tripN F nxt (n + 1) l = tripN F nxt n (nxt (l.headD 0) :: l) := by
  rw [tripN, if_neg h]
/-- The state of the loop: the list so far, and that the rest of the way makes the trip. -/
def Trip (s : List Int) (P : Nat) (F : Int) (nxt : Int → Int) (R : List Int) (l : List Int) : Prop :=
  ∃ (v : Nat) (l' : List Int), l = (v : Int) :: l' ∧ v < P ∧ 0 ≤ gi s v ∧ ∃ n : Nat, gi s v ≤ n ∧ l.length + n ≤ 1001 ∧ tripN F nxt n l = R
theorem trip_start {s : List Int} {P : Nat} {F : Int} {nxt : Int → Int} {t : Nat} (ht : t < P) (hA : Arr P s) (h0 : 0 ≤ gi s t) : Trip s P F nxt (tripN F nxt 1000 [(t : Int)]) [(t : Int)] :=
  ⟨t, [], rfl, ht, h0, 1000, by have := hA.bd t; omega, by simp, rfl⟩
def tripL (P : Nat) (xs : List Road) (F T : Nat) (m : Int) : List Int := tripN F (befS P xs (arrA P xs F m)) 1000 [(T : Int)]
theorem trip_next {P F : Nat} {xs : List Road} {m : Int} (hr : ∀ r ∈ xs, goodR P r = true) (hF : F < P) (hm : 0 ≤ m ∧ m ≤ 999) {R l' : List Int} {v : Nat}
    (h : Trip (arrA P xs F m) P F (befS P xs (arrA P xs F m)) R ((v : Int) :: l')) (hne : v ≠ F) :
    befFold (arrA P xs F m) v xs P = befS P xs (arrA P xs F m) v ∧ 0 ≤ befS P xs (arrA P xs F m) v ∧ befS P xs (arrA P xs F m) v < P ∧ Trip (arrA P xs F m) P F (befS P xs (arrA P xs F m)) R (befS P xs (arrA P xs F m) v :: (v : Int) :: l') ∧ gi (arrA P xs F m) (befS P xs (arrA P xs F m) v) < gi (arrA P xs F m) v := by
  obtain ⟨v', l2, hl, hvP, h0, n, hn, hlen, hR⟩ := h
  simp only [List.cons.injEq] at hl
  obtain ⟨hv, rfl⟩ := hl
  obtain rfl : v = v' := by omega
  have hb := bef_eq (P := P) hr (v := (v : Int)) (by omega) h0 (tight_of hr hF hm hne h0)
  obtain ⟨b1, b2, b3, b4, b5⟩ := hb
  refine ⟨b1, b2, b3, ?_, b5⟩
  obtain ⟨a, ha⟩ := Int.eq_ofNat_of_zero_le b2
  rcases n with _ | n
  · omega
  · rw [tripN_step (by simpa using fun e => hne (by omega))] at hR
    rw [List.headD_cons] at hR
    rw [ha] at b3 b4 b5 hR ⊢
    refine ⟨a, _, rfl, by omega, b4, n, by omega, ?_, hR⟩
    simp only [List.length_cons] at hlen ⊢
    omega
end Go.Proofs.Ytfimchbjpambfaa
