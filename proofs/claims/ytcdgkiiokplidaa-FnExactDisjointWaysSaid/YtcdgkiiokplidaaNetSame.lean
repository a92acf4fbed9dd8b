/-
  The net of the reference is the program's under other numbers, plainly.
-/
import Derived.Test.YtcdgkiiokplidaaNetMath
namespace Go.Proofs.Ytcdgkiiokplidaa
open Go.RowKit

/-! ### The reference's -/
def nearS (t : Terr) (so ass : List Int) (c k : Int) : List (Nat × Nat) := if freeB t so ass k = true then [(2 * c.toNat + 1, 2 * k.toNat)] else []
def arcsS (t : Terr) (so ass : List Int) (c : Int) : List (Nat × Nat) :=
  (2 * c.toNat, 2 * c.toNat + 1) :: ((if touchC t c so = true then [(2 * t.n, 2 * c.toNat)] else []) ++ (if touchC t c ass = true then [(2 * c.toNat + 1, 2 * t.n + 1)] else [])) ++ (nearL t c).flatMap (nearS t so ass c)
def arcS (t : Terr) (so ass : List Int) (c : Nat) : List (Nat × Nat) := if freeB t so ass c = true then arcsS t so ass c else []
def netS (t : Terr) (so ass : List Int) : List (Nat × Nat) := (List.range t.n).flatMap (arcS t so ass)
/-! ### The numbers -/
def numP (n u : Nat) : Nat := if 2 * n ≤ u then u else if u % 2 = 0 then u / 2 else n + u / 2
def numQ (n v : Nat) : Nat := if 2 * n ≤ v then v else if v < n then 2 * v else 2 * (v - n) + 1
theorem numP_lt {n u : Nat} (h : u < 2 * n + 2) : numP n u < 2 * n + 2 := by
  unfold numP
  split <;> (try split) <;> omega
theorem numQ_lt {n u : Nat} (h : u < 2 * n + 2) : numQ n u < 2 * n + 2 := by
  unfold numQ
  split <;> (try split) <;> omega
theorem numQP {n u : Nat} (_h : u < 2 * n + 2) : numQ n (numP n u) = u := by
  unfold numP numQ
  split <;> (try split) <;> (try split) <;> (try split) <;> omega
theorem numPQ {n u : Nat} (_h : u < 2 * n + 2) : numP n (numQ n u) = u := by
  unfold numP numQ
  split <;> (try split) <;> (try split) <;> (try split) <;> omega
theorem numP_in {n c : Nat} (h : c < n) : numP n (2 * c) = c := by
  unfold numP
  rw [if_neg (by omega), if_pos (by omega)]
  omega
theorem numP_out {n c : Nat} (h : c < n) : numP n (2 * c + 1) = n + c := by
  unfold numP
  rw [if_neg (by omega), if_neg (by omega)]
  omega
theorem numP_src (n : Nat) : numP n (2 * n) = 2 * n := by unfold numP; rw [if_pos (by omega)]
theorem numP_snk (n : Nat) : numP n (2 * n + 1) = 2 * n + 1 := by unfold numP; rw [if_pos (by omega)]
theorem numP_perm (n : Nat) : ((List.range (2 * n + 2)).map (numP n)).Perm (List.range (2 * n + 2)) := by
  refine (List.perm_ext_iff_of_nodup ?_ List.nodup_range).2 fun a => ?_
  · refine List.Pairwise.map (R := fun x y => x ≠ y ∧ x < 2 * n + 2 ∧ y < 2 * n + 2) _ (fun a b h e => h.1 (by rw [← numQP h.2.1, e, numQP h.2.2])) ?_
    exact (List.Pairwise.and_mem.1 (List.nodup_range (n := 2 * n + 2))).imp fun h => ⟨h.2.2, List.mem_range.1 h.1, List.mem_range.1 h.2.1⟩
  · simp only [List.mem_map, List.mem_range]
    exact ⟨fun ⟨b, hb, e⟩ => e ▸ numP_lt hb, fun h => ⟨numQ n a, numQ_lt h, numPQ h⟩⟩
/-! ### What the arcs are -/
theorem near_nat {t : Terr} {x k : Int} (h : k ∈ nearL t x) : ∃ i : Nat, k = i ∧ i < t.n := by
  obtain ⟨i, rfl, hi, -⟩ := cellsL_mem.1 h
  exact ⟨i, rfl, hi⟩
theorem touch_iff {t : Terr} {x : Int} {xs : List Int} : touchC t x xs = true ↔ ∃ k ∈ nearL t x, burnsB t k = true ∧ hasB xs k = true := by
  simp [touchC]
theorem free_iff {t : Terr} {so ass : List Int} {x : Int} : freeB t so ass x = true ↔ burnsB t x = true ∧ hasB so x = false ∧ hasB ass x = false := by
  simp [freeB, and_assoc]
theorem memI {t : Terr} {so ass : List Int} {a b : Nat} : (a, b) ∈ netI t so ass ↔ ∃ c : Nat, c < t.n ∧ freeB t so ass c = true ∧ ((a = c ∧ b = t.n + c) ∨ ∃ k ∈ nearL t c, burnsB t k = true ∧
    ((freeB t so ass k = true ∧ a = t.n + c ∧ b = k.toNat) ∨ (freeB t so ass k = false ∧ hasB so k = true ∧ a = 2 * t.n ∧ b = c) ∨ (freeB t so ass k = false ∧ hasB so k = false ∧ hasB ass k = true ∧ a = t.n + c ∧ b = 2 * t.n + 1))) := by
  unfold netI arcsI
  simp only [List.mem_flatMap, List.mem_cons, Prod.mk.injEq]
  constructor
  · rintro ⟨x, hx, h⟩
    obtain ⟨c, rfl, hc, hf⟩ := free_in hx
    refine ⟨c, hc, hf, ?_⟩
    simp only [Int.toNat_natCast] at h
    rcases h with h | ⟨k, hk, h⟩
    · exact .inl h
    · refine .inr ⟨k, hk, ?_⟩
      unfold arcI at h
      split at h
      · rename_i hb
        refine ⟨hb, ?_⟩
        split at h
        · rename_i h1
          simp only [List.mem_singleton, Prod.mk.injEq, Int.toNat_natCast] at h
          exact .inl ⟨h1, h⟩
        · rename_i h1
          simp only [Bool.not_eq_true] at h1
          split at h
          · rename_i h2
            simp only [List.mem_singleton, Prod.mk.injEq, Int.toNat_natCast] at h
            exact .inr (.inl ⟨h1, h2, h⟩)
          · rename_i h2
            simp only [Bool.not_eq_true] at h2
            split at h
            · rename_i h3
              simp only [List.mem_singleton, Prod.mk.injEq, Int.toNat_natCast] at h
              exact .inr (.inr ⟨h1, h2, h3, h⟩)
            · cases h
      · cases h
  · rintro ⟨c, hc, hf, h⟩
    refine ⟨(c : Int), cellsL_mem.2 ⟨c, rfl, hc, hf⟩, ?_⟩
    simp only [Int.toNat_natCast]
    rcases h with h | ⟨k, hk, hb, h⟩
    · exact .inl h
    · refine .inr ⟨k, hk, ?_⟩
      unfold arcI
      rw [if_pos hb]
      rcases h with ⟨h1, h⟩ | ⟨h1, h2, h⟩ | ⟨h1, h2, h3, h⟩
      · rw [if_pos h1]; simpa using h
      · rw [if_neg (by simp [h1]), if_pos h2]; simpa using h
      · rw [if_neg (by simp [h1]), if_neg (by simp [h2]), if_pos h3]; simpa using h
theorem memS {t : Terr} {so ass : List Int} {a b : Nat} : (a, b) ∈ netS t so ass ↔ ∃ c : Nat, c < t.n ∧ freeB t so ass c = true ∧ ((a = 2 * c ∧ b = 2 * c + 1) ∨ (touchC t c so = true ∧ a = 2 * t.n ∧ b = 2 * c) ∨ (touchC t c ass = true ∧ a = 2 * c + 1 ∧ b = 2 * t.n + 1) ∨
    ∃ k ∈ nearL t c, freeB t so ass k = true ∧ a = 2 * c + 1 ∧ b = 2 * k.toNat) := by
  unfold netS arcS
  simp only [List.mem_flatMap, List.mem_range]
  refine exists_congr fun c => and_congr_right fun hc => ?_
  by_cases hf : freeB t so ass c = true
  · rw [if_pos hf]
    unfold arcsS
    simp only [List.mem_append, List.mem_cons, List.mem_flatMap, Prod.mk.injEq, Int.toNat_natCast]
    constructor
    · rintro ((h | h | h) | ⟨k, hk, h⟩)
      · exact ⟨hf, .inl h⟩
      · split at h
        · rename_i h1
          exact ⟨hf, .inr (.inl ⟨h1, by simpa using h⟩)⟩
        · cases h
      · split at h
        · rename_i h1
          exact ⟨hf, .inr (.inr (.inl ⟨h1, by simpa using h⟩))⟩
        · cases h
      · unfold nearS at h
        split at h
        · rename_i h1
          exact ⟨hf, .inr (.inr (.inr ⟨k, hk, h1, by simpa using h⟩))⟩
        · cases h
    · rintro ⟨-, h | ⟨h1, h⟩ | ⟨h1, h⟩ | ⟨k, hk, h1, h⟩⟩
      · exact .inl (.inl h)
      · exact .inl (.inr (.inl (by rw [if_pos h1]; simpa using h)))
      · exact .inl (.inr (.inr (by rw [if_pos h1]; simpa using h)))
      · exact .inr ⟨k, hk, by unfold nearS; rw [if_pos h1]; simpa using h⟩
  · rw [if_neg hf]
    simp [hf]
theorem net_same {t : Terr} {so ass : List Int} (hd : (so.all fun x => !hasB ass x) = true) {u v : Nat} (hu : u < 2 * t.n + 2) (hv : v < 2 * t.n + 2) : (u, v) ∈ netS t so ass ↔ (numP t.n u, numP t.n v) ∈ netI t so ass := by
  have hdis : ∀ k, hasB so k = true → hasB ass k = false := fun k hk => by
    obtain ⟨x, hx, h1⟩ := List.any_eq_true.1 hk
    have h2 : x = k := by simpa using h1
    have := List.all_eq_true.1 hd x hx
    rw [h2] at this
    simpa using this
  rw [memS, memI]
  refine exists_congr fun c => and_congr_right fun hc => and_congr_right fun hf => ?_
  constructor
  · rintro (⟨rfl, rfl⟩ | ⟨h1, rfl, rfl⟩ | ⟨h1, rfl, rfl⟩ | ⟨k, hk, h1, rfl, rfl⟩)
    · exact .inl ⟨numP_in hc, numP_out hc⟩
    · obtain ⟨k, hk, hb, h2⟩ := touch_iff.1 h1
      refine .inr ⟨k, hk, hb, .inr (.inl ⟨?_, h2, numP_src _, numP_in hc⟩)⟩
      simp [freeB, h2]
    · obtain ⟨k, hk, hb, h2⟩ := touch_iff.1 h1
      have h3 : hasB so k = false := by
        rcases h : hasB so k with _ | _
        · rfl
        · rw [hdis k h] at h2; cases h2
      refine .inr ⟨k, hk, hb, .inr (.inr ⟨?_, h3, h2, numP_out hc, numP_snk _⟩)⟩
      simp [freeB, h2]
    · obtain ⟨i, rfl, hi⟩ := near_nat hk
      refine .inr ⟨_, hk, (free_iff.1 h1).1, .inl ⟨h1, numP_out hc, ?_⟩⟩
      rw [Int.toNat_natCast]
      exact numP_in hi
  · have e1 : ∀ {x a : Nat}, x < 2 * t.n + 2 → numP t.n x = a → x = numQ t.n a := fun hx e => by rw [← e, numQP hx]
    have q1 : numQ t.n c = 2 * c := by unfold numQ; rw [if_neg (by omega), if_pos hc]
    have q2 : numQ t.n (t.n + c) = 2 * c + 1 := by unfold numQ; rw [if_neg (by omega), if_neg (by omega)]; omega
    have q3 : numQ t.n (2 * t.n) = 2 * t.n := by unfold numQ; rw [if_pos (by omega)]
    have q4 : numQ t.n (2 * t.n + 1) = 2 * t.n + 1 := by unfold numQ; rw [if_pos (by omega)]
    rintro (⟨h1, h2⟩ | ⟨k, hk, hb, ⟨h3, h1, h2⟩ | ⟨h3, h4, h1, h2⟩ | ⟨h3, h4, h5, h1, h2⟩⟩)
    · exact .inl ⟨(e1 hu h1).trans q1, (e1 hv h2).trans q2⟩
    · obtain ⟨i, rfl, hi⟩ := near_nat hk
      refine .inr (.inr (.inr ⟨_, hk, h3, (e1 hu h1).trans q2, (e1 hv h2).trans ?_⟩))
      rw [Int.toNat_natCast]
      unfold numQ; rw [if_neg (by omega), if_pos hi]
    · exact .inr (.inl ⟨touch_iff.2 ⟨k, hk, hb, h4⟩, (e1 hu h1).trans q3, (e1 hv h2).trans q1⟩)
    · exact .inr (.inr (.inl ⟨touch_iff.2 ⟨k, hk, hb, h5⟩, (e1 hu h1).trans q2, (e1 hv h2).trans q4⟩))
/-- What goes through the reference's net goes through the program's. -/
theorem ways_back {t : Terr} {so ass : List Int} (hd : (so.all fun x => !hasB ass x) = true) {k : Int} (h : Cert (2 * t.n + 2) (2 * t.n) (2 * t.n + 1) (ones (netS t so ass)) k) : Cert (2 * t.n + 2) (2 * t.n) (2 * t.n + 1) (ones (netI t so ass)) k := by
  have hp := numP_perm t.n
  have hq : ((List.range (2 * t.n + 2)).map (numQ t.n)).Perm (List.range (2 * t.n + 2)) := by
    have h1 := hp.map (numQ t.n)
    rw [List.map_map, show (List.range (2 * t.n + 2)).map (numQ t.n ∘ numP t.n) = List.range (2 * t.n + 2) from (List.map_congr_left (g := id) fun u hu => numQP (List.mem_range.1 hu)).trans (List.map_id _)] at h1
    exact h1.symm
  refine Cert.rename (p := numQ t.n) (C' := ones (netI t so ass)) (s' := 2 * t.n) (t' := 2 * t.n + 1) hq (fun u hu => numQ_lt hu) (fun u v hu hv e => by rw [← numPQ hu, e, numPQ hv]) ?_ ?_ (by omega) (by omega) (fun u v hu hv => ?_) h
  · unfold numQ; rw [if_pos (by omega)]
  · unfold numQ; rw [if_pos (by omega)]
  · have e := net_same (so := so) (ass := ass) hd (numQ_lt hu) (numQ_lt hv)
    rw [numPQ hu, numPQ hv] at e
    unfold ones
    by_cases hm : (u, v) ∈ netI t so ass
    · rw [if_pos hm, if_pos (e.2 hm)]
    · rw [if_neg hm, if_neg (fun h => hm (e.1 h))]
end Go.Proofs.Ytcdgkiiokplidaa
