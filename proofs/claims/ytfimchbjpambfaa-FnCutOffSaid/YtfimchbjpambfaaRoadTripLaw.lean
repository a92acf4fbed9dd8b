/-
  What a trip is: from its first place to its last, each pair of neighbours joined by one road alone, in time: plain.
-/
import Derived.Test.YtfimchbjpambfaaRoadDual
import Derived.Test.YtfimchbjpambfaaRoadTripTop
import Derived.Test.YtfimchbjpambfaaRoadDepTop
namespace Go.Proofs.Ytfimchbjpambfaa
open Go.RowKit

def mt (r : Road) (a v : Int) : Prop := (r.a = a ∧ r.b = v) ∨ (r.b = a ∧ r.a = v)
theorem net_next {p : Int} {xs : List Road} (h : netB p xs = true) {j : Nat} {x y : Road} (hy : xs[j]? = some y) (hx : xs[j + 1]? = some x) : y.a < x.a ∨ (y.a = x.a ∧ y.b < x.b) := by
  have hg := netB_all h _ _ hx
  have hlt : j + 1 < xs.length := (List.getElem?_eq_some_iff.1 hx).1
  rw [netB, Bool.and_eq_true] at h
  have hb : badAt (goodR p) clashR xs (j + 1) = false := by
    rcases hc : badAt (goodR p) clashR xs (j + 1) with _ | _
    · rfl
    · have := h.2
      rw [noneBad_no hlt hc] at this
      cases this
  rw [badAt_next (clash := clashR) hx hy hg] at hb
  simp only [clashR, Bool.or_eq_false_iff, Bool.and_eq_false_iff, decide_eq_false_iff_not] at hb
  omega
theorem net_rise {p : Int} {xs : List Road} (h : netB p xs = true) {i : Nat} {y : Road} (hy : xs[i]? = some y) : ∀ (d : Nat) (x : Road), xs[i + d + 1]? = some x → y.a < x.a ∨ (y.a = x.a ∧ y.b < x.b)
  | 0, x, hx => net_next h hy hx
  | d + 1, x, hx => by
    obtain ⟨z, hz⟩ : ∃ z, xs[i + d + 1]? = some z := get_of_lt (by have := (List.getElem?_eq_some_iff.1 hx).1; omega)
    have h1 := net_rise h hy d z hz
    have h2 := net_next h hz hx
    omega
theorem net_uniq {p : Int} {xs : List Road} (h : netB p xs = true) {i j : Nat} {x y : Road} (hx : xs[i]? = some x) (hy : xs[j]? = some y) (ha : x.a = y.a) (hb : x.b = y.b) : i = j := by
  rcases Nat.lt_trichotomy i j with hl | hl | hl
  · have := net_rise h hx (j - i - 1) y (by rw [show i + (j - i - 1) + 1 = j by omega]; exact hy); omega
  · exact hl
  · have := net_rise h hy (i - j - 1) x (by rw [show j + (i - j - 1) + 1 = i by omega]; exact hx); omega
def Step (s : List Int) (xs : List Road) (a v : Int) : Prop := ∃ (k : Nat) (r : Road), xs[k]? = some r ∧ mt r a v ∧ gi s a + r.minutes = gi s v ∧ gi s v ≤ r.closes ∧ ∀ (k' : Nat) (r' : Road), xs[k']? = some r' → mt r' a v → k' = k
theorem step_of {p : Int} {s : List Int} {xs : List Road} (h : netB p xs = true) {r : Road} (hr : r ∈ xs) {a v : Int} (hm : mt r a v) (h1 : gi s a + r.minutes = gi s v) (h2 : gi s v ≤ r.closes) : Step s xs a v := by
  obtain ⟨k, hk, rfl⟩ := List.getElem_of_mem hr
  have hx : xs[k]? = some xs[k] := List.getElem?_eq_getElem hk
  refine ⟨k, xs[k], hx, hm, h1, h2, fun k' r' hr' hm' => ?_⟩
  have g1 := goodR_bd (netB_all h _ _ hx)
  have g2 := goodR_bd (netB_all h _ _ hr')
  unfold mt at hm hm'
  exact net_uniq h hr' hx (by omega) (by omega)
def Chain (s : List Int) (xs : List Road) (l : List Int) : Prop := ∀ (i : Nat) (a v : Int), l[i]? = some a → l[i + 1]? = some v → Step s xs a v
structure TripOk (P : Nat) (s : List Int) (xs : List Road) (T : Nat) (l : List Int) : Prop where
  chain : Chain s xs l
  last : l.getLast? = some (T : Int)
  bd : ∀ x ∈ l, 0 ≤ x ∧ x < P
  nn : ∀ x ∈ l, 0 ≤ gi s x
theorem TripOk.cons {P : Nat} {s : List Int} {xs : List Road} {T : Nat} {v : Int} {l : List Int} (h : TripOk P s xs T (v :: l)) {a : Int} (ha : 0 ≤ a ∧ a < P) (h0 : 0 ≤ gi s a) (hs : Step s xs a v) : TripOk P s xs T (a :: v :: l) where
  chain := fun i x y hx hy => by
    rcases i with _ | i
    · simp only [List.getElem?_cons_zero, Nat.zero_add, List.getElem?_cons_succ, Option.some.injEq] at hx hy
      subst hx hy; exact hs
    · simp only [List.getElem?_cons_succ] at hx hy
      exact h.chain i x y hx (by simpa using hy)
  last := by rw [List.getLast?_cons_cons]; exact h.last
  bd := fun x hx => by
    rcases List.mem_cons.1 hx with rfl | hx
    · exact ha
    · exact h.bd x hx
  nn := fun x hx => by
    rcases List.mem_cons.1 hx with rfl | hx
    · exact h0
    · exact h.nn x hx
theorem trip_all {P F T : Nat} {xs : List Road} {m : Int} (hn : netB P xs = true) (hF : F < P) (hm : 0 ≤ m ∧ m ≤ 999) {R : List Int} : ∀ (k : Nat) (v : Nat) (l' : List Int), (gi (arrA P xs F m) v).toNat ≤ k →
    Trip (arrA P xs F m) P F (befS P xs (arrA P xs F m)) R ((v : Int) :: l') → TripOk P (arrA P xs F m) xs T ((v : Int) :: l') → TripOk P (arrA P xs F m) xs T R ∧ R.head? = some (F : Int) ∧ R.length ≤ 1001
  | k, v, l', hk, htr, hok => by
    have hr := good_mem (netB_all hn)
    by_cases he : v = F
    · subst he
      obtain ⟨v2, l2, e2, _, _, n2, _, hl2, hR2⟩ := htr
      rw [tripN_end (by simp)] at hR2
      subst hR2
      exact ⟨hok, rfl, by omega⟩
    · obtain ⟨b1, b2, b3, htr2, hlt⟩ := trip_next hr hF hm htr he
      have hv0 : 0 ≤ gi (arrA P xs F m) v := hok.nn _ (by simp)
      have hvp : (v : Int) < P := (hok.bd _ (List.mem_cons_self ..)).2
      have hb0 : 0 ≤ gi (arrA P xs F m) (befS P xs (arrA P xs F m) v) := by
        obtain ⟨u, l3, e3, _, h5, _⟩ := htr2
        simp only [List.cons.injEq] at e3
        rw [e3.1]; exact h5
      have hstep : Step (arrA P xs F m) xs (befS P xs (arrA P xs F m) v) v := by
        rcases bef_mem (s := arrA P xs F m) (v := (v : Int)) (xs := xs) (acc := P) with h1 | ⟨r, hrm, h1 | h1⟩
        · omega
        · obtain ⟨h1, h2⟩ := h1
          obtain ⟨t1, t2, t3, t4⟩ := tight_iff.1 h2
          rw [b1] at h1
          rw [h1]
          rw [t1] at t3 t4
          exact step_of hn hrm (Or.inl ⟨rfl, t1⟩) t3 t4
        · obtain ⟨h1, h2⟩ := h1
          obtain ⟨t1, t2, t3, t4⟩ := tight_iff.1 h2
          rw [b1] at h1
          rw [h1]
          rw [t1] at t3 t4
          exact step_of hn hrm (Or.inr ⟨rfl, t1⟩) t3 t4
      have hok2 := hok.cons ⟨b2, b3⟩ hb0 hstep
      obtain ⟨a, ha⟩ := Int.eq_ofNat_of_zero_le b2
      rw [ha] at htr2 hok2 hlt hb0
      match k with
      | 0 => omega
      | k + 1 => exact trip_all hn hF hm k a _ (by omega) htr2 hok2
theorem trip_ok {P F T : Nat} {xs : List Road} {m : Int} (hn : netB P xs = true) (hF : F < P) (hT : T < P) (hm : 0 ≤ m ∧ m ≤ 999) (h0 : 0 ≤ gi (arrA P xs F m) T) :
    TripOk P (arrA P xs F m) xs T (tripL P xs F T m) ∧ (tripL P xs F T m).head? = some (F : Int) ∧ (tripL P xs F T m).length ≤ 1001 := by
  refine trip_all hn hF hm _ T [] (Nat.le_refl _) (trip_start hT (arrA_arr (good_mem (netB_all hn)) hF hm) h0) ⟨fun i a v _ h => by simp at h, rfl, fun x hx => ?_, fun x hx => ?_⟩
  · rw [List.mem_singleton] at hx; omega
  · rw [List.mem_singleton] at hx; rw [hx]; exact h0
/-- the law's words: when a trip is there, what it is -/
theorem trip_law {p : Int} {xs : List Road} {f t m : Int} (h : (tripR p xs f t m).2 = true) :
    ∃ P F T : Nat, p = P ∧ f = F ∧ t = T ∧ F < P ∧ T < P ∧ P ≤ 7 ∧ (0 ≤ m ∧ m ≤ 999) ∧ netB P xs = true ∧ (tripR p xs f t m).1 = tripL P xs F T m ∧ 0 ≤ gi (arrA P xs F m) T ∧ arrR p xs f m = (arrA P xs F m, true) := by
  unfold tripR at h ⊢
  split at h
  · rename_i hc
    rw [if_pos hc]
    simp only [Bool.and_eq_true, inB_iff, decide_eq_true_eq] at hc
    obtain ⟨⟨⟨⟨hg, hf⟩, ht⟩, hm⟩, h0⟩ := hc
    have hb := netB_bd hg
    obtain ⟨P, rfl⟩ := Int.eq_ofNat_of_zero_le (show 0 ≤ p by omega)
    obtain ⟨F, rfl⟩ := Int.eq_ofNat_of_zero_le hf.1
    obtain ⟨T, rfl⟩ := Int.eq_ofNat_of_zero_le ht.1
    simp only [Int.toNat_natCast] at h0 ⊢
    refine ⟨P, F, T, rfl, rfl, rfl, by omega, by omega, by omega, hm, hg, rfl, h0, ?_⟩
    unfold arrR
    rw [if_pos (by simp [hg, inB_iff]; omega)]
    rfl
  · cases h
theorem arr_law {p : Int} {xs : List Road} {f m : Int} (h : (arrR p xs f m).2 = true) :
    ∃ P F : Nat, p = P ∧ f = F ∧ F < P ∧ P ≤ 7 ∧ (0 ≤ m ∧ m ≤ 999) ∧ netB P xs = true ∧ (arrR p xs f m).1 = arrA P xs F m ∧ (arrA P xs F m).length = P := by
  unfold arrR at h ⊢
  split at h
  · rename_i hc
    rw [if_pos hc]
    simp only [Bool.and_eq_true, inB_iff] at hc
    obtain ⟨⟨hg, hf⟩, hm⟩ := hc
    have hb := netB_bd hg
    obtain ⟨P, rfl⟩ := Int.eq_ofNat_of_zero_le (show 0 ≤ p by omega)
    obtain ⟨F, rfl⟩ := Int.eq_ofNat_of_zero_le hf.1
    simp only [Int.toNat_natCast]
    exact ⟨P, F, rfl, rfl, by omega, by omega, hm, hg, rfl, (arrA_arr (good_mem (netB_all hg)) (by omega) hm).len⟩
  · cases h
theorem dep_law {P T : Nat} {xs : List Road} (hg : netB P xs = true) (hT : T < P) : depR P xs T = (arrD P xs T 999, true) := by
  unfold depR
  rw [if_pos (by simp [hg, inB_iff]; omega)]
  rfl
end Go.Proofs.Ytfimchbjpambfaa
