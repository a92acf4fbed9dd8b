/-
  What crews build, as plain functions of numbers and lists.
-/
import Derived.Test.YthbjgccldoofgaaCrewData
namespace Go.Proofs.Ythbjgccldoofgaa
open Go.RowKit

/-- None of the first n places is bad. -/
def noneBad (bad : Nat → Bool) (n : Nat) : Bool := (List.range n).all fun i => !bad i
theorem noneBad_yes {bad : Nat → Bool} {n : Nat} (h : ∀ r, r < n → bad r = false) : noneBad bad n = true := by
  rw [noneBad, List.all_eq_true]
  intro i hi
  simp [h i (List.mem_range.1 hi)]
theorem noneBad_no {bad : Nat → Bool} {n i : Nat} (hi : i < n) (h : bad i = true) : noneBad bad n = false := by
  rw [noneBad, List.all_eq_false]
  exact ⟨i, List.mem_range.2 hi, by simp [h]⟩
theorem noBad_snoc {bad : Nat → Bool} {i : Nat} (h : Hid (∀ r, r < i → bad r = false)) (hb : bad i = false) : Hid (∀ r, r < i + 1 → bad r = false) := fun r hr => by
  rcases Nat.lt_or_ge r i with h1 | h1
  · exact h.out r h1
  · rw [show r = i from by omega]; exact hb
theorem noneBad_at {bad : Nat → Bool} {n i : Nat} (h : noneBad bad n = true) (hi : i < n) : bad i = false := by
  rw [noneBad, List.all_eq_true] at h
  simpa using h i (List.mem_range.2 hi)

/-- The place i of a list is bad: its element is, or it does not rise. -/
def badAt {α : Type} (good : α → Bool) (id : α → Int) (xs : List α) (i : Nat) : Bool :=
  match xs[i]? with
  | none => false
  | some x => !good x || (match i with
    | 0 => false
    | j + 1 => match xs[j]? with
      | none => false
      | some y => decide (id x ≤ id y))
section
variable {α : Type} {good : α → Bool} {id : α → Int} {xs : List α} {i : Nat} {x y : α}
theorem badAt_ill (hx : xs[i]? = some x) (h : good x = false) : badAt good id xs i = true := by simp [badAt, hx, h]
theorem badAt_first (hx : xs[0]? = some x) (h : good x = true) : badAt good id xs 0 = false := by simp only [badAt, hx, h]; rfl
theorem badAt_next (hx : xs[i + 1]? = some x) (hy : xs[i]? = some y) (h : good x = true) : badAt good id xs (i + 1) = decide (id x ≤ id y) := by simp only [badAt, hx, hy, h]; rfl
theorem good_of (h : noneBad (badAt good id xs) xs.length = true) (hx : xs[i]? = some x) : good x = true := by
  have hi : i < xs.length := (List.getElem?_eq_some_iff.1 hx).1
  have hb := noneBad_at h hi
  rcases hg : good x with _ | _
  · rw [badAt_ill hx hg] at hb; cases hb
  · rfl
theorem rises_of (h : noneBad (badAt good id xs) xs.length = true) (hx : xs[i + 1]? = some x) (hy : xs[i]? = some y) : id y < id x := by
  have hi : i + 1 < xs.length := (List.getElem?_eq_some_iff.1 hx).1
  have hb := noneBad_at h hi
  rw [badAt_next hx hy (good_of h hx)] at hb
  have := of_decide_eq_false hb
  omega
end

def goodC (x : Crew) : Bool := inB x.id 1 99 && inB x.rate 1 200 && inB x.tires 0 50 && inB x.shift 1 24 && inB x.start 0 (24 - x.shift)
theorem goodC_bd {x : Crew} (h : goodC x = true) : 1 ≤ x.id ∧ x.id ≤ 99 ∧ 1 ≤ x.rate ∧ x.rate ≤ 200 ∧ 0 ≤ x.tires ∧ x.tires ≤ 50 ∧ 1 ≤ x.shift ∧ x.shift ≤ 24 ∧ 0 ≤ x.start ∧ x.start ≤ 24 - x.shift := by
  simp only [goodC, Bool.and_eq_true, inB_iff] at h
  omega
def listC (xs : List Crew) : Bool := noneBad (badAt goodC Crew.id xs) xs.length && decide (xs.length ≤ 6)
def rateAt (x : Crew) : Nat → Int
  | 0 => x.rate
  | i + 1 => rateAt x i * (100 - x.tires) / 100
theorem rateAt_bd {x : Crew} (h : goodC x = true) : ∀ i, 0 ≤ rateAt x i ∧ rateAt x i ≤ 200
  | 0 => by have := goodC_bd h; simp only [rateAt]; omega
  | i + 1 => by
    have hb := goodC_bd h
    have hi := rateAt_bd h i
    have h1 : 0 ≤ rateAt x i * (100 - x.tires) := Int.mul_nonneg (by omega) (by omega)
    have h2 : rateAt x i * (100 - x.tires) ≤ 200 * 100 := Int.mul_le_mul hi.2 (by omega) (by omega) (by omega)
    simp only [rateAt]
    omega
def shiftL (x : Crew) : List Int := (List.range x.shift.toNat).map (rateAt x)
theorem shiftL_len (x : Crew) : (shiftL x).length = x.shift.toNat := by simp [shiftL]
theorem shiftL_get {x : Crew} {i : Nat} (h : i < x.shift.toNat) : (shiftL x)[i]? = some (rateAt x i) := by simp [shiftL, h]
def worksB (x : Crew) (h : Int) : Bool := inB (h % 24) x.start (x.start + x.shift - 1)
def builtN (x : Crew) : Nat → Int
  | 0 => 0
  | h + 1 => builtN x h + if worksB x h then rateAt x ((h : Int) % 24 - x.start).toNat else 0
theorem builtN_bd {x : Crew} (hg : goodC x = true) : ∀ h, 0 ≤ builtN x h ∧ builtN x h ≤ 200 * h
  | 0 => by simp [builtN]
  | h + 1 => by
    have := builtN_bd hg h
    have := rateAt_bd hg ((h : Int) % 24 - x.start).toNat
    simp only [builtN]
    split <;> omega
theorem builtN_mono {x : Crew} (hg : goodC x = true) (h : Nat) : builtN x h ≤ builtN x (h + 1) := by
  have := rateAt_bd hg ((h : Int) % 24 - x.start).toNat
  simp only [builtN]
  split <;> omega
def allC (xs : List Crew) : Prop := ∀ (i : Nat) (x : Crew), xs[i]? = some x → goodC x = true
def togetherN (xs : List Crew) (h : Nat) : Int := (xs.map fun x => builtN x h).sum
theorem works_at {x : Crew} {h : Int} (hw : worksB x h = true) : 0 ≤ h % 24 - x.start ∧ h % 24 - x.start < x.shift := by
  rw [worksB, inB_iff] at hw
  omega
theorem shift_at {w : World} {A : Option Addr} {n c : Nat} {x : Crew} (h : Sl w 1 A n c (ints (shiftL x))) {k : Int} (h0 : 0 ≤ k) (h1 : k < x.shift) :
    ∃ b o, A = some ⟨b, o, none⟩ ∧ b < w.heap.size ∧ w.cell? ⟨b, o + k.toNat, none⟩ = some (.int .i64 (rateAt x k.toNat)) ∧ k < (n : Int) := by
  have hl := h.int_len
  rw [shiftL_len] at hl
  obtain ⟨b, o, rfl, hb, hc⟩ := h.int_at (shiftL_get (x := x) (i := k.toNat) (by omega))
  exact ⟨b, o, rfl, hb, hc, by omega⟩
theorem builtN_yes {x : Crew} {h : Nat} (hw : worksB x h = true) : builtN x h + rateAt x ((h : Int) % 24 - x.start).toNat = builtN x (h + 1) := by simp [builtN, hw]
theorem builtN_no {x : Crew} {h : Nat} (hw : worksB x h = false) : builtN x h = builtN x (h + 1) := by simp [builtN, hw]
theorem togetherN_snoc {xs : List Crew} {i H : Nat} {x : Crew} (hx : xs[i]? = some x) : togetherN (xs.take i) H + builtN x H = togetherN (xs.take (i + 1)) H := by
  rw [List.take_add_one, hx]
  simp [togetherN]
theorem togetherN_bd {xs : List Crew} {i H : Nat} (hg : allC xs) (hH : H ≤ 1000) : 0 ≤ togetherN (xs.take i) H ∧ togetherN (xs.take i) H ≤ 200000 * i := by
  induction i with
  | zero => simp [togetherN]
  | succ i ih =>
    rcases hx : xs[i]? with _ | x
    · rw [List.take_add_one, hx]
      simp only [Option.toList_none, List.append_nil]
      omega
    · rw [← togetherN_snoc hx]
      have := builtN_bd (hg i x hx) H
      omega
theorem togetherN_mono1 {xs : List Crew} (hg : allC xs) (h : Nat) : togetherN xs h ≤ togetherN xs (h + 1) := by
  induction xs with
  | nil => simp [togetherN]
  | cons x xs ih =>
    have h1 := builtN_mono (hg 0 x rfl) h
    have h2 := ih (fun i y hy => hg (i + 1) y hy)
    simp only [togetherN, List.map_cons, List.sum_cons] at h2 ⊢
    omega
theorem togetherN_mono {xs : List Crew} (hg : allC xs) {j h : Nat} (hj : j ≤ h) : togetherN xs j ≤ togetherN xs h := by
  induction h with
  | zero => rw [Nat.le_zero.1 hj]; omega
  | succ h ih =>
    rcases Nat.lt_or_ge j (h + 1) with h1 | h1
    · exact Int.le_trans (ih (by omega)) (togetherN_mono1 hg h)
    · rw [show j = h + 1 from by omega]; omega
/-- The smallest hour up to which m metres are built. -/
def hoursR (xs : List Crew) (m : Int) : Int × Bool :=
  match (List.range 241).find? fun h => decide (m ≤ togetherN xs h) with
  | some h => ((h : Int), true)
  | none => (0, false)
theorem hoursR_yes {xs : List Crew} {m : Int} {h : Nat} (hh : h ≤ 240) (h1 : m ≤ togetherN xs h) (h2 : ∀ j, j < h → togetherN xs j < m) : hoursR xs m = ((h : Int), true) := by
  have e : (List.range 241).find? (fun h => decide (m ≤ togetherN xs h)) = some h := by
    rw [List.find?_range_eq_some]
    refine ⟨by simpa using h1, by rw [List.mem_range]; omega, fun j hj => ?_⟩
    have := h2 j hj
    simp
    omega
  rw [hoursR, e]
theorem hoursR_no {xs : List Crew} {m : Int} (h2 : ∀ j, j ≤ 240 → togetherN xs j < m) : hoursR xs m = (0, false) := by
  have e : (List.range 241).find? (fun h => decide (m ≤ togetherN xs h)) = none := by
    rw [List.find?_eq_none]
    intro j hj
    have := h2 j (by rw [List.mem_range] at hj; omega)
    simp
    omega
  rw [hoursR, e]
def leastI (xs : List Crew) (m : Int) : Int := if (hoursR xs m).2 then (hoursR xs m).1 else -1
theorem leastI_no {xs : List Crew} {m : Int} (hg : allC xs) (h : togetherN xs 240 < m) : leastI xs m = -1 := by
  rw [leastI, hoursR_no fun j hj => Int.lt_of_le_of_lt (togetherN_mono hg hj) h]
  rfl
theorem leastI_yes {xs : List Crew} {m : Int} {h : Nat} (hh : h ≤ 240) (h1 : m ≤ togetherN xs h) (h2 : ∀ j, j < h → togetherN xs j < m) : leastI xs m = h := by
  rw [leastI, hoursR_yes hh h1 h2]
  rfl
def below_ (xs : List Crew) (m : Int) (l : Nat) : Prop := ∀ j, j < l → togetherN xs j < m
end Go.Proofs.Ythbjgccldoofgaa
