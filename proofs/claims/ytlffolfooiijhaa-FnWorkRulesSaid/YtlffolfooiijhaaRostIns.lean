/-
  A duty more in a roster: what the program's sort and the reference's insertion make of it: plain.
-/
import Derived.Test.YtlffolfooiijhaaRostSort
namespace Go.Proofs.Ytlffolfooiijhaa
open Go.RowKit

/-- The reference: before the first duty that is not less. -/
def insS (d : Duty) (xs : List Duty) : List Duty := xs.takeWhile (ltD · d) ++ d :: xs.dropWhile (ltD · d)
/-- The program: behind the last duty that is not greater. -/
def insI (xs : List Duty) (d : Duty) : List Duty := insU 0 (xs ++ [d]) (xs.length + 1)
def keyed (xs : List Duty) : Prop := ∀ (i : Nat) (y x : Duty), xs[i]? = some y → xs[i + 1]? = some x → ltD y x = true
theorem ltD_irr (x : Duty) : ltD x x = false := by
  rw [Bool.eq_false_iff, Ne, ltD_iff]; omega
theorem ltD_asym {x y : Duty} (h : ltD x y = true) : ltD y x = false := by
  rw [ltD_iff] at h
  rw [Bool.eq_false_iff, Ne, ltD_iff]; omega
theorem ltD_trans {x y z : Duty} (h : ltD x y = true) (h' : ltD y z = true) : ltD x z = true := by
  rw [ltD_iff] at *; omega
theorem keyed_lt {xs : List Duty} (h : keyed xs) {i j : Nat} {y x : Duty} (hy : xs[i]? = some y) (hx : xs[j]? = some x) (hij : i < j) : ltD y x = true := by
  induction j generalizing x with
  | zero => omega
  | succ j ih =>
    by_cases e : i = j
    · subst e
      exact h i y x hy hx
    · have hj : j < xs.length := by have := (List.getElem?_eq_some_iff.1 hx).1; omega
      have hz := List.getElem?_eq_getElem hj
      exact ltD_trans (ih hz (by omega)) (h j _ x hz hx)
theorem rosterB_at {xs : List Duty} (h : rosterB xs = true) {i : Nat} {y x : Duty} (hy : xs[i]? = some y) (hx : xs[i + 1]? = some x) : clashD y x = false := by
  rw [rosterB, Bool.and_eq_true] at h
  exact clash_of h.1 hx hy
theorem roster_keyed {xs : List Duty} (h : rosterB xs = true) : keyed xs := fun i y x hy hx => by
  have h1 := rosterB_at h hy hx
  have h2 := goodD_bd (rosterB_all h i y hy)
  simp only [clashD, Bool.or_eq_false_iff, Bool.and_eq_false_iff, decide_eq_false_iff_not] at h1
  rw [ltD_iff]
  omega
/-- Sorted as they stand: nothing moves. -/
theorem insU_sorted {xs : List Duty} {n : Nat} (h : ∀ (i : Nat) (y x : Duty), i + 1 < n → xs[i]? = some y → xs[i + 1]? = some x → ltD x y = false) : ∀ i, i ≤ n → n ≤ xs.length → insU 0 xs i = xs
  | 0, _, _ => rfl
  | 1, _, _ => rfl
  | i + 2, hi, hn => by
    rw [insU, if_pos (by omega), insU_sorted h (i + 1) (by omega) hn]
    obtain ⟨p, hp⟩ : ∃ p, xs[i]? = some p := get_of_lt (by omega)
    obtain ⟨q, hq⟩ : ∃ q, xs[i + 1]? = some q := get_of_lt (by omega)
    exact sink_stay (by omega) hp hq (h i p q (by omega) hp hq)
theorem drop_all {p : Duty → Bool} : ∀ (xs : List Duty), (∀ y ∈ xs, p y = true) → xs.dropWhile p = []
  | [], _ => rfl
  | x :: xs, h => by
    rw [List.dropWhile_cons, if_pos (h x (by simp))]
    exact drop_all xs fun y hy => h y (by simp [hy])
/-- The last of a sorted list sinks to its place. -/
theorem sink_last {d : Duty} : ∀ (n : Nat) {xs : List Duty} (zs : List Duty), xs.length = n → keyed xs → sinkJ 0 xs.length (xs ++ d :: zs) = xs.takeWhile (fun y => !ltD d y) ++ d :: (xs.dropWhile (fun y => !ltD d y) ++ zs) := by
  intro n
  induction n with
  | zero =>
    intro xs zs hn _
    obtain rfl := List.eq_nil_of_length_eq_zero hn
    rfl
  | succ n ih =>
    intro xs zs hn hk
    obtain ⟨ys, p, rfl⟩ : ∃ ys p, xs = ys ++ [p] := by
      rcases List.eq_nil_or_concat xs with h | ⟨ys, z, rfl⟩
      · rw [h] at hn; simp at hn
      · exact ⟨ys, z, by simp⟩
    have hyn : ys.length = n := by simpa using hn
    have hky : keyed ys := fun i y x hy hx => by
      have hi : i + 1 < ys.length := (List.getElem?_eq_some_iff.1 hx).1
      exact hk i y x (by rw [List.getElem?_append_left (by omega)]; exact hy) (by rw [List.getElem?_append_left hi]; exact hx)
    have hp : (ys ++ [p] ++ d :: zs)[ys.length]? = some p := by simp
    have hq : (ys ++ [p] ++ d :: zs)[ys.length + 1]? = some d := by simp
    rw [List.length_append, List.length_singleton]
    rcases hl : ltD d p with _ | _
    · rw [sink_stay (by omega) hp hq hl]
      have hall : ∀ y ∈ ys ++ [p], (!ltD d y) = true := fun y hy => by
        rw [List.mem_append, List.mem_singleton] at hy
        rcases hy with hy | rfl
        · obtain ⟨i, hi⟩ := List.getElem?_of_mem hy
          have hil : i < ys.length := (List.getElem?_eq_some_iff.1 hi).1
          have h1 := keyed_lt hk (i := i) (j := ys.length) (x := p) (by rw [List.getElem?_append_left hil]; exact hi) (by simp) hil
          rcases hdy : ltD d y with _ | _
          · rfl
          · rw [ltD_trans hdy h1] at hl; cases hl
        · rw [hl]; rfl
      have hdr := drop_all (ys ++ [p]) hall
      have htk := List.takeWhile_append_dropWhile (p := fun y => !ltD d y) (l := ys ++ [p])
      rw [hdr, List.append_nil] at htk
      rw [hdr, htk]
      simp
    · rw [sink_go (by omega) hp hq hl]
      have e1 : ((ys ++ [p] ++ d :: zs).set (ys.length + 1) p).set ys.length d = ys ++ d :: (p :: zs) := by
        simp
      rw [e1, ih (p :: zs) hyn hky, List.takeWhile_append, List.dropWhile_append]
      by_cases hall : (ys.takeWhile fun y => !ltD d y).length = ys.length
      · have h1 : (ys.dropWhile fun y => !ltD d y) = [] := by
          have h2 := congrArg List.length (List.takeWhile_append_dropWhile (p := fun y => !ltD d y) (l := ys))
          rw [List.length_append] at h2
          exact List.eq_nil_of_length_eq_zero (by omega)
        have h3 : (ys.takeWhile fun y => !ltD d y) = ys := by
          have h2 := List.takeWhile_append_dropWhile (p := fun y => !ltD d y) (l := ys)
          rw [h1, List.append_nil] at h2
          exact h2
        rw [if_pos hall, h1, h3]
        simp [hl]
      · have h1 : (ys.dropWhile fun y => !ltD d y).isEmpty = false := by
          rcases h2 : (ys.dropWhile fun y => !ltD d y) with _ | ⟨z, t⟩
          · exfalso
            have h3 := List.takeWhile_append_dropWhile (p := fun y => !ltD d y) (l := ys)
            rw [h2, List.append_nil] at h3
            rw [h3] at hall
            exact hall rfl
          · rfl
        rw [if_neg hall, h1]
        simp
theorem insI_eq {xs : List Duty} {d : Duty} (hk : keyed xs) : insI xs d = xs.takeWhile (fun y => !ltD d y) ++ d :: xs.dropWhile (fun y => !ltD d y) := by
  have hs : ∀ (i : Nat) (y x : Duty), i + 1 < xs.length → (xs ++ [d])[i]? = some y → (xs ++ [d])[i + 1]? = some x → ltD x y = false := fun i y x hi hy hx => by
    rw [List.getElem?_append_left (by omega)] at hy
    rw [List.getElem?_append_left hi] at hx
    exact ltD_asym (hk i y x hy hx)
  rcases hn : xs.length with _ | m
  · obtain rfl := List.eq_nil_of_length_eq_zero hn
    rfl
  · rw [insI, hn, insU, if_pos (by omega), insU_sorted hs (m + 1) (by omega) (by simp), ← hn, sink_last _ [] rfl hk]
    simp
theorem ins_same {xs : List Duty} {d : Duty} (hk : keyed xs) (hne : ∀ y ∈ xs, ltD y d = false → ltD d y = true) : insI xs d = insS d xs := by
  rw [insI_eq hk, insS]
  have key : ∀ ys : List Duty, keyed ys → (∀ y ∈ ys, ltD y d = false → ltD d y = true) → ys.takeWhile (fun y => !ltD d y) = ys.takeWhile (ltD · d) ∧ ys.dropWhile (fun y => !ltD d y) = ys.dropWhile (ltD · d) := fun ys => by
    induction ys with
    | nil => intros; exact ⟨rfl, rfl⟩
    | cons y ys ih =>
      intro hk hne
      have hk2 : keyed ys := fun i a b ha hb => hk (i + 1) a b (by simpa using ha) (by simpa using hb)
      obtain ⟨h1, h2⟩ := ih hk2 (fun z hz => hne z (by simp [hz]))
      rcases hy : ltD y d with _ | _
      · have := hne y (by simp) hy
        simp [hy, this]
      · have := ltD_asym hy
        simp [hy, this, h1, h2]
  obtain ⟨h1, h2⟩ := key xs hk hne
  rw [h1, h2]
theorem keyed_mid {A B : List Duty} {d : Duty} (hk : keyed (A ++ d :: B)) : (∀ y ∈ A, ltD y d = true) ∧ ∀ y ∈ B, ltD d y = true := by
  have hd : (A ++ d :: B)[A.length]? = some d := by simp
  refine ⟨fun y hy => ?_, fun y hy => ?_⟩
  · obtain ⟨i, hi⟩ := List.getElem?_of_mem hy
    have hil : i < A.length := (List.getElem?_eq_some_iff.1 hi).1
    exact keyed_lt hk (by rw [List.getElem?_append_left hil]; exact hi) hd hil
  · obtain ⟨i, hi⟩ := List.getElem?_of_mem hy
    exact keyed_lt hk hd (j := A.length + (i + 1)) (by rw [List.getElem?_append_right (by omega), Nat.add_sub_cancel_left]; simpa using hi) (by omega)
theorem apart_of {A B xs : List Duty} {d : Duty} (hx : A ++ B = xs) (hk : keyed (A ++ d :: B)) : ∀ y ∈ xs, ltD y d = false → ltD d y = true := fun y hy h => by
  obtain ⟨h1, h2⟩ := keyed_mid hk
  rw [← hx, List.mem_append] at hy
  rcases hy with hy | hy
  · rw [h1 y hy] at h; cases h
  · exact h2 y hy
theorem insI_same {xs : List Duty} {d : Duty} (hx : rosterB xs = true) (h : rosterB (insI xs d) = true) : insI xs d = insS d xs := by
  have hk := roster_keyed hx
  have h2 := roster_keyed h
  rw [insI_eq hk] at h2
  exact ins_same hk (apart_of List.takeWhile_append_dropWhile h2)
theorem insS_same {xs : List Duty} {d : Duty} (hx : rosterB xs = true) (h : rosterB (insS d xs) = true) : insI xs d = insS d xs := by
  have hk := roster_keyed hx
  have h2 := roster_keyed h
  exact ins_same hk (apart_of List.takeWhile_append_dropWhile h2)
theorem ins_roster {xs : List Duty} {d : Duty} (hx : rosterB xs = true) : rosterB (insI xs d) = rosterB (insS d xs) := by
  rcases h : rosterB (insI xs d) with _ | _
  · rcases h2 : rosterB (insS d xs) with _ | _
    · rfl
    · rw [insS_same hx h2, h2] at h; cases h
  · rw [← insI_same hx h, h]
theorem insS_len (xs : List Duty) (d : Duty) : (insS d xs).length = xs.length + 1 := by
  have := congrArg List.length (List.takeWhile_append_dropWhile (p := (ltD · d)) (l := xs))
  rw [List.length_append] at this
  simp only [insS, List.length_append, List.length_cons]
  omega
theorem insI_len (xs : List Duty) (d : Duty) : (insI xs d).length = xs.length + 1 := by rw [insI, insU_len]; simp
end Go.Proofs.Ytlffolfooiijhaa
