/-
  The nets of both, plainly: arcs that can be passed once.
-/
import Derived.Test.YtcdgkiiokplidaaFlowMem
import Derived.Test.YtcdgkiiokplidaaLineOpen
namespace Go.Proofs.Ytcdgkiiokplidaa
open Go.RowKit

def ones (es : List (Nat × Nat)) (u v : Nat) : Int := if (u, v) ∈ es then 1 else 0
theorem ones_nil : ones [] = fun _ _ => 0 := by
  funext u v
  simp [ones]
theorem ones_snoc (es : List (Nat × Nat)) (x y : Nat) : (fun a b => if a = x ∧ b = y then 1 else ones es a b) = ones (es ++ [(x, y)]) := by
  funext a b
  unfold ones
  by_cases h : a = x ∧ b = y
  · rw [if_pos h, if_pos (List.mem_append.2 (.inr (by rw [h.1, h.2]; exact List.mem_singleton.2 rfl)))]
  · rw [if_neg h]
    by_cases h2 : (a, b) ∈ es
    · rw [if_pos h2, if_pos (List.mem_append.2 (.inl h2))]
    · rw [if_neg h2, if_neg]
      intro h3
      rcases List.mem_append.1 h3 with h3 | h3
      · exact h2 h3
      · have := List.mem_singleton.1 h3
        simp only [Prod.mk.injEq] at this
        exact h this
theorem ones_bd (es : List (Nat × Nat)) (u v : Nat) : 0 ≤ ones es u v ∧ ones es u v ≤ 1 := by
  unfold ones
  split <;> omega
theorem matF_zero (N : Nat) : matF (List.replicate N (List.replicate N 0)) = ones [] := by
  rw [ones_nil]
  funext u v
  unfold matF
  rw [List.getD_eq_getElem?_getD (l := List.replicate N _), List.getElem?_replicate]
  split
  · rw [Option.getD_some, List.getD_eq_getElem?_getD, List.getElem?_replicate]
    split <;> rfl
  · rfl
theorem put_one {lo hi gA N c : Nat} {w : World} {LL : List (List Int)} {Vs : List Value} {es : List (Nat × Nat)} (h : Mat lo hi w gA N c LL Vs) (he : matF LL = ones es) {x y : Nat} (hx : x < N) (hy : y < N) : matF (putM LL x y 1) = ones (es ++ [(x, y)]) := by
  rw [matF_put h hx hy, he]
  exact ones_snoc es x y
/-! ### The program's -/
def arcI (t : Terr) (so ass : List Int) (c x : Int) : List (Nat × Nat) :=
  if burnsB t x = true then (if freeB t so ass x = true then [(t.n + c.toNat, x.toNat)] else if hasB so x = true then [(2 * t.n, c.toNat)] else if hasB ass x = true then [(t.n + c.toNat, 2 * t.n + 1)] else []) else []
def arcsI (t : Terr) (so ass : List Int) (c : Int) : List (Nat × Nat) := (c.toNat, t.n + c.toNat) :: (nearL t c).flatMap (arcI t so ass c)
def netI (t : Terr) (so ass : List Int) : List (Nat × Nat) := (freeL t so ass).flatMap (arcsI t so ass)
theorem flat_next {α : Type} {f : Int → List α} {xs : List Int} {i : Nat} {x : Int} (hx : xs[i]? = some x) : (xs.take (i + 1)).flatMap f = (xs.take i).flatMap f ++ f x := by
  rw [List.take_add_one, hx]
  simp
theorem free_in {t : Terr} {so ass : List Int} {x : Int} (h : x ∈ freeL t so ass) : ∃ c : Nat, x = c ∧ c < t.n ∧ freeB t so ass x = true := by
  obtain ⟨i, rfl, hi, hf⟩ := cellsL_mem.1 h
  exact ⟨i, rfl, hi, hf⟩
theorem has_free {t : Terr} {so ass : List Int} {x : Int} (hx : 0 ≤ x ∧ x < t.n) : hasB (freeL t so ass) x = freeB t so ass x := by
  rw [Bool.eq_iff_iff, hasB, List.any_eq_true]
  constructor
  · rintro ⟨y, hy, h1⟩
    have h2 : y = x := by simpa using h1
    subst h2
    obtain ⟨_, _, _, hf⟩ := free_in hy
    exact hf
  · intro hf
    exact ⟨x, cellsL_mem.2 ⟨x.toNat, by omega, by omega, by rw [show ((x.toNat : Nat) : Int) = x by omega]; exact hf⟩, by simp⟩
theorem Sl.grownIn {lo hi : Nat} {w w' : World} {k n c : Nat} {A : Option Addr} {L : List Value} (h : Sl w k A n c L) (hg : GrownIn lo hi w w') (hr : ∀ q, A.map (·.block) = some q → q < lo ∨ hi ≤ q) : Sl w' k A n c L :=
  h.keep hg.size fun b o hA hb => World.cell?_of_block (a := ⟨b, o, none⟩) (hg.block b hb (hr b hA))
/-- One arc more. -/
theorem put_next {lo hi gA N c : Nat} {w : World} {LL : List (List Int)} {Vs : List Value} {es : List (Nat × Nat)} {f : Int → List (Nat × Nat)} {xs : List Int} {j : Nat} {k : Int} (h : Mat lo hi w gA N c LL Vs) (he : matF LL = ones (es ++ (xs.take j).flatMap f)) (hk : xs[j]? = some k) {x y : Nat} (hf : f k = [(x, y)]) (hx : x < N) (hy : y < N) : matF (putM LL x y 1) = ones (es ++ (xs.take (j + 1)).flatMap f) := by
  rw [flat_next hk, hf, ← List.append_assoc]
  exact put_one h he hx hy
theorem none_next {LL : List (List Int)} {es : List (Nat × Nat)} {f : Int → List (Nat × Nat)} {xs : List Int} {j : Nat} {k : Int} (he : matF LL = ones (es ++ (xs.take j).flatMap f)) (hk : xs[j]? = some k) (hf : f k = []) : matF LL = ones (es ++ (xs.take (j + 1)).flatMap f) := by
  rw [flat_next hk, hf, List.append_nil]
  exact he
end Go.Proofs.Ytcdgkiiokplidaa
