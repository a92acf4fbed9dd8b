/-
  The latest hot spot of each cluster, plainly: the best of a cluster, the numbers in order.
-/
import Derived.Test.YtkkoccllmflhfaaClusTop
import Derived.Test.YtkkoccllmflhfaaPutS
import Derived.Test.YtkkoccllmflhfaaSortInts
namespace Go.Proofs.Ytkkoccllmflhfaa
open Go.RowKit

def tickB (t : Int) (x : Hotspot) : Bool := decide (x.tick ≤ t)
def freshH (t : Int) (xs : List Hotspot) : List Hotspot := xs.filter (tickB t)
def upB (b x : Hotspot) : Hotspot := if b.tick < x.tick then x else b
def bestF (h : Hotspot) (ps : List Hotspot) : Hotspot := ps.foldl upB h
def bestId (ps : List Hotspot) : Int :=
  match ps with
  | [] => 0
  | h :: t => (bestF h (h :: t)).id
noncomputable def bests (ys : List Hotspot) : List Int := (clusL ys).map fun l => bestId (pickH ys l)
/-- Rising, and with the same members. -/
def Rise (ys L : List Int) : Prop := ys.Pairwise (· < ·) ∧ ∀ v, v ∈ ys ↔ v ∈ L
noncomputable def sortD (L : List Int) : List Int := Classical.epsilon fun ys => Rise ys L
noncomputable def latR (xs : List Hotspot) (t : Int) : List Int × Bool := if listH xs && inB t 0 9999 then (sortD (bests (freshH t xs)), true) else ([], false)
theorem rise_same : ∀ {A B : List Int}, A.Pairwise (· < ·) → B.Pairwise (· < ·) → (∀ k, k ∈ A ↔ k ∈ B) → A = B
  | [], [], _, _, _ => rfl
  | [], b :: B, _, _, h => absurd ((h b).2 (by simp)) (by simp)
  | a :: A, [], _, _, h => absurd ((h a).1 (by simp)) (by simp)
  | a :: A, b :: B, hA, hB, h => by
    rw [List.pairwise_cons] at hA hB
    have hab : a = b := by
      have h1 := (h a).1 (by simp)
      have h2 := (h b).2 (by simp)
      rw [List.mem_cons] at h1 h2
      rcases h1 with h1 | h1
      · exact h1
      · rcases h2 with h2 | h2
        · exact h2.symm
        · have := hB.1 a h1
          have := hA.1 b h2
          omega
    subst hab
    rw [rise_same hA.2 hB.2 fun k => by
      constructor
      · intro hk
        have h1 := (h k).1 (by simp [hk])
        rw [List.mem_cons] at h1
        rcases h1 with h1 | h1
        · have := hA.1 k hk; omega
        · exact h1
      · intro hk
        have h1 := (h k).2 (by simp [hk])
        rw [List.mem_cons] at h1
        rcases h1 with h1 | h1
        · have := hB.1 k hk; omega
        · exact h1]
theorem rise_sortD {ys L : List Int} (h : Rise ys L) : ys = sortD L :=
  have h2 : Rise (sortD L) L := Classical.epsilon_spec (p := fun zs => Rise zs L) ⟨ys, h⟩
  rise_same h.1 h2.1 fun k => (h.2 k).trans (h2.2 k).symm
theorem put_rise {v : Int} {xs ys L : List Int} (h : PutR v xs ys) (hx : Rise xs L) : Rise ys (L ++ [v]) := by
  obtain ⟨i, hi, hlo, h | ⟨hhi, rfl⟩⟩ := h
  · obtain ⟨hv, rfl⟩ := h
    refine ⟨hx.1, fun u => ?_⟩
    rw [List.mem_append, List.mem_singleton, hx.2]
    refine ⟨Or.inl, fun h => ?_⟩
    rcases h with h | rfl
    · exact h
    · exact (hx.2 _).1 (List.mem_of_getElem? hv)
  · have hl : ∀ a ∈ xs.take i, a < v := fun a ha => by
      obtain ⟨j, hj⟩ := List.getElem?_of_mem ha
      rw [List.getElem?_take] at hj
      split at hj
      · rename_i hji
        exact hlo j a hji hj
      · cases hj
    have hr : ∀ b ∈ xs.drop i, v < b := fun b hb => by
      obtain ⟨j, hj⟩ := List.getElem?_of_mem hb
      rw [List.getElem?_drop] at hj
      have hjl := (List.getElem?_eq_some_iff.1 hj).1
      obtain ⟨c, hc⟩ : ∃ c, xs[i]? = some c := get_of_lt (by omega)
      have h1 := hhi c hc
      rcases Nat.eq_zero_or_pos j with h2 | h2
      · subst h2
        rw [Nat.add_zero, hc] at hj
        cases hj
        exact h1
      · have h3 := List.pairwise_iff_getElem.1 hx.1 i (i + j) (by omega) hjl (by omega)
        rw [(List.getElem?_eq_some_iff.1 hc).2, (List.getElem?_eq_some_iff.1 hj).2] at h3
        omega
    refine ⟨?_, fun u => ?_⟩
    · rw [List.pairwise_append, List.pairwise_cons]
      refine ⟨hx.1.sublist (List.take_sublist _ _), ⟨hr, hx.1.sublist (List.drop_sublist _ _)⟩, fun a ha b hb => ?_⟩
      have h1 := hl a ha
      rw [List.mem_cons] at hb
      rcases hb with rfl | hb
      · exact h1
      · have := hr b hb; omega
    · have e : u ∈ xs ↔ u ∈ xs.take i ∨ u ∈ xs.drop i := by
        conv => lhs; rw [← List.take_append_drop i xs]
        exact List.mem_append
      rw [List.mem_append, List.mem_cons, List.mem_append, List.mem_singleton, ← hx.2, e]
      constructor
      · rintro (h | h | h)
        · exact Or.inl (Or.inl h)
        · exact Or.inr h
        · exact Or.inl (Or.inr h)
      · rintro ((h | h) | h)
        · exact Or.inl h
        · exact Or.inr (Or.inr h)
        · exact Or.inr (Or.inl h)
theorem sorted_rise {n : Nat} {ys L : List Int} (hp : ys.Perm L) (hu : Upto n ys) (hn : ys.length = n) (hd : L.Nodup) : Rise ys L := by
  refine ⟨?_, fun v => hp.mem_iff⟩
  have hd2 : ys.Nodup := hp.nodup_iff.2 hd
  rw [List.pairwise_iff_getElem]
  intro p q hp1 hq1 hpq
  have h1 := hu p q _ _ hpq (by omega) (List.getElem?_eq_getElem hp1) (List.getElem?_eq_getElem hq1)
  have h2 := List.pairwise_iff_getElem.1 hd2 p q hp1 hq1 hpq
  omega
/-! ### The best of a cluster -/
theorem bestF_mem : ∀ (ps : List Hotspot) (h : Hotspot), bestF h ps = h ∨ bestF h ps ∈ ps
  | [], _ => Or.inl rfl
  | x :: ps, h => by
    have e : bestF h (x :: ps) = bestF (upB h x) ps := rfl
    rw [e]
    rcases bestF_mem ps (upB h x) with h1 | h1
    · rw [h1]
      unfold upB
      split
      · exact Or.inr (by simp)
      · exact Or.inl rfl
    · exact Or.inr (List.mem_cons_of_mem _ h1)
theorem bestF_snoc (h : Hotspot) (ps : List Hotspot) (x : Hotspot) : bestF h (ps ++ [x]) = upB (bestF h ps) x := by simp [bestF]
theorem upB_yes {b x : Hotspot} (h : b.tick < x.tick) : upB b x = x := if_pos h
theorem upB_no {b x : Hotspot} (h : ¬ b.tick < x.tick) : upB b x = b := if_neg h
theorem bestF_self (h : Hotspot) : bestF h [h] = h := by
  show upB h h = h
  exact upB_no (by omega)
theorem bestId_of {ps : List Hotspot} {h : Hotspot} (h0 : ps[0]? = some h) : bestId ps = (bestF h ps).id := by
  cases ps with
  | nil => cases h0
  | cons a t =>
    simp only [List.getElem?_cons_zero, Option.some.injEq] at h0
    subst h0
    rfl
theorem best_in {ys : List Hotspot} {i : Nat} (hi : i < ys.length) : ∃ k x, k ∈ comp ys i ∧ ys[k]? = some x ∧ bestId (pickH ys (comp ys i)) = x.id := by
  have hm : ∀ x, x ∈ pickH ys (comp ys i) → ∃ k, k ∈ comp ys i ∧ ys[k]? = some x := fun x hx => by
    simp only [pickH, List.mem_filterMap] at hx
    exact hx
  obtain ⟨y, hy⟩ : ∃ y, ys[i]? = some y := get_of_lt hi
  have hin : y ∈ pickH ys (comp ys i) := by
    simp only [pickH, List.mem_filterMap]
    exact ⟨i, comp_pos hi, hy⟩
  cases hq : pickH ys (comp ys i) with
  | nil => rw [hq] at hin; cases hin
  | cons a t =>
    rw [hq] at hm
    have hb : bestF a (a :: t) ∈ a :: t := by
      rcases bestF_mem (a :: t) a with h | h
      · rw [h]; simp
      · exact h
    obtain ⟨k, hk, hx⟩ := hm _ hb
    exact ⟨k, _, hk, hx, rfl⟩
theorem idsH_rise {xs : List Hotspot} (h : listH xs = true) : xs.Pairwise fun a b => a.id < b.id := by
  rw [listH, Bool.and_eq_true] at h
  have key : ∀ (d j : Nat) (x y : Hotspot), xs[j]? = some y → xs[j + d + 1]? = some x → y.id < x.id := by
    intro d
    induction d with
    | zero =>
      intro j x y hy hx
      have := clash_of h.1 hx hy
      rw [clashH, decide_eq_false_iff_not] at this
      omega
    | succ d ih =>
      intro j x y hy hx
      obtain ⟨z, hz⟩ : ∃ z, xs[j + d + 1]? = some z := get_of_lt (by have := (List.getElem?_eq_some_iff.1 hx).1; omega)
      have h1 := ih j z y hy hz
      have h2 := clash_of h.1 (i := j + d + 1) hx hz
      rw [clashH, decide_eq_false_iff_not] at h2
      omega
  rw [List.pairwise_iff_getElem]
  intro p q hp hq hpq
  refine key (q - p - 1) p _ _ (List.getElem?_eq_getElem hp) ?_
  rw [show p + (q - p - 1) + 1 = q by omega]
  exact List.getElem?_eq_getElem hq
theorem bests_nodup {ys : List Hotspot} (h : ys.Pairwise fun a b => a.id < b.id) : (bests ys).Nodup := by
  unfold bests clusL clusU
  rw [List.Nodup, List.pairwise_map, List.pairwise_map]
  refine List.Pairwise.imp_of_mem ?_ ((range_rising ys.length).filter _)
  intro i j hi hj hij he
  simp only [List.mem_filter, List.mem_range, decide_eq_true_eq] at hi hj
  obtain ⟨k, x, hk, hx, e1⟩ := best_in hi.1
  obtain ⟨m, y, hm, hy, e2⟩ := best_in hj.1
  rw [e1, e2] at he
  have hkm : k = m := by
    obtain ⟨h1, h2⟩ := List.getElem?_eq_some_iff.1 hx
    obtain ⟨h3, h4⟩ := List.getElem?_eq_some_iff.1 hy
    rcases Nat.lt_trichotomy k m with h5 | h5 | h5
    · have := List.pairwise_iff_getElem.1 h k m h1 h3 h5
      rw [h2, h4] at this; omega
    · exact h5
    · have := List.pairwise_iff_getElem.1 h m k h3 h1 h5
      rw [h2, h4] at this; omega
  subst hkm
  exact hj.2 i hij ((mem_comp.1 hk).2.trans (mem_comp.1 hm).2.symm)
theorem freshH_all {xs : List Hotspot} {t : Int} (h : allH xs) : allH (freshH t xs) := fun i x hx => by
  have hm := List.mem_filter.1 (List.mem_of_getElem? hx)
  obtain ⟨j, hj⟩ := List.getElem?_of_mem hm.1
  exact h j x hj
theorem freshH_len (xs : List Hotspot) (t : Int) : (freshH t xs).length ≤ xs.length := List.length_filter_le _ _
theorem freshH_rise {xs : List Hotspot} {t : Int} (h : listH xs = true) : (freshH t xs).Pairwise fun a b => a.id < b.id := (idsH_rise h).filter _
theorem fresh_yes {xs : List Hotspot} {k : Int} {i : Nat} {x : Hotspot} (hx : xs[i]? = some x) (h : x.tick ≤ k) : (freshH k (xs.take i)).flatMap Hotspot.row ++ x.row = (freshH k (xs.take (i + 1))).flatMap Hotspot.row := by
  rw [List.take_add_one, hx]
  simp [freshH, tickB, h]
theorem fresh_no {xs : List Hotspot} {k : Int} {i : Nat} {x : Hotspot} (hx : xs[i]? = some x) (h : ¬ x.tick ≤ k) : freshH k (xs.take i) = freshH k (xs.take (i + 1)) := by
  rw [List.take_add_one, hx]
  simp [freshH, tickB, h]
theorem latR_no {xs : List Hotspot} {t : Int} (h : (listH xs && inB t 0 9999) = false) : latR xs t = ([], false) := by simp [latR, h]
theorem latR_yes {xs : List Hotspot} {t : Int} (h : listH xs = true) (h2 : inB t 0 9999 = true) : latR xs t = (sortD (bests (freshH t xs)), true) := by simp [latR, h, h2]
theorem bests_len (ys : List Hotspot) : (bests ys).length ≤ ys.length := by
  unfold bests
  rw [List.length_map]
  exact clusU_len _ _
end Go.Proofs.Ytkkoccllmflhfaa
