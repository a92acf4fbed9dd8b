/-
  The law on clusters, plainly: each hot spot is in one cluster, near ones in the same, all of them and their centre in the box.
-/
import Derived.Test.YtkkoccllmflhfaaSpotLastM
import Derived.Test.YtkkoccllmflhfaaSpotHull
import Derived.Test.YtkkoccllmflhfaaSpotCentre
namespace Go.Proofs.Ytkkoccllmflhfaa
open Go.RowKit

/-- How many of the first clusters hold one. -/
def cnt (LL : List (List Nat)) (i k : Nat) : Nat := (LL.take k).countP fun l => decide (i ∈ l)
theorem cnt_zero (LL : List (List Nat)) (i : Nat) : cnt LL i 0 = 0 := by simp [cnt]
theorem cnt_yes {LL : List (List Nat)} {i k : Nat} {l : List Nat} (h : LL[k]? = some l) (hi : i ∈ l) : cnt LL i (k + 1) = cnt LL i k + 1 := by
  unfold cnt
  rw [List.take_add_one, h]
  simp [List.countP_append, hi]
theorem cnt_no {LL : List (List Nat)} {i k : Nat} {l : List Nat} (h : LL[k]? = some l) (hi : i ∉ l) : cnt LL i (k + 1) = cnt LL i k := by
  unfold cnt
  rw [List.take_add_one, h]
  simp [List.countP_append, hi]
theorem cnt_le (LL : List (List Nat)) (i k : Nat) : cnt LL i k ≤ k := by
  unfold cnt
  have h1 := List.countP_le_length (p := fun l => decide (i ∈ l)) (l := LL.take k)
  have h2 := List.length_take_le k LL
  omega
theorem cover1 {i : Nat} : ∀ {LL : List (List Nat)}, LL.Pairwise (fun a b => ∀ i, i ∈ a → i ∉ b) → i ∈ LL.flatten → LL.countP (fun l => decide (i ∈ l)) = 1
  | [], _, h => by simp at h
  | a :: t, hp, h => by
    rw [List.pairwise_cons] at hp
    rw [List.flatten_cons, List.mem_append] at h
    by_cases hi : i ∈ a
    · have h0 : t.countP (fun l => decide (i ∈ l)) = 0 := by
        rw [List.countP_eq_zero]
        intro b hb
        have := hp.1 b hb i hi
        simpa using this
      rw [List.countP_cons, h0]
      simp [hi]
    · rw [List.countP_cons, cover1 hp.2 (h.resolve_left hi)]
      simp [hi]
theorem clus_apart (xs : List Hotspot) : (clusL xs).Pairwise (fun a b => ∀ i, i ∈ a → i ∉ b) := by
  unfold clusL clusU
  rw [List.pairwise_map]
  refine List.Pairwise.imp_of_mem ?_ ((range_rising xs.length).filter _)
  intro i j hi hj hij k hk hm
  simp only [List.mem_filter, List.mem_range, decide_eq_true_eq] at hj
  exact hj.2 i hij ((mem_comp.1 hk).2.trans (mem_comp.1 hm).2.symm)
theorem cnt_all {xs : List Hotspot} {i : Nat} (hi : i < xs.length) : cnt (clusL xs) i (clusL xs).length = 1 := by
  unfold cnt
  rw [List.take_of_length_le (Nat.le_refl _)]
  refine cover1 (clus_apart xs) ?_
  exact (in_clusU (Nat.le_refl _)).2 ⟨hi, i, hi, .refl i⟩
theorem clus_lt {xs : List Hotspot} {l : List Nat} (h : l ∈ clusL xs) : ∀ k ∈ l, k < xs.length := by
  simp only [clusL, clusU, List.mem_map] at h
  obtain ⟨i, _, rfl⟩ := h
  exact fun k hk => (mem_comp.1 hk).1
theorem ids_has {xs : List Hotspot} (hl : listH xs = true) {l : List Nat} {i : Nat} {x : Hotspot} (hx : xs[i]? = some x) : ((idsH xs l).any fun y => y == x.id) = decide (i ∈ l) := by
  rw [Bool.eq_iff_iff, List.any_eq_true, decide_eq_true_eq]
  constructor
  · rintro ⟨y, hy, he⟩
    simp only [idsH, pickH, List.mem_map, List.mem_filterMap] at hy
    obtain ⟨z, ⟨k, hk, hz⟩, rfl⟩ := hy
    have he2 : z.id = x.id := by simpa using he
    have hr := idsH_rise hl
    obtain ⟨h1, h2⟩ := List.getElem?_eq_some_iff.1 hx
    obtain ⟨h3, h4⟩ := List.getElem?_eq_some_iff.1 hz
    rcases Nat.lt_trichotomy k i with h5 | h5 | h5
    · have := List.pairwise_iff_getElem.1 hr k i h3 h1 h5
      rw [h2, h4] at this; omega
    · exact h5 ▸ hk
    · have := List.pairwise_iff_getElem.1 hr i k h1 h3 h5
      rw [h2, h4] at this; omega
  · intro hi
    refine ⟨x.id, ?_, by simp⟩
    simp only [idsH, pickH, List.mem_map, List.mem_filterMap]
    exact ⟨x, ⟨i, hi, hx⟩, rfl⟩
theorem near_in {xs : List Hotspot} {l : List Nat} (h : l ∈ clusL xs) {i j : Nat} {x y : Hotspot} (hi : i ∈ l) (hx : xs[i]? = some x) (hy : xs[j]? = some y) (hn : sameB x y = true) : j ∈ l := by
  simp only [clusL, clusU, List.mem_map] at h
  obtain ⟨k, _, rfl⟩ := h
  refine mem_comp.2 ⟨(List.getElem?_eq_some_iff.1 hy).1, (mem_comp.1 hi).2.step ?_⟩
  rw [nearI_at hx hy]
  exact hn
/-! ### The box -/
theorem hull_le : ∀ (ys : List Hotspot) (q : Box), (ys.foldl hullStep q).a ≤ q.a ∧ q.b ≤ (ys.foldl hullStep q).b ∧ (ys.foldl hullStep q).c ≤ q.c ∧ q.d ≤ (ys.foldl hullStep q).d
  | [], q => by simp
  | y :: ys, q => by
    have h := hull_le ys (hullStep q y)
    rw [List.foldl_cons]
    simp only [hullStep] at h ⊢
    omega
theorem hull_mem : ∀ (ys : List Hotspot) (q : Box) (x : Hotspot), x ∈ ys → (ys.foldl hullStep q).a ≤ x.x - x.err ∧ x.x + x.err ≤ (ys.foldl hullStep q).b ∧ (ys.foldl hullStep q).c ≤ x.y - x.err ∧ x.y + x.err ≤ (ys.foldl hullStep q).d
  | [], _, _, h => by simp at h
  | y :: ys, q, x, h => by
    rw [List.foldl_cons]
    rw [List.mem_cons] at h
    rcases h with rfl | h
    · have h1 := hull_le ys (hullStep q x)
      simp only [hullStep] at h1 ⊢
      omega
    · exact hull_mem ys _ x h
theorem hull_bd : ∀ (ys : List Hotspot) (q : Box), (∀ x ∈ ys, goodH x = true) → -50 ≤ q.a ∧ q.b ≤ 1050 ∧ -50 ≤ q.c ∧ q.d ≤ 1050 → -50 ≤ (ys.foldl hullStep q).a ∧ (ys.foldl hullStep q).b ≤ 1050 ∧ -50 ≤ (ys.foldl hullStep q).c ∧ (ys.foldl hullStep q).d ≤ 1050
  | [], q, _, h => h
  | y :: ys, q, hg, h => by
    rw [List.foldl_cons]
    refine hull_bd ys _ (fun x hx => hg x (List.mem_cons_of_mem _ hx)) ?_
    have := goodH_bd (hg y (by simp))
    simp only [hullStep]
    omega
theorem all_good {xs : List Hotspot} (h : allH xs) : ∀ x ∈ xs, goodH x = true := fun x hx => by
  obtain ⟨i, hi⟩ := List.getElem?_of_mem hx
  exact h i x hi
theorem hull_in {xs : List Hotspot} (h : allH xs) (x : Hotspot) (hx : x ∈ xs) : (hullQ xs).a ≤ x.x ∧ x.x ≤ (hullQ xs).b ∧ (hullQ xs).c ≤ x.y ∧ x.y ≤ (hullQ xs).d ∧ -50 ≤ (hullQ xs).a ∧ (hullQ xs).b ≤ 1050 ∧ -50 ≤ (hullQ xs).c ∧ (hullQ xs).d ≤ 1050 := by
  have hg := all_good h
  have hb := goodH_bd (hg x hx)
  cases xs with
  | nil => simp at hx
  | cons y ys =>
    have hy := goodH_bd (hg y (by simp))
    have e : hullQ (y :: ys) = ys.foldl hullStep (oneQ y) := rfl
    have h2 := hull_bd ys (oneQ y) (fun z hz => hg z (List.mem_cons_of_mem _ hz)) (by simp only [oneQ]; omega)
    rw [← e] at h2
    rw [List.mem_cons] at hx
    rcases hx with rfl | hx
    · have h1 := hull_le ys (oneQ x)
      rw [← e] at h1
      simp only [oneQ] at h1
      omega
    · have h1 := hull_mem ys (oneQ y) x hx
      rw [← e] at h1
      omega
/-! ### The centre -/
theorem wsum_ge {f : Hotspot → Int} {p : Hotspot → Int} {a : Int} : ∀ {xs : List Hotspot}, (∀ x ∈ xs, 0 ≤ x.heat ∧ a ≤ p x ∧ 0 ≤ p x ∧ f x = x.heat * p x) → a * (wN Hotspot.heat xs : Nat) ≤ (wN f xs : Nat)
  | [], _ => by simp [wN]
  | x :: xs, h => by
    have ih := wsum_ge (xs := xs) (f := f) (p := p) (a := a) fun z hz => h z (List.mem_cons_of_mem _ hz)
    obtain ⟨h0, h1, h2, h3⟩ := h x (by simp)
    have e1 : ((wN Hotspot.heat (x :: xs) : Nat) : Int) = x.heat + (wN Hotspot.heat xs : Nat) := by simp only [wN, List.map_cons, List.sum_cons]; omega
    have hf : 0 ≤ f x := by rw [h3]; exact Int.mul_nonneg h0 h2
    have e2 : ((wN f (x :: xs) : Nat) : Int) = f x + (wN f xs : Nat) := by simp only [wN, List.map_cons, List.sum_cons]; omega
    rw [e1, e2, Int.mul_add, h3]
    have h4 : a * x.heat ≤ x.heat * p x := by rw [Int.mul_comm a]; exact Int.mul_le_mul_of_nonneg_left h1 h0
    omega
theorem wsum_le {f : Hotspot → Int} {p : Hotspot → Int} {a : Int} : ∀ {xs : List Hotspot}, (∀ x ∈ xs, 0 ≤ x.heat ∧ p x ≤ a ∧ 0 ≤ p x ∧ f x = x.heat * p x) → ((wN f xs : Nat) : Int) ≤ a * (wN Hotspot.heat xs : Nat)
  | [], _ => by simp [wN]
  | x :: xs, h => by
    have ih := wsum_le (xs := xs) (f := f) (p := p) (a := a) fun z hz => h z (List.mem_cons_of_mem _ hz)
    obtain ⟨h0, h1, h2, h3⟩ := h x (by simp)
    have e1 : ((wN Hotspot.heat (x :: xs) : Nat) : Int) = x.heat + (wN Hotspot.heat xs : Nat) := by simp only [wN, List.map_cons, List.sum_cons]; omega
    have hf : 0 ≤ f x := by rw [h3]; exact Int.mul_nonneg h0 h2
    have e2 : ((wN f (x :: xs) : Nat) : Int) = f x + (wN f xs : Nat) := by simp only [wN, List.map_cons, List.sum_cons]; omega
    rw [e1, e2, Int.mul_add, h3]
    have h4 : x.heat * p x ≤ a * x.heat := by rw [Int.mul_comm a]; exact Int.mul_le_mul_of_nonneg_left h1 h0
    omega
theorem div_ge {a : Int} {g X H : Nat} (hg : 0 < g) (hX : g ∣ X) (hH : g ∣ H) (h : a * (H : Int) ≤ X) : a * ((H / g : Nat) : Int) ≤ ((X / g : Nat) : Int) := by
  obtain ⟨X', rfl⟩ := hX
  obtain ⟨H', rfl⟩ := hH
  rw [Nat.mul_div_cancel_left _ hg, Nat.mul_div_cancel_left _ hg]
  push_cast at h
  rw [← Int.mul_assoc, Int.mul_comm a, Int.mul_assoc] at h
  exact Int.le_of_mul_le_mul_left h (by omega)
theorem div_le {a : Int} {g X H : Nat} (hg : 0 < g) (hX : g ∣ X) (hH : g ∣ H) (h : (X : Int) ≤ a * H) : ((X / g : Nat) : Int) ≤ a * ((H / g : Nat) : Int) := by
  obtain ⟨X', rfl⟩ := hX
  obtain ⟨H', rfl⟩ := hH
  rw [Nat.mul_div_cancel_left _ hg, Nat.mul_div_cancel_left _ hg]
  push_cast at h
  rw [← Int.mul_assoc, Int.mul_comm a, Int.mul_assoc] at h
  exact Int.le_of_mul_le_mul_left h (by omega)
theorem prod_bd {a h : Int} (ha : -50 ≤ a ∧ a ≤ 1050) (hh : 0 ≤ h ∧ h ≤ 10000000) : -500000000 ≤ a * h ∧ a * h ≤ 10500000000 := by
  have h1 : (-50) * h ≤ a * h := Int.mul_le_mul_of_nonneg_right ha.1 hh.1
  have h2 : a * h ≤ 1050 * h := Int.mul_le_mul_of_nonneg_right ha.2 hh.1
  omega
theorem centre_law {xs : List Hotspot} (hl : listH xs = true) (hn : 0 < xs.length) : ∃ x y h : Int, centreR xs = (x, y, h, true) ∧ (hullQ xs).a * h ≤ x ∧ x ≤ (hullQ xs).b * h ∧ (hullQ xs).c * h ≤ y ∧ y ≤ (hullQ xs).d * h ∧ (-500000000 ≤ (hullQ xs).a * h ∧ (hullQ xs).a * h ≤ 10500000000) ∧ (-500000000 ≤ (hullQ xs).b * h ∧ (hullQ xs).b * h ≤ 10500000000) ∧ (-500000000 ≤ (hullQ xs).c * h ∧ (hullQ xs).c * h ≤ 10500000000) ∧ (-500000000 ≤ (hullQ xs).d * h ∧ (hullQ xs).d * h ≤ 10500000000) := by
  have ha := listH_all hl
  have hlen := listH_len hl
  have hg := all_good ha
  have hpos := heat_pos ha hn
  have hG : 0 < cG xs := Nat.gcd_pos_of_pos_right _ hpos
  have dX : cG xs ∣ wN fX xs := Nat.dvd_trans (Nat.gcd_dvd_left _ _) (Nat.gcd_dvd_left _ _)
  have dY : cG xs ∣ wN fY xs := Nat.dvd_trans (Nat.gcd_dvd_left _ _) (Nat.gcd_dvd_right _ _)
  have dH : cG xs ∣ wN Hotspot.heat xs := Nat.gcd_dvd_right _ _
  have hin := hull_in ha
  have hb := fun x hx => goodH_bd (hg x hx)
  have hH : wN Hotspot.heat xs ≤ 10000000 := by
    have h1 := wN_bd (f := Hotspot.heat) (fun x h => by have := goodH_bd h; omega) ha xs.length
    rw [List.take_of_length_le (Nat.le_refl _)] at h1
    omega
  have hh : wN Hotspot.heat xs / cG xs ≤ 10000000 := Nat.le_trans (Nat.div_le_self _ _) hH
  have hh2 : (0 : Int) ≤ ((wN Hotspot.heat xs / cG xs : Nat) : Int) ∧ ((wN Hotspot.heat xs / cG xs : Nat) : Int) ≤ 10000000 := ⟨Int.natCast_nonneg _, Int.ofNat_le.2 hh⟩
  obtain ⟨x0, hx0⟩ : ∃ x, xs[0]? = some x := get_of_lt hn
  have h0 := hin x0 (List.mem_of_getElem? hx0)
  have h0b := hb x0 (List.mem_of_getElem? hx0)
  refine ⟨((wN fX xs / cG xs : Nat) : Int), ((wN fY xs / cG xs : Nat) : Int), ((wN Hotspot.heat xs / cG xs : Nat) : Int), by simp [centreR, hl, hn], ?_, ?_, ?_, ?_, ?_, ?_, ?_, ?_⟩
  · exact div_ge hG dX dH (wsum_ge (p := Hotspot.x) fun z hz => by have := hb z hz; have := hin z hz; exact ⟨by omega, by omega, by omega, rfl⟩)
  · exact div_le hG dX dH (wsum_le (p := Hotspot.x) fun z hz => by have := hb z hz; have := hin z hz; exact ⟨by omega, by omega, by omega, rfl⟩)
  · exact div_ge hG dY dH (wsum_ge (p := Hotspot.y) fun z hz => by have := hb z hz; have := hin z hz; exact ⟨by omega, by omega, by omega, rfl⟩)
  · exact div_le hG dY dH (wsum_le (p := Hotspot.y) fun z hz => by have := hb z hz; have := hin z hz; exact ⟨by omega, by omega, by omega, rfl⟩)
  · exact prod_bd (by omega) hh2
  · exact prod_bd (by omega) hh2
  · exact prod_bd (by omega) hh2
  · exact prod_bd (by omega) hh2
end Go.Proofs.Ytkkoccllmflhfaa
