/-
  Fractions in lowest terms, sums of weights: of the program and of the reference, walked.
-/
import Derived.Test.YtdfjfopbhlbmkaaWorst
namespace Go.Proofs.Ytdfjfopbhlbmkaa
open Go.RowKit

theorem gcd_bd {x y m : Nat} (hx : x ≤ m) (hy : y ≤ m) : Nat.gcd x y ≤ m := by
  rcases Nat.eq_zero_or_pos x with h | h
  · rw [h, Nat.gcd_zero_left]; exact hy
  · exact Nat.le_trans (Nat.gcd_le_left _ h) hx
theorem wrap_div {x t : Nat} (h : x ≤ 100000000) : wrap64 ((x : Int) / (t : Int)) = ((x / t : Nat) : Int) := by
  have h1 : (x : Int) / (t : Int) = ((x / t : Nat) : Int) := by simp
  have h2 := Nat.div_le_self x t
  rw [h1]
  generalize x / t = q at h2
  unfold wrap64
  omega
theorem gcd_next (a b : Nat) : Nat.gcd b (a % b) = Nat.gcd a b := by rw [Nat.gcd_comm a b, Nat.gcd_rec b a, Nat.gcd_comm]

theorem gcdI (a b : Nat) (w : World) (ha : a ≤ 100000000) (hb : b ≤ 100000000) :
    Calls Try.prog 83 #[.int .i64 a, .int .i64 b] w fun e w' => ∃ g : Nat, e = .returned (.int .i64 g) ∧ g ≤ 100000000 ∧ Hid (Nat.gcd a b = g) ∧ Below w.heap.size w w' := by
  obtain ⟨G, hG⟩ : ∃ G : Nat, Nat.gcd a b = G := ⟨_, rfl⟩
  have hGl := hid (gcd_bd ha hb)
  rw [hG] at hGl
  rw [hG]
  replace hG := hid hG
  go_enter Try.func83, Try.ntmps83
  go_wp2_with fail
  go_loopw [0, 1] (fun p q wr => ∃ x y : Nat, x ≤ 100000000 ∧ y ≤ 100000000 ∧ p = .int .i64 x ∧ q = .int .i64 y ∧ Hid (Nat.gcd x y = G) ∧ Below w.heap.size w wr) (fun _ q _ => (intOf q).toNat)
  case atStart => exact ⟨a, b, ha, hb, rfl, rfl, hG, by (repeat' (first | (with_reducible exact bel_refl _) | (with_reducible assumption) | (with_reducible refine bel_drew ?_) | (with_reducible refine bel_drewN ?_) | (with_reducible refine bel_alloc ?_) | (with_reducible refine bel_set ?_ ?_) | (with_reducible refine bel_trans ?_ (by with_reducible assumption)) | omega | (simp; done) | (simp; omega)))⟩
  case round =>
    obtain ⟨x, y, hx, hy, rfl, rfl, hg, hB⟩ := hrel
    have hB2 := bel_refl wr
    by_cases h0 : y = 0
    · subst h0
      go_wp2
      go_ret
      refine ⟨G, ret_int ?_, hGl.out, rfl, by (repeat' (first | (with_reducible exact bel_refl _) | (with_reducible assumption) | (with_reducible refine bel_drew ?_) | (with_reducible refine bel_drewN ?_) | (with_reducible refine bel_alloc ?_) | (with_reducible refine bel_set ?_ ?_) | (with_reducible refine bel_trans ?_ (by with_reducible assumption)) | omega | (simp; done) | (simp; omega)))⟩
      rw [← hg.out, Nat.gcd_zero_right]
      try omega
    · have hy0 : (0 : Int) < (y : Int) := by omega
      have hy1 : ¬ (y : Int) = 0 := by omega
      have hq : ((y : Int) == 0) = false := by simpa using h0
      have hm : ((x : Int) % (y : Int)) = ((x % y : Nat) : Int) := by simp
      have hml : x % y < y := Nat.mod_lt _ (by omega)
      replace h0 := hid h0
      replace hml := hid hml
      go_wp2_with fail; (refine wp_region_bel (by kernel_rfl) (by kernel_rfl) ?_; have hD := bel_cells hB2; (repeat (go_big_quiet_step ((fail)))); refine wpQuiet_nil ?_; intro w1 hB1; replace hB2 := bel_trans hB2 hB1; obtain ⟨hC1, hF1⟩ := bcell hB2; clear hD; replace hB1 := hB1); go_wp2
      go_roundw
      case rel => exact ⟨y, x % y, hy, by have := hml.out; omega, rfl, by first | rfl | (rw [hm]) | (congr 1), by show Nat.gcd y (x % y) = G; rw [gcd_next]; exact hg.out, by (repeat' (first | (with_reducible exact bel_refl _) | (with_reducible assumption) | (with_reducible refine bel_drew ?_) | (with_reducible refine bel_drewN ?_) | (with_reducible refine bel_alloc ?_) | (with_reducible refine bel_set ?_ ?_) | (with_reducible refine bel_trans ?_ (by with_reducible assumption)) | omega | (simp; done) | (simp; omega)))⟩
      case measure => have := hml.out; simp [intOf]; omega



def fracA (a b : Nat) : Int × Int := ((a / Nat.gcd a b : Nat), (b / Nat.gcd a b : Nat))
set_option maxHeartbeats 1000000 in
theorem fraction (a b : Nat) (w : World) (ha : a ≤ 100000000) (hb : b ≤ 100000000) (h0 : 0 < b) :
    Calls Try.prog 51 #[.int .i64 a, .int .i64 b] w fun e w' => e = .returned (.tuple #[.int .i64 (fracA a b).1, .int .i64 (fracA a b).2]) ∧ Below w.heap.size w w' := by
  have hgp : 0 < Nat.gcd a b := Nat.gcd_pos_of_pos_right _ h0
  obtain ⟨G, hG⟩ : ∃ G : Nat, Nat.gcd a b = G := ⟨_, rfl⟩
  have hR : Hid (fracA a b = (((a / G : Nat) : Int), ((b / G : Nat) : Int))) := by show _ = _; rw [fracA, hG]
  rw [hG] at hgp
  have hg1 : ¬ (G : Int) = 0 := by omega
  have hB2 := bel_refl w
  have hwa := wrap_div (x := a) (t := G) ha
  have hwb := wrap_div (x := b) (t := G) hb
  go_enter Try.func51, Try.ntmps51
  go_wp2_with (go_at_call 83; refine (gcdI a b _ ha hb).mono ?_; rintro _ w1 ⟨g, rfl, _, hg2, hB1⟩; obtain rfl : g = G := hg2.out.symm.trans hG; replace hB2 := bel_trans hB2 hB1)
  (refine wp_region_bel (by kernel_rfl) (by kernel_rfl) ?_; have hD := bel_cells hB2; (repeat (go_big_quiet_step ((fail)))); refine wpQuiet_nil ?_; intro w1 hB1; replace hB2 := bel_trans hB2 hB1; obtain ⟨hC1, hF1⟩ := bcell hB2; clear hD; replace hB1 := hB1)
  go_wp2
  go_ret2
  exact ⟨by rw [hR.out]; exact ret2 (by first | rfl | exact congrArg _ hwa) (by first | rfl | exact congrArg _ hwb), by (repeat' (first | (with_reducible exact bel_refl _) | (with_reducible assumption) | (with_reducible refine bel_drew ?_) | (with_reducible refine bel_drewN ?_) | (with_reducible refine bel_alloc ?_) | (with_reducible refine bel_set ?_ ?_) | (with_reducible refine bel_trans ?_ (by with_reducible assumption)) | omega | (simp; done) | (simp; omega)))⟩
set_option maxHeartbeats 1000000 in
theorem l8Reduce (a b : Nat) (w : World) (ha : a ≤ 100000000) (hb : b ≤ 100000000) (h0 : 0 < b) :
    Calls Try.prog 49 #[.int .i64 a, .int .i64 b] w fun e w' => e = .returned (.tuple #[.int .i64 (fracA a b).1, .int .i64 (fracA a b).2]) ∧ Below w.heap.size w w' := by
  have hgp : 0 < Nat.gcd a b := Nat.gcd_pos_of_pos_right _ h0
  obtain ⟨G, hG⟩ : ∃ G : Nat, Nat.gcd a b = G := ⟨_, rfl⟩
  have hR : Hid (fracA a b = (((a / G : Nat) : Int), ((b / G : Nat) : Int))) := by show _ = _; rw [fracA, hG]
  rw [hG] at hgp
  have hGl := hid (gcd_bd ha hb)
  rw [hG] at hGl
  replace hG := hid hG
  have hg1 : ¬ (G : Int) = 0 := by omega
  have hwa := wrap_div (x := a) (t := G) ha
  have hwb := wrap_div (x := b) (t := G) hb
  go_enter Try.func49, Try.ntmps49
  go_wp2_with fail
  go_loopw [6, 7] (fun p q wr => ∃ x y : Nat, x ≤ 100000000 ∧ y ≤ 100000000 ∧ p = .int .i64 x ∧ q = .int .i64 y ∧ Hid (Nat.gcd x y = G) ∧ Below w.heap.size w wr) (fun _ q _ => (intOf q).toNat)
  case atStart => exact ⟨a, b, ha, hb, rfl, rfl, hG, by (repeat' (first | (with_reducible exact bel_refl _) | (with_reducible assumption) | (with_reducible refine bel_drew ?_) | (with_reducible refine bel_drewN ?_) | (with_reducible refine bel_alloc ?_) | (with_reducible refine bel_set ?_ ?_) | (with_reducible refine bel_trans ?_ (by with_reducible assumption)) | omega | (simp; done) | (simp; omega)))⟩
  case round =>
    obtain ⟨x, y, hx, hy, rfl, rfl, hg, hB⟩ := hrel
    have hB2 := bel_refl wr
    by_cases h0 : y = 0
    · subst h0
      obtain rfl : x = G := by have := hg.out; rwa [Nat.gcd_zero_right] at this
      go_wp2_with fail
      (refine wp_region_bel (by kernel_rfl) (by kernel_rfl) ?_; have hD := bel_cells hB2; (repeat (go_big_quiet_step ((fail)))); refine wpQuiet_nil ?_; intro w1 hB1; replace hB2 := bel_trans hB2 hB1; obtain ⟨hC1, hF1⟩ := bcell hB2; clear hD; replace hB1 := hB1)
      go_wp2
      go_ret2
      exact ⟨by rw [hR.out]; exact ret2 (by first | rfl | exact congrArg _ hwa) (by first | rfl | exact congrArg _ hwb), by (repeat' (first | (with_reducible exact bel_refl _) | (with_reducible assumption) | (with_reducible refine bel_drew ?_) | (with_reducible refine bel_drewN ?_) | (with_reducible refine bel_alloc ?_) | (with_reducible refine bel_set ?_ ?_) | (with_reducible refine bel_trans ?_ (by with_reducible assumption)) | omega | (simp; done) | (simp; omega)))⟩
    · have hy0 : (0 : Int) < (y : Int) := by omega
      have hy1 : ¬ (y : Int) = 0 := by omega
      have hq : ((y : Int) == 0) = false := by simpa using h0
      have hm : ((x : Int) % (y : Int)) = ((x % y : Nat) : Int) := by simp
      have hml : x % y < y := Nat.mod_lt _ (by omega)
      replace h0 := hid h0
      replace hml := hid hml
      go_wp2
      go_roundw
      case rel => exact ⟨y, x % y, hy, by have := hml.out; omega, rfl, by first | rfl | (rw [hm]) | (congr 1), by show Nat.gcd y (x % y) = G; rw [gcd_next]; exact hg.out, by (repeat' (first | (with_reducible exact bel_refl _) | (with_reducible assumption) | (with_reducible refine bel_drew ?_) | (with_reducible refine bel_drewN ?_) | (with_reducible refine bel_alloc ?_) | (with_reducible refine bel_set ?_ ?_) | (with_reducible refine bel_trans ?_ (by with_reducible assumption)) | omega | (simp; done) | (simp; omega)))⟩
      case measure => have := hml.out; simp [intOf]; omega
/-! ### sums -/
theorem data_get0 {xs ys : List Scen} (h : ys.map (fun x => (x.ps, x.weight)) = xs.map (fun x => (x.ps, x.weight))) (i : Nat) : (xs[i]? = none ∧ ys[i]? = none) ∨ ∃ x y, xs[i]? = some x ∧ ys[i]? = some y ∧ y.ps = x.ps ∧ y.weight = x.weight := by
  have hl : ys.length = xs.length := by simpa using congrArg List.length h
  rcases Nat.lt_or_ge i xs.length with h1 | h1
  · obtain ⟨x, hx⟩ := get_of_lt h1
    obtain ⟨y, hy⟩ := get_of_lt (xs := ys) (i := i) (by omega)
    have h2 := congrArg (fun l => l[i]?) h
    simp only [List.getElem?_map, hx, hy, Option.map_some, Option.some.injEq, Prod.mk.injEq] at h2
    exact Or.inr ⟨x, y, hx, hy, h2⟩
  · exact Or.inl ⟨List.getElem?_eq_none h1, List.getElem?_eq_none (by omega)⟩
def sumN (f : Scen → Nat) (xs : List Scen) (i : Nat) : Nat := ((xs.take i).map f).sum
theorem sumN_next {f : Scen → Nat} {xs : List Scen} {i : Nat} {x : Scen} (hx : xs[i]? = some x) : sumN f xs (i + 1) = sumN f xs i + f x := by
  unfold sumN
  rw [List.take_add_one, hx]
  simp
theorem sumN_bd {f : Scen → Nat} {xs : List Scen} {k : Nat} (h : ∀ (i : Nat) (x : Scen), xs[i]? = some x → f x ≤ k) : ∀ i, sumN f xs i ≤ k * i
  | 0 => by simp [sumN]
  | i + 1 => by
    have ih := sumN_bd h i
    rcases hx : xs[i]? with _ | x
    · unfold sumN at ih ⊢
      rw [List.take_add_one, hx]
      simp only [Option.toList_none, List.append_nil]
      rw [Nat.mul_add]; omega
    · rw [sumN_next hx, Nat.mul_add]
      have := h i x hx
      omega
def wtN (x : Scen) : Nat := x.weight.toNat
theorem wt_pos {xs : List Scen} (h : ensB xs = true) : 0 < sumN wtN xs xs.length := by
  obtain ⟨h1, h2, h3⟩ := ensB_parts h
  obtain ⟨x, hx⟩ := get_of_lt (xs := xs) (i := 0) (by omega)
  have hg := goodSc_parts (h3 0 x hx)
  rcases xs with _ | ⟨y, ys⟩
  · simp at h1
  · simp only [List.getElem?_cons_zero, Option.some.injEq] at hx
    subst hx
    unfold sumN
    rw [List.take_length]
    simp only [List.map_cons, List.sum_cons]
    unfold wtN
    omega
theorem sumN_rep {f g : Scen → Nat} {xs ys : List Scen} (h : ys.map (fun x => (x.ps, x.weight)) = xs.map (fun x => (x.ps, x.weight))) (hf : ∀ x y : Scen, y.ps = x.ps → y.weight = x.weight → f y = g x) (i : Nat) : sumN f ys i = sumN g xs i := by
  induction i with
  | zero => simp [sumN]
  | succ i ih =>
    rcases data_get0 h i with ⟨h1, h2⟩ | ⟨x, y, h1, h2, h3, h4⟩
    · unfold sumN at ih ⊢
      rw [List.take_add_one, List.take_add_one, h1, h2]
      simpa using ih
    · rw [sumN_next h1, sumN_next h2, ih, hf x y h3 h4]
set_option maxHeartbeats 1000000 in
theorem l8All (A : Option Addr) (n c : Nat) (xs : List Scen) (w : World) (hS : Sl w 2 A n c (xs.flatMap Scen.row)) (hens : ensB xs = true) :
    Calls Try.prog 50 #[.slice A n c] w fun e w' => e = .returned (.int .i64 (sumN wtN xs xs.length : Nat)) ∧ w = w' := by
  have hlh := hid (hS.xs_len Scen.row_len (by omega))
  obtain ⟨hl1, hl4, hgs⟩ := ensB_parts hens
  have hn4 : (n : Int) ≤ 4 := by have := hlh.out; omega
  have hsb := hid (sumN_bd (f := wtN) (xs := xs) (k := 100) (fun i x hx => by have := goodSc_parts (hgs i x hx); unfold wtN; omega))
  have hgs := hid hgs
  clear hl1 hl4 hens
  go_enter Try.func50, Try.ntmps50
  go_wp2
  go_loopw [3, 4] (fun q v wr => ∃ i : Nat, i ≤ n ∧ v = .int .i64 i ∧ q = .int .i64 (sumN wtN xs i : Nat) ∧ w = wr) (fun _ v _ => n - (intOf v).toNat)
  case atStart => exact ⟨0, by omega, rfl, by simp [sumN], rfl⟩
  case round =>
    obtain ⟨i, hi', rfl, rfl, rfl⟩ := hrel
    by_cases hlt : i < n
    · obtain ⟨x, hx⟩ : ∃ x, xs[i]? = some x := get_of_lt (by rw [hlh.out]; exact hlt)
      obtain ⟨b, o, rfl, hb, c0, c1⟩ := hS.scen hx
      have hgx := (goodSc_parts (hgs.out i x hx)).2
      have hN := hid (sumN_next (f := wtN) hx)
      have hs1 := hsb.out i
      clear hx
      obtain ⟨S, hSd⟩ : ∃ S, sumN wtN xs i = S := ⟨_, rfl⟩
      rw [hSd] at hN hs1 ⊢
      have hs2 : S ≤ 400 := by omega
      have hi0 : (0 : Int) ≤ (i : Int) := by omega
      have hi1 : (i : Int) < (n : Int) := by omega
      clear hs1
      go_wp2
      go_roundw
      case rel => exact ⟨i + 1, by omega, by go_num, by rw [hN.out]; congr 1; unfold wtN; omega, by simp⟩
      case measure => simp [intOf]; omega
    · have hi1 : ¬ (i : Int) < (n : Int) := by omega
      go_wp2
      go_ret
      have e : i = n := by omega
      exact ⟨ret_int (by rw [e, hlh.out]), rfl⟩
end Go.Proofs.Ytdfjfopbhlbmkaa
