/-
  The centre of hot spots: of the program and of the reference, walked.
-/
import Derived.Test.YtkkoccllmflhfaaSpotTop
namespace Go.Proofs.Ytkkoccllmflhfaa
open Go.RowKit

theorem results_tmp4 {fn : Func} {t u v s : Tmp} (h : fn.results = #[.tmp t, .tmp u, .tmp v, .tmp s]) (tmps : Array Value) (P : Program) (w : World) :
    (results fn tmps).run P w = .ok (.tuple #[tmps.getD t undef, tmps.getD u undef, tmps.getD v undef, tmps.getD s undef]) w := by
  simp [results, h]
theorem ret4 {a b c d a' b' c' d' : Value} (h : a = a') (h1 : b = b') (h2 : c = c') (h3 : d = d') : Ending.returned (.tuple #[a, b, c, d]) = .returned (.tuple #[a', b', c', d']) := by rw [h, h1, h2, h3]
theorem gcd_bd {x y m : Nat} (hx : x ≤ m) (hy : y ≤ m) : Nat.gcd x y ≤ m := by
  rcases Nat.eq_zero_or_pos x with h | h
  · rw [h, Nat.gcd_zero_left]; exact hy
  · exact Nat.le_trans (Nat.gcd_le_left _ h) hx
theorem wrap_div {x t : Nat} (h : x ≤ 100000000) : wrap64 ((x : Int) / (t : Int)) = ((x / t : Nat) : Int) := by
  have h1 : (x : Int) / (t : Int) = ((x / t : Nat) : Int) := by simp
  have h2 := Nat.div_le_self x t
  rw [h1]
  generalize x / t = q at h2
  unfold wrap64
  omega
theorem gcd_next (a b : Nat) : Nat.gcd b (a % b) = Nat.gcd a b := by rw [Nat.gcd_comm a b, Nat.gcd_rec b a, Nat.gcd_comm]

theorem l20Common (a b : Nat) (w : World) (ha : a ≤ 100000000) (hb : b ≤ 100000000) :
    Calls Try.prog 51 #[.int .i64 a, .int .i64 b] w fun e w' => ∃ g : Nat, e = .returned (.int .i64 g) ∧ g ≤ 100000000 ∧ Hid (Nat.gcd a b = g) ∧ Below w.heap.size w w' := by
  obtain ⟨G, hG⟩ : ∃ G : Nat, Nat.gcd a b = G := ⟨_, rfl⟩
  have hGl := hid (gcd_bd ha hb)
  rw [hG] at hGl
  rw [hG]
  replace hG := hid hG
  go_enter Try.func51, Try.ntmps51
  go_wp2_with fail
  go_loopw [0, 1] (fun p q wr => ∃ x y : Nat, x ≤ 100000000 ∧ y ≤ 100000000 ∧ p = .int .i64 x ∧ q = .int .i64 y ∧ Hid (Nat.gcd x y = G) ∧ Below w.heap.size w wr) (fun _ q _ => (intOf q).toNat)
  case atStart => exact ⟨a, b, ha, hb, rfl, rfl, hG, by (repeat' (first | (with_reducible exact bel_refl _) | (with_reducible assumption) | (with_reducible refine bel_drew ?_) | (with_reducible refine bel_drewN ?_) | (with_reducible refine bel_alloc ?_) | (with_reducible refine bel_set ?_ ?_) | (with_reducible refine bel_trans ?_ (by with_reducible assumption)) | omega | (simp; done) | (simp; omega)))⟩
  case round =>
    obtain ⟨x, y, hx, hy, rfl, rfl, hg, hB⟩ := hrel
    have hB2 := bel_refl wr
    by_cases h0 : y = 0
    · subst h0
      go_wp2
      go_ret
      refine ⟨G, ret_int ?_, hGl.out, rfl, by (repeat' (first | (with_reducible exact bel_refl _) | (with_reducible assumption) | (with_reducible refine bel_drew ?_) | (with_reducible refine bel_drewN ?_) | (with_reducible refine bel_alloc ?_) | (with_reducible refine bel_set ?_ ?_) | (with_reducible refine bel_trans ?_ (by with_reducible assumption)) | omega | (simp; done) | (simp; omega)))⟩
      rw [← hg.out, Nat.gcd_zero_right]
      try omega
    · have hy0 : (0 : Int) < (y : Int) := by omega
      have hy1 : ¬ (y : Int) = 0 := by omega
      have hq : ((y : Int) == 0) = false := by simpa using h0
      have hm : ((x : Int) % (y : Int)) = ((x % y : Nat) : Int) := by simp
      have hml : x % y < y := Nat.mod_lt _ (by omega)
      replace h0 := hid h0
      replace hml := hid hml
      go_wp2
      go_roundw
      case rel => exact ⟨y, x % y, hy, by have := hml.out; omega, rfl, by first | rfl | (rw [hm]) | (congr 1), by show Nat.gcd y (x % y) = G; rw [gcd_next]; exact hg.out, by (repeat' (first | (with_reducible exact bel_refl _) | (with_reducible assumption) | (with_reducible refine bel_drew ?_) | (with_reducible refine bel_drewN ?_) | (with_reducible refine bel_alloc ?_) | (with_reducible refine bel_set ?_ ?_) | (with_reducible refine bel_trans ?_ (by with_reducible assumption)) | omega | (simp; done) | (simp; omega)))⟩
      case measure => have := hml.out; simp [intOf]; omega

theorem gcdI (a b : Nat) (w : World) (ha : a ≤ 100000000) (hb : b ≤ 100000000) :
    Calls Try.prog 50 #[.int .i64 a, .int .i64 b] w fun e w' => ∃ g : Nat, e = .returned (.int .i64 g) ∧ g ≤ 100000000 ∧ Hid (Nat.gcd a b = g) ∧ Below w.heap.size w w' := by
  obtain ⟨G, hG⟩ : ∃ G : Nat, Nat.gcd a b = G := ⟨_, rfl⟩
  have hGl := hid (gcd_bd ha hb)
  rw [hG] at hGl
  rw [hG]
  replace hG := hid hG
  go_enter Try.func50, Try.ntmps50
  go_wp2_with fail
  go_loopw [0, 1] (fun p q wr => ∃ x y : Nat, x ≤ 100000000 ∧ y ≤ 100000000 ∧ p = .int .i64 x ∧ q = .int .i64 y ∧ Hid (Nat.gcd x y = G) ∧ Below w.heap.size w wr) (fun _ q _ => (intOf q).toNat)
  case atStart => exact ⟨a, b, ha, hb, rfl, rfl, hG, by (repeat' (first | (with_reducible exact bel_refl _) | (with_reducible assumption) | (with_reducible refine bel_drew ?_) | (with_reducible refine bel_drewN ?_) | (with_reducible refine bel_alloc ?_) | (with_reducible refine bel_set ?_ ?_) | (with_reducible refine bel_trans ?_ (by with_reducible assumption)) | omega | (simp; done) | (simp; omega)))⟩
  case round =>
    obtain ⟨x, y, hx, hy, rfl, rfl, hg, hB⟩ := hrel
    have hB2 := bel_refl wr
    by_cases h0 : y = 0
    · subst h0
      go_wp2
      go_ret
      refine ⟨G, ret_int ?_, hGl.out, rfl, by (repeat' (first | (with_reducible exact bel_refl _) | (with_reducible assumption) | (with_reducible refine bel_drew ?_) | (with_reducible refine bel_drewN ?_) | (with_reducible refine bel_alloc ?_) | (with_reducible refine bel_set ?_ ?_) | (with_reducible refine bel_trans ?_ (by with_reducible assumption)) | omega | (simp; done) | (simp; omega)))⟩
      rw [← hg.out, Nat.gcd_zero_right]
      try omega
    · have hy0 : (0 : Int) < (y : Int) := by omega
      have hy1 : ¬ (y : Int) = 0 := by omega
      have hq : ((y : Int) == 0) = false := by simpa using h0
      have hm : ((x : Int) % (y : Int)) = ((x % y : Nat) : Int) := by simp
      have hml : x % y < y := Nat.mod_lt _ (by omega)
      replace h0 := hid h0
      replace hml := hid hml
      go_wp2_with fail; (refine wp_region_bel (by kernel_rfl) (by kernel_rfl) ?_; have hD := bel_cells hB2; (repeat (go_big_quiet_step ((fail)))); refine wpQuiet_nil ?_; intro w1 hB1; replace hB2 := bel_trans hB2 hB1; obtain ⟨hC1, hF1⟩ := bcell hB2; clear hD; replace hB1 := hB1); go_wp2
      go_roundw
      case rel => exact ⟨y, x % y, hy, by have := hml.out; omega, rfl, by first | rfl | (rw [hm]) | (congr 1), by show Nat.gcd y (x % y) = G; rw [gcd_next]; exact hg.out, by (repeat' (first | (with_reducible exact bel_refl _) | (with_reducible assumption) | (with_reducible refine bel_drew ?_) | (with_reducible refine bel_drewN ?_) | (with_reducible refine bel_alloc ?_) | (with_reducible refine bel_set ?_ ?_) | (with_reducible refine bel_trans ?_ (by with_reducible assumption)) | omega | (simp; done) | (simp; omega)))⟩
      case measure => have := hml.out; simp [intOf]; omega


def wN (f : Hotspot → Int) (xs : List Hotspot) : Nat := (xs.map fun x => (f x).toNat).sum
theorem wN_next {f : Hotspot → Int} {xs : List Hotspot} {i : Nat} {x : Hotspot} (hx : xs[i]? = some x) (h : 0 ≤ f x) : ((wN f (xs.take (i + 1)) : Nat) : Int) = (wN f (xs.take i) : Nat) + f x := by
  rw [List.take_add_one, hx]
  simp [wN]
  omega
theorem wN_bd {f : Hotspot → Int} {xs : List Hotspot} (hg : ∀ x, goodH x = true → f x ≤ 1000000) (ha : allH xs) : ∀ i, wN f (xs.take i) ≤ 1000000 * i
  | 0 => by simp [wN]
  | i + 1 => by
    have ih := wN_bd hg ha i
    rw [List.take_add_one]
    rcases hx : xs[i]? with _ | x
    · simp only [Option.toList_none, List.append_nil]
      omega
    · have := hg x (ha i x hx)
      simp only [wN, Option.toList_some, List.map_append, List.sum_append, List.map_cons, List.map_nil, List.sum_cons, List.sum_nil] at ih ⊢
      omega
def fX (x : Hotspot) : Int := x.heat * x.x
def fY (x : Hotspot) : Int := x.heat * x.y
theorem fX_bd {x : Hotspot} (h : goodH x = true) : 0 ≤ x.heat * x.x ∧ x.heat * x.x ≤ 1000000 ∧ 0 ≤ x.heat * x.y ∧ x.heat * x.y ≤ 1000000 := by
  have hb := goodH_bd h
  exact ⟨Int.mul_nonneg (by omega) (by omega), Int.mul_le_mul (b := x.x) (c := 1000) (d := 1000) (by omega) (by omega) (by omega) (by omega), Int.mul_nonneg (by omega) (by omega), Int.mul_le_mul (b := x.y) (c := 1000) (d := 1000) (by omega) (by omega) (by omega) (by omega)⟩
def cG (xs : List Hotspot) : Nat := Nat.gcd (Nat.gcd (wN fX xs) (wN fY xs)) (wN Hotspot.heat xs)
def centreR (xs : List Hotspot) : Int × Int × Int × Bool :=
  if listH xs && decide (0 < xs.length) then (((wN fX xs / cG xs : Nat) : Int), ((wN fY xs / cG xs : Nat) : Int), ((wN Hotspot.heat xs / cG xs : Nat) : Int), true) else (0, 0, 0, false)
theorem heat_pos {xs : List Hotspot} (ha : allH xs) (hl : 0 < xs.length) : 0 < wN Hotspot.heat xs := by
  rcases xs with _ | ⟨x, xs⟩
  · simp at hl
  · have := goodH_bd (ha 0 x rfl)
    simp only [wN, List.map_cons, List.sum_cons]
    omega

set_option maxHeartbeats 1000000 in
theorem centreS (A : Option Addr) (n c : Nat) (xs : List Hotspot) (w : World) (hS : Sl w 6 A n c (xs.flatMap Hotspot.row)) (hn : n ≤ 1048576) :
    Calls Try.prog 28 #[.slice A n c] w fun e w' => e = .returned (.tuple #[.int .i64 (centreR xs).1, .int .i64 (centreR xs).2.1, .int .i64 (centreR xs).2.2.1, .bool (centreR xs).2.2.2]) ∧ Below w.heap.size w w' := by
  have hB2 := bel_refl w
  have hlh := hid (hS.xs_len Hotspot.row_len (by omega))
  rcases hg : listH xs with _ | _
  · go_enter Try.func28, Try.ntmps28
    go_wp2_with (go_at_call 32; refine (l7Good _ _ _ _ _ hS hn).mono ?_; rintro _ w1 ⟨rfl, hB1⟩; (first | (with_reducible replace hB2 := bel_trans hB2 hB1) | (with_reducible replace hB2 := bel_trans (bel_alloc hB2) hB1)); obtain ⟨hC1, hF1⟩ := bcell hB2; replace hB1 := hB1)
    ((try simp only [Exit.inBlock, Exit.then]); refine bodyPost_ret (results_tmp4 rfl _ _ _) rfl ?_)
    refine ⟨?_, by (repeat' (first | (with_reducible exact bel_refl _) | (with_reducible assumption) | (with_reducible refine bel_drew ?_) | (with_reducible refine bel_drewN ?_) | (with_reducible refine bel_alloc ?_) | (with_reducible refine bel_set ?_ ?_) | (with_reducible refine bel_trans ?_ (by with_reducible assumption)) | omega | (simp; done) | (simp; omega)))⟩
    simp [centreR, hg]
  · have ha := listH_all hg
    have hn10 : n ≤ 10 := by rw [← hlh.out]; exact listH_len hg
    by_cases hz : n = 0
    · have hR : Hid (centreR xs = (0, 0, 0, false)) := by show _ = _; simp [centreR, hlh.out, hz]
      subst hz
      go_enter Try.func28, Try.ntmps28
      go_wp2_with (go_at_call 32; refine (l7Good _ _ _ _ _ hS hn).mono ?_; rintro _ w1 ⟨rfl, hB1⟩; (first | (with_reducible replace hB2 := bel_trans hB2 hB1) | (with_reducible replace hB2 := bel_trans (bel_alloc hB2) hB1)); obtain ⟨hC1, hF1⟩ := bcell hB2; replace hB1 := hB1)
      ((try simp only [Exit.inBlock, Exit.then]); refine bodyPost_ret (results_tmp4 rfl _ _ _) rfl ?_)
      refine ⟨?_, by (repeat' (first | (with_reducible exact bel_refl _) | (with_reducible assumption) | (with_reducible refine bel_drew ?_) | (with_reducible refine bel_drewN ?_) | (with_reducible refine bel_alloc ?_) | (with_reducible refine bel_set ?_ ?_) | (with_reducible refine bel_trans ?_ (by with_reducible assumption)) | omega | (simp; done) | (simp; omega)))⟩
      rw [hR.out]
      rfl
    · have hR : Hid (centreR xs = (((wN fX xs / cG xs : Nat) : Int), ((wN fY xs / cG xs : Nat) : Int), ((wN Hotspot.heat xs / cG xs : Nat) : Int), true)) := by show _ = _; simp [centreR, hlh.out, hg]; omega
      have hn0 : ¬ (n : Int) = 0 := by omega
      have hnq : ((n : Int) == 0) = false := by simpa using hz
      have hz := hid hz
      go_enter Try.func28, Try.ntmps28
      go_wp2_with (go_at_call 32; refine (l7Good _ _ _ _ _ hS hn).mono ?_; rintro _ w1 ⟨rfl, hB1⟩; (first | (with_reducible replace hB2 := bel_trans hB2 hB1) | (with_reducible replace hB2 := bel_trans (bel_alloc hB2) hB1)); obtain ⟨hC1, hF1⟩ := bcell hB2; replace hB1 := hB1)
      have hB3 := hB2
      clear hC1 hF1 hB1
      go_loopw [6, 7, 8, 9] (fun p q r v wr => ∃ i : Nat, i ≤ n ∧ v = .int .i64 i ∧ p = .int .i64 (wN fX (xs.take i)) ∧ q = .int .i64 (wN fY (xs.take i)) ∧ r = .int .i64 (wN Hotspot.heat (xs.take i)) ∧ Below w.heap.size w wr) (fun _ _ _ v _ => n - (intOf v).toNat)
      case atStart => exact ⟨0, by omega, rfl, rfl, rfl, rfl, by (repeat' (first | (with_reducible exact bel_refl _) | (with_reducible assumption) | (with_reducible refine bel_drew ?_) | (with_reducible refine bel_drewN ?_) | (with_reducible refine bel_alloc ?_) | (with_reducible refine bel_set ?_ ?_) | (with_reducible refine bel_trans ?_ (by with_reducible assumption)) | omega | (simp; done) | (simp; omega)))⟩
      case round =>
        clear hB2 hB3
        obtain ⟨i, hi', rfl, rfl, rfl, rfl, hB⟩ := hrel
        have b1 := wN_bd (f := fX) (fun x h => (fX_bd h).2.1) ha i
        have b2 := wN_bd (f := fY) (fun x h => (fX_bd h).2.2.2) ha i
        have b3 := wN_bd (f := Hotspot.heat) (fun x h => by have := goodH_bd h; omega) ha i
        by_cases hlt : i < n
        · obtain ⟨x, hx⟩ : ∃ x, xs[i]? = some x := get_of_lt (by rw [hlh.out]; exact hlt)
          obtain ⟨b, o, rfl, hb, c0, c1, c2, c3, c4, c5⟩ := (hS.bel hB).hotspot hx
          have hxb := goodH_bd (ha i x hx)
          have hfb := fX_bd (ha i x hx)
          have e1 := hid (wN_next (f := fX) hx hfb.1)
          have e2 := hid (wN_next (f := fY) hx hfb.2.2.1)
          have e3 := hid (wN_next (f := Hotspot.heat) hx (by omega))
          clear hx
          have hi0 : (0 : Int) ≤ (i : Int) := by omega
          have hi1 : (i : Int) < (n : Int) := by omega
          have hB2 := bel_refl wr
          go_wp2_with fail; (refine wp_region_bel (by kernel_rfl) (by kernel_rfl) ?_; have hD := bel_cells hB2; (repeat (go_big_quiet_step ((fail)))); refine wpQuiet_nil ?_; intro w1 hB1; replace hB2 := bel_trans hB2 hB1; obtain ⟨hC1, hF1⟩ := bcell hB2; clear hD; replace hB1 := hB1); go_wp2_with fail; (refine wp_region_bel (by kernel_rfl) (by kernel_rfl) ?_; have hD := bel_cells hB2; (repeat (go_big_quiet_step ((fail)))); refine wpQuiet_nil ?_; intro w1 hB1; replace hB2 := bel_trans hB2 hB1; obtain ⟨hC1, hF1⟩ := bcell hB2; clear hD; replace hB1 := hB1); go_wp2
          go_roundw
          case rel => exact ⟨i + 1, by omega, by go_num, by rw [e1.out]; rfl, by rw [e2.out]; rfl, by rw [e3.out], by (repeat' (first | (with_reducible exact bel_refl _) | (with_reducible assumption) | (with_reducible refine bel_drew ?_) | (with_reducible refine bel_drewN ?_) | (with_reducible refine bel_alloc ?_) | (with_reducible refine bel_set ?_ ?_) | (with_reducible refine bel_trans ?_ (by with_reducible assumption)) | omega | (simp; done) | (simp; omega)))⟩
          case measure => simp [intOf]; omega
        · have e : i = n := by omega
          subst e
          have et := List.take_of_length_le (l := xs) (i := i) (by rw [hlh.out]; omega)
          rw [et] at b1 b2 b3 ⊢
          have hB2 := hB
          have g1 : Nat.gcd (wN fX xs) (wN fY xs) ≤ 100000000 := gcd_bd (by omega) (by omega)
          have hgp : 0 < cG xs := Nat.gcd_pos_of_pos_right _ (heat_pos ha (by rw [hlh.out]; have := hz.out; omega))
          have hgd : Nat.gcd (Nat.gcd (wN fX xs) (wN fY xs)) (wN Hotspot.heat xs) = cG xs := rfl
          obtain ⟨X, hX⟩ : ∃ X, wN fX xs = X := ⟨_, rfl⟩
          obtain ⟨Y, hY⟩ : ∃ Y, wN fY xs = Y := ⟨_, rfl⟩
          obtain ⟨Z, hZ⟩ : ∃ Z, wN Hotspot.heat xs = Z := ⟨_, rfl⟩
          obtain ⟨T, hT⟩ : ∃ T, cG xs = T := ⟨_, rfl⟩
          rw [hX, hY, hZ, hT] at hR
          rw [hX, hY, hZ, hT] at hgd
          rw [hX, hY] at g1
          rw [hX] at b1
          rw [hY] at b2
          rw [hZ] at b3
          rw [hT] at hgp
          rw [hX, hY, hZ]
          clear hX hY hZ hT
          have key : ∀ g0 g : Nat, Hid (Nat.gcd X Y = g0) → Hid (Nat.gcd g0 Z = g) → g = T := fun g0 g k1 k2 => by rw [← k2.out, ← k1.out]; exact hgd
          replace key := hid key
          clear hgd
          have ht0 : (0 : Int) < (T : Int) := by omega
          have ht1 : ¬ (T : Int) = 0 := by omega
          clear hlt
          go_wp2_with (go_at_call 51; refine (l20Common _ _ _ (by omega) (by omega)).mono ?_; rintro _ w1 ⟨g, rfl, hgl, hgg, hB1⟩; replace hB2 := bel_trans hB2 hB1; obtain ⟨hC1, hF1⟩ := bcell hB2; replace hB1 := hB1)
          have eT := key.out _ _ (by assumption) hgg
          subst eT
          (refine wp_region_bel (by kernel_rfl) (by kernel_rfl) ?_; have hD := bel_cells hB2; (repeat (go_big_quiet_step ((fail)))); refine wpQuiet_nil ?_; intro w1 hB1; replace hB2 := bel_trans hB2 hB1; obtain ⟨hC1, hF1⟩ := bcell hB2; clear hD; replace hB1 := hB1)
          go_wp2
          ((try simp only [Exit.inBlock, Exit.then]); refine bodyPost_ret (results_tmp4 rfl _ _ _) rfl ?_)
          refine ⟨?_, by (repeat' (first | (with_reducible exact bel_refl _) | (with_reducible assumption) | (with_reducible refine bel_drew ?_) | (with_reducible refine bel_drewN ?_) | (with_reducible refine bel_alloc ?_) | (with_reducible refine bel_set ?_ ?_) | (with_reducible refine bel_trans ?_ (by with_reducible assumption)) | omega | (simp; done) | (simp; omega)))⟩
          rw [hR.out]
          exact ret4 (iv (by (try dsimp only) <;> exact wrap_div (by omega))) (iv (by (try dsimp only) <;> exact wrap_div (by omega))) (iv (by (try dsimp only) <;> exact wrap_div (by omega))) rfl

set_option maxHeartbeats 1000000 in
theorem centreI (A : Option Addr) (n c : Nat) (xs : List Hotspot) (w : World) (hS : Sl w 6 A n c (xs.flatMap Hotspot.row)) (hn : n ≤ 1048576) :
    Calls Try.prog 27 #[.slice A n c] w fun e w' => e = .returned (.tuple #[.int .i64 (centreR xs).1, .int .i64 (centreR xs).2.1, .int .i64 (centreR xs).2.2.1, .bool (centreR xs).2.2.2]) ∧ Below w.heap.size w w' := by
  have hB2 := bel_refl w
  have hlh := hid (hS.xs_len Hotspot.row_len (by omega))
  rcases hg : listH xs with _ | _
  · go_enter Try.func27, Try.ntmps27
    go_wp2_with (go_at_call 23; refine (areHotspotsI _ _ _ _ _ hS hn).mono ?_; rintro _ w1 ⟨rfl, hB1⟩; (first | (with_reducible replace hB2 := bel_trans hB2 hB1) | (with_reducible replace hB2 := bel_trans (bel_alloc hB2) hB1)); obtain ⟨hC1, hF1⟩ := bcell hB2; replace hB1 := hB1)
    ((try simp only [Exit.inBlock, Exit.then]); refine bodyPost_ret (results_tmp4 rfl _ _ _) rfl ?_)
    refine ⟨?_, by (repeat' (first | (with_reducible exact bel_refl _) | (with_reducible assumption) | (with_reducible refine bel_drew ?_) | (with_reducible refine bel_drewN ?_) | (with_reducible refine bel_alloc ?_) | (with_reducible refine bel_set ?_ ?_) | (with_reducible refine bel_trans ?_ (by with_reducible assumption)) | omega | (simp; done) | (simp; omega)))⟩
    simp [centreR, hg]
  · have ha := listH_all hg
    have hn10 : n ≤ 10 := by rw [← hlh.out]; exact listH_len hg
    by_cases hz : n = 0
    · have hR : Hid (centreR xs = (0, 0, 0, false)) := by show _ = _; simp [centreR, hlh.out, hz]
      subst hz
      go_enter Try.func27, Try.ntmps27
      go_wp2_with (go_at_call 23; refine (areHotspotsI _ _ _ _ _ hS hn).mono ?_; rintro _ w1 ⟨rfl, hB1⟩; (first | (with_reducible replace hB2 := bel_trans hB2 hB1) | (with_reducible replace hB2 := bel_trans (bel_alloc hB2) hB1)); obtain ⟨hC1, hF1⟩ := bcell hB2; replace hB1 := hB1)
      ((try simp only [Exit.inBlock, Exit.then]); refine bodyPost_ret (results_tmp4 rfl _ _ _) rfl ?_)
      refine ⟨?_, by (repeat' (first | (with_reducible exact bel_refl _) | (with_reducible assumption) | (with_reducible refine bel_drew ?_) | (with_reducible refine bel_drewN ?_) | (with_reducible refine bel_alloc ?_) | (with_reducible refine bel_set ?_ ?_) | (with_reducible refine bel_trans ?_ (by with_reducible assumption)) | omega | (simp; done) | (simp; omega)))⟩
      rw [hR.out]
      rfl
    · have hR : Hid (centreR xs = (((wN fX xs / cG xs : Nat) : Int), ((wN fY xs / cG xs : Nat) : Int), ((wN Hotspot.heat xs / cG xs : Nat) : Int), true)) := by show _ = _; simp [centreR, hlh.out, hg]; omega
      have hn0 : ¬ (n : Int) = 0 := by omega
      have hnq : ((n : Int) == 0) = false := by simpa using hz
      have hz := hid hz
      go_enter Try.func27, Try.ntmps27
      go_wp2_with (go_at_call 23; refine (areHotspotsI _ _ _ _ _ hS hn).mono ?_; rintro _ w1 ⟨rfl, hB1⟩; (first | (with_reducible replace hB2 := bel_trans hB2 hB1) | (with_reducible replace hB2 := bel_trans (bel_alloc hB2) hB1)); obtain ⟨hC1, hF1⟩ := bcell hB2; replace hB1 := hB1)
      have hB3 := hB2
      clear hC1 hF1 hB1
      go_loopw [6, 7, 8, 22] (fun p q r v wr => ∃ i : Nat, i ≤ n ∧ v = .int .i64 i ∧ p = .int .i64 (wN fX (xs.take i)) ∧ q = .int .i64 (wN fY (xs.take i)) ∧ r = .int .i64 (wN Hotspot.heat (xs.take i)) ∧ Below w.heap.size w wr) (fun _ _ _ v _ => n - (intOf v).toNat)
      case atStart => exact ⟨0, by omega, rfl, rfl, rfl, rfl, by (repeat' (first | (with_reducible exact bel_refl _) | (with_reducible assumption) | (with_reducible refine bel_drew ?_) | (with_reducible refine bel_drewN ?_) | (with_reducible refine bel_alloc ?_) | (with_reducible refine bel_set ?_ ?_) | (with_reducible refine bel_trans ?_ (by with_reducible assumption)) | omega | (simp; done) | (simp; omega)))⟩
      case round =>
        clear hB2 hB3
        obtain ⟨i, hi', rfl, rfl, rfl, rfl, hB⟩ := hrel
        have b1 := wN_bd (f := fX) (fun x h => (fX_bd h).2.1) ha i
        have b2 := wN_bd (f := fY) (fun x h => (fX_bd h).2.2.2) ha i
        have b3 := wN_bd (f := Hotspot.heat) (fun x h => by have := goodH_bd h; omega) ha i
        by_cases hlt : i < n
        · obtain ⟨x, hx⟩ : ∃ x, xs[i]? = some x := get_of_lt (by rw [hlh.out]; exact hlt)
          obtain ⟨b, o, rfl, hb, c0, c1, c2, c3, c4, c5⟩ := (hS.bel hB).hotspot hx
          have hxb := goodH_bd (ha i x hx)
          have hfb := fX_bd (ha i x hx)
          have e1 := hid (wN_next (f := fX) hx hfb.1)
          have e2 := hid (wN_next (f := fY) hx hfb.2.2.1)
          have e3 := hid (wN_next (f := Hotspot.heat) hx (by omega))
          clear hx
          have hi0 : (0 : Int) ≤ (i : Int) := by omega
          have hi1 : (i : Int) < (n : Int) := by omega
          have hB2 := bel_refl (wr.alloc (.cells #[.int .i64 x.id, .int .i64 x.x, .int .i64 x.y, .int .i64 x.err, .int .i64 x.tick, .int .i64 x.heat] 49))
          go_wp2_with fail; (refine wp_region_bel (by kernel_rfl) (by kernel_rfl) ?_; have hD := bel_cells hB2; (repeat (go_big_quiet_step ((fail)))); refine wpQuiet_nil ?_; intro w1 hB1; replace hB2 := bel_trans hB2 hB1; obtain ⟨hC1, hF1⟩ := bcell hB2; clear hD; replace hB1 := hB1); go_wp2
          go_roundw
          case rel => exact ⟨i + 1, by omega, by go_num, by rw [e1.out]; rfl, by rw [e2.out]; rfl, by rw [e3.out], by (repeat' (first | (with_reducible exact bel_refl _) | (with_reducible assumption) | (with_reducible refine bel_drew ?_) | (with_reducible refine bel_drewN ?_) | (with_reducible refine bel_alloc ?_) | (with_reducible refine bel_set ?_ ?_) | (with_reducible refine bel_trans ?_ (by with_reducible assumption)) | omega | (simp; done) | (simp; omega)))⟩
          case measure => simp [intOf]; omega
        · have e : i = n := by omega
          subst e
          have et := List.take_of_length_le (l := xs) (i := i) (by rw [hlh.out]; omega)
          rw [et] at b1 b2 b3 ⊢
          have hB2 := hB
          have g1 : Nat.gcd (wN fX xs) (wN fY xs) ≤ 100000000 := gcd_bd (by omega) (by omega)
          have hgp : 0 < cG xs := Nat.gcd_pos_of_pos_right _ (heat_pos ha (by rw [hlh.out]; have := hz.out; omega))
          have hgd : Nat.gcd (Nat.gcd (wN fX xs) (wN fY xs)) (wN Hotspot.heat xs) = cG xs := rfl
          obtain ⟨X, hX⟩ : ∃ X, wN fX xs = X := ⟨_, rfl⟩
          obtain ⟨Y, hY⟩ : ∃ Y, wN fY xs = Y := ⟨_, rfl⟩
          obtain ⟨Z, hZ⟩ : ∃ Z, wN Hotspot.heat xs = Z := ⟨_, rfl⟩
          obtain ⟨T, hT⟩ : ∃ T, cG xs = T := ⟨_, rfl⟩
          rw [hX, hY, hZ, hT] at hR
          rw [hX, hY, hZ, hT] at hgd
          rw [hX, hY] at g1
          rw [hX] at b1
          rw [hY] at b2
          rw [hZ] at b3
          rw [hT] at hgp
          rw [hX, hY, hZ]
          clear hX hY hZ hT
          have key : ∀ g0 g : Nat, Hid (Nat.gcd X Y = g0) → Hid (Nat.gcd g0 Z = g) → g = T := fun g0 g k1 k2 => by rw [← k2.out, ← k1.out]; exact hgd
          replace key := hid key
          clear hgd
          have ht0 : (0 : Int) < (T : Int) := by omega
          have ht1 : ¬ (T : Int) = 0 := by omega
          clear hlt
          go_wp2_with (go_at_call 50; refine (gcdI _ _ _ (by omega) (by omega)).mono ?_; rintro _ w1 ⟨g, rfl, hgl, hgg, hB1⟩; replace hB2 := bel_trans hB2 hB1; obtain ⟨hC1, hF1⟩ := bcell hB2; replace hB1 := hB1)
          have eT := key.out _ _ (by assumption) hgg
          subst eT
          (refine wp_region_bel (by kernel_rfl) (by kernel_rfl) ?_; have hD := bel_cells hB2; (repeat (go_big_quiet_step ((fail)))); refine wpQuiet_nil ?_; intro w1 hB1; replace hB2 := bel_trans hB2 hB1; obtain ⟨hC1, hF1⟩ := bcell hB2; clear hD; replace hB1 := hB1)
          go_wp2
          ((try simp only [Exit.inBlock, Exit.then]); refine bodyPost_ret (results_tmp4 rfl _ _ _) rfl ?_)
          refine ⟨?_, by (repeat' (first | (with_reducible exact bel_refl _) | (with_reducible assumption) | (with_reducible refine bel_drew ?_) | (with_reducible refine bel_drewN ?_) | (with_reducible refine bel_alloc ?_) | (with_reducible refine bel_set ?_ ?_) | (with_reducible refine bel_trans ?_ (by with_reducible assumption)) | omega | (simp; done) | (simp; omega)))⟩
          rw [hR.out]
          exact ret4 (iv (by (try dsimp only) <;> exact wrap_div (by omega))) (iv (by (try dsimp only) <;> exact wrap_div (by omega))) (iv (by (try dsimp only) <;> exact wrap_div (by omega))) rfl

end Go.Proofs.Ytkkoccllmflhfaa
