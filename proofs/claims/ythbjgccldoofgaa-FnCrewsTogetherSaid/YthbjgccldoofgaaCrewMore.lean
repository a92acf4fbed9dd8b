/-
  Idle crews, shares of a line, a line without a crew: walked.
-/
import Derived.Test.YthbjgccldoofgaaCrewTop
namespace Go.Proofs.Ythbjgccldoofgaa
open Go.RowKit

/-! ### the plain functions -/
def idleL (xs : List Crew) (h : Int) : List Int := (xs.filter fun x => !worksB x h).map Crew.id
theorem idleL_yes {xs : List Crew} {h : Int} {i : Nat} {x : Crew} (hx : xs[i]? = some x) (hw : worksB x h = false) : idleL (xs.take i) h ++ [x.id] = idleL (xs.take (i + 1)) h := by
  rw [List.take_add_one, hx]
  simp [idleL, hw]
theorem idleL_no {xs : List Crew} {h : Int} {i : Nat} {x : Crew} (hx : xs[i]? = some x) (hw : worksB x h = true) : idleL (xs.take i) h = idleL (xs.take (i + 1)) h := by
  rw [List.take_add_one, hx]
  simp [idleL, hw]
theorem idleL_len (xs : List Crew) (h : Int) (i : Nat) : (idleL (xs.take i) h).length ≤ i := by
  unfold idleL
  rw [List.length_map]
  exact Nat.le_trans (List.length_filter_le _ _) (List.length_take_le _ _)
def idleR (xs : List Crew) (h : Int) : List Int × Bool := if listC xs && inB h 0 240 then (idleL xs h, true) else ([], false)
theorem idleR_len (xs : List Crew) (h : Int) : (idleR xs h).1.length ≤ 1048576 := by
  unfold idleR
  split
  · rename_i hc
    rw [Bool.and_eq_true] at hc
    have h1 := listC_len hc.1
    have h2 := idleL_len xs h xs.length
    rw [List.take_length] at h2
    exact Nat.le_trans h2 (by omega)
  · simp
def shareL (H : Nat) : List Crew → Int → List Int
  | [], _ => []
  | x :: xs, m => min (builtN x H) m :: shareL H xs (m - min (builtN x H) m)
def restL (H : Nat) : List Crew → Int → Int
  | [], m => m
  | x :: xs, m => restL H xs (m - min (builtN x H) m)
theorem shareL_snoc (H : Nat) : ∀ (xs : List Crew) (x : Crew) (m : Int), shareL H (xs ++ [x]) m = shareL H xs m ++ [min (builtN x H) (restL H xs m)]
  | [], _, _ => rfl
  | y :: xs, x, m => by simp only [List.cons_append, shareL, restL, shareL_snoc H xs x]
theorem restL_snoc (H : Nat) : ∀ (xs : List Crew) (x : Crew) (m : Int), restL H (xs ++ [x]) m = restL H xs m - min (builtN x H) (restL H xs m)
  | [], _, _ => rfl
  | y :: xs, x, m => by simp only [List.cons_append, restL, restL_snoc H xs x]
theorem shareL_len (H : Nat) : ∀ (xs : List Crew) (m : Int), (shareL H xs m).length = xs.length
  | [], _ => rfl
  | x :: xs, m => by simp [shareL, shareL_len H xs]
theorem restL_bd {H : Nat} {xs : List Crew} (hg : allC xs) {m : Int} (hm : 0 ≤ m) : ∀ i, 0 ≤ restL H (xs.take i) m ∧ restL H (xs.take i) m ≤ m
  | 0 => by simp [restL]; exact hm
  | i + 1 => by
    have ih := restL_bd (H := H) hg hm i
    rw [List.take_add_one]
    rcases hx : xs[i]? with _ | x
    · simpa using ih
    · have := builtN_bd (hg i x hx) H
      simp only [Option.toList_some, restL_snoc]
      omega
theorem share_next {H : Nat} {xs : List Crew} {m : Int} {i : Nat} {x : Crew} (hx : xs[i]? = some x) : shareL H (xs.take i) m ++ [min (builtN x H) (restL H (xs.take i) m)] = shareL H (xs.take (i + 1)) m := by
  rw [List.take_add_one, hx, Option.toList_some, shareL_snoc]
theorem rest_next {H : Nat} {xs : List Crew} {m : Int} {i : Nat} {x : Crew} (hx : xs[i]? = some x) : restL H (xs.take i) m - min (builtN x H) (restL H (xs.take i) m) = restL H (xs.take (i + 1)) m := by
  rw [List.take_add_one, hx, Option.toList_some, restL_snoc]
def shareR (xs : List Crew) (m : Int) : List Int × Bool := if (hoursTR xs m).2 then (shareL (hoursTR xs m).1.toNat xs m, true) else ([], false)
theorem hoursTR_yes {xs : List Crew} {m : Int} (h : (hoursTR xs m).2 = true) : listC xs = true ∧ 0 ≤ m ∧ m ≤ 20000 ∧ 0 ≤ (hoursTR xs m).1 ∧ (hoursTR xs m).1 ≤ 240 := by
  unfold hoursTR at h ⊢
  split at h
  · rename_i hc
    rw [if_pos hc]
    rw [Bool.and_eq_true, inB_iff] at hc
    have := hoursR_bd xs m
    exact ⟨hc.1, hc.2.1, hc.2.2, this.1, this.2.1⟩
  · cases h
theorem shareR_len (xs : List Crew) (m : Int) : (shareR xs m).1.length ≤ 1048576 := by
  unfold shareR
  split
  · rename_i hc
    have h1 := listC_len (hoursTR_yes hc).1
    simp only [shareL_len]
    omega
  · simp

theorem one_sl' {w : World} {x : Crew} {g : Nat} (hg : g = w.heap.size) : Sl (w.alloc (.cells #[.int .i64 x.id, .int .i64 x.rate, .int .i64 x.tires, .int .i64 x.shift, .int .i64 x.start] 25)) 5 (some ⟨g, 0, none⟩) 1 1 ([x].flatMap Crew.row) := by
  rw [hg]
  exact one_sl
/-! ### idle crews -/
set_option maxHeartbeats 1000000 in
theorem idleS (A : Option Addr) (n c : Nat) (xs : List Crew) (h : Int) (w : World) (hS : Sl w 5 A n c (xs.flatMap Crew.row)) (hn : n ≤ 1048576) :
    Calls Try.prog 19 #[.slice A n c, .int .i64 h] w fun e w' => ∃ A' n' c', e = .returned (.tuple #[.slice A' n' c', .bool (idleR xs h).2]) ∧ Own w.heap.size w'.heap.size w' 3 1 A' n' c' (ints (idleR xs h).1) ∧ Below w.heap.size w w' := by
  have hB2 := bel_refl w
  rcases hg : listC xs with _ | _
  · have hR : Hid (idleR xs h = ([], false)) := by show _ = _; simp [idleR, hg]
    go_enter Try.func19, Try.ntmps19
    go_wp2_with (first | (go_at_call 48; refine (l10List _ _ _ _ _ (hS.bel (by (repeat' (first | (with_reducible exact bel_refl _) | (with_reducible assumption) | (with_reducible refine bel_drew ?_) | (with_reducible refine bel_drewN ?_) | (with_reducible refine bel_alloc ?_) | (with_reducible refine bel_set ?_ ?_) | (with_reducible refine bel_trans ?_ (by with_reducible assumption)) | omega | (simp; done) | (simp; omega))))) hn).mono ?_; rintro _ w1 ⟨rfl, hB1⟩; (first | (with_reducible replace hB2 := bel_trans hB2 hB1) | (with_reducible replace hB2 := bel_trans (bel_alloc hB2) hB1)); obtain ⟨hC1, hF1⟩ := bcell hB2; replace hB1 := hB1))
    go_ret2
    exact ⟨some ⟨w.heap.size, 0, none⟩, 0, 0, by rw [hR.out]; rfl, by rw [hR.out]; exact Own.mk_ (own_bel (own_empty (Nat.le_refl _)) hB1), hB2⟩
  · have hG := listC_all hg
    have hn6 : n ≤ 6 := by have := listC_len hg; rw [hS.xs_len Crew.row_len (by omega)] at this; exact this
    rcases hh : inB h 0 240 with _ | _
    · have hR : Hid (idleR xs h = ([], false)) := by show _ = _; simp [idleR, hg, hh]
      go_enter Try.func19, Try.ntmps19
      go_wp2_with (first | (go_at_call 48; refine (l10List _ _ _ _ _ (hS.bel (by (repeat' (first | (with_reducible exact bel_refl _) | (with_reducible assumption) | (with_reducible refine bel_drew ?_) | (with_reducible refine bel_drewN ?_) | (with_reducible refine bel_alloc ?_) | (with_reducible refine bel_set ?_ ?_) | (with_reducible refine bel_trans ?_ (by with_reducible assumption)) | omega | (simp; done) | (simp; omega))))) hn).mono ?_; rintro _ w1 ⟨rfl, hB1⟩; (first | (with_reducible replace hB2 := bel_trans hB2 hB1) | (with_reducible replace hB2 := bel_trans (bel_alloc hB2) hB1)); obtain ⟨hC1, hF1⟩ := bcell hB2; replace hB1 := hB1) | (go_at_call 37; refine (l10Hour _ _).mono ?_; rintro _ w1 ⟨rfl, rfl⟩))
      go_ret2
      exact ⟨some ⟨w.heap.size, 0, none⟩, 0, 0, by rw [hR.out]; rfl, by rw [hR.out]; exact Own.mk_ (own_bel (own_empty (Nat.le_refl _)) hB1), hB2⟩
    · have hR : Hid (idleR xs h = (idleL xs h, true)) := by show _ = _; simp [idleR, hg, hh]
      obtain ⟨h0, h1⟩ := inB_iff.1 hh
      obtain ⟨H, rfl⟩ := Int.eq_ofNat_of_zero_le h0
      go_enter Try.func19, Try.ntmps19
      go_wp2_with (first | (go_at_call 48; refine (l10List _ _ _ _ _ (hS.bel (by (repeat' (first | (with_reducible exact bel_refl _) | (with_reducible assumption) | (with_reducible refine bel_drew ?_) | (with_reducible refine bel_drewN ?_) | (with_reducible refine bel_alloc ?_) | (with_reducible refine bel_set ?_ ?_) | (with_reducible refine bel_trans ?_ (by with_reducible assumption)) | omega | (simp; done) | (simp; omega))))) hn).mono ?_; rintro _ w1 ⟨rfl, hB1⟩; (first | (with_reducible replace hB2 := bel_trans hB2 hB1) | (with_reducible replace hB2 := bel_trans (bel_alloc hB2) hB1)); obtain ⟨hC1, hF1⟩ := bcell hB2; replace hB1 := hB1) | (go_at_call 37; refine (l10Hour _ _).mono ?_; rintro _ w1 ⟨rfl, rfl⟩))
      clear hh hg
      go_loopw [6, 7] (fun q v wr => ∃ i : Nat, i ≤ n ∧ v = .int .i64 i ∧ (∃ A' k c', q = .slice A' k c' ∧ wr.ownsRow w.heap.size 3 1 (.slice A' k c') k (ints (idleL (xs.take i) H))) ∧ Below w.heap.size w wr) (fun _ v _ => n - (intOf v).toNat)
      case atStart => exact ⟨0, by omega, rfl, ⟨_, _, _, rfl, by first | (simpa [idleL, ints] using own_bel (own_empty (w := w) (size := 1) (e := 3) (Nat.le_refl _)) hB1) | (simpa [idleL, ints] using own_low (own_empty (w := w1) (size := 1) (e := 3) (Nat.le_refl _)) hB2.size)⟩, by (repeat' (first | (with_reducible exact bel_refl _) | (with_reducible assumption) | (with_reducible refine bel_drew ?_) | (with_reducible refine bel_drewN ?_) | (with_reducible refine bel_alloc ?_) | (with_reducible refine bel_set ?_ ?_) | (with_reducible refine bel_trans ?_ (by with_reducible assumption)) | omega | (simp; done) | (simp; omega)))⟩
      case round =>
        clear hB1 hB2
        obtain ⟨i, hi', rfl, ⟨A', k, c', rfl, hown⟩, hB2⟩ := hrel
        by_cases hlt : i < n
        · obtain ⟨x, hx⟩ : ∃ x, xs[i]? = some x := get_of_lt (by rw [hS.xs_len Crew.row_len (by omega)]; exact hlt)
          obtain ⟨b, o, rfl, hb, c0, c1, c2, c3, c4⟩ := (hS.bel hB2).crew hx
          have hX := hid hx
          have hgx := hid (hG i x hx)
          clear hx
          have hk : k ≤ i := by
            have h2 := hown.1
            rw [ints_len] at h2
            have h3 := idleL_len xs H i
            omega
          rcases hw : worksB x H with _ | _
          · go_wp2_with (first
              | (go_at_call 49; refine (l10Works x H _ hgx.out (by omega)).mono ?_; rintro _ w2 ⟨rfl, hB1⟩; (first | (with_reducible replace hB2 := bel_trans hB2 hB1) | (with_reducible replace hB2 := bel_trans (bel_alloc hB2) hB1)); (first | (with_reducible replace hown := own_bel hown hB1) | (with_reducible replace hown := own_bel (hown.alloc _) hB1)); obtain ⟨hC1, hF1⟩ := bcell hB1)
              | (at_builtin; refine wpList_push rfl (.tmp 31) (.tmp 37) 30 rfl w.heap.size 3 (.int .i64 0) 1 8 Try.underlying30 info_int rfl (by omega) A' k c' _ [.int .i64 x.id] 3 rfl hown rfl rfl (oneCell_int _) (by omega) (by omega) hB2.size ?_; intro A'' c'' w3 hown2 hb3 hg3))
            go_roundw
            case rel => exact ⟨i + 1, by omega, by go_num, ⟨_, _, _, rfl, by rw [← idleL_yes hX.out hw, ← ints_snoc]; exact hown2⟩, hB2.trans hb3⟩
            case measure => simp [intOf]; omega
          · go_wp2_with (go_at_call 49; refine (l10Works x H _ hgx.out (by omega)).mono ?_; rintro _ w2 ⟨rfl, hB1⟩; (first | (with_reducible replace hB2 := bel_trans hB2 hB1) | (with_reducible replace hB2 := bel_trans (bel_alloc hB2) hB1)); (first | (with_reducible replace hown := own_bel hown hB1) | (with_reducible replace hown := own_bel (hown.alloc _) hB1)); obtain ⟨hC1, hF1⟩ := bcell hB1)
            go_roundw
            case rel => exact ⟨i + 1, by omega, by go_num, ⟨_, _, _, rfl, by rw [← idleL_no hX.out hw]; exact hown⟩, hB2⟩
            case measure => simp [intOf]; omega
        · go_wp2
          go_ret2
          have e : i = n := by omega
          subst e
          rw [List.take_of_length_le (by rw [hS.xs_len Crew.row_len (by omega)]; omega)] at hown
          exact ⟨A', k, c', by rw [hR.out]; rfl, by rw [hR.out]; exact Own.mk_ hown, hB2⟩

set_option maxHeartbeats 1000000 in
theorem idleI (A : Option Addr) (n c : Nat) (xs : List Crew) (h : Int) (w : World) (hS : Sl w 5 A n c (xs.flatMap Crew.row)) (hn : n ≤ 1048576) :
    Calls Try.prog 18 #[.slice A n c, .int .i64 h] w fun e w' => ∃ A' n' c', e = .returned (.tuple #[.slice A' n' c', .bool (idleR xs h).2]) ∧ Own w.heap.size w'.heap.size w' 3 1 A' n' c' (ints (idleR xs h).1) ∧ Below w.heap.size w w' := by
  have hB2 := bel_refl w
  rcases hg : listC xs with _ | _
  · have hR : Hid (idleR xs h = ([], false)) := by show _ = _; simp [idleR, hg]
    go_enter Try.func18, Try.ntmps18
    go_wp2_with (first | (go_at_call 46; refine (areCrewsI _ _ _ _ _ hS hn).mono ?_; rintro _ w1 ⟨rfl, hB1⟩; (first | (with_reducible replace hB2 := bel_trans hB2 hB1) | (with_reducible replace hB2 := bel_trans (bel_alloc hB2) hB1)); obtain ⟨hC1, hF1⟩ := bcell hB2; replace hB1 := hB1))
    go_ret2
    exact ⟨none, 0, 0, by rw [hR.out]; rfl, by rw [hR.out]; exact Own.mk_ (World.ownsRow_nil _ _ _ _), hB2⟩
  · have hG := listC_all hg
    have hn6 : n ≤ 6 := by have := listC_len hg; rw [hS.xs_len Crew.row_len (by omega)] at this; exact this
    rcases hh : inB h 0 240 with _ | _
    · have hR : Hid (idleR xs h = ([], false)) := by show _ = _; simp [idleR, hg, hh]
      go_enter Try.func18, Try.ntmps18
      go_wp2_with (first | (go_at_call 46; refine (areCrewsI _ _ _ _ _ hS hn).mono ?_; rintro _ w1 ⟨rfl, hB1⟩; (first | (with_reducible replace hB2 := bel_trans hB2 hB1) | (with_reducible replace hB2 := bel_trans (bel_alloc hB2) hB1)); obtain ⟨hC1, hF1⟩ := bcell hB2; replace hB1 := hB1) | (go_at_call 34; refine (isIn _ _ _ _).mono ?_; rintro _ w1 ⟨rfl, rfl⟩))
      go_ret2
      exact ⟨none, 0, 0, by rw [hR.out]; rfl, by rw [hR.out]; exact Own.mk_ (World.ownsRow_nil _ _ _ _), hB2⟩
    · have hR : Hid (idleR xs h = (idleL xs h, true)) := by show _ = _; simp [idleR, hg, hh]
      obtain ⟨h0, h1⟩ := inB_iff.1 hh
      obtain ⟨H, rfl⟩ := Int.eq_ofNat_of_zero_le h0
      go_enter Try.func18, Try.ntmps18
      go_wp2_with (first | (go_at_call 46; refine (areCrewsI _ _ _ _ _ hS hn).mono ?_; rintro _ w1 ⟨rfl, hB1⟩; (first | (with_reducible replace hB2 := bel_trans hB2 hB1) | (with_reducible replace hB2 := bel_trans (bel_alloc hB2) hB1)); obtain ⟨hC1, hF1⟩ := bcell hB2; replace hB1 := hB1) | (go_at_call 34; refine (isIn _ _ _ _).mono ?_; rintro _ w1 ⟨rfl, rfl⟩))
      clear hh hg
      go_loopw [6, 20] (fun q v wr => ∃ i : Nat, i ≤ n ∧ v = .int .i64 i ∧ (∃ A' k c', q = .slice A' k c' ∧ wr.ownsRow w.heap.size 3 1 (.slice A' k c') k (ints (idleL (xs.take i) H))) ∧ Below w.heap.size w wr) (fun _ v _ => n - (intOf v).toNat)
      case atStart => exact ⟨0, by omega, rfl, ⟨_, _, _, rfl, by first | (simpa [idleL, ints] using own_bel (own_empty (w := w) (size := 1) (e := 3) (Nat.le_refl _)) hB1) | (simpa [idleL, ints] using own_low (own_empty (w := w1) (size := 1) (e := 3) (Nat.le_refl _)) hB2.size)⟩, by (repeat' (first | (with_reducible exact bel_refl _) | (with_reducible assumption) | (with_reducible refine bel_drew ?_) | (with_reducible refine bel_drewN ?_) | (with_reducible refine bel_alloc ?_) | (with_reducible refine bel_set ?_ ?_) | (with_reducible refine bel_trans ?_ (by with_reducible assumption)) | omega | (simp; done) | (simp; omega)))⟩
      case round =>
        clear hB1 hB2
        obtain ⟨i, hi', rfl, ⟨A', k, c', rfl, hown⟩, hB2⟩ := hrel
        by_cases hlt : i < n
        · obtain ⟨x, hx⟩ : ∃ x, xs[i]? = some x := get_of_lt (by rw [hS.xs_len Crew.row_len (by omega)]; exact hlt)
          obtain ⟨b, o, rfl, hb, c0, c1, c2, c3, c4⟩ := (hS.bel hB2).crew hx
          have hX := hid hx
          have hgx := hid (hG i x hx)
          clear hx
          have hk : k ≤ i := by
            have h2 := hown.1
            rw [ints_len] at h2
            have h3 := idleL_len xs H i
            omega
          rcases hw : worksB x H with _ | _
          · go_wp2_with (first
              | (go_at_call 47; refine (worksI x H _ hgx.out (by omega)).mono ?_; rintro _ w2 ⟨rfl, hB1⟩; (first | (with_reducible replace hB2 := bel_trans hB2 hB1) | (with_reducible replace hB2 := bel_trans (bel_alloc hB2) hB1)); (first | (with_reducible replace hown := own_bel hown hB1) | (with_reducible replace hown := own_bel (hown.alloc _) hB1)); obtain ⟨hC1, hF1⟩ := bcell hB1)
              | (at_builtin; refine wpList_push rfl (.tmp 28) (.tmp 31) 30 rfl w.heap.size 3 (.int .i64 0) 1 8 Try.underlying30 info_int rfl (by omega) A' k c' _ [.int .i64 x.id] 3 rfl hown rfl rfl (oneCell_int _) (by omega) (by omega) hB2.size ?_; intro A'' c'' w3 hown2 hb3 hg3))
            go_roundw
            case rel => exact ⟨i + 1, by omega, by go_num, ⟨_, _, _, rfl, by rw [← idleL_yes hX.out hw, ← ints_snoc]; exact hown2⟩, hB2.trans hb3⟩
            case measure => simp [intOf]; omega
          · go_wp2_with (go_at_call 47; refine (worksI x H _ hgx.out (by omega)).mono ?_; rintro _ w2 ⟨rfl, hB1⟩; (first | (with_reducible replace hB2 := bel_trans hB2 hB1) | (with_reducible replace hB2 := bel_trans (bel_alloc hB2) hB1)); (first | (with_reducible replace hown := own_bel hown hB1) | (with_reducible replace hown := own_bel (hown.alloc _) hB1)); obtain ⟨hC1, hF1⟩ := bcell hB1)
            go_roundw
            case rel => exact ⟨i + 1, by omega, by go_num, ⟨_, _, _, rfl, by rw [← idleL_no hX.out hw]; exact hown⟩, hB2⟩
            case measure => simp [intOf]; omega
        · go_wp2
          go_ret2
          have e : i = n := by omega
          subst e
          rw [List.take_of_length_le (by rw [hS.xs_len Crew.row_len (by omega)]; omega)] at hown
          exact ⟨A', k, c', by rw [hR.out]; rfl, by rw [hR.out]; exact Own.mk_ hown, hB2⟩

/-! ### shares of a line -/
set_option maxHeartbeats 1000000 in
theorem shareS (A : Option Addr) (n c : Nat) (xs : List Crew) (m : Int) (w : World) (hS : Sl w 5 A n c (xs.flatMap Crew.row)) (hn : n ≤ 1048576) :
    Calls Try.prog 23 #[.slice A n c, .int .i64 m] w fun e w' => ∃ A' n' c', e = .returned (.tuple #[.slice A' n' c', .bool (shareR xs m).2]) ∧ Own w.heap.size w'.heap.size w' 3 1 A' n' c' (ints (shareR xs m).1) ∧ Below w.heap.size w w' := by
  have hB2 := bel_refl w
  rcases hg : (hoursTR xs m).2 with _ | _
  · have hR : Hid (shareR xs m = ([], false)) := by show _ = _; simp [shareR, hg]
    go_enter Try.func23, Try.ntmps23
    go_wp2_with (first | (go_at_call 25; refine (hoursTogetherS _ _ _ xs _ _ (hS.bel (by (repeat' (first | (with_reducible exact bel_refl _) | (with_reducible assumption) | (with_reducible refine bel_drew ?_) | (with_reducible refine bel_drewN ?_) | (with_reducible refine bel_alloc ?_) | (with_reducible refine bel_set ?_ ?_) | (with_reducible refine bel_trans ?_ (by with_reducible assumption)) | omega | (simp; done) | (simp; omega))))) hn).mono ?_; rintro _ w1 ⟨rfl, hB1⟩; (first | (with_reducible replace hB2 := bel_trans hB2 hB1) | (with_reducible replace hB2 := bel_trans (bel_alloc hB2) hB1)); obtain ⟨hC1, hF1⟩ := bcell hB2; replace hB1 := hB1))
    go_ret2
    exact ⟨some ⟨w.heap.size, 0, none⟩, 0, 0, by rw [hR.out]; rfl, by rw [hR.out]; exact Own.mk_ (own_bel (own_empty (Nat.le_refl _)) hB1), hB2⟩
  · obtain ⟨hl, hm0, hm1, hh0, hh1⟩ := hoursTR_yes hg
    have hG := listC_all hl
    have hn6 : n ≤ 6 := by have := listC_len hl; rw [hS.xs_len Crew.row_len (by omega)] at this; exact this
    obtain ⟨H, hH⟩ := Int.eq_ofNat_of_zero_le hh0
    have hR : Hid (shareR xs m = (shareL H xs m, true)) := by show _ = _; simp [shareR, hg, hH]
    have hH2 : H ≤ 240 := by omega
    have hHH := hid hH
    clear hH hh0 hh1 hl
    go_enter Try.func23, Try.ntmps23
    go_wp2_with (first | (go_at_call 25; refine (hoursTogetherS _ _ _ xs _ _ (hS.bel (by (repeat' (first | (with_reducible exact bel_refl _) | (with_reducible assumption) | (with_reducible refine bel_drew ?_) | (with_reducible refine bel_drewN ?_) | (with_reducible refine bel_alloc ?_) | (with_reducible refine bel_set ?_ ?_) | (with_reducible refine bel_trans ?_ (by with_reducible assumption)) | omega | (simp; done) | (simp; omega))))) hn).mono ?_; rintro _ w1 ⟨rfl, hB1⟩; (first | (with_reducible replace hB2 := bel_trans hB2 hB1) | (with_reducible replace hB2 := bel_trans (bel_alloc hB2) hB1)); obtain ⟨hC1, hF1⟩ := bcell hB2; replace hB1 := hB1))
    rw [hHH.out]
    clear hg
    go_loopw [1, 6, 9] (fun p q v wr => ∃ i : Nat, i ≤ n ∧ v = .int .i64 i ∧ p = .int .i64 (restL H (xs.take i) m) ∧ (∃ A' k c', q = .slice A' k c' ∧ wr.ownsRow w.heap.size 3 1 (.slice A' k c') k (ints (shareL H (xs.take i) m))) ∧ Below w.heap.size w wr) (fun _ _ v _ => n - (intOf v).toNat)
    case atStart => exact ⟨0, by omega, rfl, rfl, ⟨_, _, _, rfl, by first | (simpa [shareL, ints] using own_bel (own_empty (w := w) (size := 1) (e := 3) (Nat.le_refl _)) hB1) | (simpa [shareL, ints] using own_low (own_empty (w := w1) (size := 1) (e := 3) (Nat.le_refl _)) hB2.size)⟩, by (repeat' (first | (with_reducible exact bel_refl _) | (with_reducible assumption) | (with_reducible refine bel_drew ?_) | (with_reducible refine bel_drewN ?_) | (with_reducible refine bel_alloc ?_) | (with_reducible refine bel_set ?_ ?_) | (with_reducible refine bel_trans ?_ (by with_reducible assumption)) | omega | (simp; done) | (simp; omega)))⟩
    case round =>
      clear hB1 hB2
      obtain ⟨i, hi', rfl, rfl, ⟨A', k, c', rfl, hown⟩, hB2⟩ := hrel
      have hrb := restL_bd (H := H) hG hm0 i
      by_cases hlt : i < n
      · obtain ⟨x, hx⟩ : ∃ x, xs[i]? = some x := get_of_lt (by rw [hS.xs_len Crew.row_len (by omega)]; exact hlt)
        obtain ⟨b, o, rfl, hb, c0, c1, c2, c3, c4⟩ := (hS.bel hB2).crew hx
        have hX := hid hx
        have hgx := hid (hG i x hx)
        have hbb := builtN_bd (hG i x hx) H
        clear hx
        have hk : k ≤ i := by
          have h2 := hown.1
          rw [ints_len, shareL_len] at h2
          have h3 := List.length_take_le i xs
          omega
        by_cases hmn : restL H (xs.take i) m < builtN x H
        · go_wp2_with (first
            | (go_at_call 38; refine (l10Built x H _ hgx.out (by omega)).mono ?_; rintro _ w2 ⟨rfl, hB1⟩; (first | (with_reducible replace hB2 := bel_trans hB2 hB1) | (with_reducible replace hB2 := bel_trans (bel_alloc (bel_alloc hB2)) hB1)); (first | (with_reducible replace hown := own_bel hown hB1) | (with_reducible replace hown := own_bel ((hown.alloc _).alloc _) hB1)); obtain ⟨hC1, hF1⟩ := bcell hB1; (try rw [one_together]))
            | (go_at_call 51; refine (l1Least _ _ _).mono ?_; rintro _ w1 ⟨rfl, rfl⟩)
            | (at_builtin; refine wpList_push rfl (.tmp 35) (.tmp 37) 30 rfl w.heap.size 3 (.int .i64 0) 1 8 Try.underlying30 info_int rfl (by omega) A' k c' _ [.int .i64 _] 3 rfl hown rfl rfl (oneCell_int _) (by omega) (by omega) hB2.size ?_; intro A'' c'' w3 hown2 hb3 hg3))
          go_roundw
          case rel => exact ⟨i + 1, by omega, by go_num, by rw [← rest_next hX.out]; try (congr 1; omega), ⟨_, _, _, rfl, by rw [← share_next hX.out, ← ints_snoc]; first | exact hown2 | (rw [Int.min_comm]; exact hown2) | (rw [Int.min_eq_left (by omega)]; exact hown2) | (rw [Int.min_eq_right (by omega)]; exact hown2)⟩, hB2.trans hb3⟩
          case measure => simp [intOf]; omega
        · go_wp2_with (first
            | (go_at_call 38; refine (l10Built x H _ hgx.out (by omega)).mono ?_; rintro _ w2 ⟨rfl, hB1⟩; (first | (with_reducible replace hB2 := bel_trans hB2 hB1) | (with_reducible replace hB2 := bel_trans (bel_alloc (bel_alloc hB2)) hB1)); (first | (with_reducible replace hown := own_bel hown hB1) | (with_reducible replace hown := own_bel ((hown.alloc _).alloc _) hB1)); obtain ⟨hC1, hF1⟩ := bcell hB1; (try rw [one_together]))
            | (go_at_call 51; refine (l1Least _ _ _).mono ?_; rintro _ w1 ⟨rfl, rfl⟩)
            | (at_builtin; refine wpList_push rfl (.tmp 35) (.tmp 37) 30 rfl w.heap.size 3 (.int .i64 0) 1 8 Try.underlying30 info_int rfl (by omega) A' k c' _ [.int .i64 _] 3 rfl hown rfl rfl (oneCell_int _) (by omega) (by omega) hB2.size ?_; intro A'' c'' w3 hown2 hb3 hg3))
          go_roundw
          case rel => exact ⟨i + 1, by omega, by go_num, by rw [← rest_next hX.out]; try (congr 1; omega), ⟨_, _, _, rfl, by rw [← share_next hX.out, ← ints_snoc]; first | exact hown2 | (rw [Int.min_comm]; exact hown2) | (rw [Int.min_eq_left (by omega)]; exact hown2) | (rw [Int.min_eq_right (by omega)]; exact hown2)⟩, hB2.trans hb3⟩
          case measure => simp [intOf]; omega
      · go_wp2
        go_ret2
        have e : i = n := by omega
        subst e
        rw [List.take_of_length_le (by rw [hS.xs_len Crew.row_len (by omega)]; omega)] at hown
        exact ⟨A', k, c', by rw [hR.out]; rfl, by rw [hR.out]; exact Own.mk_ hown, hB2⟩

set_option maxHeartbeats 1000000 in
theorem shareI (A : Option Addr) (n c : Nat) (xs : List Crew) (m : Int) (w : World) (hS : Sl w 5 A n c (xs.flatMap Crew.row)) (hn : n ≤ 1048576) :
    Calls Try.prog 22 #[.slice A n c, .int .i64 m] w fun e w' => ∃ A' n' c', e = .returned (.tuple #[.slice A' n' c', .bool (shareR xs m).2]) ∧ Own w.heap.size w'.heap.size w' 3 1 A' n' c' (ints (shareR xs m).1) ∧ Below w.heap.size w w' := by
  have hB2 := bel_refl w
  rcases hg : (hoursTR xs m).2 with _ | _
  · have hR : Hid (shareR xs m = ([], false)) := by show _ = _; simp [shareR, hg]
    go_enter Try.func22, Try.ntmps22
    go_wp2_with (first | (go_at_call 24; refine (hoursTogetherI _ _ _ xs _ _ hS hn).mono ?_; rintro _ w1 ⟨rfl, hB1⟩; (first | (with_reducible replace hB2 := bel_trans hB2 hB1) | (with_reducible replace hB2 := bel_trans (bel_alloc hB2) hB1)); obtain ⟨hC1, hF1⟩ := bcell hB2; replace hB1 := hB1))
    go_ret2
    exact ⟨none, 0, 0, by rw [hR.out]; rfl, by rw [hR.out]; exact Own.mk_ (World.ownsRow_nil _ _ _ _), hB2⟩
  · obtain ⟨hl, hm0, hm1, hh0, hh1⟩ := hoursTR_yes hg
    have hG := listC_all hl
    have hn6 : n ≤ 6 := by have := listC_len hl; rw [hS.xs_len Crew.row_len (by omega)] at this; exact this
    obtain ⟨H, hH⟩ := Int.eq_ofNat_of_zero_le hh0
    have hR : Hid (shareR xs m = (shareL H xs m, true)) := by show _ = _; simp [shareR, hg, hH]
    have hH2 : H ≤ 240 := by omega
    have hHH := hid hH
    clear hH hh0 hh1 hl
    go_enter Try.func22, Try.ntmps22
    go_wp2_with (first | (go_at_call 24; refine (hoursTogetherI _ _ _ xs _ _ hS hn).mono ?_; rintro _ w1 ⟨rfl, hB1⟩; (first | (with_reducible replace hB2 := bel_trans hB2 hB1) | (with_reducible replace hB2 := bel_trans (bel_alloc hB2) hB1)); obtain ⟨hC1, hF1⟩ := bcell hB2; replace hB1 := hB1))
    rw [hHH.out]
    clear hg
    go_loopw [1, 8, 23] (fun p q v wr => ∃ i : Nat, i ≤ n ∧ v = .int .i64 i ∧ p = .int .i64 (restL H (xs.take i) m) ∧ (∃ A' k c', q = .slice A' k c' ∧ wr.ownsRow w.heap.size 3 1 (.slice A' k c') k (ints (shareL H (xs.take i) m))) ∧ Below w.heap.size w wr) (fun _ _ v _ => n - (intOf v).toNat)
    case atStart => exact ⟨0, by omega, rfl, rfl, ⟨_, _, _, rfl, by first | (simpa [shareL, ints] using own_bel (own_empty (w := w) (size := 1) (e := 3) (Nat.le_refl _)) hB1) | (simpa [shareL, ints] using own_low (own_empty (w := w1) (size := 1) (e := 3) (Nat.le_refl _)) hB2.size)⟩, by (repeat' (first | (with_reducible exact bel_refl _) | (with_reducible assumption) | (with_reducible refine bel_drew ?_) | (with_reducible refine bel_drewN ?_) | (with_reducible refine bel_alloc ?_) | (with_reducible refine bel_set ?_ ?_) | (with_reducible refine bel_trans ?_ (by with_reducible assumption)) | omega | (simp; done) | (simp; omega)))⟩
    case round =>
      clear hB1 hB2
      obtain ⟨i, hi', rfl, rfl, ⟨A', k, c', rfl, hown⟩, hB2⟩ := hrel
      have hrb := restL_bd (H := H) hG hm0 i
      by_cases hlt : i < n
      · obtain ⟨x, hx⟩ : ∃ x, xs[i]? = some x := get_of_lt (by rw [hS.xs_len Crew.row_len (by omega)]; exact hlt)
        obtain ⟨b, o, rfl, hb, c0, c1, c2, c3, c4⟩ := (hS.bel hB2).crew hx
        have hX := hid hx
        have hgx := hid (hG i x hx)
        have hbb := builtN_bd (hG i x hx) H
        clear hx
        have hk : k ≤ i := by
          have h2 := hown.1
          rw [ints_len, shareL_len] at h2
          have h3 := List.length_take_le i xs
          omega
        by_cases hmn : restL H (xs.take i) m < builtN x H
        · go_wp2_with (first
            | (go_at_call 35; refine (builtI _ _ _ [x] H _ (one_sl' (by simp)) (by omega) (one_all hgx.out) (by omega)).mono ?_; rintro _ w2 ⟨rfl, hB1⟩; (first | (with_reducible replace hB2 := bel_trans hB2 hB1) | (with_reducible replace hB2 := bel_trans (bel_alloc (bel_alloc hB2)) hB1)); (first | (with_reducible replace hown := own_bel hown hB1) | (with_reducible replace hown := own_bel ((hown.alloc _).alloc _) hB1)); obtain ⟨hC1, hF1⟩ := bcell hB1; (try rw [one_together]))
            | (go_at_call 51; refine (l1Least _ _ _).mono ?_; rintro _ w1 ⟨rfl, rfl⟩)
            | (at_builtin; refine wpList_push rfl (.tmp 33) (.tmp 35) 30 rfl w.heap.size 3 (.int .i64 0) 1 8 Try.underlying30 info_int rfl (by omega) A' k c' _ [.int .i64 _] 3 rfl hown rfl rfl (oneCell_int _) (by omega) (by omega) hB2.size ?_; intro A'' c'' w3 hown2 hb3 hg3))
          go_roundw
          case rel => exact ⟨i + 1, by omega, by go_num, by rw [← rest_next hX.out]; try (congr 1; omega), ⟨_, _, _, rfl, by rw [← share_next hX.out, ← ints_snoc]; first | exact hown2 | (rw [Int.min_comm]; exact hown2) | (rw [Int.min_eq_left (by omega)]; exact hown2) | (rw [Int.min_eq_right (by omega)]; exact hown2)⟩, hB2.trans hb3⟩
          case measure => simp [intOf]; omega
        · go_wp2_with (first
            | (go_at_call 35; refine (builtI _ _ _ [x] H _ (one_sl' (by simp)) (by omega) (one_all hgx.out) (by omega)).mono ?_; rintro _ w2 ⟨rfl, hB1⟩; (first | (with_reducible replace hB2 := bel_trans hB2 hB1) | (with_reducible replace hB2 := bel_trans (bel_alloc (bel_alloc hB2)) hB1)); (first | (with_reducible replace hown := own_bel hown hB1) | (with_reducible replace hown := own_bel ((hown.alloc _).alloc _) hB1)); obtain ⟨hC1, hF1⟩ := bcell hB1; (try rw [one_together]))
            | (go_at_call 51; refine (l1Least _ _ _).mono ?_; rintro _ w1 ⟨rfl, rfl⟩)
            | (at_builtin; refine wpList_push rfl (.tmp 33) (.tmp 35) 30 rfl w.heap.size 3 (.int .i64 0) 1 8 Try.underlying30 info_int rfl (by omega) A' k c' _ [.int .i64 _] 3 rfl hown rfl rfl (oneCell_int _) (by omega) (by omega) hB2.size ?_; intro A'' c'' w3 hown2 hb3 hg3))
          go_roundw
          case rel => exact ⟨i + 1, by omega, by go_num, by rw [← rest_next hX.out]; try (congr 1; omega), ⟨_, _, _, rfl, by rw [← share_next hX.out, ← ints_snoc]; first | exact hown2 | (rw [Int.min_comm]; exact hown2) | (rw [Int.min_eq_left (by omega)]; exact hown2) | (rw [Int.min_eq_right (by omega)]; exact hown2)⟩, hB2.trans hb3⟩
          case measure => simp [intOf]; omega
      · go_wp2
        go_ret2
        have e : i = n := by omega
        subst e
        rw [List.take_of_length_le (by rw [hS.xs_len Crew.row_len (by omega)]; omega)] at hown
        exact ⟨A', k, c', by rw [hR.out]; rfl, by rw [hR.out]; exact Own.mk_ hown, hB2⟩

end Go.Proofs.Ythbjgccldoofgaa
