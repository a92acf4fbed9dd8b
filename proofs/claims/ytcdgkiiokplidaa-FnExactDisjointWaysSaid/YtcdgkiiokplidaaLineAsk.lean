/-
  Whether a terrain, sources and assets are valid: of the program and of the reference, walked.
-/
import Derived.Test.YtcdgkiiokplidaaLineFns
import Derived.Deep.DeepCutAuto
namespace Go.Proofs.Ytcdgkiiokplidaa
open Go.RowKit

theorem allL_no {p : List Int → Bool} {xs : List (List Int)} {i : Nat} {x : List Int} (hx : xs[i]? = some x) (h : p x = false) : xs.all p = false := by
  rw [List.all_eq_false]
  exact ⟨x, List.mem_of_getElem? hx, by simp [h]⟩
theorem allL_yes {p : List Int → Bool} {xs : List (List Int)} (h : ∀ (i : Nat) (x : List Int), xs[i]? = some x → p x = true) : xs.all p = true := by
  rw [List.all_eq_true]
  intro x hx
  obtain ⟨i, hi⟩ := List.getElem?_of_mem hx
  exact h i x hi
theorem cloAllL (t : Terr) (A : Option Addr) (n c : Nat) (xs : List Int) (hb : Nat) (w : World) (ht : t.n ≤ 1048576) (hS : Sl w 1 A n c (ints xs)) (hn : n ≤ 1048576) (hf : w.cell? ⟨hb, 0, none⟩ = some (.func (.func 44) #[.agg #[.int .i64 t.W, .int .i64 t.H, .slice t.A t.n t.c]] #[])) :
    Calls Try.prog 60 #[.slice A n c, .pointer (some ⟨hb, 0, none⟩)] w fun e w' => e = .returned (.bool (!setT t xs)) ∧ Below w.heap.size w w' := by
  go_enter Try.func60, Try.ntmps60
  go_wp2_with fail
  refine (isSet t A n c xs _ ht hS hn).mono ?_
  rintro _ w1 ⟨rfl, hB1⟩
  go_wp2_with fail
  go_ret
  exact ⟨rfl, hB1⟩
set_option maxHeartbeats 1000000 in
theorem indexL (t : Terr) (A : Option Addr) (n c : Nat) (LL : List (List Int)) (hb : Nat) (w : World) (ht : t.n ≤ 1048576) (hS : SS w A n c (rows LL)) (hn : n ≤ 1048576) (hl : ∀ l ∈ LL, l.length ≤ 1048576) (hhb : hb < w.heap.size) (hf : w.cell? ⟨hb, 0, none⟩ = some (.func (.func 44) #[.agg #[.int .i64 t.W, .int .i64 t.H, .slice t.A t.n t.c]] #[])) :
    Calls Try.prog 66 #[.slice A n c, .func (.func 60) #[] #[.pointer (some ⟨hb, 0, none⟩)]] w fun e w' => ∃ k : Int, e = .returned (.int .i64 k) ∧ decide (0 ≤ k) = !LL.all (setT t) ∧ Below w.heap.size w w' := by
  have hlh := hid (show LL.length = n by have := hS.len; rwa [rows_len] at this)
  replace hl := hid hl
  go_enter Try.func66, Try.ntmps66
  go_wp2_with fail
  go_loopw [5, 8] (fun _ v wr => ∃ i : Nat, i ≤ n ∧ v = .int .i64 i ∧ (Hid (∀ r, r < i → ∀ u, LL[r]? = some u → setT t u = true)) ∧ Below w.heap.size w wr) (fun _ v _ => n - (intOf v).toNat)
  case atStart => exact ⟨0, by omega, rfl, fun r hr => absurd hr (by omega), by (repeat' (first | (with_reducible exact bel_refl _) | (with_reducible assumption) | (with_reducible refine bel_drew ?_) | (with_reducible refine bel_drewN ?_) | (with_reducible refine bel_alloc ?_) | (with_reducible refine bel_set ?_ ?_) | (with_reducible refine bel_trans ?_ (by with_reducible assumption)) | omega | (simp; done) | (simp; omega)))⟩
  case round =>
    obtain ⟨i, hi', rfl, hall, hB⟩ := hrel
    have hfw := ((bcell hB).1 _ 0 hhb).trans hf
    by_cases hlt : i < n
    · obtain ⟨x, hx⟩ : ∃ x, LL[i]? = some x := get_of_lt (by rw [hlh.out]; exact hlt)
      obtain ⟨b, o, rfl, hb', a, m, d, c0, hx1⟩ := (hS.bel hB).at_ (rows_get hx)
      have hX := hid hx
      have hxl : m ≤ 1048576 := by
        have h1 := hl.out x (List.mem_of_getElem? hx)
        have h2 := hx1.int_len
        omega
      clear hx
      have hi0 : (0 : Int) ≤ (i : Int) := by omega
      have hi1 : (i : Int) < (n : Int) := by omega
      rcases hin : setT t x with _ | _
      · go_wp2_with fail
        refine (cloAllL t a m d x hb _ ht hx1 hxl hfw).mono ?_
        rw [hin]
        rintro _ w1 ⟨rfl, hB1⟩
        go_wp2_with fail
        go_ret
        exact ⟨i, rfl, by rw [allL_no hX.out hin]; simp, bel_trans hB hB1⟩
      · go_wp2_with fail
        refine (cloAllL t a m d x hb _ ht hx1 hxl hfw).mono ?_
        rw [hin]
        rintro _ w1 ⟨rfl, hB1⟩
        go_wp2_with fail
        go_roundw
        case rel => exact ⟨i + 1, by omega, by go_num, fun r hr u hu => (by
          rcases Nat.lt_or_ge r i with h1 | h1
          · exact hall.out r h1 u hu
          · rw [show r = i by omega, hX.out] at hu
            simp only [Option.some.injEq] at hu
            rw [← hu]; exact hin), bel_trans hB hB1⟩
        case measure => simp [intOf]; omega
    · go_wp2_with fail
      go_ret
      refine ⟨-1, rfl, ?_, hB⟩
      rw [allL_yes (fun r u hu => hall.out r (by have h1 := (List.getElem?_eq_some_iff.1 hu).1; rw [hlh.out] at h1; omega) u hu)]
      simp
theorem containsL (t : Terr) (A : Option Addr) (n c : Nat) (LL : List (List Int)) (hb : Nat) (w : World) (ht : t.n ≤ 1048576) (hS : SS w A n c (rows LL)) (hn : n ≤ 1048576) (hl : ∀ l ∈ LL, l.length ≤ 1048576) (hhb : hb < w.heap.size) (hf : w.cell? ⟨hb, 0, none⟩ = some (.func (.func 44) #[.agg #[.int .i64 t.W, .int .i64 t.H, .slice t.A t.n t.c]] #[])) :
    Calls Try.prog 59 #[.slice A n c, .func (.func 60) #[] #[.pointer (some ⟨hb, 0, none⟩)]] w fun e w' => e = .returned (.bool (!LL.all (setT t))) ∧ Below w.heap.size w w' := by
  go_enter Try.func59, Try.ntmps59
  go_wp2_with fail
  refine (indexL t _ _ _ LL hb _ ht hS hn hl hhb hf).mono ?_
  rintro _ w1 ⟨k, rfl, hk, hb1⟩
  go_wp2_with fail
  go_ret
  exact ⟨ret_bool (by first | rfl | exact hk), hb1⟩
theorem allSets (t : Terr) (A : Option Addr) (n c : Nat) (LL : List (List Int)) (w : World) (ht : t.n ≤ 1048576) (hS : SS w A n c (rows LL)) (hn : n ≤ 1048576) (hl : ∀ l ∈ LL, l.length ≤ 1048576) :
    Calls Try.prog 43 #[.slice A n c, .func (.func 44) #[.agg #[.int .i64 t.W, .int .i64 t.H, .slice t.A t.n t.c]] #[]] w fun e w' => e = .returned (.bool (LL.all (setT t))) ∧ Below w.heap.size w w' := by
  obtain ⟨W1, hW1⟩ : ∃ W1, w.alloc (.cells #[.func (.func 44) #[.agg #[.int .i64 t.W, .int .i64 t.H, .slice t.A t.n t.c]] #[]] 59) = W1 := ⟨_, rfl⟩
  have hb2 : Below w.heap.size w W1 := by rw [← hW1]; exact bel_alloc (bel_refl w)
  have hf1 : W1.cell? ⟨w.heap.size, 0, none⟩ = some (.func (.func 44) #[.agg #[.int .i64 t.W, .int .i64 t.H, .slice t.A t.n t.c]] #[]) := by rw [← hW1, cell_of_row _ _ 0 _ _ (0, 0) (heap_alloc_new w _)]; rfl
  have hs2 : w.heap.size < W1.heap.size := by rw [← hW1]; simp
  go_enter Try.func43, Try.ntmps43
  go_wp2_with fail
  (try rw [hW1])
  refine (containsL t _ _ _ LL w.heap.size _ ht (hS.bel hb2) hn hl hs2 hf1).mono ?_
  rintro _ w1 ⟨rfl, hb1⟩
  go_wp2_with fail
  go_ret
  exact ⟨ret_bool (by simp), bel_trans hb2 hb1⟩
theorem isRegion (t : Terr) (A : Option Addr) (n c : Nat) (LL : List (List Int)) (w : World) (hT : TOk w t) (ht : t.n ≤ 1048576) (hS : SS w A n c (rows LL)) (hn : n ≤ 1048576) (hl : ∀ l ∈ LL, l.length ≤ 1048576) :
    Calls Try.prog 26 #[.agg #[.int .i64 t.W, .int .i64 t.H, .slice t.A t.n t.c], .slice A n c] w fun e w' => e = .returned (.bool (goodT t && LL.all (setT t))) ∧ Below w.heap.size w w' := by
  have hb0 := bel_alloc (o := .cells #[.int .i64 t.W, .int .i64 t.H, .slice t.A t.n t.c] 28) (bel_refl w)
  replace hl := hid hl
  rcases hg : goodT t with _ | _
  · go_enter Try.func26, Try.ntmps26
    go_wp2_with fail
    refine (isTerrain t _ (hT.bel hb0) ht).mono ?_
    rw [hg]
    rintro _ w1 ⟨rfl, hB1⟩
    go_wp2_with fail
    go_ret
    exact ⟨ret_bool (by simp), bel_trans hb0 hB1⟩
  · go_enter Try.func26, Try.ntmps26
    go_wp2_with fail
    refine (isTerrain t _ (hT.bel hb0) ht).mono ?_
    rw [hg]
    rintro _ w1 ⟨rfl, hB1⟩
    obtain ⟨hC1, hF1⟩ := bcell hB1
    go_wp2_with fail
    refine (allSets t A n c LL _ ht ((hS.bel hb0).bel hB1) hn hl.out).mono ?_
    rintro _ w2 ⟨rfl, hB2⟩
    go_wp2_with fail
    go_ret
    exact ⟨ret_bool (by simp), bel_trans (bel_trans hb0 hB1) hB2⟩
def askC (t : Terr) (so ass : List Int) : Bool := goodT t && (setT t so && setT t ass) && so.all fun x => !hasB ass x
set_option maxHeartbeats 2000000 in
theorem isCaseI (t : Terr) (A B : Option Addr) (n c m d : Nat) (so ass : List Int) (w : World) (hT : TOk w t) (ht : t.n ≤ 1048576) (hS : Sl w 1 A n c (ints so)) (hn : n ≤ 1048576) (hM : Sl w 1 B m d (ints ass)) (hm : m ≤ 1048576) :
    Calls Try.prog 18 #[.agg #[.int .i64 t.W, .int .i64 t.H, .slice t.A t.n t.c], .slice A n c, .slice B m d] w fun e w' => e = .returned (.bool (askC t so ass)) ∧ Below w.heap.size w w' := by
  have hR := hid (show askC t so ass = (goodT t && [so, ass].all (setT t) && so.all fun x => !hasB ass x) by simp [askC])
  have hsl := hS.int_len
  have hml := hM.int_len
  obtain ⟨Z, hZ⟩ : ∃ Z, ((w.alloc (.cells #[.int .i64 t.W, .int .i64 t.H, .slice t.A t.n t.c] 28)).alloc (.cells #[.slice B m d] 22)) = Z := ⟨_, rfl⟩
  have hb : Below w.heap.size w Z := by rw [← hZ]; exact bel_alloc (bel_alloc (bel_refl w))
  have c0 : Z.cell? ⟨w.heap.size, 0, none⟩ = some (.int .i64 t.W) := by rw [← hZ]; simp [go_sem]
  have c1 : Z.cell? ⟨w.heap.size, 1, none⟩ = some (.int .i64 t.H) := by rw [← hZ]; simp [go_sem]
  have c2 : Z.cell? ⟨w.heap.size, 2, none⟩ = some (.slice t.A t.n t.c) := by rw [← hZ]; simp [go_sem]
  have e0 : Z.cell? ⟨w.heap.size + 1, 0, none⟩ = some (.slice B m d) := by rw [← hZ]; simp [go_sem]
  have hs : w.heap.size + 1 < Z.heap.size := by rw [← hZ]; simp
  have hs0 : w.heap.size < Z.heap.size := by omega
  have hb2 : Below Z.heap.size Z (Z.alloc (.cells #[.slice A n c, .slice B m d] 22)) := bel_alloc (bel_refl Z)
  have hSS : SS (Z.alloc (.cells #[.slice A n c, .slice B m d] 22)) (some ⟨Z.heap.size, 0, none⟩) 2 2 (rows [so, ass]) :=
    ⟨[.slice A n c, .slice B m d], sl_lit (w := Z) (L := [.slice A n c, .slice B m d]) rfl rfl (by simp [maxLen]), rfl, fun i l hl => by
      match i, hl with
      | 0, hl =>
        simp only [rows, List.map_cons, List.getElem?_cons_zero, Option.some.injEq] at hl
        subst hl
        exact ⟨A, n, c, rfl, (hS.bel hb).bel hb2⟩
      | 1, hl =>
        simp only [rows, List.map_cons, List.getElem?_cons_succ, List.getElem?_cons_zero, Option.some.injEq] at hl
        subst hl
        exact ⟨B, m, d, rfl, (hM.bel hb).bel hb2⟩
      | i + 2, hl => simp [rows] at hl⟩
  have hlen : Hid (∀ l ∈ [so, ass], l.length ≤ 1048576) := hid (fun l hl => by
    simp only [List.mem_cons, List.not_mem_nil, or_false] at hl
    rcases hl with rfl | rfl <;> omega)
  clear hsl hml
  rcases hq : (goodT t && [so, ass].all (setT t)) with _ | _
  · rw [hq] at hR
    go_enter Try.func18, Try.ntmps18
    go_upto_region 1 with fail
    (try rw [hZ])
    go_wp2_with fail
    refine (isRegion t _ _ _ [so, ass] _ ((hT.bel hb).bel hb2) ht hSS (by omega) hlen.out).mono ?_
    rw [hq]
    rintro _ w1 ⟨rfl, hB1⟩
    go_wp2_with fail
    go_ret
    exact ⟨ret_bool (by rw [hR.out]; rfl), bel_trans (bel_trans hb hb2) hB1⟩
  · rw [hq] at hR
    go_enter Try.func18, Try.ntmps18
    go_upto_region 1 with fail
    (try rw [hZ])
    go_wp2_with fail
    refine (isRegion t _ _ _ [so, ass] _ ((hT.bel hb).bel hb2) ht hSS (by omega) hlen.out).mono ?_
    rw [hq]
    rintro _ w1 ⟨rfl, hB1⟩
    have hbz := bel_trans hb2 hB1
    have e1 := ((bcell hbz).1 _ 0 hs).trans e0
    have hF := hid (fun (x : Int) (w' : World) (hb' : Below w1.heap.size w1 w') => case_clo B m d ass x (w.heap.size + 1) w' (((hM.bel hb).bel hbz).bel hb') hm (((bcell hb').1 _ 0 (by have := hbz.size; omega)).trans e1))
    go_wp2_with fail
    refine (allIntC _ (fun x => !hasB ass x) A n c so _ hF.out ((hS.bel hb).bel hbz) hn).mono ?_
    rintro _ w2 ⟨rfl, hB2⟩
    go_wp2_with fail
    go_ret
    exact ⟨ret_bool (by rw [hR.out]; rfl), bel_trans (bel_trans hb hbz) hB2⟩
set_option maxHeartbeats 1000000 in
theorem l9Meet (A B : Option Addr) (n c m d : Nat) (so ass : List Int) (w : World) (hS : Sl w 1 A n c (ints so)) (hn : n ≤ 1048576) (hM : Sl w 1 B m d (ints ass)) (hm : m ≤ 1048576) :
    Calls Try.prog 22 #[.slice A n c, .slice B m d] w fun e w' => e = .returned (.bool (!so.all fun x => !hasB ass x)) ∧ w = w' := by
  have hlh := hid hS.int_len
  go_enter Try.func22, Try.ntmps22
  go_wp2_with fail
  go_loopw [5] (fun v wr => ∃ i : Nat, i ≤ n ∧ v = .int .i64 i ∧ (Hid (∀ r, r < i → ∀ u, so[r]? = some u → (!hasB ass u) = true)) ∧ w = wr) (fun v _ => n - (intOf v).toNat)
  case atStart => exact ⟨0, by omega, rfl, fun r hr => absurd hr (by omega), rfl⟩
  case round =>
    obtain ⟨i, hi', rfl, hall, rfl⟩ := hrel
    by_cases hlt : i < n
    · obtain ⟨x, hx⟩ : ∃ x, so[i]? = some x := get_of_lt (by rw [hlh.out]; exact hlt)
      obtain ⟨b, o, rfl, hb, c0⟩ := hS.int_at hx
      have hX := hid hx
      clear hx
      have hi0 : (0 : Int) ≤ (i : Int) := by omega
      have hi1 : (i : Int) < (n : Int) := by omega
      rcases hq : hasB ass x with _ | _
      · go_wp2_with fail
        refine (l1Has B m d ass x _ hM hm).mono ?_
        rw [show (ass.any fun y => y == x) = _ from hq]
        rintro _ w1 ⟨rfl, rfl⟩
        go_wp2_with fail
        go_roundw
        case rel => exact ⟨i + 1, by omega, by go_num, fun r hr u hu => (by
          rcases Nat.lt_or_ge r i with h1 | h1
          · exact hall.out r h1 u hu
          · rw [show r = i by omega, hX.out] at hu
            simp only [Option.some.injEq] at hu
            rw [← hu, hq]; rfl), by simp⟩
        case measure => simp [intOf]; omega
      · have hR := hid (alli_no (p := fun y => !hasB ass y) hX.out (by simp only [hq]; rfl))
        go_wp2_with fail
        refine (l1Has _ m d ass x _ hM hm).mono ?_
        rw [show (ass.any fun y => y == x) = _ from hq]
        rintro _ w1 ⟨rfl, rfl⟩
        go_wp2_with fail
        go_ret
        exact ⟨ret_bool (by rw [hR.out]; rfl), rfl⟩
    · have hi1 : ¬ (i : Int) < (n : Int) := by omega
      have hR := hid (alli_yes (p := fun y => !hasB ass y) (fun r u hu => hall.out r (by have h1 := (List.getElem?_eq_some_iff.1 hu).1; rw [hlh.out] at h1; omega) u hu))
      go_wp2_with fail
      go_ret
      exact ⟨ret_bool (by rw [hR.out]; rfl), rfl⟩
set_option maxHeartbeats 2000000 in
theorem l9Asked (t : Terr) (A B : Option Addr) (n c m d : Nat) (so ass : List Int) (w : World) (hT : TOk w t) (ht : t.n ≤ 1048576) (hS : Sl w 1 A n c (ints so)) (hn : n ≤ 1048576) (hM : Sl w 1 B m d (ints ass)) (hm : m ≤ 1048576) :
    Calls Try.prog 15 #[.agg #[.int .i64 t.W, .int .i64 t.H, .slice t.A t.n t.c], .slice A n c, .slice B m d] w fun e w' => e = .returned (.bool (askC t so ass)) ∧ Below w.heap.size w w' := by
  have hb0 := bel_alloc (o := .cells #[.int .i64 t.W, .int .i64 t.H, .slice t.A t.n t.c] 28) (bel_refl w)
  have hR := hid (show askC t so ass = ((goodT t && setT t so) && (goodT t && setT t ass) && so.all fun x => !hasB ass x) by
    rw [askC]
    cases goodT t <;> cases setT t so <;> cases setT t ass <;> rfl)
  rcases h1 : (goodT t && setT t so) with _ | _
  · rw [h1] at hR
    go_enter Try.func15, Try.ntmps15
    go_wp2_with fail
    refine (l2Set t A n c so _ (hT.bel hb0) ht (hS.bel hb0) hn).mono ?_
    rw [h1]
    rintro _ w1 ⟨rfl, hB1⟩
    go_wp2_with fail
    go_ret
    exact ⟨ret_bool (by rw [hR.out]; rfl), bel_trans hb0 hB1⟩
  rcases h2 : (goodT t && setT t ass) with _ | _
  · rw [h1, h2] at hR
    go_enter Try.func15, Try.ntmps15
    go_wp2_with fail
    refine (l2Set t A n c so _ (hT.bel hb0) ht (hS.bel hb0) hn).mono ?_
    rw [h1]
    rintro _ w1 ⟨rfl, hB1⟩
    obtain ⟨hC1, hF1⟩ := bcell hB1
    go_wp2_with fail
    refine (l2Set t B m d ass _ ((hT.bel hb0).bel hB1) ht ((hM.bel hb0).bel hB1) hm).mono ?_
    rw [h2]
    rintro _ w2 ⟨rfl, hB2⟩
    go_wp2_with fail
    go_ret
    exact ⟨ret_bool (by rw [hR.out]; rfl), bel_trans (bel_trans hb0 hB1) hB2⟩
  · rw [h1, h2] at hR
    go_enter Try.func15, Try.ntmps15
    go_wp2_with fail
    refine (l2Set t A n c so _ (hT.bel hb0) ht (hS.bel hb0) hn).mono ?_
    rw [h1]
    rintro _ w1 ⟨rfl, hB1⟩
    obtain ⟨hC1, hF1⟩ := bcell hB1
    go_wp2_with fail
    refine (l2Set t B m d ass _ ((hT.bel hb0).bel hB1) ht ((hM.bel hb0).bel hB1) hm).mono ?_
    rw [h2]
    rintro _ w2 ⟨rfl, hB2⟩
    go_wp2_with fail
    refine (l9Meet A B n c m d so ass _ (((hS.bel hb0).bel hB1).bel hB2) hn (((hM.bel hb0).bel hB1).bel hB2) hm).mono ?_
    rintro _ _ ⟨rfl, rfl⟩
    go_wp2_with fail
    go_ret
    exact ⟨ret_bool (by rw [hR.out]; simp), bel_trans (bel_trans hb0 hB1) hB2⟩
end Go.Proofs.Ytcdgkiiokplidaa
