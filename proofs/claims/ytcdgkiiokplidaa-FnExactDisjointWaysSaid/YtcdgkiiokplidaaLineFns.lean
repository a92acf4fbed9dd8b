/-
  What a question about lines asks for: elements of lists, free cells, valid sources and assets: of the program and of the reference, walked.
-/
import Derived.Test.YtcdgkiiokplidaaTerrB
import Derived.Test.YtcdgkiiokplidaaMemSS
namespace Go.Proofs.Ytcdgkiiokplidaa
open Go.RowKit

def hasB (xs : List Int) (v : Int) : Bool := xs.any fun x => x == v
set_option maxHeartbeats 1000000 in
theorem indexInt (A : Option Addr) (n c : Nat) (xs : List Int) (v : Int) (w : World) (hS : Sl w 1 A n c (ints xs)) (hn : n ≤ 1048576) :
    Calls Try.prog 64 #[.slice A n c, .int .i64 v] w fun e w' => ∃ k : Int, e = .returned (.int .i64 k) ∧ decide (0 ≤ k) = hasB xs v ∧ w = w' := by
  have hlh := hid hS.int_len
  go_enter Try.func64, Try.ntmps64
  go_wp2_with fail
  go_loopw [5, 8] (fun _ u wr => ∃ i : Nat, i ≤ n ∧ u = .int .i64 i ∧ (Hid (∀ r, r < i → ∀ u, xs[r]? = some u → (u == v) = false)) ∧ w = wr) (fun _ v _ => n - (intOf v).toNat)
  case atStart => exact ⟨0, by omega, rfl, fun r hr => absurd hr (by omega), rfl⟩
  case round =>
    obtain ⟨i, hi', rfl, hall, rfl⟩ := hrel
    by_cases hlt : i < n
    · obtain ⟨x, hx⟩ : ∃ x, xs[i]? = some x := get_of_lt (by rw [hlh.out]; exact hlt)
      obtain ⟨b, o, rfl, hb, c0⟩ := hS.int_at hx
      have hX := hid hx
      clear hx
      have hi0 : (0 : Int) ≤ (i : Int) := by omega
      have hi1 : (i : Int) < (n : Int) := by omega
      rcases hq : (v == x) with _ | _
      · have hq2 := hid (show (x == v) = false by simp at hq ⊢; exact fun e => hq e.symm)
        go_wp2_with fail
        go_roundw
        case rel => exact ⟨i + 1, by omega, by go_num, fun r hr u hu => (by
          rcases Nat.lt_or_ge r i with h1 | h1
          · exact hall.out r h1 u hu
          · rw [show r = i by omega, hX.out] at hu
            simp only [Option.some.injEq] at hu
            rw [← hu]; exact hq2.out), by simp⟩
        case measure => simp [intOf]; omega
      · have hR := hid (show hasB xs v = true from List.any_eq_true.2 ⟨x, List.mem_of_getElem? hX.out, by simp at hq ⊢; exact hq.symm⟩)
        go_wp2_with fail
        go_ret
        exact ⟨i, rfl, by rw [hR.out]; simp, rfl⟩
    · have hi1 : ¬ (i : Int) < (n : Int) := by omega
      have hR := hid (show hasB xs v = false from by
        rw [hasB, List.any_eq_false]
        intro x hx
        obtain ⟨r, hr⟩ := List.getElem?_of_mem hx
        have := hall.out r (by have h1 := (List.getElem?_eq_some_iff.1 hr).1; rw [hlh.out] at h1; omega) x hr
        simp [this])
      go_wp2_with fail
      go_ret
      exact ⟨-1, rfl, by rw [hR.out]; simp, rfl⟩
theorem containsInt (A : Option Addr) (n c : Nat) (xs : List Int) (v : Int) (w : World) (hS : Sl w 1 A n c (ints xs)) (hn : n ≤ 1048576) :
    Calls Try.prog 47 #[.slice A n c, .int .i64 v] w fun e w' => e = .returned (.bool (hasB xs v)) ∧ w = w' := by
  go_enter Try.func47, Try.ntmps47
  go_wp2_with (go_at_call 64; refine (indexInt _ _ _ xs v _ hS hn).mono ?_; rintro _ w1 ⟨k, rfl, hk, rfl⟩)
  go_ret
  exact ⟨ret_bool (by first | rfl | exact hk), rfl⟩
theorem hasI (A : Option Addr) (n c : Nat) (xs : List Int) (v : Int) (w : World) (hS : Sl w 1 A n c (ints xs)) (hn : n ≤ 1048576) :
    Calls Try.prog 29 #[.slice A n c, .int .i64 v] w fun e w' => e = .returned (.bool (hasB xs v)) ∧ w = w' := by
  go_enter Try.func29, Try.ntmps29
  go_wp2_with (go_at_call 47; refine (containsInt _ _ _ xs v _ hS hn).mono ?_; rintro _ w1 ⟨rfl, rfl⟩)
  go_ret
  exact ⟨rfl, rfl⟩
/-! ### Free cells -/
def freeB (t : Terr) (so ass : List Int) (c : Int) : Bool := burnsB t c && !hasB so c && !hasB ass c
set_option maxHeartbeats 2000000 in
theorem l9Free (t : Terr) (A B : Option Addr) (n c m d : Nat) (so ass : List Int) (x : Int) (w : World) (hT : TOk w t) (hg : goodT t = true) (hS : Sl w 1 A n c (ints so)) (hn : n ≤ 1048576) (hM : Sl w 1 B m d (ints ass)) (hm : m ≤ 1048576) (hx : 0 ≤ x ∧ x < t.n) :
    Calls Try.prog 41 #[.agg #[.int .i64 t.W, .int .i64 t.H, .slice t.A t.n t.c], .slice A n c, .slice B m d, .int .i64 x] w fun e w' => e = .returned (.bool (freeB t so ass x)) ∧ Below w.heap.size w w' := by
  have hB2 := bel_refl (w.alloc (.cells #[.int .i64 t.W, .int .i64 t.H, .slice t.A t.n t.c] 28))
  have hb0 : ∀ o, Below w.heap.size w (w.alloc o) := fun o => bel_alloc (bel_refl w)
  obtain ⟨b, o, v, hA, hb, hv, hv0, hv1, c0⟩ := hT.at_ hg hx
  have hbw := hid (burnAt_get hv)
  have hx0 := hx.1
  have hx1 := hx.2
  clear hv
  have hR := hid (show freeB t so ass x = (decide (0 < v) && !hasB so x && !hasB ass x) by rw [freeB, burnsB, hbw.out])
  rw [hA]
  by_cases hp : 0 < v
  · rcases h1 : hasB so x with _ | _
    · rcases h2 : hasB ass x with _ | _
      all_goals (
        rw [h1, h2] at hR
        go_enter Try.func41, Try.ntmps41
        go_wp2_with fail
        refine (l1Has A n c so x _ (hS.bel (hb0 _)) hn).mono ?_
        rw [show (so.any fun y => y == x) = _ from h1]
        rintro _ w1 ⟨rfl, rfl⟩
        go_wp2_with fail
        refine (l1Has B m d ass x _ (hM.bel (hb0 _)) hm).mono ?_
        rw [show (ass.any fun y => y == x) = _ from h2]
        rintro _ w1 ⟨rfl, rfl⟩
        go_wp2_with fail
        go_ret
        exact ⟨ret_bool (by rw [hR.out, decide_eq_true hp]; rfl), hb0 _⟩)
    · rw [h1] at hR
      go_enter Try.func41, Try.ntmps41
      go_wp2_with fail
      refine (l1Has A n c so x _ (hS.bel (hb0 _)) hn).mono ?_
      rw [show (so.any fun y => y == x) = _ from h1]
      rintro _ w1 ⟨rfl, rfl⟩
      go_wp2_with fail
      go_ret
      exact ⟨ret_bool (by rw [hR.out, decide_eq_true hp]; rfl), hb0 _⟩
  · have hpn := hid (decide_eq_false hp)
    go_enter Try.func41, Try.ntmps41
    go_wp2_with fail
    go_ret
    exact ⟨ret_bool (by rw [hR.out, hpn.out]; rfl), hb0 _⟩
set_option maxHeartbeats 1000000 in
theorem free_clo (t : Terr) (A B : Option Addr) (n c m d : Nat) (so ass : List Int) (x : Nat) (g h k : Nat) (w : World) (hT : TOk w t) (hg : goodT t = true) (hS : Sl w 1 A n c (ints so)) (hn : n ≤ 1048576) (hM : Sl w 1 B m d (ints ass)) (hm : m ≤ 1048576) (hx : x < t.n)
    (c0 : w.cell? ⟨g, 0, none⟩ = some (.int .i64 t.W)) (c1 : w.cell? ⟨g, 1, none⟩ = some (.int .i64 t.H)) (c2 : w.cell? ⟨g, 2, none⟩ = some (.slice t.A t.n t.c)) (d0 : w.cell? ⟨h, 0, none⟩ = some (.slice A n c)) (e0 : w.cell? ⟨k, 0, none⟩ = some (.slice B m d)) :
    Calls Try.prog 52 #[.int .i64 (x : Int), .pointer (some ⟨g, 0, none⟩), .pointer (some ⟨h, 0, none⟩), .pointer (some ⟨k, 0, none⟩)] w fun e w' => e = .returned (.bool (freeB t so ass x)) ∧ Below w.heap.size w w' := by
  have hR := hid (show freeB t so ass x = (burnsB t x && !hasB so x && !hasB ass x) from rfl)
  have hh := World.block_lt_of_cell? _ _ d0
  have hk := World.block_lt_of_cell? _ _ e0
  rcases h0 : burnsB t x with _ | _
  · rw [h0] at hR
    go_enter Try.func52, Try.ntmps52
    go_wp2_with fail
    refine (burns t x _ hT hg (by omega)).mono ?_
    rw [h0]
    rintro _ w1 ⟨rfl, hB1⟩
    go_wp2_with fail
    go_ret
    exact ⟨ret_bool (by rw [hR.out]; rfl), hB1⟩
  rcases h1 : hasB so x with _ | _
  · rcases h2 : hasB ass x with _ | _
    all_goals (
      rw [h0, h1, h2] at hR
      go_enter Try.func52, Try.ntmps52
      go_wp2_with fail
      refine (burns t x _ hT hg (by omega)).mono ?_
      rw [h0]
      rintro _ w1 ⟨rfl, hB1⟩
      have d1 := ((bcell hB1).1 _ 0 hh).trans d0
      have e1 := ((bcell hB1).1 _ 0 hk).trans e0
      go_wp2_with fail
      refine (hasI A n c so x _ (hS.bel hB1) hn).mono ?_
      rw [h1]
      rintro _ _ ⟨rfl, rfl⟩
      go_wp2_with fail
      refine (hasI B m d ass x _ (hM.bel hB1) hm).mono ?_
      rw [h2]
      rintro _ _ ⟨rfl, rfl⟩
      go_wp2_with fail
      go_ret
      exact ⟨ret_bool (by rw [hR.out]; rfl), hB1⟩)
  · rw [h0, h1] at hR
    go_enter Try.func52, Try.ntmps52
    go_wp2_with fail
    refine (burns t x _ hT hg (by omega)).mono ?_
    rw [h0]
    rintro _ w1 ⟨rfl, hB1⟩
    have d1 := ((bcell hB1).1 _ 0 hh).trans d0
    go_wp2_with fail
    refine (hasI A n c so x _ (hS.bel hB1) hn).mono ?_
    rw [h1]
    rintro _ _ ⟨rfl, rfl⟩
    go_wp2_with fail
    go_ret
    exact ⟨ret_bool (by rw [hR.out]; rfl), hB1⟩
def freeL (t : Terr) (so ass : List Int) : List Int := cellsL t.n fun i => freeB t so ass (i : Int)
set_option maxHeartbeats 1000000 in
theorem freeI (t : Terr) (A B : Option Addr) (n c m d : Nat) (so ass : List Int) (w : World) (hT : TOk w t) (hg : goodT t = true) (hS : Sl w 1 A n c (ints so)) (hn : n ≤ 1048576) (hM : Sl w 1 B m d (ints ass)) (hm : m ≤ 1048576) :
    Calls Try.prog 34 #[.agg #[.int .i64 t.W, .int .i64 t.H, .slice t.A t.n t.c], .slice A n c, .slice B m d] w fun e w' => ∃ A' k c', e = .returned (.slice A' k c') ∧ Own w.heap.size w'.heap.size w' 3 1 A' k c' (ints (freeL t so ass)) ∧ Below w.heap.size w w' := by
  obtain ⟨_, _, _, _, htn, _⟩ := goodT_bd hg
  obtain ⟨Z, hZ⟩ : ∃ Z, ((w.alloc (.cells #[.int .i64 t.W, .int .i64 t.H, .slice t.A t.n t.c] 28)).alloc (.cells #[.slice A n c] 22)).alloc (.cells #[.slice B m d] 22) = Z := ⟨_, rfl⟩
  have hb : Below w.heap.size w Z := by rw [← hZ]; exact bel_alloc (bel_alloc (bel_alloc (bel_refl w)))
  have c0 : Z.cell? ⟨w.heap.size, 0, none⟩ = some (.int .i64 t.W) := by rw [← hZ]; simp [go_sem]
  have c1 : Z.cell? ⟨w.heap.size, 1, none⟩ = some (.int .i64 t.H) := by rw [← hZ]; simp [go_sem]
  have c2 : Z.cell? ⟨w.heap.size, 2, none⟩ = some (.slice t.A t.n t.c) := by rw [← hZ]; simp [go_sem]
  have d0 : Z.cell? ⟨w.heap.size + 1, 0, none⟩ = some (.slice A n c) := by rw [← hZ]; simp [go_sem]
  have e0 : Z.cell? ⟨w.heap.size + 1 + 1, 0, none⟩ = some (.slice B m d) := by rw [← hZ]; simp [go_sem]
  have hs : w.heap.size + 1 + 1 < Z.heap.size := by rw [← hZ]; simp
  have hF := hid (fun (x : Nat) (w' : World) (hx : x < t.n) (hb' : Below Z.heap.size Z w') => free_clo t A B n c m d so ass x w.heap.size (w.heap.size + 1) (w.heap.size + 1 + 1) w' ((hT.bel hb).bel hb') hg ((hS.bel hb).bel hb') hn ((hM.bel hb).bel hb') hm hx (((bcell hb').1 _ _ (by omega)).trans c0) (((bcell hb').1 _ _ (by omega)).trans c1) (((bcell hb').1 _ _ (by omega)).trans c2) (((bcell hb').1 _ _ (by omega)).trans d0) (((bcell hb').1 _ _ hs).trans e0))
  go_enter Try.func34, Try.ntmps34
  go_wp2_with (go_at_call 51; (try rw [hZ]); refine (cellsFree t _ _ _ (fun i => freeB t so ass (i : Int)) _ htn hF.out).mono ?_; rintro _ w1 ⟨A1, k, c1, rfl, hO, hB1⟩)
  go_ret
  exact ⟨A1, k, c1, rfl, hO.low hb.size, bel_trans hb hB1⟩
/-! ### Valid sources and assets -/
theorem case_clo (B : Option Addr) (m d : Nat) (ass : List Int) (x : Int) (k : Nat) (w : World) (hM : Sl w 1 B m d (ints ass)) (hm : m ≤ 1048576) (e0 : w.cell? ⟨k, 0, none⟩ = some (.slice B m d)) :
    Calls Try.prog 28 #[.int .i64 x, .pointer (some ⟨k, 0, none⟩)] w fun e w' => e = .returned (.bool (!hasB ass x)) ∧ Below w.heap.size w w' := by
  go_enter Try.func28, Try.ntmps28
  go_wp2_with fail
  refine (hasI B m d ass x _ hM hm).mono ?_
  rintro _ _ ⟨rfl, rfl⟩
  go_wp2_with fail
  go_ret
  exact ⟨rfl, bel_refl _⟩
theorem cloAllC (v1 : Value) (p : Int → Bool) (x : Int) (hb : Nat) (w : World) (hf : w.cell? ⟨hb, 0, none⟩ = some (.func (.func 28) #[] #[v1])) (hF : Calls Try.prog 28 #[.int .i64 x, v1] w fun e w' => e = .returned (.bool (p x)) ∧ Below w.heap.size w w') :
    Calls Try.prog 46 #[.int .i64 x, .pointer (some ⟨hb, 0, none⟩)] w fun e w' => e = .returned (.bool (!p x)) ∧ Below w.heap.size w w' := by
  replace hF := hid hF
  go_enter Try.func46, Try.ntmps46
  go_wp2_with fail
  refine hF.out.mono ?_
  rintro _ w1 ⟨rfl, hB1⟩
  go_wp2_with fail
  go_ret
  exact ⟨rfl, hB1⟩
set_option maxHeartbeats 1000000 in
theorem indexC (v1 : Value) (p : Int → Bool) (A : Option Addr) (n c : Nat) (xs : List Int) (hb : Nat) (w : World) (hF : ∀ (x : Int) (w' : World), Below w.heap.size w w' → Calls Try.prog 28 #[.int .i64 x, v1] w' fun e w'' => e = .returned (.bool (p x)) ∧ Below w'.heap.size w' w'') (hS : Sl w 1 A n c (ints xs)) (hn : n ≤ 1048576) (hhb : hb < w.heap.size) (hf : w.cell? ⟨hb, 0, none⟩ = some (.func (.func 28) #[] #[v1])) :
    Calls Try.prog 63 #[.slice A n c, .func (.func 46) #[] #[.pointer (some ⟨hb, 0, none⟩)]] w fun e w' => ∃ k : Int, e = .returned (.int .i64 k) ∧ decide (0 ≤ k) = !xs.all p ∧ Below w.heap.size w w' := by
  have hlh := hid hS.int_len
  replace hF := hid hF
  go_enter Try.func63, Try.ntmps63
  go_wp2_with fail
  go_loopw [5, 8] (fun _ v wr => ∃ i : Nat, i ≤ n ∧ v = .int .i64 i ∧ (Hid (∀ r, r < i → ∀ u, xs[r]? = some u → p u = true)) ∧ Below w.heap.size w wr) (fun _ v _ => n - (intOf v).toNat)
  case atStart => exact ⟨0, by omega, rfl, fun r hr => absurd hr (by omega), by (repeat' (first | (with_reducible exact bel_refl _) | (with_reducible assumption) | (with_reducible refine bel_drew ?_) | (with_reducible refine bel_drewN ?_) | (with_reducible refine bel_alloc ?_) | (with_reducible refine bel_set ?_ ?_) | (with_reducible refine bel_trans ?_ (by with_reducible assumption)) | omega | (simp; done) | (simp; omega)))⟩
  case round =>
    obtain ⟨i, hi', rfl, hall, hB⟩ := hrel
    have hfw := ((bcell hB).1 _ 0 hhb).trans hf
    by_cases hlt : i < n
    · obtain ⟨x, hx⟩ : ∃ x, xs[i]? = some x := get_of_lt (by rw [hlh.out]; exact hlt)
      obtain ⟨b, o, rfl, hb', c0⟩ := (hS.bel hB).int_at hx
      have hX := hid hx
      clear hx
      have hi0 : (0 : Int) ≤ (i : Int) := by omega
      have hi1 : (i : Int) < (n : Int) := by omega
      rcases hin : p x with _ | _
      · go_wp2_with fail
        refine (cloAllC v1 p x hb _ hfw (hF.out x _ hB)).mono ?_
        rw [hin]
        rintro _ w1 ⟨rfl, hB1⟩
        go_wp2_with fail
        go_ret
        exact ⟨i, rfl, by rw [alli_no hX.out hin]; simp, bel_trans hB hB1⟩
      · go_wp2_with fail
        refine (cloAllC v1 p x hb _ hfw (hF.out x _ hB)).mono ?_
        rw [hin]
        rintro _ w1 ⟨rfl, hB1⟩
        go_wp2_with fail
        go_roundw
        case rel => exact ⟨i + 1, by omega, by go_num, fun r hr u hu => (by
          rcases Nat.lt_or_ge r i with h1 | h1
          · exact hall.out r h1 u hu
          · rw [show r = i by omega, hX.out] at hu
            simp only [Option.some.injEq] at hu
            rw [← hu]; exact hin), bel_trans hB hB1⟩
        case measure => simp [intOf]; omega
    · go_wp2_with fail
      go_ret
      refine ⟨-1, rfl, ?_, hB⟩
      rw [alli_yes (fun r u hu => hall.out r (by have h1 := (List.getElem?_eq_some_iff.1 hu).1; rw [hlh.out] at h1; omega) u hu)]
      simp
theorem containsC (v1 : Value) (p : Int → Bool) (A : Option Addr) (n c : Nat) (xs : List Int) (hb : Nat) (w : World) (hF : ∀ (x : Int) (w' : World), Below w.heap.size w w' → Calls Try.prog 28 #[.int .i64 x, v1] w' fun e w'' => e = .returned (.bool (p x)) ∧ Below w'.heap.size w' w'') (hS : Sl w 1 A n c (ints xs)) (hn : n ≤ 1048576) (hhb : hb < w.heap.size) (hf : w.cell? ⟨hb, 0, none⟩ = some (.func (.func 28) #[] #[v1])) :
    Calls Try.prog 45 #[.slice A n c, .func (.func 46) #[] #[.pointer (some ⟨hb, 0, none⟩)]] w fun e w' => e = .returned (.bool (!xs.all p)) ∧ Below w.heap.size w w' := by
  replace hF := hid hF
  go_enter Try.func45, Try.ntmps45
  go_wp2_with fail
  refine (indexC v1 p _ _ _ xs hb _ hF.out hS hn hhb hf).mono ?_
  rintro _ w1 ⟨k, rfl, hk, hb1⟩
  go_wp2_with fail
  go_ret
  exact ⟨ret_bool (by first | rfl | exact hk), hb1⟩
theorem allIntC (v1 : Value) (p : Int → Bool) (A : Option Addr) (n c : Nat) (xs : List Int) (w : World) (hF : ∀ (x : Int) (w' : World), Below w.heap.size w w' → Calls Try.prog 28 #[.int .i64 x, v1] w' fun e w'' => e = .returned (.bool (p x)) ∧ Below w'.heap.size w' w'') (hS : Sl w 1 A n c (ints xs)) (hn : n ≤ 1048576) :
    Calls Try.prog 27 #[.slice A n c, .func (.func 28) #[] #[v1]] w fun e w' => e = .returned (.bool (xs.all p)) ∧ Below w.heap.size w w' := by
  obtain ⟨W1, hW1⟩ : ∃ W1, w.alloc (.cells #[.func (.func 28) #[] #[v1]] 46) = W1 := ⟨_, rfl⟩
  have hb2 : Below w.heap.size w W1 := by rw [← hW1]; exact bel_alloc (bel_refl w)
  have hf1 : W1.cell? ⟨w.heap.size, 0, none⟩ = some (.func (.func 28) #[] #[v1]) := by rw [← hW1, cell_of_row _ _ 0 _ _ (0, 0) (heap_alloc_new w _)]; rfl
  have hs2 : w.heap.size < W1.heap.size := by rw [← hW1]; simp
  replace hF := hid (fun (x : Int) (w' : World) (hb' : Below W1.heap.size W1 w') => hF x w' (bel_trans hb2 hb'))
  go_enter Try.func27, Try.ntmps27
  go_wp2_with fail
  (try rw [hW1])
  refine (containsC v1 p _ _ _ xs w.heap.size _ hF.out (hS.bel hb2) hn hs2 hf1).mono ?_
  rintro _ w1 ⟨rfl, hb1⟩
  go_wp2_with fail
  go_ret
  exact ⟨ret_bool (by simp), bel_trans hb2 hb1⟩
end Go.Proofs.Ytcdgkiiokplidaa
