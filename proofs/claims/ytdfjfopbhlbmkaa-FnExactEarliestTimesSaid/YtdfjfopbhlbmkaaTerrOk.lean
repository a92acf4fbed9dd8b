/-
  Whether all that a question about an ensemble asks for is valid: of the program and of the reference, walked.
-/
import Derived.Test.YtdfjfopbhlbmkaaTerrSet
namespace Go.Proofs.Ytdfjfopbhlbmkaa
open Go.RowKit

theorem burnOk (x : Int) (w : World) :
    Calls Try.prog 95 #[.int .i64 x] w fun e w' => e = .returned (.bool (inB x 0 20)) ∧ Below w.heap.size w w' := by
  go_enter Try.func95, Try.ntmps95
  go_wp2_with (go_at_call 79; refine (isIn _ _ _ _).mono ?_; rintro _ w1 ⟨rfl, rfl⟩)
  go_ret
  exact ⟨rfl, by (repeat' (first | (with_reducible exact bel_refl _) | (with_reducible assumption) | (with_reducible refine bel_drew ?_) | (with_reducible refine bel_drewN ?_) | (with_reducible refine bel_alloc ?_) | (with_reducible refine bel_set ?_ ?_) | (with_reducible refine bel_trans ?_ (by with_reducible assumption)) | omega | (simp; done) | (simp; omega)))⟩
theorem alli_no {p : Int → Bool} {xs : List Int} {i : Nat} {x : Int} (hx : xs[i]? = some x) (h : p x = false) : xs.all p = false := by
  rw [List.all_eq_false]
  exact ⟨x, List.mem_of_getElem? hx, by simp [h]⟩
theorem alli_yes {p : Int → Bool} {xs : List Int} (h : ∀ (i : Nat) (x : Int), xs[i]? = some x → p x = true) : xs.all p = true := by
  rw [List.all_eq_true]
  intro x hx
  obtain ⟨i, hi⟩ := List.getElem?_of_mem hx
  exact h i x hi
theorem cloAllA  (x : Int) (hb : Nat) (w : World)  (_hhb : hb < w.heap.size) (hf : w.cell? ⟨hb, 0, none⟩ = some (.func (.func 95) #[] #[])) :
    Calls Try.prog 110 #[.int .i64 x, .pointer (some ⟨hb, 0, none⟩)] w fun e w' => e = .returned (.bool (!((fun x => inB x 0 20)) x)) ∧ Below w.heap.size w w' := by
  have hB2 := bel_refl w
  go_enter Try.func110, Try.ntmps110
  go_wp2_with (go_at_call 95; refine (burnOk x _).mono ?_; rintro _ w1 ⟨rfl, hB1⟩; (first | (with_reducible replace hB2 := bel_trans hB2 hB1) | (with_reducible replace hB2 := bel_trans (bel_alloc hB2) hB1)); obtain ⟨hC1, hF1⟩ := bcell hB2; replace hB1 := hB1)
  go_ret
  exact ⟨rfl, by (repeat' (first | (with_reducible exact bel_refl _) | (with_reducible assumption) | (with_reducible refine bel_drew ?_) | (with_reducible refine bel_drewN ?_) | (with_reducible refine bel_alloc ?_) | (with_reducible refine bel_set ?_ ?_) | (with_reducible refine bel_trans ?_ (by with_reducible assumption)) | omega | (simp; done) | (simp; omega)))⟩
set_option maxHeartbeats 1000000 in
theorem indexA  (A : Option Addr) (n c : Nat) (xs : List Int) (hb : Nat) (w : World)  (hS : Sl w 1 A n c (ints xs)) (hn : n ≤ 1048576) (hhb : hb < w.heap.size) (hf : w.cell? ⟨hb, 0, none⟩ = some (.func (.func 95) #[] #[])) :
    Calls Try.prog 118 #[.slice A n c, .func (.func 110) #[] #[.pointer (some ⟨hb, 0, none⟩)]] w fun e w' => ∃ k : Int, e = .returned (.int .i64 k) ∧ decide (0 ≤ k) = !xs.all ((fun x => inB x 0 20)) ∧ Below w.heap.size w w' := by
  have hlh := hid hS.int_len
  go_enter Try.func118, Try.ntmps118
  go_wp2_with fail
  go_loopw [5, 8] (fun _ v wr => ∃ i : Nat, i ≤ n ∧ v = .int .i64 i ∧ (Hid (∀ r, r < i → ∀ u, xs[r]? = some u → ((fun x => inB x 0 20)) u = true)) ∧ Below w.heap.size w wr) (fun _ v _ => n - (intOf v).toNat)
  case atStart => exact ⟨0, by omega, rfl, fun r hr => absurd hr (by omega), by (repeat' (first | (with_reducible exact bel_refl _) | (with_reducible assumption) | (with_reducible refine bel_drew ?_) | (with_reducible refine bel_drewN ?_) | (with_reducible refine bel_alloc ?_) | (with_reducible refine bel_set ?_ ?_) | (with_reducible refine bel_trans ?_ (by with_reducible assumption)) | omega | (simp; done) | (simp; omega)))⟩
  case round =>
    obtain ⟨i, hi', rfl, hall, hB⟩ := hrel
    have hB2 := bel_refl wr
    have hsz := hB.size
    have hfw := ((bcell hB).1 _ 0 hhb).trans hf
    by_cases hlt : i < n
    · obtain ⟨x, hx⟩ : ∃ x, xs[i]? = some x := get_of_lt (by rw [hlh.out]; exact hlt)
      obtain ⟨b, o, rfl, hb', c0⟩ := (hS.bel hB).int_at hx
      have hX := hid hx
      clear hx
      have hi0 : (0 : Int) ≤ (i : Int) := by omega
      have hi1 : (i : Int) < (n : Int) := by omega
      have hp2 : hb < wr.heap.size := by omega
      rcases hin : ((fun x => inB x 0 20)) x with _ | _
      · go_wp2_with (go_at_call 110; refine (cloAllA  x hb _  hp2 hfw).mono ?_; rw [hin]; rintro _ w1 ⟨rfl, hB1⟩; replace hB2 := bel_trans hB2 hB1)
        go_ret
        exact ⟨i, rfl, by rw [alli_no hX.out hin]; simp, by (repeat' (first | (with_reducible exact bel_refl _) | (with_reducible assumption) | (with_reducible refine bel_drew ?_) | (with_reducible refine bel_drewN ?_) | (with_reducible refine bel_alloc ?_) | (with_reducible refine bel_set ?_ ?_) | (with_reducible refine bel_trans ?_ (by with_reducible assumption)) | omega | (simp; done) | (simp; omega)))⟩
      · go_wp2_with (go_at_call 110; refine (cloAllA  x hb _  hp2 hfw).mono ?_; rw [hin]; rintro _ w1 ⟨rfl, hB1⟩; replace hB2 := bel_trans hB2 hB1)
        go_roundw
        case rel => exact ⟨i + 1, by omega, by go_num, fun r hr u hu => (by
          rcases Nat.lt_or_ge r i with h1 | h1
          · exact hall.out r h1 u hu
          · rw [show r = i by omega, hX.out] at hu
            simp only [Option.some.injEq] at hu
            rw [← hu]; exact hin), by (repeat' (first | (with_reducible exact bel_refl _) | (with_reducible assumption) | (with_reducible refine bel_drew ?_) | (with_reducible refine bel_drewN ?_) | (with_reducible refine bel_alloc ?_) | (with_reducible refine bel_set ?_ ?_) | (with_reducible refine bel_trans ?_ (by with_reducible assumption)) | omega | (simp; done) | (simp; omega)))⟩
        case measure => simp [intOf]; omega
    · go_wp2
      go_ret
      refine ⟨-1, rfl, ?_, by (repeat' (first | (with_reducible exact bel_refl _) | (with_reducible assumption) | (with_reducible refine bel_drew ?_) | (with_reducible refine bel_drewN ?_) | (with_reducible refine bel_alloc ?_) | (with_reducible refine bel_set ?_ ?_) | (with_reducible refine bel_trans ?_ (by with_reducible assumption)) | omega | (simp; done) | (simp; omega)))⟩
      rw [alli_yes (fun r u hu => hall.out r (by have h1 := (List.getElem?_eq_some_iff.1 hu).1; rw [hlh.out] at h1; omega) u hu)]
      simp
theorem containsA  (A : Option Addr) (n c : Nat) (xs : List Int) (hb : Nat) (w : World)  (hS : Sl w 1 A n c (ints xs)) (hn : n ≤ 1048576) (hhb : hb < w.heap.size) (hf : w.cell? ⟨hb, 0, none⟩ = some (.func (.func 95) #[] #[])) :
    Calls Try.prog 109 #[.slice A n c, .func (.func 110) #[] #[.pointer (some ⟨hb, 0, none⟩)]] w fun e w' => e = .returned (.bool (!xs.all ((fun x => inB x 0 20)))) ∧ Below w.heap.size w w' := by
  go_enter Try.func109, Try.ntmps109
  go_wp2_with (go_at_call 118; refine (indexA  _ _ _ xs hb _  hS hn hhb hf).mono ?_; rintro _ w1 ⟨k, rfl, hk, hb1⟩)
  go_ret
  exact ⟨ret_bool (by first | rfl | exact hk), by (repeat' (first | (with_reducible exact bel_refl _) | (with_reducible assumption) | (with_reducible refine bel_drew ?_) | (with_reducible refine bel_drewN ?_) | (with_reducible refine bel_alloc ?_) | (with_reducible refine bel_set ?_ ?_) | (with_reducible refine bel_trans ?_ (by with_reducible assumption)) | omega | (simp; done) | (simp; omega)))⟩
theorem allIntA  (A : Option Addr) (n c : Nat) (xs : List Int) (w : World)  (hS : Sl w 1 A n c (ints xs)) (hn : n ≤ 1048576) :
    Calls Try.prog 94 #[.slice A n c, .func (.func 95) #[] #[]] w fun e w' => e = .returned (.bool (xs.all ((fun x => inB x 0 20)))) ∧ Below w.heap.size w w' := by
  obtain ⟨W1, hW1⟩ : ∃ W1, w.alloc (.cells #[.func (.func 95) #[] #[]] 53) = W1 := ⟨_, rfl⟩
  have hb2 : Below w.heap.size w W1 := by rw [← hW1]; exact bel_alloc (bel_refl w)
  have hf1 : W1.cell? ⟨w.heap.size, 0, none⟩ = some (.func (.func 95) #[] #[]) := by rw [← hW1, cell_of_row _ _ 0 _ _ (0, 0) (heap_alloc_new w _)]; rfl
  have hs2 : w.heap.size < W1.heap.size := by rw [← hW1]; simp
  go_enter Try.func94, Try.ntmps94
  go_wp2_with (go_at_call 109; (try rw [hW1]); refine (containsA  _ _ _ xs w.heap.size _  (hS.bel hb2) hn hs2 hf1).mono ?_; rintro _ w1 ⟨rfl, hb1⟩)
  go_ret
  exact ⟨ret_bool (by simp), bel_trans hb2 hb1⟩

theorem cloAllB (t : Terr) (x : Int) (hb : Nat) (w : World) (ht : t.n ≤ 1048576) (_hhb : hb < w.heap.size) (hf : w.cell? ⟨hb, 0, none⟩ = some (.func (.func 61) #[.agg #[.int .i64 t.W, .int .i64 t.H, .slice t.A t.n t.c]] #[])) :
    Calls Try.prog 110 #[.int .i64 x, .pointer (some ⟨hb, 0, none⟩)] w fun e w' => e = .returned (.bool (!((fun x => inB x 0 ((t.n : Int) - 1))) x)) ∧ Below w.heap.size w w' := by
  have hB2 := bel_refl w
  go_enter Try.func110, Try.ntmps110
  go_wp2_with (go_at_call 61; refine (isCell t x _ ht).mono ?_; rintro _ w1 ⟨rfl, hB1⟩; (first | (with_reducible replace hB2 := bel_trans hB2 hB1) | (with_reducible replace hB2 := bel_trans (bel_alloc hB2) hB1)); obtain ⟨hC1, hF1⟩ := bcell hB2; replace hB1 := hB1)
  go_ret
  exact ⟨rfl, by (repeat' (first | (with_reducible exact bel_refl _) | (with_reducible assumption) | (with_reducible refine bel_drew ?_) | (with_reducible refine bel_drewN ?_) | (with_reducible refine bel_alloc ?_) | (with_reducible refine bel_set ?_ ?_) | (with_reducible refine bel_trans ?_ (by with_reducible assumption)) | omega | (simp; done) | (simp; omega)))⟩
set_option maxHeartbeats 1000000 in
theorem indexB (t : Terr) (A : Option Addr) (n c : Nat) (xs : List Int) (hb : Nat) (w : World) (ht : t.n ≤ 1048576) (hS : Sl w 1 A n c (ints xs)) (hn : n ≤ 1048576) (hhb : hb < w.heap.size) (hf : w.cell? ⟨hb, 0, none⟩ = some (.func (.func 61) #[.agg #[.int .i64 t.W, .int .i64 t.H, .slice t.A t.n t.c]] #[])) :
    Calls Try.prog 118 #[.slice A n c, .func (.func 110) #[] #[.pointer (some ⟨hb, 0, none⟩)]] w fun e w' => ∃ k : Int, e = .returned (.int .i64 k) ∧ decide (0 ≤ k) = !xs.all ((fun x => inB x 0 ((t.n : Int) - 1))) ∧ Below w.heap.size w w' := by
  have hlh := hid hS.int_len
  go_enter Try.func118, Try.ntmps118
  go_wp2_with fail
  go_loopw [5, 8] (fun _ v wr => ∃ i : Nat, i ≤ n ∧ v = .int .i64 i ∧ (Hid (∀ r, r < i → ∀ u, xs[r]? = some u → ((fun x => inB x 0 ((t.n : Int) - 1))) u = true)) ∧ Below w.heap.size w wr) (fun _ v _ => n - (intOf v).toNat)
  case atStart => exact ⟨0, by omega, rfl, fun r hr => absurd hr (by omega), by (repeat' (first | (with_reducible exact bel_refl _) | (with_reducible assumption) | (with_reducible refine bel_drew ?_) | (with_reducible refine bel_drewN ?_) | (with_reducible refine bel_alloc ?_) | (with_reducible refine bel_set ?_ ?_) | (with_reducible refine bel_trans ?_ (by with_reducible assumption)) | omega | (simp; done) | (simp; omega)))⟩
  case round =>
    obtain ⟨i, hi', rfl, hall, hB⟩ := hrel
    have hB2 := bel_refl wr
    have hsz := hB.size
    have hfw := ((bcell hB).1 _ 0 hhb).trans hf
    by_cases hlt : i < n
    · obtain ⟨x, hx⟩ : ∃ x, xs[i]? = some x := get_of_lt (by rw [hlh.out]; exact hlt)
      obtain ⟨b, o, rfl, hb', c0⟩ := (hS.bel hB).int_at hx
      have hX := hid hx
      clear hx
      have hi0 : (0 : Int) ≤ (i : Int) := by omega
      have hi1 : (i : Int) < (n : Int) := by omega
      have hp2 : hb < wr.heap.size := by omega
      rcases hin : ((fun x => inB x 0 ((t.n : Int) - 1))) x with _ | _
      · go_wp2_with (go_at_call 110; refine (cloAllB t x hb _ ht hp2 hfw).mono ?_; rw [hin]; rintro _ w1 ⟨rfl, hB1⟩; replace hB2 := bel_trans hB2 hB1)
        go_ret
        exact ⟨i, rfl, by rw [alli_no hX.out hin]; simp, by (repeat' (first | (with_reducible exact bel_refl _) | (with_reducible assumption) | (with_reducible refine bel_drew ?_) | (with_reducible refine bel_drewN ?_) | (with_reducible refine bel_alloc ?_) | (with_reducible refine bel_set ?_ ?_) | (with_reducible refine bel_trans ?_ (by with_reducible assumption)) | omega | (simp; done) | (simp; omega)))⟩
      · go_wp2_with (go_at_call 110; refine (cloAllB t x hb _ ht hp2 hfw).mono ?_; rw [hin]; rintro _ w1 ⟨rfl, hB1⟩; replace hB2 := bel_trans hB2 hB1)
        go_roundw
        case rel => exact ⟨i + 1, by omega, by go_num, fun r hr u hu => (by
          rcases Nat.lt_or_ge r i with h1 | h1
          · exact hall.out r h1 u hu
          · rw [show r = i by omega, hX.out] at hu
            simp only [Option.some.injEq] at hu
            rw [← hu]; exact hin), by (repeat' (first | (with_reducible exact bel_refl _) | (with_reducible assumption) | (with_reducible refine bel_drew ?_) | (with_reducible refine bel_drewN ?_) | (with_reducible refine bel_alloc ?_) | (with_reducible refine bel_set ?_ ?_) | (with_reducible refine bel_trans ?_ (by with_reducible assumption)) | omega | (simp; done) | (simp; omega)))⟩
        case measure => simp [intOf]; omega
    · go_wp2
      go_ret
      refine ⟨-1, rfl, ?_, by (repeat' (first | (with_reducible exact bel_refl _) | (with_reducible assumption) | (with_reducible refine bel_drew ?_) | (with_reducible refine bel_drewN ?_) | (with_reducible refine bel_alloc ?_) | (with_reducible refine bel_set ?_ ?_) | (with_reducible refine bel_trans ?_ (by with_reducible assumption)) | omega | (simp; done) | (simp; omega)))⟩
      rw [alli_yes (fun r u hu => hall.out r (by have h1 := (List.getElem?_eq_some_iff.1 hu).1; rw [hlh.out] at h1; omega) u hu)]
      simp
theorem containsB (t : Terr) (A : Option Addr) (n c : Nat) (xs : List Int) (hb : Nat) (w : World) (ht : t.n ≤ 1048576) (hS : Sl w 1 A n c (ints xs)) (hn : n ≤ 1048576) (hhb : hb < w.heap.size) (hf : w.cell? ⟨hb, 0, none⟩ = some (.func (.func 61) #[.agg #[.int .i64 t.W, .int .i64 t.H, .slice t.A t.n t.c]] #[])) :
    Calls Try.prog 109 #[.slice A n c, .func (.func 110) #[] #[.pointer (some ⟨hb, 0, none⟩)]] w fun e w' => e = .returned (.bool (!xs.all ((fun x => inB x 0 ((t.n : Int) - 1))))) ∧ Below w.heap.size w w' := by
  go_enter Try.func109, Try.ntmps109
  go_wp2_with (go_at_call 118; refine (indexB t _ _ _ xs hb _ ht hS hn hhb hf).mono ?_; rintro _ w1 ⟨k, rfl, hk, hb1⟩)
  go_ret
  exact ⟨ret_bool (by first | rfl | exact hk), by (repeat' (first | (with_reducible exact bel_refl _) | (with_reducible assumption) | (with_reducible refine bel_drew ?_) | (with_reducible refine bel_drewN ?_) | (with_reducible refine bel_alloc ?_) | (with_reducible refine bel_set ?_ ?_) | (with_reducible refine bel_trans ?_ (by with_reducible assumption)) | omega | (simp; done) | (simp; omega)))⟩
theorem allIntB (t : Terr) (A : Option Addr) (n c : Nat) (xs : List Int) (w : World) (ht : t.n ≤ 1048576) (hS : Sl w 1 A n c (ints xs)) (hn : n ≤ 1048576) :
    Calls Try.prog 94 #[.slice A n c, .func (.func 61) #[.agg #[.int .i64 t.W, .int .i64 t.H, .slice t.A t.n t.c]] #[]] w fun e w' => e = .returned (.bool (xs.all ((fun x => inB x 0 ((t.n : Int) - 1))))) ∧ Below w.heap.size w w' := by
  obtain ⟨W1, hW1⟩ : ∃ W1, w.alloc (.cells #[.func (.func 61) #[.agg #[.int .i64 t.W, .int .i64 t.H, .slice t.A t.n t.c]] #[]] 53) = W1 := ⟨_, rfl⟩
  have hb2 : Below w.heap.size w W1 := by rw [← hW1]; exact bel_alloc (bel_refl w)
  have hf1 : W1.cell? ⟨w.heap.size, 0, none⟩ = some (.func (.func 61) #[.agg #[.int .i64 t.W, .int .i64 t.H, .slice t.A t.n t.c]] #[]) := by rw [← hW1, cell_of_row _ _ 0 _ _ (0, 0) (heap_alloc_new w _)]; rfl
  have hs2 : w.heap.size < W1.heap.size := by rw [← hW1]; simp
  go_enter Try.func94, Try.ntmps94
  go_wp2_with (go_at_call 109; (try rw [hW1]); refine (containsB t _ _ _ xs w.heap.size _ ht (hS.bel hb2) hn hs2 hf1).mono ?_; rintro _ w1 ⟨rfl, hb1⟩)
  go_ret
  exact ⟨ret_bool (by simp), bel_trans hb2 hb1⟩

theorem goodT_eq (t : Terr) : goodT t = (inB t.W 1 5 && inB t.H 1 5 && ((t.n : Int) == t.W * t.H) && t.burn.all fun x => inB x 0 20) := by
  rw [goodT]; congr 2
set_option maxHeartbeats 2000000 in
theorem isTerrain (t : Terr) (w : World) (hT : TOk w t) (hn : t.n ≤ 1048576) :
    Calls Try.prog 76 #[.agg #[.int .i64 t.W, .int .i64 t.H, .slice t.A t.n t.c]] w fun e w' => e = .returned (.bool (goodT t)) ∧ Below w.heap.size w w' := by
  have hB2 := bel_refl (w.alloc (.cells #[.int .i64 t.W, .int .i64 t.H, .slice t.A t.n t.c] 30))
  have hT1 := hT.bel (bel_alloc (o := .cells #[.int .i64 t.W, .int .i64 t.H, .slice t.A t.n t.c] 30) (bel_refl w))
  rcases h1 : inB t.W 1 5 with _ | _ <;> rcases h2 : inB t.H 1 5 with _ | _
  all_goals have hG := hid (goodT_eq t)
  all_goals rw [h1, h2] at hG
  rotate_left 3
  · have b1 := inB_iff.1 h1
    have b2 := inB_iff.1 h2
    have b3 := mul_bd b1 b2
    rcases h3 : ((t.n : Int) == t.W * t.H) with _ | _
    · rw [h3] at hG
      go_enter Try.func76, Try.ntmps76
      go_wp2_with (first | (go_at_call 79; refine (isIn _ _ _ _).mono ?_; rintro _ w1 ⟨rfl, rfl⟩))
      go_ret
      exact ⟨ret_bool (by rw [hG.out]; simp), by (repeat' (first | (with_reducible exact bel_refl _) | (with_reducible assumption) | (with_reducible refine bel_drew ?_) | (with_reducible refine bel_drewN ?_) | (with_reducible refine bel_alloc ?_) | (with_reducible refine bel_set ?_ ?_) | (with_reducible refine bel_trans ?_ (by with_reducible assumption)) | omega | (simp; done) | (simp; omega)))⟩
    · rw [h3] at hG
      go_enter Try.func76, Try.ntmps76
      go_wp2_with (first | (go_at_call 79; refine (isIn _ _ _ _).mono ?_; rintro _ w1 ⟨rfl, rfl⟩) | (go_at_call 94; refine (allIntA _ _ _ t.burn _ hT1 hn).mono ?_; rintro _ w1 ⟨rfl, hB1⟩; replace hB2 := bel_trans hB2 hB1))
      go_ret
      exact ⟨ret_bool (by rw [hG.out]; simp), by (repeat' (first | (with_reducible exact bel_refl _) | (with_reducible assumption) | (with_reducible refine bel_drew ?_) | (with_reducible refine bel_drewN ?_) | (with_reducible refine bel_alloc ?_) | (with_reducible refine bel_set ?_ ?_) | (with_reducible refine bel_trans ?_ (by with_reducible assumption)) | omega | (simp; done) | (simp; omega)))⟩
  all_goals (
    go_enter Try.func76, Try.ntmps76
    go_wp2_with (first | (go_at_call 79; refine (isIn _ _ _ _).mono ?_; rintro _ w1 ⟨rfl, rfl⟩))
    go_ret
    exact ⟨ret_bool (by rw [hG.out]; simp), by (repeat' (first | (with_reducible exact bel_refl _) | (with_reducible assumption) | (with_reducible refine bel_drew ?_) | (with_reducible refine bel_drewN ?_) | (with_reducible refine bel_alloc ?_) | (with_reducible refine bel_set ?_ ?_) | (with_reducible refine bel_trans ?_ (by with_reducible assumption)) | omega | (simp; done) | (simp; omega)))⟩)
set_option maxHeartbeats 2000000 in
theorem l2Good (t : Terr) (w : World) (hT : TOk w t) (hn : t.n ≤ 1048576) :
    Calls Try.prog 86 #[.agg #[.int .i64 t.W, .int .i64 t.H, .slice t.A t.n t.c]] w fun e w' => e = .returned (.bool (goodT t)) ∧ Below w.heap.size w w' := by
  have hT1 := hT.bel (bel_alloc (o := .cells #[.int .i64 t.W, .int .i64 t.H, .slice t.A t.n t.c] 30) (bel_refl w))
  have hlh := hid hT.int_len
  rcases h1 : inB t.W 1 5 with _ | _ <;> rcases h2 : inB t.H 1 5 with _ | _
  all_goals have hG := hid (goodT_eq t)
  all_goals rw [h1, h2] at hG
  rotate_left 3
  · have b1 := inB_iff.1 h1
    have b2 := inB_iff.1 h2
    have b3 := mul_bd b1 b2
    rcases h3 : ((t.n : Int) == t.W * t.H) with _ | _
    · have h4 : ((t.n : Int) != t.W * t.H) = true := by rw [bne, h3]; rfl
      rw [h3] at hG
      go_enter Try.func86, Try.ntmps86
      go_wp2_with (first | (go_at_call 72; refine (l1In _ _ _ _).mono ?_; rintro _ w1 ⟨rfl, rfl⟩))
      go_ret
      exact ⟨ret_bool (by rw [hG.out]; simp), by (repeat' (first | (with_reducible exact bel_refl _) | (with_reducible assumption) | (with_reducible refine bel_drew ?_) | (with_reducible refine bel_drewN ?_) | (with_reducible refine bel_alloc ?_) | (with_reducible refine bel_set ?_ ?_) | (with_reducible refine bel_trans ?_ (by with_reducible assumption)) | omega | (simp; done) | (simp; omega)))⟩
    · have h4 : ((t.n : Int) != t.W * t.H) = false := by rw [bne, h3]; rfl
      rw [h3] at hG
      go_enter Try.func86, Try.ntmps86
      go_wp2_with (first | (go_at_call 72; refine (l1In _ _ _ _).mono ?_; rintro _ w1 ⟨rfl, rfl⟩))
      go_loopw [3] (fun v wr => ∃ i : Nat, i ≤ t.n ∧ v = .int .i64 i ∧ (Hid (∀ r, r < i → ∀ u, t.burn[r]? = some u → inB u 0 20 = true)) ∧ (w.alloc (.cells #[.int .i64 t.W, .int .i64 t.H, .slice t.A t.n t.c] 30)) = wr) (fun v _ => t.n - (intOf v).toNat)
      case atStart => exact ⟨0, by omega, rfl, fun r hr => absurd hr (by omega), rfl⟩
      case round =>
        obtain ⟨i, hi', rfl, hall, rfl⟩ := hrel
        by_cases hlt : i < t.n
        · obtain ⟨x, hx⟩ : ∃ x, t.burn[i]? = some x := get_of_lt (by rw [hlh.out]; exact hlt)
          obtain ⟨b, o, hA, hb, c0⟩ := hT.int_at hx
          have hX := hid hx
          clear hx
          have hi1 : (i : Int) < (t.n : Int) := by omega
          rcases hin : inB x 0 20 with _ | _
          · have hR := hid (show goodT t = false by rw [hG.out, alli_no hX.out hin]; simp)
            rw [hA]
            go_wp2_with (first | (go_at_call 72; refine (l1In _ _ _ _).mono ?_; rintro _ w1 ⟨rfl, rfl⟩))
            go_ret
            exact ⟨ret_bool hR.out.symm, by (repeat' (first | (with_reducible exact bel_refl _) | (with_reducible assumption) | (with_reducible refine bel_drew ?_) | (with_reducible refine bel_drewN ?_) | (with_reducible refine bel_alloc ?_) | (with_reducible refine bel_set ?_ ?_) | (with_reducible refine bel_trans ?_ (by with_reducible assumption)) | omega | (simp; done) | (simp; omega)))⟩
          · rw [hA]
            go_wp2_with (first | (go_at_call 72; refine (l1In _ _ _ _).mono ?_; rintro _ w1 ⟨rfl, rfl⟩))
            go_roundw
            case rel => exact ⟨i + 1, by omega, by go_num, fun r hr u hu => (by
              rcases Nat.lt_or_ge r i with h1 | h1
              · exact hall.out r h1 u hu
              · rw [show r = i by omega, hX.out] at hu
                simp only [Option.some.injEq] at hu
                rw [← hu]; exact hin), by first | trivial | (rw [hA])⟩
            case measure => simp [intOf]; omega
        · have hi1 : ¬ (i : Int) < (t.n : Int) := by omega
          have hR := hid (show goodT t = true by rw [hG.out, alli_yes (fun r u hu => hall.out r (by have h1 := (List.getElem?_eq_some_iff.1 hu).1; rw [hlh.out] at h1; omega) u hu)]; simp)
          go_wp2
          go_ret
          exact ⟨ret_bool hR.out.symm, by (repeat' (first | (with_reducible exact bel_refl _) | (with_reducible assumption) | (with_reducible refine bel_drew ?_) | (with_reducible refine bel_drewN ?_) | (with_reducible refine bel_alloc ?_) | (with_reducible refine bel_set ?_ ?_) | (with_reducible refine bel_trans ?_ (by with_reducible assumption)) | omega | (simp; done) | (simp; omega)))⟩
  all_goals (
    go_enter Try.func86, Try.ntmps86
    go_wp2_with (first | (go_at_call 72; refine (l1In _ _ _ _).mono ?_; rintro _ w1 ⟨rfl, rfl⟩))
    go_ret
    exact ⟨ret_bool (by rw [hG.out]; simp), by (repeat' (first | (with_reducible exact bel_refl _) | (with_reducible assumption) | (with_reducible refine bel_drew ?_) | (with_reducible refine bel_drewN ?_) | (with_reducible refine bel_alloc ?_) | (with_reducible refine bel_set ?_ ?_) | (with_reducible refine bel_trans ?_ (by with_reducible assumption)) | omega | (simp; done) | (simp; omega)))⟩)
def setT (t : Terr) (xs : List Int) : Bool := setB 0 ((t.n : Int) - 1) xs
theorem isSet (t : Terr) (A : Option Addr) (n c : Nat) (xs : List Int) (w : World) (ht : t.n ≤ 1048576) (hS : Sl w 1 A n c (ints xs)) (hn : n ≤ 1048576) :
    Calls Try.prog 78 #[.agg #[.int .i64 t.W, .int .i64 t.H, .slice t.A t.n t.c], .slice A n c] w fun e w' => e = .returned (.bool (setT t xs)) ∧ Below w.heap.size w w' := by
  have hB2 := bel_refl (w.alloc (.cells #[.int .i64 t.W, .int .i64 t.H, .slice t.A t.n t.c] 30))
  have hR := hid (setB_eq 0 ((t.n : Int) - 1) xs)
  rcases h1 : risingB xs with _ | _
  · rw [h1] at hR
    go_enter Try.func78, Try.ntmps78
    go_wp2_with (go_at_call 99; refine (isRising _ _ _ xs _ (hS.bel (by (repeat' (first | (with_reducible exact bel_refl _) | (with_reducible assumption) | (with_reducible refine bel_drew ?_) | (with_reducible refine bel_drewN ?_) | (with_reducible refine bel_alloc ?_) | (with_reducible refine bel_set ?_ ?_) | (with_reducible refine bel_trans ?_ (by with_reducible assumption)) | omega | (simp; done) | (simp; omega))))) hn).mono ?_; rw [h1]; rintro _ w1 ⟨rfl, hB1⟩; replace hB2 := bel_trans hB2 hB1)
    go_ret
    exact ⟨ret_bool (by rw [setT, hR.out]; simp), by (repeat' (first | (with_reducible exact bel_refl _) | (with_reducible assumption) | (with_reducible refine bel_drew ?_) | (with_reducible refine bel_drewN ?_) | (with_reducible refine bel_alloc ?_) | (with_reducible refine bel_set ?_ ?_) | (with_reducible refine bel_trans ?_ (by with_reducible assumption)) | omega | (simp; done) | (simp; omega)))⟩
  · rw [h1] at hR
    go_enter Try.func78, Try.ntmps78
    go_wp2_with (first | (go_at_call 99; refine (isRising _ _ _ xs _ (hS.bel (by (repeat' (first | (with_reducible exact bel_refl _) | (with_reducible assumption) | (with_reducible refine bel_drew ?_) | (with_reducible refine bel_drewN ?_) | (with_reducible refine bel_alloc ?_) | (with_reducible refine bel_set ?_ ?_) | (with_reducible refine bel_trans ?_ (by with_reducible assumption)) | omega | (simp; done) | (simp; omega))))) hn).mono ?_; rw [h1]; rintro _ w1 ⟨rfl, hB1⟩; replace hB2 := bel_trans hB2 hB1; obtain ⟨hC1, hF1⟩ := bcell hB2) | (go_at_call 94; refine (allIntB t _ _ _ xs _ ht (hS.bel (by (repeat' (first | (with_reducible exact bel_refl _) | (with_reducible assumption) | (with_reducible refine bel_drew ?_) | (with_reducible refine bel_drewN ?_) | (with_reducible refine bel_alloc ?_) | (with_reducible refine bel_set ?_ ?_) | (with_reducible refine bel_trans ?_ (by with_reducible assumption)) | omega | (simp; done) | (simp; omega))))) hn).mono ?_; rintro _ w2 ⟨rfl, hb2⟩; replace hB2 := bel_trans hB2 hb2))
    go_ret
    exact ⟨ret_bool (by rw [setT, hR.out]; simp), by (repeat' (first | (with_reducible exact bel_refl _) | (with_reducible assumption) | (with_reducible refine bel_drew ?_) | (with_reducible refine bel_drewN ?_) | (with_reducible refine bel_alloc ?_) | (with_reducible refine bel_set ?_ ?_) | (with_reducible refine bel_trans ?_ (by with_reducible assumption)) | omega | (simp; done) | (simp; omega)))⟩
theorem l2Set (t : Terr) (A : Option Addr) (n c : Nat) (xs : List Int) (w : World) (hT : TOk w t) (ht : t.n ≤ 1048576) (hS : Sl w 1 A n c (ints xs)) (hn : n ≤ 1048576) :
    Calls Try.prog 70 #[.agg #[.int .i64 t.W, .int .i64 t.H, .slice t.A t.n t.c], .slice A n c] w fun e w' => e = .returned (.bool (goodT t && setT t xs)) ∧ Below w.heap.size w w' := by
  have hB2 := bel_refl (w.alloc (.cells #[.int .i64 t.W, .int .i64 t.H, .slice t.A t.n t.c] 30))
  rcases h1 : goodT t with _ | _
  all_goals (
    go_enter Try.func70, Try.ntmps70
    go_wp2_with (first | (go_at_call 86; refine (l2Good t _ (hT.bel (by (repeat' (first | (with_reducible exact bel_refl _) | (with_reducible assumption) | (with_reducible refine bel_drew ?_) | (with_reducible refine bel_drewN ?_) | (with_reducible refine bel_alloc ?_) | (with_reducible refine bel_set ?_ ?_) | (with_reducible refine bel_trans ?_ (by with_reducible assumption)) | omega | (simp; done) | (simp; omega))))) ht).mono ?_; rw [h1]; rintro _ w1 ⟨rfl, hB1⟩; replace hB2 := bel_trans hB2 hB1; obtain ⟨hC1, hF1⟩ := bcell hB2) | (go_at_call 88; refine (l1Rising _ _ _ xs _ _ _ (hS.bel (by (repeat' (first | (with_reducible exact bel_refl _) | (with_reducible assumption) | (with_reducible refine bel_drew ?_) | (with_reducible refine bel_drewN ?_) | (with_reducible refine bel_alloc ?_) | (with_reducible refine bel_set ?_ ?_) | (with_reducible refine bel_trans ?_ (by with_reducible assumption)) | omega | (simp; done) | (simp; omega))))) hn).mono ?_; rintro _ w2 ⟨rfl, hb2⟩; replace hB2 := bel_trans hB2 hb2))
    go_ret
    exact ⟨ret_bool (by simp [setT]), by (repeat' (first | (with_reducible exact bel_refl _) | (with_reducible assumption) | (with_reducible refine bel_drew ?_) | (with_reducible refine bel_drewN ?_) | (with_reducible refine bel_alloc ?_) | (with_reducible refine bel_set ?_ ?_) | (with_reducible refine bel_trans ?_ (by with_reducible assumption)) | omega | (simp; done) | (simp; omega)))⟩)
theorem l2Cell (t : Terr) (a : Int) (w : World) (hT : TOk w t) (ht : t.n ≤ 1048576) :
    Calls Try.prog 59 #[.agg #[.int .i64 t.W, .int .i64 t.H, .slice t.A t.n t.c], .int .i64 a] w fun e w' => e = .returned (.bool (goodT t && inB a 0 ((t.n : Int) - 1))) ∧ Below w.heap.size w w' := by
  have hB2 := bel_refl (w.alloc (.cells #[.int .i64 t.W, .int .i64 t.H, .slice t.A t.n t.c] 30))
  rcases h1 : goodT t with _ | _
  all_goals (
    go_enter Try.func59, Try.ntmps59
    go_wp2_with (first | (go_at_call 86; refine (l2Good t _ (hT.bel (by (repeat' (first | (with_reducible exact bel_refl _) | (with_reducible assumption) | (with_reducible refine bel_drew ?_) | (with_reducible refine bel_drewN ?_) | (with_reducible refine bel_alloc ?_) | (with_reducible refine bel_set ?_ ?_) | (with_reducible refine bel_trans ?_ (by with_reducible assumption)) | omega | (simp; done) | (simp; omega))))) ht).mono ?_; rw [h1]; rintro _ w1 ⟨rfl, hB1⟩; replace hB2 := bel_trans hB2 hB1; obtain ⟨hC1, hF1⟩ := bcell hB2) | (go_at_call 72; refine (l1In _ _ _ _).mono ?_; rintro _ w1 ⟨rfl, rfl⟩))
    go_ret
    exact ⟨ret_bool (by simp), by (repeat' (first | (with_reducible exact bel_refl _) | (with_reducible assumption) | (with_reducible refine bel_drew ?_) | (with_reducible refine bel_drewN ?_) | (with_reducible refine bel_alloc ?_) | (with_reducible refine bel_set ?_ ?_) | (with_reducible refine bel_trans ?_ (by with_reducible assumption)) | omega | (simp; done) | (simp; omega)))⟩)
def askB (t : Terr) (xs : List Scen) (so : List Int) (st : Int) : Bool := goodT t && ensB xs && setT t so && inB st 0 1000
set_option maxHeartbeats 2000000 in
theorem isBlaze (t : Terr) (A : Option Addr) (n c : Nat) (xs : List Scen) (B : Option Addr) (m d : Nat) (so : List Int) (st : Int) (w : World) (hT : TOk w t) (ht : t.n ≤ 1048576) (hS : Sl w 2 A n c (xs.flatMap Scen.row)) (hO : ScOk w xs) (hN : ∀ (i : Nat) (x : Scen), xs[i]? = some x → x.n ≤ 1048576) (hn : n ≤ 1048576) (hM : Sl w 1 B m d (ints so)) (hm : m ≤ 1048576) :
    Calls Try.prog 45 #[.agg #[.int .i64 t.W, .int .i64 t.H, .slice t.A t.n t.c], .slice A n c, .slice B m d, .int .i64 st] w fun e w' => e = .returned (.bool (askB t xs so st)) ∧ Below w.heap.size w w' := by
  have hB2 := bel_refl (w.alloc (.cells #[.int .i64 t.W, .int .i64 t.H, .slice t.A t.n t.c] 30))
  rcases h1 : goodT t with _ | _ <;> rcases h2 : ensB xs with _ | _ <;> rcases h3 : setT t so with _ | _
  all_goals (
    go_enter Try.func45, Try.ntmps45
    go_wp2_with (first
      | (go_at_call 76; refine (isTerrain t _ (hT.bel (by (repeat' (first | (with_reducible exact bel_refl _) | (with_reducible assumption) | (with_reducible refine bel_drew ?_) | (with_reducible refine bel_drewN ?_) | (with_reducible refine bel_alloc ?_) | (with_reducible refine bel_set ?_ ?_) | (with_reducible refine bel_trans ?_ (by with_reducible assumption)) | omega | (simp; done) | (simp; omega))))) ht).mono ?_; rw [h1]; rintro _ w1 ⟨rfl, hB1⟩; replace hB2 := bel_trans hB2 hB1; obtain ⟨hC1, hF1⟩ := bcell hB2)
      | (go_at_call 77; refine (ensI _ _ _ xs _ (hS.bel (by (repeat' (first | (with_reducible exact bel_refl _) | (with_reducible assumption) | (with_reducible refine bel_drew ?_) | (with_reducible refine bel_drewN ?_) | (with_reducible refine bel_alloc ?_) | (with_reducible refine bel_set ?_ ?_) | (with_reducible refine bel_trans ?_ (by with_reducible assumption)) | omega | (simp; done) | (simp; omega))))) (hO.bel (by (repeat' (first | (with_reducible exact bel_refl _) | (with_reducible assumption) | (with_reducible refine bel_drew ?_) | (with_reducible refine bel_drewN ?_) | (with_reducible refine bel_alloc ?_) | (with_reducible refine bel_set ?_ ?_) | (with_reducible refine bel_trans ?_ (by with_reducible assumption)) | omega | (simp; done) | (simp; omega))))) hN hn).mono ?_; rw [h2]; rintro _ w2 ⟨rfl, hb2⟩; replace hB2 := bel_trans hB2 hb2; obtain ⟨hC1, hF1⟩ := bcell hB2)
      | (go_at_call 78; refine (isSet t _ _ _ so _ ht (hM.bel (by (repeat' (first | (with_reducible exact bel_refl _) | (with_reducible assumption) | (with_reducible refine bel_drew ?_) | (with_reducible refine bel_drewN ?_) | (with_reducible refine bel_alloc ?_) | (with_reducible refine bel_set ?_ ?_) | (with_reducible refine bel_trans ?_ (by with_reducible assumption)) | omega | (simp; done) | (simp; omega))))) hm).mono ?_; rw [h3]; rintro _ w3 ⟨rfl, hb3⟩; replace hB2 := bel_trans hB2 hb3)
      | (go_at_call 79; refine (isIn _ _ _ _).mono ?_; rintro _ w1 ⟨rfl, rfl⟩))
    go_ret
    exact ⟨ret_bool (by simp [askB, h1, h2, h3]), by (repeat' (first | (with_reducible exact bel_refl _) | (with_reducible assumption) | (with_reducible refine bel_drew ?_) | (with_reducible refine bel_drewN ?_) | (with_reducible refine bel_alloc ?_) | (with_reducible refine bel_set ?_ ?_) | (with_reducible refine bel_trans ?_ (by with_reducible assumption)) | omega | (simp; done) | (simp; omega)))⟩)
set_option maxHeartbeats 2000000 in
theorem l8Asked (t : Terr) (A : Option Addr) (n c : Nat) (xs : List Scen) (B : Option Addr) (m d : Nat) (so : List Int) (st : Int) (w : World) (hT : TOk w t) (ht : t.n ≤ 1048576) (hS : Sl w 2 A n c (xs.flatMap Scen.row)) (hO : ScOk w xs) (hN : ∀ (i : Nat) (x : Scen), xs[i]? = some x → x.n ≤ 1048576) (hn : n ≤ 1048576) (hM : Sl w 1 B m d (ints so)) (hm : m ≤ 1048576) :
    Calls Try.prog 41 #[.agg #[.int .i64 t.W, .int .i64 t.H, .slice t.A t.n t.c], .slice A n c, .slice B m d, .int .i64 st] w fun e w' => e = .returned (.bool (askB t xs so st)) ∧ Below w.heap.size w w' := by
  have hB2 := bel_refl (w.alloc (.cells #[.int .i64 t.W, .int .i64 t.H, .slice t.A t.n t.c] 30))
  rcases h1 : goodT t with _ | _ <;> rcases h2 : ensB xs with _ | _ <;> rcases h3 : setT t so with _ | _
  all_goals (
    go_enter Try.func41, Try.ntmps41
    go_wp2_with (first
      | (go_at_call 70; refine (l2Set t _ _ _ so _ (hT.bel (by (repeat' (first | (with_reducible exact bel_refl _) | (with_reducible assumption) | (with_reducible refine bel_drew ?_) | (with_reducible refine bel_drewN ?_) | (with_reducible refine bel_alloc ?_) | (with_reducible refine bel_set ?_ ?_) | (with_reducible refine bel_trans ?_ (by with_reducible assumption)) | omega | (simp; done) | (simp; omega))))) ht (hM.bel (by (repeat' (first | (with_reducible exact bel_refl _) | (with_reducible assumption) | (with_reducible refine bel_drew ?_) | (with_reducible refine bel_drewN ?_) | (with_reducible refine bel_alloc ?_) | (with_reducible refine bel_set ?_ ?_) | (with_reducible refine bel_trans ?_ (by with_reducible assumption)) | omega | (simp; done) | (simp; omega))))) hm).mono ?_; rw [h1, h3]; rintro _ w1 ⟨rfl, hB1⟩; replace hB2 := bel_trans hB2 hB1)
      | (go_at_call 71; refine (l8Good _ _ _ xs _ (hS.bel (by (repeat' (first | (with_reducible exact bel_refl _) | (with_reducible assumption) | (with_reducible refine bel_drew ?_) | (with_reducible refine bel_drewN ?_) | (with_reducible refine bel_alloc ?_) | (with_reducible refine bel_set ?_ ?_) | (with_reducible refine bel_trans ?_ (by with_reducible assumption)) | omega | (simp; done) | (simp; omega))))) (hO.bel (by (repeat' (first | (with_reducible exact bel_refl _) | (with_reducible assumption) | (with_reducible refine bel_drew ?_) | (with_reducible refine bel_drewN ?_) | (with_reducible refine bel_alloc ?_) | (with_reducible refine bel_set ?_ ?_) | (with_reducible refine bel_trans ?_ (by with_reducible assumption)) | omega | (simp; done) | (simp; omega))))) hN hn).mono ?_; rw [h2]; rintro _ w2 ⟨rfl, hb2⟩; replace hB2 := bel_trans hB2 hb2)
      | (go_at_call 72; refine (l1In _ _ _ _).mono ?_; rintro _ w1 ⟨rfl, rfl⟩))
    go_ret
    exact ⟨ret_bool (by simp [askB, h1, h2, h3]), by (repeat' (first | (with_reducible exact bel_refl _) | (with_reducible assumption) | (with_reducible refine bel_drew ?_) | (with_reducible refine bel_drewN ?_) | (with_reducible refine bel_alloc ?_) | (with_reducible refine bel_set ?_ ?_) | (with_reducible refine bel_trans ?_ (by with_reducible assumption)) | omega | (simp; done) | (simp; omega)))⟩)
end Go.Proofs.Ytdfjfopbhlbmkaa
