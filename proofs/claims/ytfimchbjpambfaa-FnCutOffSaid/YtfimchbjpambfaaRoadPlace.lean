/-
  Whether there are some places in a network: of the program and of the reference, walked.
-/
import Derived.Test.YtfimchbjpambfaaRoadTop
namespace Go.Proofs.Ytfimchbjpambfaa
open Go.RowKit

def placesB (p : Int) (vs : List Int) : Bool := vs.all fun v => inB v 0 (p - 1)
theorem placesB_no {p : Int} {vs : List Int} {i : Nat} {v : Int} (hv : vs[i]? = some v) (h : inB v 0 (p - 1) = false) : placesB p vs = false := by
  rw [placesB, List.all_eq_false]
  exact ⟨v, List.mem_of_getElem? hv, by simp [h]⟩
theorem placesB_yes {p : Int} {vs : List Int} (h : ∀ (i : Nat) (v : Int), vs[i]? = some v → inB v 0 (p - 1) = true) : placesB p vs = true := by
  rw [placesB, List.all_eq_true]
  intro v hv
  obtain ⟨i, hi⟩ := List.getElem?_of_mem hv
  exact h i v hi
theorem cloPlace (v p : Int) (pb : Nat) (w : World) (hp : 2 ≤ p ∧ p ≤ 7) (hc : w.cell? ⟨pb, 0, none⟩ = some (.int .i64 p)) :
    Calls Try.prog 63 #[.int .i64 v, .pointer (some ⟨pb, 0, none⟩)] w fun e w' => e = .returned (.bool (inB v 0 (p - 1))) ∧ w = w' := by
  go_enter Try.func63, Try.ntmps63
  go_wp2_with (go_at_call 41; refine (isIn _ _ _ _).mono ?_; rintro _ w1 ⟨rfl, rfl⟩)
  go_ret
  exact ⟨rfl, rfl⟩
theorem cloAll (v p : Int) (pb hb : Nat) (w : World) (hp : 2 ≤ p ∧ p ≤ 7) (hc : w.cell? ⟨pb, 0, none⟩ = some (.int .i64 p)) (hf : w.cell? ⟨hb, 0, none⟩ = some (.func (.func 63) #[] #[.pointer (some ⟨pb, 0, none⟩)])) :
    Calls Try.prog 75 #[.int .i64 v, .pointer (some ⟨hb, 0, none⟩)] w fun e w' => e = .returned (.bool (!inB v 0 (p - 1))) ∧ w = w' := by
  go_enter Try.func75, Try.ntmps75
  go_wp2_with (go_at_call 63; refine (cloPlace v p pb _ hp hc).mono ?_; rintro _ w1 ⟨rfl, rfl⟩)
  go_ret
  exact ⟨rfl, rfl⟩
theorem indexPlace (A : Option Addr) (n c : Nat) (vs : List Int) (p : Int) (pb hb : Nat) (w : World) (hS : Sl w 1 A n c (ints vs)) (hn : n ≤ 1048576) (hp : 2 ≤ p ∧ p ≤ 7) (hc : w.cell? ⟨pb, 0, none⟩ = some (.int .i64 p)) (hf : w.cell? ⟨hb, 0, none⟩ = some (.func (.func 63) #[] #[.pointer (some ⟨pb, 0, none⟩)])) :
    Calls Try.prog 77 #[.slice A n c, .func (.func 75) #[] #[.pointer (some ⟨hb, 0, none⟩)]] w fun e w' => ∃ k : Int, e = .returned (.int .i64 k) ∧ decide (0 ≤ k) = !placesB p vs ∧ w = w' := by
  have hlh := hid hS.int_len
  go_enter Try.func77, Try.ntmps77
  go_wp2_with fail
  go_loopw [5, 8] (fun _ v wr => ∃ i : Nat, i ≤ n ∧ v = .int .i64 i ∧ (Hid (∀ r, r < i → ∀ u, vs[r]? = some u → inB u 0 (p - 1) = true)) ∧ w = wr) (fun _ v _ => n - (intOf v).toNat)
  case atStart => exact ⟨0, by omega, rfl, fun r hr => absurd hr (by omega), rfl⟩
  case round =>
    obtain ⟨i, hi', rfl, hall, rfl⟩ := hrel
    by_cases hlt : i < n
    · obtain ⟨v, hv⟩ : ∃ v, vs[i]? = some v := get_of_lt (by rw [hlh.out]; exact hlt)
      obtain ⟨b, o, rfl, hb', c0⟩ := hS.int_at hv
      have hV := hid hv
      clear hv
      have hi0 : (0 : Int) ≤ (i : Int) := by omega
      have hi1 : (i : Int) < (n : Int) := by omega
      rcases hin : inB v 0 (p - 1) with _ | _
      · go_wp2_with (go_at_call 75; refine (cloAll v p pb hb _ hp hc hf).mono ?_; rintro _ w1 ⟨rfl, rfl⟩)
        go_ret
        exact ⟨i, rfl, by rw [placesB_no hV.out hin]; simp, rfl⟩
      · go_wp2_with (go_at_call 75; refine (cloAll v p pb hb _ hp hc hf).mono ?_; rintro _ w1 ⟨rfl, rfl⟩)
        go_roundw
        case rel => exact ⟨i + 1, by omega, by go_num, fun r hr u hu => (by
          rcases Nat.lt_or_ge r i with h1 | h1
          · exact hall.out r h1 u hu
          · rw [show r = i by omega, hV.out] at hu
            simp only [Option.some.injEq] at hu
            rw [← hu]; exact hin), by first | trivial | rfl⟩
        case measure => simp [intOf]; omega
    · go_wp2
      go_ret
      refine ⟨-1, rfl, ?_, rfl⟩
      rw [placesB_yes (fun r u hu => hall.out r (by have h1 := (List.getElem?_eq_some_iff.1 hu).1; rw [hlh.out] at h1; omega) u hu)]
      simp
theorem containsPlace (A : Option Addr) (n c : Nat) (vs : List Int) (p : Int) (pb hb : Nat) (w : World) (hS : Sl w 1 A n c (ints vs)) (hn : n ≤ 1048576) (hp : 2 ≤ p ∧ p ≤ 7) (hc : w.cell? ⟨pb, 0, none⟩ = some (.int .i64 p)) (hf : w.cell? ⟨hb, 0, none⟩ = some (.func (.func 63) #[] #[.pointer (some ⟨pb, 0, none⟩)])) :
    Calls Try.prog 74 #[.slice A n c, .func (.func 75) #[] #[.pointer (some ⟨hb, 0, none⟩)]] w fun e w' => e = .returned (.bool (!placesB p vs)) ∧ w = w' := by
  go_enter Try.func74, Try.ntmps74
  go_wp2_with (go_at_call 77; refine (indexPlace _ _ _ vs p pb hb _ hS hn hp hc hf).mono ?_; rintro _ w1 ⟨k, rfl, hk, rfl⟩)
  go_ret
  exact ⟨ret_bool (by first | rfl | exact hk), rfl⟩
theorem allPlace (A : Option Addr) (n c : Nat) (vs : List Int) (p : Int) (pb : Nat) (w : World) (hS : Sl w 1 A n c (ints vs)) (hn : n ≤ 1048576) (hp : 2 ≤ p ∧ p ≤ 7) (hc : w.cell? ⟨pb, 0, none⟩ = some (.int .i64 p)) (hpb : pb < w.heap.size) :
    Calls Try.prog 62 #[.slice A n c, .func (.func 63) #[] #[.pointer (some ⟨pb, 0, none⟩)]] w fun e w' => e = .returned (.bool (placesB p vs)) ∧ Below w.heap.size w w' := by
  obtain ⟨W1, hW1⟩ : ∃ W1, w.alloc (.cells #[.func (.func 63) #[] #[.pointer (some ⟨pb, 0, none⟩)]] 60) = W1 := ⟨_, rfl⟩
  have hc1 : W1.cell? ⟨pb, 0, none⟩ = some (.int .i64 p) := by rw [← hW1, World.cell?_alloc_past _ _ _ hpb]; exact hc
  have hf1 : W1.cell? ⟨w.heap.size, 0, none⟩ = some (.func (.func 63) #[] #[.pointer (some ⟨pb, 0, none⟩)]) := by rw [← hW1, cell_of_row _ _ 0 _ _ (0, 0) (heap_alloc_new w _)]; rfl
  have hS1 : Sl W1 1 A n c (ints vs) := by rw [← hW1]; exact hS.alloc _
  go_enter Try.func62, Try.ntmps62
  go_wp2_with (go_at_call 74; (try rw [hW1]); refine (containsPlace _ _ _ vs p pb w.heap.size _ hS1 hn hp hc1 hf1).mono ?_; rintro _ w1 ⟨rfl, rfl⟩)
  go_ret
  refine ⟨ret_bool (by simp), ?_⟩
  rw [← hW1]
  (repeat' (first | (with_reducible exact bel_refl _) | (with_reducible assumption) | (with_reducible refine bel_drew ?_) | (with_reducible refine bel_drewN ?_) | (with_reducible refine bel_alloc ?_) | (with_reducible refine bel_set ?_ ?_) | (with_reducible refine bel_trans ?_ (by with_reducible assumption)) | omega | (simp; done) | (simp; omega)))
theorem isPlace (p : Int) (A B : Option Addr) (n c m d : Nat) (xs : List Road) (vs : List Int) (w : World) (hS : Sl w 4 A n c (xs.flatMap Road.row)) (hn : n ≤ 1048576) (hV : Sl w 1 B m d (ints vs)) (hm : m ≤ 1048576) :
    Calls Try.prog 35 #[.int .i64 p, .slice A n c, .slice B m d] w fun e w' => e = .returned (.bool (netB p xs && placesB p vs)) ∧ Below w.heap.size w w' := by
  have hB2 := bel_refl (w.alloc (.cells #[.int .i64 p] 3))
  have hcm : (w.alloc (.cells #[.int .i64 p] 3)).cell? ⟨w.heap.size, 0, none⟩ = some (.int .i64 p) := by rw [cell_of_row _ _ 0 _ _ (0, 0) (heap_alloc_new w _)]; rfl
  have hps : w.heap.size < (w.alloc (.cells #[.int .i64 p] 3)).heap.size := by simp
  have hmf : ∀ (fn : Fn) (first cap : Array Value) (w : World), (Instr.makeFunc fn first cap).run Try.prog w = .ok (.func fn first cap) w := fun _ _ _ _ => rfl
  rcases hg : netB p xs with _ | _
  · go_enter Try.func35, Try.ntmps35
    go_wp2_with (go_at_call 10; refine (isNetworkI _ _ _ _ _ _ (hS.bel (by (repeat' (first | (with_reducible exact bel_refl _) | (with_reducible assumption) | (with_reducible refine bel_drew ?_) | (with_reducible refine bel_drewN ?_) | (with_reducible refine bel_alloc ?_) | (with_reducible refine bel_set ?_ ?_) | (with_reducible refine bel_trans ?_ (by with_reducible assumption)) | omega | (simp; done) | (simp; omega))))) hn).mono ?_; rintro _ w1 ⟨rfl, hB1⟩; (first | (with_reducible replace hB2 := bel_trans hB2 hB1) | (with_reducible replace hB2 := bel_trans (bel_alloc hB2) hB1)); obtain ⟨hC1, hF1⟩ := bcell hB2; replace hB1 := hB1)
    go_ret
    refine ⟨ret_bool (by simp), by (repeat' (first | (with_reducible exact bel_refl _) | (with_reducible assumption) | (with_reducible refine bel_drew ?_) | (with_reducible refine bel_drewN ?_) | (with_reducible refine bel_alloc ?_) | (with_reducible refine bel_set ?_ ?_) | (with_reducible refine bel_trans ?_ (by with_reducible assumption)) | omega | (simp; done) | (simp; omega)))⟩
  · have hp := netB_bd hg
    go_enter Try.func35, Try.ntmps35
    go_wp2_with (first | (go_at_call 10; refine (isNetworkI _ _ _ _ _ _ (hS.bel (by (repeat' (first | (with_reducible exact bel_refl _) | (with_reducible assumption) | (with_reducible refine bel_drew ?_) | (with_reducible refine bel_drewN ?_) | (with_reducible refine bel_alloc ?_) | (with_reducible refine bel_set ?_ ?_) | (with_reducible refine bel_trans ?_ (by with_reducible assumption)) | omega | (simp; done) | (simp; omega))))) hn).mono ?_; rintro _ w1 ⟨rfl, hB1⟩; (first | (with_reducible replace hB2 := bel_trans hB2 hB1) | (with_reducible replace hB2 := bel_trans (bel_alloc hB2) hB1)); obtain ⟨hC1, hF1⟩ := bcell hB2; replace hB1 := hB1) | (go_at_call 62; refine (allPlace _ _ _ vs p w.heap.size _ (hV.bel (by (repeat' (first | (with_reducible exact bel_refl _) | (with_reducible assumption) | (with_reducible refine bel_drew ?_) | (with_reducible refine bel_drewN ?_) | (with_reducible refine bel_alloc ?_) | (with_reducible refine bel_set ?_ ?_) | (with_reducible refine bel_trans ?_ (by with_reducible assumption)) | omega | (simp; done) | (simp; omega))))) hm (by omega) ((hC1 _ _ hps).trans hcm) (Nat.lt_of_lt_of_le hps hB2.size)).mono ?_; rintro _ w1 ⟨rfl, hB1⟩; (first | (with_reducible replace hB2 := bel_trans hB2 hB1) | (with_reducible replace hB2 := bel_trans (bel_alloc hB2) hB1)); obtain ⟨hC1, hF1⟩ := bcell hB2; replace hB1 := hB1))
    go_ret
    refine ⟨ret_bool (by simp), by (repeat' (first | (with_reducible exact bel_refl _) | (with_reducible assumption) | (with_reducible refine bel_drew ?_) | (with_reducible refine bel_drewN ?_) | (with_reducible refine bel_alloc ?_) | (with_reducible refine bel_set ?_ ?_) | (with_reducible refine bel_trans ?_ (by with_reducible assumption)) | omega | (simp; done) | (simp; omega)))⟩
theorem l12Place (p : Int) (A : Option Addr) (n c : Nat) (xs : List Road) (v : Int) (w : World) (hS : Sl w 4 A n c (xs.flatMap Road.row)) (hn : n ≤ 1048576) :
    Calls Try.prog 38 #[.int .i64 p, .slice A n c, .int .i64 v] w fun e w' => e = .returned (.bool (netB p xs && inB v 0 (p - 1))) ∧ Below w.heap.size w w' := by
  have hB2 := bel_refl w
  rcases hg : netB p xs with _ | _
  · go_enter Try.func38, Try.ntmps38
    go_wp2_with (go_at_call 42; refine (l12Good _ _ _ _ _ _ hS (by omega)).mono ?_; rintro _ w1 ⟨rfl, hB1⟩; (first | (with_reducible replace hB2 := bel_trans hB2 hB1) | (with_reducible replace hB2 := bel_trans (bel_alloc hB2) hB1)); obtain ⟨hC1, hF1⟩ := bcell hB2; replace hB1 := hB1)
    go_ret
    refine ⟨ret_bool (by simp), by (repeat' (first | (with_reducible exact bel_refl _) | (with_reducible assumption) | (with_reducible refine bel_drew ?_) | (with_reducible refine bel_drewN ?_) | (with_reducible refine bel_alloc ?_) | (with_reducible refine bel_set ?_ ?_) | (with_reducible refine bel_trans ?_ (by with_reducible assumption)) | omega | (simp; done) | (simp; omega)))⟩
  · have hp := netB_bd hg
    go_enter Try.func38, Try.ntmps38
    go_wp2_with (first | (go_at_call 42; refine (l12Good _ _ _ _ _ _ hS (by omega)).mono ?_; rintro _ w1 ⟨rfl, hB1⟩; (first | (with_reducible replace hB2 := bel_trans hB2 hB1) | (with_reducible replace hB2 := bel_trans (bel_alloc hB2) hB1)); obtain ⟨hC1, hF1⟩ := bcell hB2; replace hB1 := hB1) | (go_at_call 65; refine (l1In _ _ _ _).mono ?_; rintro _ w1 ⟨rfl, rfl⟩))
    go_ret
    refine ⟨ret_bool (by simp), by (repeat' (first | (with_reducible exact bel_refl _) | (with_reducible assumption) | (with_reducible refine bel_drew ?_) | (with_reducible refine bel_drewN ?_) | (with_reducible refine bel_alloc ?_) | (with_reducible refine bel_set ?_ ?_) | (with_reducible refine bel_trans ?_ (by with_reducible assumption)) | omega | (simp; done) | (simp; omega)))⟩
end Go.Proofs.Ytfimchbjpambfaa
