/-
  Ensembles: lists of scenarios in memory; whether a list is an ensemble: of the program and of the reference, walked.
-/
import Derived.Test.YtdfjfopbhlbmkaaEnsWalks
namespace Go.Proofs.Ytdfjfopbhlbmkaa
open Go.RowKit

/-- A scenario as it lies in memory: the header of its phases, its weight, and what its phases read as. -/
structure Scen where
  A : Option Addr
  n : Nat
  c : Nat
  ps : List Phase
  weight : Int
def Scen.row (x : Scen) : List Value := [.slice x.A x.n x.c, .int .i64 x.weight]
theorem Scen.row_len (x : Scen) : x.row.length = 2 := rfl
def ScOk (w : World) (xs : List Scen) : Prop := ∀ (i : Nat) (x : Scen), xs[i]? = some x → Sl w 2 x.A x.n x.c (x.ps.flatMap Phase.row)
theorem ScOk.bel {w w' : World} {xs : List Scen} (h : ScOk w xs) (hb : Below w.heap.size w w') : ScOk w' xs := fun i x hx => (h i x hx).bel hb
theorem Sl.scen {w : World} {A : Option Addr} {n c : Nat} {xs : List Scen} (h : Sl w 2 A n c (xs.flatMap Scen.row)) {i : Nat} {x : Scen} (hx : xs[i]? = some x) :
    ∃ b o, A = some ⟨b, o, none⟩ ∧ b < w.heap.size ∧ w.cell? ⟨b, o + i * 2, none⟩ = some (.slice x.A x.n x.c) ∧ w.cell? ⟨b, o + i * 2 + 1, none⟩ = some (.int .i64 x.weight) := by
  obtain ⟨b, o, rfl, hb, hc⟩ := h.at_row Scen.row_len (by omega) hx
  exact ⟨b, o, rfl, hb, hc 0 _ rfl, hc 1 _ rfl⟩
def goodSc (x : Scen) : Bool := phasesB x.ps && inB x.weight 1 100
def ensB (xs : List Scen) : Bool := inB xs.length 1 4 && xs.all goodSc
theorem all_no {xs : List Scen} {i : Nat} {x : Scen} (hx : xs[i]? = some x) (h : goodSc x = false) : xs.all goodSc = false := by
  rw [List.all_eq_false]
  exact ⟨x, List.mem_of_getElem? hx, by simp [h]⟩
theorem all_yes {xs : List Scen} (h : ∀ (i : Nat) (x : Scen), xs[i]? = some x → goodSc x = true) : xs.all goodSc = true := by
  rw [List.all_eq_true]
  intro x hx
  obtain ⟨i, hi⟩ := List.getElem?_of_mem hx
  exact h i x hi
theorem cloSc (x : Scen) (w : World) (h : Sl w 2 x.A x.n x.c (x.ps.flatMap Phase.row)) (hn : x.n ≤ 1048576) :
    Calls Try.prog 97 #[.agg #[.slice x.A x.n x.c, .int .i64 x.weight]] w fun e w' => e = .returned (.bool (goodSc x)) ∧ Below w.heap.size w w' := by
  have hB2 := bel_refl (w.alloc (.cells #[.slice x.A x.n x.c, .int .i64 x.weight] 57))
  go_enter Try.func97, Try.ntmps97
  go_wp2_with (first | (go_at_call 79; refine (isIn _ _ _ _).mono ?_; rintro _ w1 ⟨rfl, rfl⟩) | (go_at_call 98; refine (arePhases _ _ _ x.ps _ (h.bel (by (repeat' (first | (with_reducible exact bel_refl _) | (with_reducible assumption) | (with_reducible refine bel_drew ?_) | (with_reducible refine bel_drewN ?_) | (with_reducible refine bel_alloc ?_) | (with_reducible refine bel_set ?_ ?_) | (with_reducible refine bel_trans ?_ (by with_reducible assumption)) | omega | (simp; done) | (simp; omega))))) hn).mono ?_; rintro _ w1 ⟨rfl, hB1⟩; (first | (with_reducible replace hB2 := bel_trans hB2 hB1) | (with_reducible replace hB2 := bel_trans (bel_alloc hB2) hB1)); obtain ⟨hC1, hF1⟩ := bcell hB2; replace hB1 := hB1))
  all_goals go_ret
  all_goals (refine ⟨ret_bool ?_, by (repeat' (first | (with_reducible exact bel_refl _) | (with_reducible assumption) | (with_reducible refine bel_drew ?_) | (with_reducible refine bel_drewN ?_) | (with_reducible refine bel_alloc ?_) | (with_reducible refine bel_set ?_ ?_) | (with_reducible refine bel_trans ?_ (by with_reducible assumption)) | omega | (simp; done) | (simp; omega)))⟩; simp [goodSc, *])
theorem cloAllSc (x : Scen) (hb : Nat) (w : World) (h : Sl w 2 x.A x.n x.c (x.ps.flatMap Phase.row)) (hn : x.n ≤ 1048576) (hhb : hb < w.heap.size) (hf : w.cell? ⟨hb, 0, none⟩ = some (.func (.func 97) #[] #[])) :
    Calls Try.prog 112 #[.agg #[.slice x.A x.n x.c, .int .i64 x.weight], .pointer (some ⟨hb, 0, none⟩)] w fun e w' => e = .returned (.bool (!goodSc x)) ∧ Below w.heap.size w w' := by
  have hf1 : ((w.alloc (.cells #[.slice x.A x.n x.c, .int .i64 x.weight] 57))).cell? ⟨hb, 0, none⟩ = some (.func (.func 97) #[] #[]) := by rw [World.cell?_alloc_past _ _ _ hhb]; exact hf
  have hB2 := bel_refl (w.alloc (.cells #[.slice x.A x.n x.c, .int .i64 x.weight] 57))
  go_enter Try.func112, Try.ntmps112
  go_wp2_with (go_at_call 97; refine (cloSc x _ (h.bel (by (repeat' (first | (with_reducible exact bel_refl _) | (with_reducible assumption) | (with_reducible refine bel_drew ?_) | (with_reducible refine bel_drewN ?_) | (with_reducible refine bel_alloc ?_) | (with_reducible refine bel_set ?_ ?_) | (with_reducible refine bel_trans ?_ (by with_reducible assumption)) | omega | (simp; done) | (simp; omega))))) hn).mono ?_; rintro _ w1 ⟨rfl, hB1⟩; (first | (with_reducible replace hB2 := bel_trans hB2 hB1) | (with_reducible replace hB2 := bel_trans (bel_alloc hB2) hB1)); obtain ⟨hC1, hF1⟩ := bcell hB2; replace hB1 := hB1)
  go_ret
  exact ⟨rfl, by (repeat' (first | (with_reducible exact bel_refl _) | (with_reducible assumption) | (with_reducible refine bel_drew ?_) | (with_reducible refine bel_drewN ?_) | (with_reducible refine bel_alloc ?_) | (with_reducible refine bel_set ?_ ?_) | (with_reducible refine bel_trans ?_ (by with_reducible assumption)) | omega | (simp; done) | (simp; omega)))⟩
set_option maxHeartbeats 1000000 in
theorem indexSc (A : Option Addr) (n c : Nat) (xs : List Scen) (hb : Nat) (w : World) (hS : Sl w 2 A n c (xs.flatMap Scen.row)) (hO : ScOk w xs) (hN : ∀ (i : Nat) (x : Scen), xs[i]? = some x → x.n ≤ 1048576) (hn : n ≤ 1048576) (hhb : hb < w.heap.size) (hf : w.cell? ⟨hb, 0, none⟩ = some (.func (.func 97) #[] #[])) :
    Calls Try.prog 119 #[.slice A n c, .func (.func 112) #[] #[.pointer (some ⟨hb, 0, none⟩)]] w fun e w' => ∃ k : Int, e = .returned (.int .i64 k) ∧ decide (0 ≤ k) = !xs.all goodSc ∧ Below w.heap.size w w' := by
  have hlh := hid (hS.xs_len Scen.row_len (by omega))
  go_enter Try.func119, Try.ntmps119
  go_wp2_with fail
  go_loopw [5, 8] (fun _ v wr => ∃ i : Nat, i ≤ n ∧ v = .int .i64 i ∧ (Hid (∀ r, r < i → ∀ u, xs[r]? = some u → goodSc u = true)) ∧ Below w.heap.size w wr) (fun _ v _ => n - (intOf v).toNat)
  case atStart => exact ⟨0, by omega, rfl, fun r hr => absurd hr (by omega), by (repeat' (first | (with_reducible exact bel_refl _) | (with_reducible assumption) | (with_reducible refine bel_drew ?_) | (with_reducible refine bel_drewN ?_) | (with_reducible refine bel_alloc ?_) | (with_reducible refine bel_set ?_ ?_) | (with_reducible refine bel_trans ?_ (by with_reducible assumption)) | omega | (simp; done) | (simp; omega)))⟩
  case round =>
    obtain ⟨i, hi', rfl, hall, hB⟩ := hrel
    have hB2 := bel_refl wr
    have hsz := hB.size
    have hfw := ((bcell hB).1 _ 0 hhb).trans hf
    by_cases hlt : i < n
    · obtain ⟨x, hx⟩ : ∃ x, xs[i]? = some x := get_of_lt (by rw [hlh.out]; exact hlt)
      obtain ⟨b, o, rfl, hb', c0, c1⟩ := (hS.bel hB).scen hx
      have hX := hid hx
      have hSx := (hO i x hx).bel hB
      have hNx := hN i x hx
      clear hx
      have hi0 : (0 : Int) ≤ (i : Int) := by omega
      have hi1 : (i : Int) < (n : Int) := by omega
      have hp2 : hb < wr.heap.size := by omega
      rcases hin : goodSc x with _ | _
      · go_wp2_with (go_at_call 112; refine (cloAllSc x hb _ hSx hNx hp2 hfw).mono ?_; rintro _ w1 ⟨rfl, hB1⟩; (first | (with_reducible replace hB2 := bel_trans hB2 hB1) | (with_reducible replace hB2 := bel_trans (bel_alloc hB2) hB1)); obtain ⟨hC1, hF1⟩ := bcell hB2; replace hB1 := hB1)
        go_ret
        exact ⟨i, rfl, by rw [all_no hX.out hin]; simp, by (repeat' (first | (with_reducible exact bel_refl _) | (with_reducible assumption) | (with_reducible refine bel_drew ?_) | (with_reducible refine bel_drewN ?_) | (with_reducible refine bel_alloc ?_) | (with_reducible refine bel_set ?_ ?_) | (with_reducible refine bel_trans ?_ (by with_reducible assumption)) | omega | (simp; done) | (simp; omega)))⟩
      · go_wp2_with (go_at_call 112; refine (cloAllSc x hb _ hSx hNx hp2 hfw).mono ?_; rintro _ w1 ⟨rfl, hB1⟩; (first | (with_reducible replace hB2 := bel_trans hB2 hB1) | (with_reducible replace hB2 := bel_trans (bel_alloc hB2) hB1)); obtain ⟨hC1, hF1⟩ := bcell hB2; replace hB1 := hB1)
        go_roundw
        case rel => exact ⟨i + 1, by omega, by go_num, fun r hr u hu => (by
          rcases Nat.lt_or_ge r i with h1 | h1
          · exact hall.out r h1 u hu
          · rw [show r = i by omega, hX.out] at hu
            simp only [Option.some.injEq] at hu
            rw [← hu]; exact hin), by (repeat' (first | (with_reducible exact bel_refl _) | (with_reducible assumption) | (with_reducible refine bel_drew ?_) | (with_reducible refine bel_drewN ?_) | (with_reducible refine bel_alloc ?_) | (with_reducible refine bel_set ?_ ?_) | (with_reducible refine bel_trans ?_ (by with_reducible assumption)) | omega | (simp; done) | (simp; omega)))⟩
        case measure => simp [intOf]; omega
    · go_wp2
      go_ret
      refine ⟨-1, rfl, ?_, by (repeat' (first | (with_reducible exact bel_refl _) | (with_reducible assumption) | (with_reducible refine bel_drew ?_) | (with_reducible refine bel_drewN ?_) | (with_reducible refine bel_alloc ?_) | (with_reducible refine bel_set ?_ ?_) | (with_reducible refine bel_trans ?_ (by with_reducible assumption)) | omega | (simp; done) | (simp; omega)))⟩
      rw [all_yes (fun r u hu => hall.out r (by have h1 := (List.getElem?_eq_some_iff.1 hu).1; rw [hlh.out] at h1; omega) u hu)]
      simp
theorem containsSc (A : Option Addr) (n c : Nat) (xs : List Scen) (hb : Nat) (w : World) (hS : Sl w 2 A n c (xs.flatMap Scen.row)) (hO : ScOk w xs) (hN : ∀ (i : Nat) (x : Scen), xs[i]? = some x → x.n ≤ 1048576) (hn : n ≤ 1048576) (hhb : hb < w.heap.size) (hf : w.cell? ⟨hb, 0, none⟩ = some (.func (.func 97) #[] #[])) :
    Calls Try.prog 111 #[.slice A n c, .func (.func 112) #[] #[.pointer (some ⟨hb, 0, none⟩)]] w fun e w' => e = .returned (.bool (!xs.all goodSc)) ∧ Below w.heap.size w w' := by
  go_enter Try.func111, Try.ntmps111
  go_wp2_with (go_at_call 119; refine (indexSc _ _ _ xs hb _ hS hO hN hn hhb hf).mono ?_; rintro _ w1 ⟨k, rfl, hk, hb1⟩)
  go_ret
  exact ⟨ret_bool (by first | rfl | exact hk), by (repeat' (first | (with_reducible exact bel_refl _) | (with_reducible assumption) | (with_reducible refine bel_drew ?_) | (with_reducible refine bel_drewN ?_) | (with_reducible refine bel_alloc ?_) | (with_reducible refine bel_set ?_ ?_) | (with_reducible refine bel_trans ?_ (by with_reducible assumption)) | omega | (simp; done) | (simp; omega)))⟩
theorem allSc (A : Option Addr) (n c : Nat) (xs : List Scen) (w : World) (hS : Sl w 2 A n c (xs.flatMap Scen.row)) (hO : ScOk w xs) (hN : ∀ (i : Nat) (x : Scen), xs[i]? = some x → x.n ≤ 1048576) (hn : n ≤ 1048576) :
    Calls Try.prog 96 #[.slice A n c, .func (.func 97) #[] #[]] w fun e w' => e = .returned (.bool (xs.all goodSc)) ∧ Below w.heap.size w w' := by
  obtain ⟨W1, hW1⟩ : ∃ W1, w.alloc (.cells #[.func (.func 97) #[] #[]] 65) = W1 := ⟨_, rfl⟩
  have hb2 : Below w.heap.size w W1 := by rw [← hW1]; exact bel_alloc (bel_refl w)
  have hf1 : W1.cell? ⟨w.heap.size, 0, none⟩ = some (.func (.func 97) #[] #[]) := by rw [← hW1, cell_of_row _ _ 0 _ _ (0, 0) (heap_alloc_new w _)]; rfl
  have hs2 : w.heap.size < W1.heap.size := by rw [← hW1]; simp
  go_enter Try.func96, Try.ntmps96
  go_wp2_with (go_at_call 111; (try rw [hW1]); refine (containsSc _ _ _ xs w.heap.size _ (hS.bel hb2) (hO.bel hb2) hN hn hs2 hf1).mono ?_; rintro _ w1 ⟨rfl, hb1⟩)
  go_ret
  exact ⟨ret_bool (by simp), bel_trans hb2 hb1⟩
theorem ensI (A : Option Addr) (n c : Nat) (xs : List Scen) (w : World) (hS : Sl w 2 A n c (xs.flatMap Scen.row)) (hO : ScOk w xs) (hN : ∀ (i : Nat) (x : Scen), xs[i]? = some x → x.n ≤ 1048576) (hn : n ≤ 1048576) :
    Calls Try.prog 77 #[.slice A n c] w fun e w' => e = .returned (.bool (ensB xs)) ∧ Below w.heap.size w w' := by
  have hB2 := bel_refl w
  have hlh := hid (hS.xs_len Scen.row_len (by omega))
  have hR : Hid (ensB xs = (inB n 1 4 && xs.all goodSc)) := by show _ = _; rw [ensB, hlh.out]
  go_enter Try.func77, Try.ntmps77
  go_wp2_with (first | (go_at_call 79; refine (isIn _ _ _ _).mono ?_; rintro _ w1 ⟨rfl, rfl⟩) | (go_at_call 96; refine (allSc _ _ _ xs _ hS hO hN hn).mono ?_; rintro _ w1 ⟨rfl, hB1⟩; (first | (with_reducible replace hB2 := bel_trans hB2 hB1) | (with_reducible replace hB2 := bel_trans (bel_alloc hB2) hB1)); obtain ⟨hC1, hF1⟩ := bcell hB2; replace hB1 := hB1))
  all_goals go_ret
  all_goals (refine ⟨ret_bool ?_, by (repeat' (first | (with_reducible exact bel_refl _) | (with_reducible assumption) | (with_reducible refine bel_drew ?_) | (with_reducible refine bel_drewN ?_) | (with_reducible refine bel_alloc ?_) | (with_reducible refine bel_set ?_ ?_) | (with_reducible refine bel_trans ?_ (by with_reducible assumption)) | omega | (simp; done) | (simp; omega)))⟩; rw [hR.out]; simp [*])
theorem l8Good (A : Option Addr) (n c : Nat) (xs : List Scen) (w : World) (hS : Sl w 2 A n c (xs.flatMap Scen.row)) (hO : ScOk w xs) (hN : ∀ (i : Nat) (x : Scen), xs[i]? = some x → x.n ≤ 1048576) (hn : n ≤ 1048576) :
    Calls Try.prog 71 #[.slice A n c] w fun e w' => e = .returned (.bool (ensB xs)) ∧ Below w.heap.size w w' := by
  have hlh := hid (hS.xs_len Scen.row_len (by omega))
  go_enter Try.func71, Try.ntmps71
  go_wp2_with fail
  go_loopw [3] (fun v wr => ∃ i : Nat, i ≤ n ∧ v = .int .i64 i ∧ (Hid (∀ r, r < i → ∀ u, xs[r]? = some u → goodSc u = true)) ∧ Below w.heap.size w wr) (fun v _ => n - (intOf v).toNat)
  case atStart => exact ⟨0, by omega, rfl, fun r hr => absurd hr (by omega), by (repeat' (first | (with_reducible exact bel_refl _) | (with_reducible assumption) | (with_reducible refine bel_drew ?_) | (with_reducible refine bel_drewN ?_) | (with_reducible refine bel_alloc ?_) | (with_reducible refine bel_set ?_ ?_) | (with_reducible refine bel_trans ?_ (by with_reducible assumption)) | omega | (simp; done) | (simp; omega)))⟩
  case round =>
    obtain ⟨i, hi', rfl, hall, hB⟩ := hrel
    have hB2 := bel_refl wr
    by_cases hlt : i < n
    · obtain ⟨x, hx⟩ : ∃ x, xs[i]? = some x := get_of_lt (by rw [hlh.out]; exact hlt)
      obtain ⟨b, o, rfl, hb', c0, c1⟩ := (hS.bel hB).scen hx
      have hX := hid hx
      have hSx := (hO i x hx).bel hB
      have hNx := hN i x hx
      clear hx
      have hi0 : (0 : Int) ≤ (i : Int) := by omega
      have hi1 : (i : Int) < (n : Int) := by omega
      rcases h1 : phasesB x.ps with _ | _
      · have hR : Hid (ensB xs = false) := by show _ = _; rw [ensB, all_no hX.out (show goodSc x = false by simp [goodSc, h1]), Bool.and_false]
        go_wp2_with (go_at_call 89; refine (l4Phases _ _ _ x.ps _ hSx hNx).mono ?_; rintro _ w1 ⟨rfl, hB1⟩; (first | (with_reducible replace hB2 := bel_trans hB2 hB1) | (with_reducible replace hB2 := bel_trans (bel_alloc hB2) hB1)); obtain ⟨hC1, hF1⟩ := bcell hB2; replace hB1 := hB1)
        go_ret
        exact ⟨ret_bool hR.out.symm, by (repeat' (first | (with_reducible exact bel_refl _) | (with_reducible assumption) | (with_reducible refine bel_drew ?_) | (with_reducible refine bel_drewN ?_) | (with_reducible refine bel_alloc ?_) | (with_reducible refine bel_set ?_ ?_) | (with_reducible refine bel_trans ?_ (by with_reducible assumption)) | omega | (simp; done) | (simp; omega)))⟩
      rcases h2 : inB x.weight 1 100 with _ | _
      · have hR : Hid (ensB xs = false) := by show _ = _; rw [ensB, all_no hX.out (show goodSc x = false by simp [goodSc, h2]), Bool.and_false]
        go_wp2_with (first | (go_at_call 89; refine (l4Phases _ _ _ x.ps _ hSx hNx).mono ?_; rintro _ w1 ⟨rfl, hB1⟩; (first | (with_reducible replace hB2 := bel_trans hB2 hB1) | (with_reducible replace hB2 := bel_trans (bel_alloc hB2) hB1)); obtain ⟨hC1, hF1⟩ := bcell hB2; replace hB1 := hB1) | (go_at_call 72; refine (l1In _ _ _ _).mono ?_; rintro _ w1 ⟨rfl, rfl⟩))
        go_ret
        exact ⟨ret_bool hR.out.symm, by (repeat' (first | (with_reducible exact bel_refl _) | (with_reducible assumption) | (with_reducible refine bel_drew ?_) | (with_reducible refine bel_drewN ?_) | (with_reducible refine bel_alloc ?_) | (with_reducible refine bel_set ?_ ?_) | (with_reducible refine bel_trans ?_ (by with_reducible assumption)) | omega | (simp; done) | (simp; omega)))⟩
      have hgs := hid (show goodSc x = true by simp [goodSc, h1, h2])
      go_wp2_with (first | (go_at_call 89; refine (l4Phases _ _ _ x.ps _ hSx hNx).mono ?_; rintro _ w1 ⟨rfl, hB1⟩; (first | (with_reducible replace hB2 := bel_trans hB2 hB1) | (with_reducible replace hB2 := bel_trans (bel_alloc hB2) hB1)); obtain ⟨hC1, hF1⟩ := bcell hB2; replace hB1 := hB1) | (go_at_call 72; refine (l1In _ _ _ _).mono ?_; rintro _ w1 ⟨rfl, rfl⟩))
      go_roundw
      case rel => exact ⟨i + 1, by omega, by go_num, fun r hr u hu => (by
        rcases Nat.lt_or_ge r i with h1 | h1
        · exact hall.out r h1 u hu
        · rw [show r = i by omega, hX.out] at hu
          simp only [Option.some.injEq] at hu
          rw [← hu]; exact hgs.out), by (repeat' (first | (with_reducible exact bel_refl _) | (with_reducible assumption) | (with_reducible refine bel_drew ?_) | (with_reducible refine bel_drewN ?_) | (with_reducible refine bel_alloc ?_) | (with_reducible refine bel_set ?_ ?_) | (with_reducible refine bel_trans ?_ (by with_reducible assumption)) | omega | (simp; done) | (simp; omega)))⟩
      case measure => simp [intOf]; omega
    · have e : i = n := by omega
      subst e
      have hR : Hid (ensB xs = inB i 1 4) := by
        show _ = _
        rw [ensB, hlh.out, all_yes (fun r u hu => hall.out r (by have h1 := (List.getElem?_eq_some_iff.1 hu).1; rw [hlh.out] at h1; exact h1) u hu), Bool.and_true]
      go_wp2_with (go_at_call 72; refine (l1In _ _ _ _).mono ?_; rintro _ w1 ⟨rfl, rfl⟩)
      go_ret
      exact ⟨ret_bool hR.out.symm, by (repeat' (first | (with_reducible exact bel_refl _) | (with_reducible assumption) | (with_reducible refine bel_drew ?_) | (with_reducible refine bel_drewN ?_) | (with_reducible refine bel_alloc ?_) | (with_reducible refine bel_set ?_ ?_) | (with_reducible refine bel_trans ?_ (by with_reducible assumption)) | omega | (simp; done) | (simp; omega)))⟩
end Go.Proofs.Ytdfjfopbhlbmkaa
