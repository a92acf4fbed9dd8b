/-
  Whether places, roads, groups and shelters are a case: of the program and of the reference, walked.
-/
import Derived.Test.YtcgjdkkfecbgkaaCaseWalks
namespace Go.Proofs.Ytcgjdkkfecbgkaa
open Go.RowKit

def caseB (p : Int) (xs : List Road) (gs : List Group) (ss : List Shelter) : Bool :=
  netB p xs && (inB gs.length 1 4 && groupsB (p - 1) gs && decide (0 < ss.length)) && sheltersB (p - 1) ss
theorem wrap_small {p : Int} (h : 2 ≤ p ∧ p ≤ 7) : wrap64 (p - 1) = p - 1 := by unfold wrap64; omega

set_option maxHeartbeats 1000000 in
theorem caseI (p : Int) (A : Option Addr) (n c : Nat) (xs : List Road) (B : Option Addr) (m d : Nat) (gs : List Group) (D : Option Addr) (k e : Nat) (ss : List Shelter) (w : World) (hS : Sl w 4 A n c (xs.flatMap Road.row)) (hn : n ≤ 1048576) (hG : Sl w 3 B m d (gs.flatMap Group.row)) (hm : m ≤ 1048576) (hH : Sl w 2 D k e (ss.flatMap Shelter.row)) (hk : k ≤ 1048576) :
    Calls Try.prog 11 #[.int .i64 p, .slice A n c, .slice B m d, .slice D k e] w fun e w' => e = .returned (.bool (caseB p xs gs ss)) ∧ Below w.heap.size w w' := by
  have hB2 := bel_refl (w.alloc (.cells #[.int .i64 p] 3))
  have hcm : (w.alloc (.cells #[.int .i64 p] 3)).cell? ⟨w.heap.size, 0, none⟩ = some (.int .i64 p) := by rw [cell_of_row _ _ 0 _ _ (0, 0) (heap_alloc_new w _)]; rfl
  have hps : w.heap.size < (w.alloc (.cells #[.int .i64 p] 3)).heap.size := by simp
  have hmf : ∀ (fn : Fn) (first cap : Array Value) (w : World), (Instr.makeFunc fn first cap).run Try.prog w = .ok (.func fn first cap) w := fun _ _ _ _ => rfl
  have hlg := hid (hG.xs_len Group.row_len (by omega))
  have hls := hid (hH.xs_len Shelter.row_len (by omega))
  have hR : Hid (caseB p xs gs ss = (netB p xs && (inB m 1 4 && groupsB (wrap64 (p - 1)) gs && decide (0 < k)) && sheltersB (wrap64 (p - 1)) ss)) := by
    show _ = _
    rw [caseB, hlg.out, hls.out]
    rcases hg : netB p xs with _ | _
    · simp only [Bool.false_and]
    · have := netB_bd hg
      rw [wrap_small (by omega)]
  go_enter Try.func11, Try.ntmps11
  go_wp2_with (first | (go_at_call 20; refine (isIn _ _ _ _).mono ?_; rintro _ w1 ⟨rfl, rfl⟩) | (go_at_call 23; refine (allGroup _ _ _ gs p w.heap.size _ (hG.bel (by (repeat' (first | (with_reducible exact bel_refl _) | (with_reducible assumption) | (with_reducible refine bel_drew ?_) | (with_reducible refine bel_drewN ?_) | (with_reducible refine bel_alloc ?_) | (with_reducible refine bel_set ?_ ?_) | (with_reducible refine bel_trans ?_ (by with_reducible assumption)) | omega | (simp; done) | (simp; omega))))) hm hps hcm).mono ?_; rintro _ w1 ⟨rfl, hB1⟩; (first | (with_reducible replace hB2 := bel_trans hB2 hB1) | (with_reducible replace hB2 := bel_trans (bel_alloc hB2) hB1)); obtain ⟨hC1, hF1⟩ := bcell hB2; replace hB1 := hB1) | (go_at_call 24; refine (isNetworkI _ _ _ _ _ _ (hS.bel (by (repeat' (first | (with_reducible exact bel_refl _) | (with_reducible assumption) | (with_reducible refine bel_drew ?_) | (with_reducible refine bel_drewN ?_) | (with_reducible refine bel_alloc ?_) | (with_reducible refine bel_set ?_ ?_) | (with_reducible refine bel_trans ?_ (by with_reducible assumption)) | omega | (simp; done) | (simp; omega))))) hn).mono ?_; rintro _ w1 ⟨rfl, hB1⟩; (first | (with_reducible replace hB2 := bel_trans hB2 hB1) | (with_reducible replace hB2 := bel_trans (bel_alloc hB2) hB1)); obtain ⟨hC1, hF1⟩ := bcell hB2; replace hB1 := hB1) | (go_at_call 25; refine (areListedSh _ _ _ ss p w.heap.size _ (hH.bel (by (repeat' (first | (with_reducible exact bel_refl _) | (with_reducible assumption) | (with_reducible refine bel_drew ?_) | (with_reducible refine bel_drewN ?_) | (with_reducible refine bel_alloc ?_) | (with_reducible refine bel_set ?_ ?_) | (with_reducible refine bel_trans ?_ (by with_reducible assumption)) | omega | (simp; done) | (simp; omega))))) hk (Nat.lt_of_lt_of_le hps hB2.size) ((hC1 _ _ hps).trans hcm)).mono ?_; rintro _ w1 ⟨rfl, hB1⟩; (first | (with_reducible replace hB2 := bel_trans hB2 hB1) | (with_reducible replace hB2 := bel_trans (bel_alloc hB2) hB1)); obtain ⟨hC1, hF1⟩ := bcell hB2; replace hB1 := hB1))
  all_goals go_ret
  all_goals (refine ⟨?_, by (repeat' (first | (with_reducible exact bel_refl _) | (with_reducible assumption) | (with_reducible refine bel_drew ?_) | (with_reducible refine bel_drewN ?_) | (with_reducible refine bel_alloc ?_) | (with_reducible refine bel_set ?_ ?_) | (with_reducible refine bel_trans ?_ (by with_reducible assumption)) | omega | (simp; done) | (simp; omega)))⟩; refine ret_bool ?_; rw [hR.out]; clear hR hS hn hG hm hH hk hlg hls hcm hps hmf; simp [*]; try omega)
theorem case_net {p : Int} {xs : List Road} {gs : List Group} {ss : List Shelter} (h : netB p xs = false) : caseB p xs gs ss = false := by simp [caseB, h]
theorem case_len {p : Int} {xs : List Road} {gs : List Group} {ss : List Shelter} (h : inB gs.length 1 4 = false) : caseB p xs gs ss = false := by simp [caseB, h]
theorem case_room {p : Int} {xs : List Road} {gs : List Group} {ss : List Shelter} (h : inB ss.length 1 3 = false) : caseB p xs gs ss = false := by
  rcases inB_no.1 h with g | g
  · simp only [caseB, show ¬ 0 < ss.length by omega, decide_false, Bool.and_false, Bool.false_and]
  · simp only [caseB, sheltersB, show ¬ ss.length ≤ 3 by omega, decide_false, Bool.and_false]
theorem case_group {p : Int} {xs : List Road} {gs : List Group} {ss : List Shelter} {i : Nat} {x : Group} (hx : gs[i]? = some x) (h : goodG (p - 1) x = false) : caseB p xs gs ss = false := by simp [caseB, groupsB_no hx h]
theorem case_shelter {p : Int} {xs : List Road} {gs : List Group} {ss : List Shelter} {i : Nat} (hi : i < ss.length) (h : badAt (goodSh (p - 1)) clashSh ss i = true) : caseB p xs gs ss = false := by simp [caseB, sheltersB, noneBad_no hi h]
theorem case_yes {p : Int} {xs : List Road} {gs : List Group} {ss : List Shelter} (h1 : netB p xs = true) (h2 : inB gs.length 1 4 = true) (h3 : inB ss.length 1 3 = true) (h4 : ∀ (i : Nat) (x : Group), gs[i]? = some x → goodG (p - 1) x = true) (h5 : ∀ r, r < ss.length → badAt (goodSh (p - 1)) clashSh ss r = false) : caseB p xs gs ss = true := by
  have h6 := inB_iff.1 h3
  simp only [caseB, h1, h2, groupsB_yes h4, sheltersB, noneBad_yes h5, Bool.true_and, Bool.and_true, decide_eq_true_eq, Bool.and_eq_true]
  omega

set_option maxHeartbeats 4000000 in
theorem l13Good (p : Int) (A : Option Addr) (n c : Nat) (xs : List Road) (B : Option Addr) (m d : Nat) (gs : List Group) (D : Option Addr) (k e : Nat) (ss : List Shelter) (w : World) (hS : Sl w 4 A n c (xs.flatMap Road.row)) (hn : n ≤ 1048576) (hG : Sl w 3 B m d (gs.flatMap Group.row)) (hm : m ≤ 1048576) (hH : Sl w 2 D k e (ss.flatMap Shelter.row)) (hk : k ≤ 1048576) :
    Calls Try.prog 15 #[.int .i64 p, .slice A n c, .slice B m d, .slice D k e] w fun e w' => e = .returned (.bool (caseB p xs gs ss)) ∧ Below w.heap.size w w' := by
  have hB2 := bel_refl w
  have hlg := hid (hG.xs_len Group.row_len (by omega))
  have hls := hid (hH.xs_len Shelter.row_len (by omega))
  rcases hg : netB p xs with _ | _
  · have hR := hid (case_net (gs := gs) (ss := ss) hg)
    go_enter Try.func15, Try.ntmps15
    go_wp2_with (go_at_call 30; refine (l12Good _ _ _ _ _ _ hS (by omega)).mono ?_; rintro _ w1 ⟨rfl, hB1⟩; (first | (with_reducible replace hB2 := bel_trans hB2 hB1) | (with_reducible replace hB2 := bel_trans (bel_alloc hB2) hB1)); obtain ⟨hC1, hF1⟩ := bcell hB2; replace hB1 := hB1)
    go_ret
    exact ⟨ret_bool hR.out.symm, by (repeat' (first | (with_reducible exact bel_refl _) | (with_reducible assumption) | (with_reducible refine bel_drew ?_) | (with_reducible refine bel_drewN ?_) | (with_reducible refine bel_alloc ?_) | (with_reducible refine bel_set ?_ ?_) | (with_reducible refine bel_trans ?_ (by with_reducible assumption)) | omega | (simp; done) | (simp; omega)))⟩
  rcases hm1 : inB m 1 4 with _ | _
  · have hR := hid (case_len (p := p) (xs := xs) (gs := gs) (ss := ss) (by rw [hlg.out]; exact hm1))
    go_enter Try.func15, Try.ntmps15
    go_wp2_with (first | (go_at_call 30; refine (l12Good _ _ _ _ _ _ hS (by omega)).mono ?_; rintro _ w1 ⟨rfl, hB1⟩; (first | (with_reducible replace hB2 := bel_trans hB2 hB1) | (with_reducible replace hB2 := bel_trans (bel_alloc hB2) hB1)); obtain ⟨hC1, hF1⟩ := bcell hB2; replace hB1 := hB1) | (go_at_call 31; refine (l1In _ _ _ _).mono ?_; rintro _ w1 ⟨rfl, rfl⟩))
    go_ret
    exact ⟨ret_bool hR.out.symm, by (repeat' (first | (with_reducible exact bel_refl _) | (with_reducible assumption) | (with_reducible refine bel_drew ?_) | (with_reducible refine bel_drewN ?_) | (with_reducible refine bel_alloc ?_) | (with_reducible refine bel_set ?_ ?_) | (with_reducible refine bel_trans ?_ (by with_reducible assumption)) | omega | (simp; done) | (simp; omega)))⟩
  rcases hk1 : inB k 1 3 with _ | _
  · have hR := hid (case_room (p := p) (xs := xs) (gs := gs) (ss := ss) (by rw [hls.out]; exact hk1))
    go_enter Try.func15, Try.ntmps15
    go_wp2_with (first | (go_at_call 30; refine (l12Good _ _ _ _ _ _ hS (by omega)).mono ?_; rintro _ w1 ⟨rfl, hB1⟩; (first | (with_reducible replace hB2 := bel_trans hB2 hB1) | (with_reducible replace hB2 := bel_trans (bel_alloc hB2) hB1)); obtain ⟨hC1, hF1⟩ := bcell hB2; replace hB1 := hB1) | (go_at_call 31; refine (l1In _ _ _ _).mono ?_; rintro _ w1 ⟨rfl, rfl⟩))
    go_ret
    exact ⟨ret_bool hR.out.symm, by (repeat' (first | (with_reducible exact bel_refl _) | (with_reducible assumption) | (with_reducible refine bel_drew ?_) | (with_reducible refine bel_drewN ?_) | (with_reducible refine bel_alloc ?_) | (with_reducible refine bel_set ?_ ?_) | (with_reducible refine bel_trans ?_ (by with_reducible assumption)) | omega | (simp; done) | (simp; omega)))⟩
  have hp := netB_bd hg
  have hyes := hid (case_yes (p := p) (xs := xs) (gs := gs) (ss := ss) hg (by rw [hlg.out]; exact hm1) (by rw [hls.out]; exact hk1))
  go_enter Try.func15, Try.ntmps15
  go_wp2_with (first | (go_at_call 30; refine (l12Good _ _ _ _ _ _ hS (by omega)).mono ?_; rintro _ w1 ⟨rfl, hB1⟩; (first | (with_reducible replace hB2 := bel_trans hB2 hB1) | (with_reducible replace hB2 := bel_trans (bel_alloc hB2) hB1)); obtain ⟨hC1, hF1⟩ := bcell hB2; replace hB1 := hB1) | (go_at_call 31; refine (l1In _ _ _ _).mono ?_; rintro _ w1 ⟨rfl, rfl⟩))
  go_loopw [9] (fun v wr => ∃ i : Nat, i ≤ m ∧ v = .int .i64 i ∧ (Hid (∀ r, r < i → ∀ u, gs[r]? = some u → goodG (p - 1) u = true)) ∧ Below w.heap.size w wr) (fun v _ => m - (intOf v).toNat)
  case atStart => exact ⟨0, by omega, rfl, fun r hr => absurd hr (by omega), by (repeat' (first | (with_reducible exact bel_refl _) | (with_reducible assumption) | (with_reducible refine bel_drew ?_) | (with_reducible refine bel_drewN ?_) | (with_reducible refine bel_alloc ?_) | (with_reducible refine bel_set ?_ ?_) | (with_reducible refine bel_trans ?_ (by with_reducible assumption)) | omega | (simp; done) | (simp; omega)))⟩
  case round =>
    obtain ⟨i, hi', rfl, hall, hB⟩ := hrel
    have hi0 : (0 : Int) ≤ (i : Int) := by omega
    by_cases hlt : i < m
    · obtain ⟨x, hx⟩ : ∃ x, gs[i]? = some x := get_of_lt (by rw [hlg.out]; exact hlt)
      obtain ⟨b, o, rfl, hb, c0, c1, c2⟩ := (hG.bel hB).group hx
      have hX := hid hx
      clear hx
      have hB2 := bel_refl (wr.alloc (.cells #[.int .i64 x.place, .int .i64 x.people, .int .i64 x.ready] 44))
      have hi1 : (i : Int) < (m : Int) := by omega
      rcases g1 : inB x.place 0 (p - 1) with _ | _
      · have hR := hid (case_group (xs := xs) (ss := ss) hX.out (show goodG (p - 1) x = false by simp [goodG, g1]))
        go_wp2_with (first | (go_at_call 31; refine (l1In _ _ _ _).mono ?_; rintro _ w1 ⟨rfl, rfl⟩) | (go_at_call 32; refine (l12Minute _ _).mono ?_; rintro _ w1 ⟨rfl, rfl⟩))
        go_ret
        exact ⟨ret_bool hR.out.symm, by (repeat' (first | (with_reducible exact bel_refl _) | (with_reducible assumption) | (with_reducible refine bel_drew ?_) | (with_reducible refine bel_drewN ?_) | (with_reducible refine bel_alloc ?_) | (with_reducible refine bel_set ?_ ?_) | (with_reducible refine bel_trans ?_ (by with_reducible assumption)) | omega | (simp; done) | (simp; omega)))⟩
      rcases g2 : inB x.people 1 100 with _ | _
      · have hR := hid (case_group (xs := xs) (ss := ss) hX.out (show goodG (p - 1) x = false by simp [goodG, g2]))
        go_wp2_with (first | (go_at_call 31; refine (l1In _ _ _ _).mono ?_; rintro _ w1 ⟨rfl, rfl⟩) | (go_at_call 32; refine (l12Minute _ _).mono ?_; rintro _ w1 ⟨rfl, rfl⟩))
        go_ret
        exact ⟨ret_bool hR.out.symm, by (repeat' (first | (with_reducible exact bel_refl _) | (with_reducible assumption) | (with_reducible refine bel_drew ?_) | (with_reducible refine bel_drewN ?_) | (with_reducible refine bel_alloc ?_) | (with_reducible refine bel_set ?_ ?_) | (with_reducible refine bel_trans ?_ (by with_reducible assumption)) | omega | (simp; done) | (simp; omega)))⟩
      rcases g3 : inB x.ready 0 999 with _ | _
      · have hR := hid (case_group (xs := xs) (ss := ss) hX.out (show goodG (p - 1) x = false by simp [goodG, g3]))
        go_wp2_with (first | (go_at_call 31; refine (l1In _ _ _ _).mono ?_; rintro _ w1 ⟨rfl, rfl⟩) | (go_at_call 32; refine (l12Minute _ _).mono ?_; rintro _ w1 ⟨rfl, rfl⟩))
        go_ret
        exact ⟨ret_bool hR.out.symm, by (repeat' (first | (with_reducible exact bel_refl _) | (with_reducible assumption) | (with_reducible refine bel_drew ?_) | (with_reducible refine bel_drewN ?_) | (with_reducible refine bel_alloc ?_) | (with_reducible refine bel_set ?_ ?_) | (with_reducible refine bel_trans ?_ (by with_reducible assumption)) | omega | (simp; done) | (simp; omega)))⟩
      go_wp2_with (first | (go_at_call 31; refine (l1In _ _ _ _).mono ?_; rintro _ w1 ⟨rfl, rfl⟩) | (go_at_call 32; refine (l12Minute _ _).mono ?_; rintro _ w1 ⟨rfl, rfl⟩))
      go_roundw
      case rel => exact ⟨i + 1, by omega, by go_num, fun r hr u hu => (by
        rcases Nat.lt_or_ge r i with h1 | h1
        · exact hall.out r h1 u hu
        · rw [show r = i by omega, hX.out] at hu
          simp only [Option.some.injEq] at hu
          rw [← hu]; simp [goodG, g1, g2, g3]), by (repeat' (first | (with_reducible exact bel_refl _) | (with_reducible assumption) | (with_reducible refine bel_drew ?_) | (with_reducible refine bel_drewN ?_) | (with_reducible refine bel_alloc ?_) | (with_reducible refine bel_set ?_ ?_) | (with_reducible refine bel_trans ?_ (by with_reducible assumption)) | omega | (simp; done) | (simp; omega)))⟩
      case measure => simp [intOf]; omega
    · have hyes2 := hid (hyes.out (fun r u hu => hall.out r (by have h1 := (List.getElem?_eq_some_iff.1 hu).1; rw [hlg.out] at h1; omega) u hu))
      clear hyes
      go_wp2
      go_loopw [11] (fun v ws => ∃ i : Nat, i ≤ k ∧ v = .int .i64 i ∧ (Hid (∀ r, r < i → badAt (goodSh (p - 1)) clashSh ss r = false)) ∧ Below w.heap.size w ws) (fun v _ => k - (intOf v).toNat)
      case atStart => exact ⟨0, by omega, rfl, fun r hr => absurd hr (by omega), by (repeat' (first | (with_reducible exact bel_refl _) | (with_reducible assumption) | (with_reducible refine bel_drew ?_) | (with_reducible refine bel_drewN ?_) | (with_reducible refine bel_alloc ?_) | (with_reducible refine bel_set ?_ ?_) | (with_reducible refine bel_trans ?_ (by with_reducible assumption)) | omega | (simp; done) | (simp; omega)))⟩
      case round =>
        obtain ⟨i, hi', rfl, hno, hB⟩ := hrel
        by_cases hlt : i < k
        · obtain ⟨x, hx⟩ : ∃ x, ss[i]? = some x := get_of_lt (by rw [hls.out]; exact hlt)
          obtain ⟨b, o, rfl, hb, c0, c1⟩ := (hH.bel hB).shelter hx
          have hX := hid hx
          clear hx
          have hB2 := bel_refl (wr.alloc (.cells #[.int .i64 x.place, .int .i64 x.room] 48))
          have hi0 : (0 : Int) ≤ (i : Int) := by omega
          have hi1 : (i : Int) < (k : Int) := by omega
          rcases h1 : inB x.place 0 (p - 1) with _ | _
          · have hR := hid (case_shelter (xs := xs) (gs := gs) (by rw [hls.out]; exact hlt) (badAt_ill (clash := clashSh) hX.out (show goodSh (p - 1) x = false by simp [goodSh, h1])))
            go_wp2_with fail
            (refine wp_region_bel (by kernel_rfl) (by kernel_rfl) ?_; have hD := bel_cells hB2; (repeat (go_big_quiet_step (((go_at_call 31; exact calls_bel_same (l1In _ _ _ _)))))); refine wpQuiet_nil ?_; intro w1 hB1; replace hB2 := bel_trans hB2 hB1; obtain ⟨hC1, hF1⟩ := bcell hB2; clear hD; replace hB1 := hB1)
            go_wp2
            go_ret
            exact ⟨ret_bool hR.out.symm, by (repeat' (first | (with_reducible exact bel_refl _) | (with_reducible assumption) | (with_reducible refine bel_drew ?_) | (with_reducible refine bel_drewN ?_) | (with_reducible refine bel_alloc ?_) | (with_reducible refine bel_set ?_ ?_) | (with_reducible refine bel_trans ?_ (by with_reducible assumption)) | omega | (simp; done) | (simp; omega)))⟩
          rcases h2 : inB x.room 0 400 with _ | _
          · have hR := hid (case_shelter (xs := xs) (gs := gs) (by rw [hls.out]; exact hlt) (badAt_ill (clash := clashSh) hX.out (show goodSh (p - 1) x = false by simp [goodSh, h2])))
            go_wp2_with fail
            (refine wp_region_bel (by kernel_rfl) (by kernel_rfl) ?_; have hD := bel_cells hB2; (repeat (go_big_quiet_step (((go_at_call 31; exact calls_bel_same (l1In _ _ _ _)))))); refine wpQuiet_nil ?_; intro w1 hB1; replace hB2 := bel_trans hB2 hB1; obtain ⟨hC1, hF1⟩ := bcell hB2; clear hD; replace hB1 := hB1)
            go_wp2
            go_ret
            exact ⟨ret_bool hR.out.symm, by (repeat' (first | (with_reducible exact bel_refl _) | (with_reducible assumption) | (with_reducible refine bel_drew ?_) | (with_reducible refine bel_drewN ?_) | (with_reducible refine bel_alloc ?_) | (with_reducible refine bel_set ?_ ?_) | (with_reducible refine bel_trans ?_ (by with_reducible assumption)) | omega | (simp; done) | (simp; omega)))⟩
          have hgs := hid (show goodSh (p - 1) x = true by simp [goodSh, h1, h2])
          rcases i with _ | j
          · simp only [Nat.zero_mul, Nat.add_zero] at c0 c1
            go_wp2_with fail
            (refine wp_region_bel (by kernel_rfl) (by kernel_rfl) ?_; have hD := bel_cells hB2; (repeat (go_big_quiet_step (((go_at_call 31; exact calls_bel_same (l1In _ _ _ _)))))); refine wpQuiet_nil ?_; intro w1 hB1; replace hB2 := bel_trans hB2 hB1; obtain ⟨hC1, hF1⟩ := bcell hB2; clear hD; replace hB1 := hB1)
            go_wp2
            go_roundw
            case rel => exact ⟨1, by omega, by go_num, noBad_snoc hno (badAt_first hX.out hgs.out), by (repeat' (first | (with_reducible exact bel_refl _) | (with_reducible assumption) | (with_reducible refine bel_drew ?_) | (with_reducible refine bel_drewN ?_) | (with_reducible refine bel_alloc ?_) | (with_reducible refine bel_set ?_ ?_) | (with_reducible refine bel_trans ?_ (by with_reducible assumption)) | omega | (simp; done) | (simp; omega)))⟩
            case measure => simp [intOf]; omega
          · obtain ⟨y, hy⟩ : ∃ y, ss[j]? = some y := get_of_lt (by rw [hls.out]; omega)
            obtain ⟨b', o', hbo, _, e0, e1⟩ := (hH.bel hB).shelter hy
            simp only [Option.some.injEq, Addr.mk.injEq, and_true] at hbo
            obtain ⟨rfl, rfl⟩ := hbo
            have hY := hid hy
            clear hy
            have hp0 : ((j + 1 : Nat) : Int) = (j : Int) + 1 := by omega
            rw [hp0] at hi0 hi1 ⊢
            clear hp0
            have hj0 : (0 : Int) ≤ (j : Int) := by omega
            have hj1 : (j : Int) < (k : Int) := by omega
            by_cases hle : x.place ≤ y.place
            · have hR := hid (case_shelter (p := p) (xs := xs) (gs := gs) (by rw [hls.out]; exact hlt) (show badAt (goodSh (p - 1)) clashSh ss (j + 1) = true by rw [badAt_next hX.out hY.out hgs.out]; simpa [clashSh] using hle))
              go_wp2_with fail
              (refine wp_region_bel (by kernel_rfl) (by kernel_rfl) ?_; have hD := bel_cells hB2; (repeat (go_big_quiet_step (((go_at_call 31; exact calls_bel_same (l1In _ _ _ _)))))); refine wpQuiet_nil ?_; intro w1 hB1; replace hB2 := bel_trans hB2 hB1; obtain ⟨hC1, hF1⟩ := bcell hB2; clear hD; replace hB1 := hB1)
              go_wp2
              go_ret
              exact ⟨ret_bool hR.out.symm, by (repeat' (first | (with_reducible exact bel_refl _) | (with_reducible assumption) | (with_reducible refine bel_drew ?_) | (with_reducible refine bel_drewN ?_) | (with_reducible refine bel_alloc ?_) | (with_reducible refine bel_set ?_ ?_) | (with_reducible refine bel_trans ?_ (by with_reducible assumption)) | omega | (simp; done) | (simp; omega)))⟩
            · go_wp2_with fail
              (refine wp_region_bel (by kernel_rfl) (by kernel_rfl) ?_; have hD := bel_cells hB2; (repeat (go_big_quiet_step (((go_at_call 31; exact calls_bel_same (l1In _ _ _ _)))))); refine wpQuiet_nil ?_; intro w1 hB1; replace hB2 := bel_trans hB2 hB1; obtain ⟨hC1, hF1⟩ := bcell hB2; clear hD; replace hB1 := hB1)
              go_wp2
              go_roundw
              case rel => exact ⟨j + 1 + 1, by omega, by go_num, noBad_snoc hno (by rw [badAt_next hX.out hY.out hgs.out]; simpa [clashSh] using hle), by (repeat' (first | (with_reducible exact bel_refl _) | (with_reducible assumption) | (with_reducible refine bel_drew ?_) | (with_reducible refine bel_drewN ?_) | (with_reducible refine bel_alloc ?_) | (with_reducible refine bel_set ?_ ?_) | (with_reducible refine bel_trans ?_ (by with_reducible assumption)) | omega | (simp; done) | (simp; omega)))⟩
              case measure => simp [intOf]; omega
        · have hB2 := hB
          have e : i = k := by omega
          subst e
          have hR := hid (hyes2.out (by rw [hls.out]; exact hno.out))
          go_wp2
          go_ret
          exact ⟨ret_bool hR.out.symm, by (repeat' (first | (with_reducible exact bel_refl _) | (with_reducible assumption) | (with_reducible refine bel_drew ?_) | (with_reducible refine bel_drewN ?_) | (with_reducible refine bel_alloc ?_) | (with_reducible refine bel_set ?_ ?_) | (with_reducible refine bel_trans ?_ (by with_reducible assumption)) | omega | (simp; done) | (simp; omega)))⟩
theorem caseS (p : Int) (A : Option Addr) (n c : Nat) (xs : List Road) (B : Option Addr) (m d : Nat) (gs : List Group) (D : Option Addr) (k e : Nat) (ss : List Shelter) (w : World) (hS : Sl w 4 A n c (xs.flatMap Road.row)) (hn : n ≤ 1048576) (hG : Sl w 3 B m d (gs.flatMap Group.row)) (hm : m ≤ 1048576) (hH : Sl w 2 D k e (ss.flatMap Shelter.row)) (hk : k ≤ 1048576) :
    Calls Try.prog 7 #[.int .i64 p, .slice A n c, .slice B m d, .slice D k e] w fun e w' => e = .returned (.bool (caseB p xs gs ss)) ∧ Below w.heap.size w w' := by
  have hB2 := bel_refl w
  go_enter Try.func7, Try.ntmps7
  go_wp2_with (go_at_call 15; refine (l13Good _ _ _ _ _ _ _ _ _ _ _ _ _ _ hS hn hG hm hH hk).mono ?_; rintro _ w1 ⟨rfl, hB1⟩; (first | (with_reducible replace hB2 := bel_trans hB2 hB1) | (with_reducible replace hB2 := bel_trans (bel_alloc hB2) hB1)); obtain ⟨hC1, hF1⟩ := bcell hB2; replace hB1 := hB1)
  go_ret
  exact ⟨rfl, by (repeat' (first | (with_reducible exact bel_refl _) | (with_reducible assumption) | (with_reducible refine bel_drew ?_) | (with_reducible refine bel_drewN ?_) | (with_reducible refine bel_alloc ?_) | (with_reducible refine bel_set ?_ ?_) | (with_reducible refine bel_trans ?_ (by with_reducible assumption)) | omega | (simp; done) | (simp; omega)))⟩
end Go.Proofs.Ytcgjdkkfecbgkaa
