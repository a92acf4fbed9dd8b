/-
  The last minute at which a trip can begin: of the program and of the reference, walked.
-/
import Derived.Test.YtfimchbjpambfaaRoadDepS
import Derived.Test.YtfimchbjpambfaaRoadPlace
import Derived.Test.YtfimchbjpambfaaRoadTrips
namespace Go.Proofs.Ytfimchbjpambfaa
open Go.RowKit

def clashL (y x : Int) : Bool := decide (x ≤ y)
def risesB (vs : List Int) : Bool := noneBad (badAt (fun _ => true) clashL vs) vs.length
def risesIn (lo hi : Int) (vs : List Int) : Bool := noneBad (badAt (fun v => inB v lo hi) clashL vs) vs.length
theorem risesIn_eq (p : Int) (vs : List Int) : risesIn 0 (p - 1) vs = (placesB p vs && risesB vs) := by
  rw [Bool.eq_iff_iff, Bool.and_eq_true]
  constructor
  · intro h
    refine ⟨placesB_yes fun i v hv => good_of (good := fun v => inB v 0 (p - 1)) (clash := clashL) h hv, ?_⟩
    refine noneBad_yes fun r hr => ?_
    obtain ⟨x, hx⟩ := get_of_lt hr
    rcases r with _ | r
    · exact badAt_first hx rfl
    · obtain ⟨y, hy⟩ := get_of_lt (xs := vs) (i := r) (by omega)
      rw [badAt_next hx hy rfl]
      exact clash_of (good := fun v => inB v 0 (p - 1)) (clash := clashL) h hx hy
  · rintro ⟨h1, h2⟩
    refine noneBad_yes fun r hr => ?_
    obtain ⟨x, hx⟩ := get_of_lt hr
    have hgd : inB x 0 (p - 1) = true := by
      rw [placesB, List.all_eq_true] at h1
      exact h1 x (List.mem_of_getElem? hx)
    rcases r with _ | r
    · exact badAt_first hx hgd
    · obtain ⟨y, hy⟩ := get_of_lt (xs := vs) (i := r) (by omega)
      rw [badAt_next hx hy hgd]
      exact clash_of (good := fun _ => true) (clash := clashL) h2 hx hy

theorem isRising (A : Option Addr) (n c : Nat) (vs : List Int) (w : World) (hS : Sl w 1 A n c (ints vs)) (hn : n ≤ 1048576) :
    Calls Try.prog 52 #[.slice A n c] w fun e w' => e = .returned (.bool (risesB vs)) ∧ Below w.heap.size w w' := by
  have hlh := hid hS.int_len
  go_enter Try.func52, Try.ntmps52
  go_wp2_with fail
  go_loopw [3] (fun v wr => ∃ j : Nat, (j + 1 ≤ n ∨ j = 0) ∧ v = .int .i64 ((j : Int) + 1) ∧ (Hid (∀ r, r < j + 1 → badAt (fun _ => true) clashL vs r = false)) ∧ Below w.heap.size w wr) (fun v _ => n + 1 - (intOf v).toNat)
  case atStart => exact ⟨0, Or.inr rfl, by go_num, fun r hr => (by
    rw [show r = 0 by omega]
    rcases hv : vs[0]? with _ | v
    · simp [badAt, hv]
    · exact badAt_first hv rfl), by (repeat' (first | (with_reducible exact bel_refl _) | (with_reducible assumption) | (with_reducible refine bel_drew ?_) | (with_reducible refine bel_drewN ?_) | (with_reducible refine bel_alloc ?_) | (with_reducible refine bel_set ?_ ?_) | (with_reducible refine bel_trans ?_ (by with_reducible assumption)) | omega | (simp; done) | (simp; omega)))⟩
  case round =>
    obtain ⟨j, hj', rfl, hno, hB⟩ := hrel
    have hB2 := bel_refl wr
    by_cases hlt : j + 1 < n
    · obtain ⟨x, hx⟩ : ∃ x, vs[j + 1]? = some x := get_of_lt (by rw [hlh.out]; exact hlt)
      obtain ⟨y, hy⟩ : ∃ y, vs[j]? = some y := get_of_lt (by rw [hlh.out]; omega)
      obtain ⟨b, o, rfl, hb, c0⟩ := (hS.bel hB).int_at hx
      obtain ⟨b', o', hbo, _, d0⟩ := (hS.bel hB).int_at hy
      simp only [Option.some.injEq, Addr.mk.injEq, and_true] at hbo
      obtain ⟨rfl, rfl⟩ := hbo
      have hbad := hid (badAt_next (good := fun _ => true) (clash := clashL) hx hy rfl)
      clear hx hy
      have hi0 : (0 : Int) ≤ (j : Int) + 1 := by omega
      have hi1 : (j : Int) + 1 < (n : Int) := by omega
      have hj0 : (0 : Int) ≤ (j : Int) := by omega
      have hj1 : (j : Int) < (n : Int) := by omega
      have htn : ((j : Int) + 1).toNat = j + 1 := by omega
      by_cases hle : x ≤ y
      · have hcl := hid (show clashL y x = true by simpa [clashL] using hle)
        go_wp2_with fail
        (refine wp_region_bel (by kernel_rfl) (by kernel_rfl) ?_; have hD := bel_cells hB2; (repeat (go_big_quiet_step ((fail)))); refine wpQuiet_nil ?_; intro w1 hB1; replace hB2 := bel_trans hB2 hB1; obtain ⟨hC1, hF1⟩ := bcell hB2; clear hD; replace hB1 := hB1)
        go_wp2
        go_ret
        refine ⟨?_, by (repeat' (first | (with_reducible exact bel_refl _) | (with_reducible assumption) | (with_reducible refine bel_drew ?_) | (with_reducible refine bel_drewN ?_) | (with_reducible refine bel_alloc ?_) | (with_reducible refine bel_set ?_ ?_) | (with_reducible refine bel_trans ?_ (by with_reducible assumption)) | omega | (simp; done) | (simp; omega)))⟩
        rw [risesB, noneBad_no (by rw [hlh.out]; exact hlt) (hbad.out.trans hcl.out)]
        rfl
      · have hcl := hid (show clashL y x = false by simpa [clashL] using hle)
        have hq : decide (x ≤ y) = false := decide_eq_false hle
        go_wp2_with fail
        (refine wp_region_bel (by kernel_rfl) (by kernel_rfl) ?_; have hD := bel_cells hB2; (repeat (go_big_quiet_step ((fail)))); refine wpQuiet_nil ?_; intro w1 hB1; replace hB2 := bel_trans hB2 hB1; obtain ⟨hC1, hF1⟩ := bcell hB2; clear hD; replace hB1 := hB1)
        go_wp2
        go_roundw
        case rel => exact ⟨j + 1, Or.inl (by omega), congrArg (Value.int .i64) (by omega), noBad_snoc hno (hbad.out.trans hcl.out), by (repeat' (first | (with_reducible exact bel_refl _) | (with_reducible assumption) | (with_reducible refine bel_drew ?_) | (with_reducible refine bel_drewN ?_) | (with_reducible refine bel_alloc ?_) | (with_reducible refine bel_set ?_ ?_) | (with_reducible refine bel_trans ?_ (by with_reducible assumption)) | omega | (simp; done) | (simp; omega)))⟩
        case measure => simp [intOf]; omega
    · go_wp2
      go_ret
      refine ⟨?_, by (repeat' (first | (with_reducible exact bel_refl _) | (with_reducible assumption) | (with_reducible refine bel_drew ?_) | (with_reducible refine bel_drewN ?_) | (with_reducible refine bel_alloc ?_) | (with_reducible refine bel_set ?_ ?_) | (with_reducible refine bel_trans ?_ (by with_reducible assumption)) | omega | (simp; done) | (simp; omega)))⟩
      rw [risesB, noneBad_yes (fun r hr => hno.out r (by rw [hlh.out] at hr; omega))]
      rfl
set_option maxHeartbeats 1000000 in
theorem l1Rising (A : Option Addr) (n c : Nat) (vs : List Int) (lo hi : Int) (w : World) (hS : Sl w 1 A n c (ints vs)) (hn : n ≤ 1048576) :
    Calls Try.prog 71 #[.slice A n c, .int .i64 lo, .int .i64 hi] w fun e w' => e = .returned (.bool (risesIn lo hi vs)) ∧ Below w.heap.size w w' := by
  have hlh := hid hS.int_len
  go_enter Try.func71, Try.ntmps71
  go_wp2_with fail
  go_loopw [7] (fun v wr => ∃ i : Nat, i ≤ n ∧ v = .int .i64 i ∧ (Hid (∀ r, r < i → badAt (fun v => inB v lo hi) clashL vs r = false)) ∧ Below w.heap.size w wr) (fun v _ => n - (intOf v).toNat)
  case atStart => exact ⟨0, by omega, rfl, fun r hr => absurd hr (by omega), by (repeat' (first | (with_reducible exact bel_refl _) | (with_reducible assumption) | (with_reducible refine bel_drew ?_) | (with_reducible refine bel_drewN ?_) | (with_reducible refine bel_alloc ?_) | (with_reducible refine bel_set ?_ ?_) | (with_reducible refine bel_trans ?_ (by with_reducible assumption)) | omega | (simp; done) | (simp; omega)))⟩
  case round =>
    obtain ⟨i, hi', rfl, hno, hB⟩ := hrel
    have hB2 := bel_refl wr
    by_cases hlt : i < n
    · obtain ⟨x, hx⟩ : ∃ x, vs[i]? = some x := get_of_lt (by rw [hlh.out]; exact hlt)
      obtain ⟨b, o, rfl, hb, c0⟩ := (hS.bel hB).int_at hx
      have hX := hid hx
      clear hx
      have hi0 : (0 : Int) ≤ (i : Int) := by omega
      have hi1 : (i : Int) < (n : Int) := by omega
      rcases hg : inB x lo hi with _ | _
      · go_wp2_with fail
        (refine wp_region_bel (by kernel_rfl) (by kernel_rfl) ?_; have hD := bel_cells hB2; (repeat (go_big_quiet_step (((go_at_call 65; exact calls_bel_same (l1In _ _ _ _)))))); refine wpQuiet_nil ?_; intro w1 hB1; replace hB2 := bel_trans hB2 hB1; obtain ⟨hC1, hF1⟩ := bcell hB2; clear hD; replace hB1 := hB1)
        go_wp2
        go_ret
        refine ⟨?_, by (repeat' (first | (with_reducible exact bel_refl _) | (with_reducible assumption) | (with_reducible refine bel_drew ?_) | (with_reducible refine bel_drewN ?_) | (with_reducible refine bel_alloc ?_) | (with_reducible refine bel_set ?_ ?_) | (with_reducible refine bel_trans ?_ (by with_reducible assumption)) | omega | (simp; done) | (simp; omega)))⟩
        rw [risesIn, noneBad_no (by rw [hlh.out]; exact hlt) (badAt_ill hX.out hg)]
        rfl
      · rcases i with _ | j
        · simp only [Nat.add_zero] at c0
          go_wp2_with fail
          (refine wp_region_bel (by kernel_rfl) (by kernel_rfl) ?_; have hD := bel_cells hB2; (repeat (go_big_quiet_step (((go_at_call 65; exact calls_bel_same (l1In _ _ _ _)))))); refine wpQuiet_nil ?_; intro w1 hB1; replace hB2 := bel_trans hB2 hB1; obtain ⟨hC1, hF1⟩ := bcell hB2; clear hD; replace hB1 := hB1)
          go_wp2
          go_roundw
          case rel => exact ⟨1, by omega, by go_num, noBad_snoc hno (badAt_first hX.out hg), by (repeat' (first | (with_reducible exact bel_refl _) | (with_reducible assumption) | (with_reducible refine bel_drew ?_) | (with_reducible refine bel_drewN ?_) | (with_reducible refine bel_alloc ?_) | (with_reducible refine bel_set ?_ ?_) | (with_reducible refine bel_trans ?_ (by with_reducible assumption)) | omega | (simp; done) | (simp; omega)))⟩
          case measure => simp [intOf]; omega
        · obtain ⟨y, hy⟩ : ∃ y, vs[j]? = some y := get_of_lt (by rw [hlh.out]; omega)
          obtain ⟨b', o', hbo, _, d0⟩ := (hS.bel hB).int_at hy
          simp only [Option.some.injEq, Addr.mk.injEq, and_true] at hbo
          obtain ⟨rfl, rfl⟩ := hbo
          have hbad := hid (badAt_next (good := fun v => inB v lo hi) (clash := clashL) hX.out hy hg)
          clear hy
          have hp0 : ((j + 1 : Nat) : Int) = (j : Int) + 1 := by omega
          rw [hp0] at hi0 hi1 ⊢
          clear hp0
          have hj0 : (0 : Int) ≤ (j : Int) := by omega
          have hj1 : (j : Int) < (n : Int) := by omega
          have htn : ((j : Int) + 1).toNat = j + 1 := by omega
          by_cases hle : x ≤ y
          · have hcl := hid (show clashL y x = true by simpa [clashL] using hle)
            go_wp2_with fail
            (refine wp_region_bel (by kernel_rfl) (by kernel_rfl) ?_; have hD := bel_cells hB2; (repeat (go_big_quiet_step (((go_at_call 65; exact calls_bel_same (l1In _ _ _ _)))))); refine wpQuiet_nil ?_; intro w1 hB1; replace hB2 := bel_trans hB2 hB1; obtain ⟨hC1, hF1⟩ := bcell hB2; clear hD; replace hB1 := hB1)
            go_wp2
            go_ret
            refine ⟨?_, by (repeat' (first | (with_reducible exact bel_refl _) | (with_reducible assumption) | (with_reducible refine bel_drew ?_) | (with_reducible refine bel_drewN ?_) | (with_reducible refine bel_alloc ?_) | (with_reducible refine bel_set ?_ ?_) | (with_reducible refine bel_trans ?_ (by with_reducible assumption)) | omega | (simp; done) | (simp; omega)))⟩
            rw [risesIn, noneBad_no (by rw [hlh.out]; exact hlt) (hbad.out.trans hcl.out)]
            rfl
          · have hcl := hid (show clashL y x = false by simpa [clashL] using hle)
            go_wp2_with fail
            (refine wp_region_bel (by kernel_rfl) (by kernel_rfl) ?_; have hD := bel_cells hB2; (repeat (go_big_quiet_step (((go_at_call 65; exact calls_bel_same (l1In _ _ _ _)))))); refine wpQuiet_nil ?_; intro w1 hB1; replace hB2 := bel_trans hB2 hB1; obtain ⟨hC1, hF1⟩ := bcell hB2; clear hD; replace hB1 := hB1)
            go_wp2
            go_roundw
            case rel => exact ⟨j + 1 + 1, by omega, by go_num, noBad_snoc hno (hbad.out.trans hcl.out), by (repeat' (first | (with_reducible exact bel_refl _) | (with_reducible assumption) | (with_reducible refine bel_drew ?_) | (with_reducible refine bel_drewN ?_) | (with_reducible refine bel_alloc ?_) | (with_reducible refine bel_set ?_ ?_) | (with_reducible refine bel_trans ?_ (by with_reducible assumption)) | omega | (simp; done) | (simp; omega)))⟩
            case measure => simp [intOf]; omega
    · go_wp2
      go_ret
      have e : i = n := by omega
      subst e
      refine ⟨?_, by (repeat' (first | (with_reducible exact bel_refl _) | (with_reducible assumption) | (with_reducible refine bel_drew ?_) | (with_reducible refine bel_drewN ?_) | (with_reducible refine bel_alloc ?_) | (with_reducible refine bel_set ?_ ?_) | (with_reducible refine bel_trans ?_ (by with_reducible assumption)) | omega | (simp; done) | (simp; omega)))⟩
      rw [risesIn, noneBad_yes (by rw [hlh.out]; exact hno.out)]
      rfl
theorem l12Targets (p : Int) (A B : Option Addr) (n c m d : Nat) (xs : List Road) (vs : List Int) (w : World) (hS : Sl w 4 A n c (xs.flatMap Road.row)) (hn : n ≤ 1048576) (hV : Sl w 1 B m d (ints vs)) (hm : m ≤ 1048576) :
    Calls Try.prog 55 #[.int .i64 p, .slice A n c, .slice B m d] w fun e w' => e = .returned (.bool (netB p xs && risesIn 0 (p - 1) vs)) ∧ Below w.heap.size w w' := by
  have hB2 := bel_refl w
  rcases hg : netB p xs with _ | _
  · go_enter Try.func55, Try.ntmps55
    go_wp2_with (go_at_call 42; refine (l12Good _ _ _ _ _ _ hS (by omega)).mono ?_; rintro _ w1 ⟨rfl, hB1⟩; (first | (with_reducible replace hB2 := bel_trans hB2 hB1) | (with_reducible replace hB2 := bel_trans (bel_alloc hB2) hB1)); obtain ⟨hC1, hF1⟩ := bcell hB2; replace hB1 := hB1)
    go_ret
    refine ⟨ret_bool (by simp), by (repeat' (first | (with_reducible exact bel_refl _) | (with_reducible assumption) | (with_reducible refine bel_drew ?_) | (with_reducible refine bel_drewN ?_) | (with_reducible refine bel_alloc ?_) | (with_reducible refine bel_set ?_ ?_) | (with_reducible refine bel_trans ?_ (by with_reducible assumption)) | omega | (simp; done) | (simp; omega)))⟩
  · have hp := netB_bd hg
    go_enter Try.func55, Try.ntmps55
    go_wp2_with (first | (go_at_call 42; refine (l12Good _ _ _ _ _ _ hS (by omega)).mono ?_; rintro _ w1 ⟨rfl, hB1⟩; (first | (with_reducible replace hB2 := bel_trans hB2 hB1) | (with_reducible replace hB2 := bel_trans (bel_alloc hB2) hB1)); obtain ⟨hC1, hF1⟩ := bcell hB2; replace hB1 := hB1) | (go_at_call 71; refine (l1Rising _ _ _ vs _ _ _ (hV.bel (by (repeat' (first | (with_reducible exact bel_refl _) | (with_reducible assumption) | (with_reducible refine bel_drew ?_) | (with_reducible refine bel_drewN ?_) | (with_reducible refine bel_alloc ?_) | (with_reducible refine bel_set ?_ ?_) | (with_reducible refine bel_trans ?_ (by with_reducible assumption)) | omega | (simp; done) | (simp; omega))))) hm).mono ?_; rintro _ w1 ⟨rfl, hB1⟩; (first | (with_reducible replace hB2 := bel_trans hB2 hB1) | (with_reducible replace hB2 := bel_trans (bel_alloc hB2) hB1)); obtain ⟨hC1, hF1⟩ := bcell hB2; replace hB1 := hB1))
    go_ret
    refine ⟨ret_bool (by simp), by (repeat' (first | (with_reducible exact bel_refl _) | (with_reducible assumption) | (with_reducible refine bel_drew ?_) | (with_reducible refine bel_drewN ?_) | (with_reducible refine bel_alloc ?_) | (with_reducible refine bel_set ?_ ?_) | (with_reducible refine bel_trans ?_ (by with_reducible assumption)) | omega | (simp; done) | (simp; omega)))⟩

def lastL (P : Nat) (xs : List Road) (F : Nat) (vs : List Int) : Int := vs.foldl (fun m v => max m (gi (arrD P xs v.toNat 999) F)) (-1)
theorem last_next {P : Nat} {xs : List Road} {F : Nat} {vs : List Int} {i : Nat} {v : Int} (hv : vs[i]? = some v) : lastL P xs F (vs.take (i + 1)) = max (lastL P xs F (vs.take i)) (gi (arrD P xs v.toNat 999) F) := by
  rw [List.take_add_one, hv]
  simp [lastL]
theorem arrD_arr {P : Nat} {xs : List Road} {F : Nat} (hg : ∀ r ∈ xs, goodR P r = true) (hF : F < P) : Arr P (arrD P xs F 999) := (arr_start hF (by omega)).runD hg P
theorem last_bd {P : Nat} {xs : List Road} {F : Nat} {vs : List Int} (hg : ∀ r ∈ xs, goodR P r = true) (hv : placesB P vs = true) : ∀ i, -1 ≤ lastL P xs F (vs.take i) ∧ lastL P xs F (vs.take i) ≤ 999
  | 0 => by simp [lastL]
  | i + 1 => by
    have ih := last_bd (F := F) hg hv i
    rcases hx : vs[i]? with _ | v
    · rw [List.take_add_one, hx]
      simpa using ih
    · rw [placesB, List.all_eq_true] at hv
      have h1 := inB_iff.1 (hv v (List.mem_of_getElem? hx))
      have h2 := (arrD_arr (F := v.toNat) hg (by omega)).bd F
      rw [last_next hx]
      omega
set_option maxHeartbeats 1000000 in
theorem lastMinuteI (A B : Option Addr) (n c m d P F : Nat) (xs : List Road) (vs : List Int) (w : World) (hS : Sl w 4 A n c (xs.flatMap Road.row)) (hV : Sl w 1 B m d (ints vs)) (hm : m ≤ 1048576) (hnet : netB P xs = true) (hpl : placesB P vs = true) (hF : F < P) :
    Calls Try.prog 54 #[.int .i64 P, .slice A n c, .int .i64 F, .slice B m d] w fun e w' => e = .returned (.int .i64 (lastL P xs F vs)) ∧ Below w.heap.size w w' := by
  have hlh := hid hV.int_len
  have hgm := hid (good_mem (netB_all hnet))
  have hbd := hid (last_bd (F := F) hgm.out hpl)
  have hnb := netB_bd hnet
  replace hnet := hid hnet
  replace hpl := hid hpl
  go_enter Try.func54, Try.ntmps54
  go_wp2_with fail
  go_loopw [9, 11, 14] (fun q _ v wr => ∃ i : Nat, i ≤ m ∧ v = .int .i64 i ∧ q = .int .i64 (lastL P xs F (vs.take i)) ∧ Below w.heap.size w wr) (fun _ _ v _ => m - (intOf v).toNat)
  case atStart => exact ⟨0, by omega, rfl, rfl, by (repeat' (first | (with_reducible exact bel_refl _) | (with_reducible assumption) | (with_reducible refine bel_drew ?_) | (with_reducible refine bel_drewN ?_) | (with_reducible refine bel_alloc ?_) | (with_reducible refine bel_set ?_ ?_) | (with_reducible refine bel_trans ?_ (by with_reducible assumption)) | omega | (simp; done) | (simp; omega)))⟩
  case round =>
    obtain ⟨i, hi', rfl, rfl, hB⟩ := hrel
    by_cases hlt : i < m
    · obtain ⟨v, hv⟩ : ∃ v, vs[i]? = some v := get_of_lt (by rw [hlh.out]; exact hlt)
      obtain ⟨b, o, rfl, hb, c0⟩ := (hV.bel hB).int_at hv
      have hvb : 0 ≤ v ∧ v ≤ (P : Int) - 1 := by
        have h1 := hpl.out
        rw [placesB, List.all_eq_true] at h1
        exact inB_iff.1 (h1 v (List.mem_of_getElem? hv))
      have hN := hid (last_next (P := P) (xs := xs) (F := F) hv)
      clear hv
      obtain ⟨V, rfl⟩ := Int.eq_ofNat_of_zero_le hvb.1
      have hVP : V < P := by omega
      have hbi := hbd.out i
      have hbv := (arrD_arr (F := V) hgm.out hVP).bd F
      have hi0 : (0 : Int) ≤ (i : Int) := by omega
      have hi1 : (i : Int) < (m : Int) := by omega
      have hF0 : (0 : Int) ≤ (F : Int) := by omega
      have hF1 : (F : Int) < (P : Int) := by omega
      go_wp2_with (first | (go_at_call 43; refine (depI _ _ _ P V xs _ (hS.bel hB) hnet.out hVP).mono ?_; rintro _ w2 ⟨A', c', rfl, hO, hb2⟩; obtain ⟨g, rfl, hgl, hgh⟩ := own_form hO.own (by omega); have f0 := own_gi hO.own hF) | fail)
      go_roundw
      case rel => exact ⟨i + 1, by omega, by go_num, by rw [hN.out]; rfl, by (repeat' (first | (with_reducible exact bel_refl _) | (with_reducible assumption) | (with_reducible refine bel_drew ?_) | (with_reducible refine bel_drewN ?_) | (with_reducible refine bel_alloc ?_) | (with_reducible refine bel_set ?_ ?_) | (with_reducible refine bel_trans ?_ (by with_reducible assumption)) | omega | (simp; done) | (simp; omega)))⟩
      case measure => simp [intOf]; omega
    · go_wp2
      go_ret
      have e : i = m := by omega
      subst e
      rw [List.take_of_length_le (by rw [hlh.out]; omega)]
      exact ⟨rfl, by (repeat' (first | (with_reducible exact bel_refl _) | (with_reducible assumption) | (with_reducible refine bel_drew ?_) | (with_reducible refine bel_drewN ?_) | (with_reducible refine bel_alloc ?_) | (with_reducible refine bel_set ?_ ?_) | (with_reducible refine bel_trans ?_ (by with_reducible assumption)) | omega | (simp; done) | (simp; omega)))⟩

set_option maxHeartbeats 1000000 in
theorem l12Last (A B : Option Addr) (n c m d P F : Nat) (xs : List Road) (vs : List Int) (w : World) (hS : Sl w 4 A n c (xs.flatMap Road.row)) (hV : Sl w 1 B m d (ints vs)) (hm : m ≤ 1048576) (hnet : netB P xs = true) (hpl : placesB P vs = true) (hF : F < P) :
    Calls Try.prog 57 #[.int .i64 P, .slice A n c, .int .i64 F, .slice B m d] w fun e w' => e = .returned (.int .i64 (lastL P xs F vs)) ∧ Below w.heap.size w w' := by
  have hlh := hid hV.int_len
  have hgm := hid (good_mem (netB_all hnet))
  have hbd := hid (last_bd (F := F) hgm.out hpl)
  have hnb := netB_bd hnet
  replace hnet := hid hnet
  replace hpl := hid hpl
  go_enter Try.func57, Try.ntmps57
  go_wp2_with fail
  go_loopw [9, 10] (fun q v wr => ∃ i : Nat, i ≤ m ∧ v = .int .i64 i ∧ q = .int .i64 (lastL P xs F (vs.take i)) ∧ Below w.heap.size w wr) (fun _ v _ => m - (intOf v).toNat)
  case atStart => exact ⟨0, by omega, rfl, rfl, by (repeat' (first | (with_reducible exact bel_refl _) | (with_reducible assumption) | (with_reducible refine bel_drew ?_) | (with_reducible refine bel_drewN ?_) | (with_reducible refine bel_alloc ?_) | (with_reducible refine bel_set ?_ ?_) | (with_reducible refine bel_trans ?_ (by with_reducible assumption)) | omega | (simp; done) | (simp; omega)))⟩
  case round =>
    obtain ⟨i, hi', rfl, rfl, hB⟩ := hrel
    by_cases hlt : i < m
    · obtain ⟨v, hv⟩ : ∃ v, vs[i]? = some v := get_of_lt (by rw [hlh.out]; exact hlt)
      obtain ⟨b, o, rfl, hb, c0⟩ := (hV.bel hB).int_at hv
      have hvb : 0 ≤ v ∧ v ≤ (P : Int) - 1 := by
        have h1 := hpl.out
        rw [placesB, List.all_eq_true] at h1
        exact inB_iff.1 (h1 v (List.mem_of_getElem? hv))
      have hN := hid (last_next (P := P) (xs := xs) (F := F) hv)
      clear hv
      obtain ⟨V, rfl⟩ := Int.eq_ofNat_of_zero_le hvb.1
      have hVP : V < P := by omega
      have hbi := hbd.out i
      have hbv := (arrD_arr (F := V) hgm.out hVP).bd F
      have hi0 : (0 : Int) ≤ (i : Int) := by omega
      have hi1 : (i : Int) < (m : Int) := by omega
      have hF0 : (0 : Int) ≤ (F : Int) := by omega
      have hF1 : (F : Int) < (P : Int) := by omega
      go_wp2_with (first | (go_at_call 44; refine (depS _ _ _ P V xs _ (hS.bel hB) hnet.out hVP).mono ?_; rintro _ w2 ⟨A', c', rfl, hO, hb2⟩; obtain ⟨g, rfl, hgl, hgh⟩ := own_form hO.own (by omega); have f0 := own_gi hO.own hF) | (go_at_call 72; refine (l1Most _ _ _).mono ?_; rintro _ w1 ⟨rfl, rfl⟩))
      go_roundw
      case rel => exact ⟨i + 1, by omega, by go_num, by rw [hN.out]; rfl, by (repeat' (first | (with_reducible exact bel_refl _) | (with_reducible assumption) | (with_reducible refine bel_drew ?_) | (with_reducible refine bel_drewN ?_) | (with_reducible refine bel_alloc ?_) | (with_reducible refine bel_set ?_ ?_) | (with_reducible refine bel_trans ?_ (by with_reducible assumption)) | omega | (simp; done) | (simp; omega)))⟩
      case measure => simp [intOf]; omega
    · go_wp2
      go_ret
      have e : i = m := by omega
      subst e
      rw [List.take_of_length_le (by rw [hlh.out]; omega)]
      exact ⟨rfl, by (repeat' (first | (with_reducible exact bel_refl _) | (with_reducible assumption) | (with_reducible refine bel_drew ?_) | (with_reducible refine bel_drewN ?_) | (with_reducible refine bel_alloc ?_) | (with_reducible refine bel_set ?_ ?_) | (with_reducible refine bel_trans ?_ (by with_reducible assumption)) | omega | (simp; done) | (simp; omega)))⟩

end Go.Proofs.Ytfimchbjpambfaa
