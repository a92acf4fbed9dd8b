/-
  Whether groups and shelters are a case: the closures of the program, walked.
-/
import Derived.Test.YtcgjdkkfecbgkaaRoadTop
import Derived.Test.YtcgjdkkfecbgkaaCaseData
namespace Go.Proofs.Ytcgjdkkfecbgkaa
open Go.RowKit

def goodG (q : Int) (x : Group) : Bool := inB x.place 0 q && inB x.people 1 100 && inB x.ready 0 999
def goodSh (q : Int) (x : Shelter) : Bool := inB x.place 0 q && inB x.room 0 400
def groupsB (q : Int) (xs : List Group) : Bool := xs.all (goodG q)
theorem groupsB_no {q : Int} {xs : List Group} {i : Nat} {x : Group} (hx : xs[i]? = some x) (h : goodG q x = false) : groupsB q xs = false := by
  rw [groupsB, List.all_eq_false]
  exact ⟨x, List.mem_of_getElem? hx, by simp [h]⟩
theorem groupsB_yes {q : Int} {xs : List Group} (h : ∀ (i : Nat) (x : Group), xs[i]? = some x → goodG q x = true) : groupsB q xs = true := by
  rw [groupsB, List.all_eq_true]
  intro x hx
  obtain ⟨i, hi⟩ := List.getElem?_of_mem hx
  exact h i x hi
theorem cell_past {w : World} {o : Obj} {b : Nat} {v : Value} (h : b < w.heap.size) (hc : w.cell? ⟨b, 0, none⟩ = some v) : (w.alloc o).cell? ⟨b, 0, none⟩ = some v := by rw [World.cell?_alloc_past _ _ _ h]; exact hc
theorem cloGroup (x : Group) (p : Int) (pb : Nat) (w : World) (hpb : pb < w.heap.size) (hc : w.cell? ⟨pb, 0, none⟩ = some (.int .i64 p)) :
    Calls Try.prog 19 #[.agg #[.int .i64 x.place, .int .i64 x.people, .int .i64 x.ready], .pointer (some ⟨pb, 0, none⟩)] w fun e w' => e = .returned (.bool (goodG (wrap64 (p - 1)) x)) ∧ Below w.heap.size w w' := by
  have hc1 := cell_past (o := .cells #[.int .i64 x.place, .int .i64 x.people, .int .i64 x.ready] 44) hpb hc
  go_enter Try.func19, Try.ntmps19
  go_wp2_with (first | (go_at_call 20; refine (isIn _ _ _ _).mono ?_; rintro _ w1 ⟨rfl, rfl⟩) | (go_at_call 21; refine (isMinute _ _).mono ?_; rintro _ w1 ⟨rfl, rfl⟩))
  all_goals go_ret
  all_goals (refine ⟨ret_bool ?_, by (repeat' (first | (with_reducible exact bel_refl _) | (with_reducible assumption) | (with_reducible refine bel_drew ?_) | (with_reducible refine bel_drewN ?_) | (with_reducible refine bel_alloc ?_) | (with_reducible refine bel_set ?_ ?_) | (with_reducible refine bel_trans ?_ (by with_reducible assumption)) | omega | (simp; done) | (simp; omega)))⟩; simp [goodG, *])
theorem cloAllG (x : Group) (p : Int) (pb hb : Nat) (w : World) (hpb : pb < w.heap.size) (hc : w.cell? ⟨pb, 0, none⟩ = some (.int .i64 p)) (hhb : hb < w.heap.size) (hf : w.cell? ⟨hb, 0, none⟩ = some (.func (.func 19) #[] #[.pointer (some ⟨pb, 0, none⟩)])) :
    Calls Try.prog 34 #[.agg #[.int .i64 x.place, .int .i64 x.people, .int .i64 x.ready], .pointer (some ⟨hb, 0, none⟩)] w fun e w' => e = .returned (.bool (!goodG (wrap64 (p - 1)) x)) ∧ Below w.heap.size w w' := by
  have hc1 := cell_past (o := .cells #[.int .i64 x.place, .int .i64 x.people, .int .i64 x.ready] 44) hpb hc
  have hf1 := cell_past (o := .cells #[.int .i64 x.place, .int .i64 x.people, .int .i64 x.ready] 44) hhb hf
  have hB2 := bel_refl (w.alloc (.cells #[.int .i64 x.place, .int .i64 x.people, .int .i64 x.ready] 44))
  have hs : pb < (w.alloc (.cells #[.int .i64 x.place, .int .i64 x.people, .int .i64 x.ready] 44)).heap.size := by simp; omega
  go_enter Try.func34, Try.ntmps34
  go_wp2_with (go_at_call 19; refine (cloGroup x p pb _ hs hc1).mono ?_; rintro _ w1 ⟨rfl, hB1⟩; (first | (with_reducible replace hB2 := bel_trans hB2 hB1) | (with_reducible replace hB2 := bel_trans (bel_alloc hB2) hB1)); obtain ⟨hC1, hF1⟩ := bcell hB2; replace hB1 := hB1)
  go_ret
  exact ⟨rfl, by (repeat' (first | (with_reducible exact bel_refl _) | (with_reducible assumption) | (with_reducible refine bel_drew ?_) | (with_reducible refine bel_drewN ?_) | (with_reducible refine bel_alloc ?_) | (with_reducible refine bel_set ?_ ?_) | (with_reducible refine bel_trans ?_ (by with_reducible assumption)) | omega | (simp; done) | (simp; omega)))⟩
set_option maxHeartbeats 1000000 in
theorem indexGroup (A : Option Addr) (n c : Nat) (xs : List Group) (p : Int) (pb hb : Nat) (w : World) (hS : Sl w 3 A n c (xs.flatMap Group.row)) (hn : n ≤ 1048576) (hpb : pb < w.heap.size) (hc : w.cell? ⟨pb, 0, none⟩ = some (.int .i64 p)) (hhb : hb < w.heap.size) (hf : w.cell? ⟨hb, 0, none⟩ = some (.func (.func 19) #[] #[.pointer (some ⟨pb, 0, none⟩)])) :
    Calls Try.prog 35 #[.slice A n c, .func (.func 34) #[] #[.pointer (some ⟨hb, 0, none⟩)]] w fun e w' => ∃ k : Int, e = .returned (.int .i64 k) ∧ decide (0 ≤ k) = !groupsB (wrap64 (p - 1)) xs ∧ Below w.heap.size w w' := by
  have hlh := hid (hS.xs_len Group.row_len (by omega))
  go_enter Try.func35, Try.ntmps35
  go_wp2_with fail
  go_loopw [5, 8] (fun _ v wr => ∃ i : Nat, i ≤ n ∧ v = .int .i64 i ∧ (Hid (∀ r, r < i → ∀ u, xs[r]? = some u → goodG (wrap64 (p - 1)) u = true)) ∧ Below w.heap.size w wr) (fun _ v _ => n - (intOf v).toNat)
  case atStart => exact ⟨0, by omega, rfl, fun r hr => absurd hr (by omega), by (repeat' (first | (with_reducible exact bel_refl _) | (with_reducible assumption) | (with_reducible refine bel_drew ?_) | (with_reducible refine bel_drewN ?_) | (with_reducible refine bel_alloc ?_) | (with_reducible refine bel_set ?_ ?_) | (with_reducible refine bel_trans ?_ (by with_reducible assumption)) | omega | (simp; done) | (simp; omega)))⟩
  case round =>
    obtain ⟨i, hi', rfl, hall, hB⟩ := hrel
    have hB2 := bel_refl wr
    have hsz := hB.size
    have hcw := ((bcell hB).1 _ 0 hpb).trans hc
    have hfw := ((bcell hB).1 _ 0 hhb).trans hf
    by_cases hlt : i < n
    · obtain ⟨x, hx⟩ : ∃ x, xs[i]? = some x := get_of_lt (by rw [hlh.out]; exact hlt)
      obtain ⟨b, o, rfl, hb', c0, c1, c2⟩ := (hS.bel hB).group hx
      have hX := hid hx
      clear hx
      have hi0 : (0 : Int) ≤ (i : Int) := by omega
      have hi1 : (i : Int) < (n : Int) := by omega
      have hp1 : pb < wr.heap.size := by omega
      have hp2 : hb < wr.heap.size := by omega
      rcases hin : goodG (wrap64 (p - 1)) x with _ | _
      · go_wp2_with (go_at_call 34; refine (cloAllG x p pb hb _ hp1 hcw hp2 hfw).mono ?_; rintro _ w1 ⟨rfl, hB1⟩; (first | (with_reducible replace hB2 := bel_trans hB2 hB1) | (with_reducible replace hB2 := bel_trans (bel_alloc hB2) hB1)); obtain ⟨hC1, hF1⟩ := bcell hB2; replace hB1 := hB1)
        go_ret
        exact ⟨i, rfl, by rw [groupsB_no hX.out hin]; simp, by (repeat' (first | (with_reducible exact bel_refl _) | (with_reducible assumption) | (with_reducible refine bel_drew ?_) | (with_reducible refine bel_drewN ?_) | (with_reducible refine bel_alloc ?_) | (with_reducible refine bel_set ?_ ?_) | (with_reducible refine bel_trans ?_ (by with_reducible assumption)) | omega | (simp; done) | (simp; omega)))⟩
      · go_wp2_with (go_at_call 34; refine (cloAllG x p pb hb _ hp1 hcw hp2 hfw).mono ?_; rintro _ w1 ⟨rfl, hB1⟩; (first | (with_reducible replace hB2 := bel_trans hB2 hB1) | (with_reducible replace hB2 := bel_trans (bel_alloc hB2) hB1)); obtain ⟨hC1, hF1⟩ := bcell hB2; replace hB1 := hB1)
        go_roundw
        case rel => exact ⟨i + 1, by omega, by go_num, fun r hr u hu => (by
          rcases Nat.lt_or_ge r i with h1 | h1
          · exact hall.out r h1 u hu
          · rw [show r = i by omega, hX.out] at hu
            simp only [Option.some.injEq] at hu
            rw [← hu]; exact hin), by (repeat' (first | (with_reducible exact bel_refl _) | (with_reducible assumption) | (with_reducible refine bel_drew ?_) | (with_reducible refine bel_drewN ?_) | (with_reducible refine bel_alloc ?_) | (with_reducible refine bel_set ?_ ?_) | (with_reducible refine bel_trans ?_ (by with_reducible assumption)) | omega | (simp; done) | (simp; omega)))⟩
        case measure => simp [intOf]; omega
    · go_wp2
      go_ret
      refine ⟨-1, rfl, ?_, by (repeat' (first | (with_reducible exact bel_refl _) | (with_reducible assumption) | (with_reducible refine bel_drew ?_) | (with_reducible refine bel_drewN ?_) | (with_reducible refine bel_alloc ?_) | (with_reducible refine bel_set ?_ ?_) | (with_reducible refine bel_trans ?_ (by with_reducible assumption)) | omega | (simp; done) | (simp; omega)))⟩
      rw [groupsB_yes (fun r u hu => hall.out r (by have h1 := (List.getElem?_eq_some_iff.1 hu).1; rw [hlh.out] at h1; omega) u hu)]
      simp
theorem containsGroup (A : Option Addr) (n c : Nat) (xs : List Group) (p : Int) (pb hb : Nat) (w : World) (hS : Sl w 3 A n c (xs.flatMap Group.row)) (hn : n ≤ 1048576) (hpb : pb < w.heap.size) (hc : w.cell? ⟨pb, 0, none⟩ = some (.int .i64 p)) (hhb : hb < w.heap.size) (hf : w.cell? ⟨hb, 0, none⟩ = some (.func (.func 19) #[] #[.pointer (some ⟨pb, 0, none⟩)])) :
    Calls Try.prog 33 #[.slice A n c, .func (.func 34) #[] #[.pointer (some ⟨hb, 0, none⟩)]] w fun e w' => e = .returned (.bool (!groupsB (wrap64 (p - 1)) xs)) ∧ Below w.heap.size w w' := by
  go_enter Try.func33, Try.ntmps33
  go_wp2_with (go_at_call 35; refine (indexGroup _ _ _ xs p pb hb _ hS hn hpb hc hhb hf).mono ?_; rintro _ w1 ⟨k, rfl, hk, hb1⟩)
  go_ret
  exact ⟨ret_bool (by first | rfl | exact hk), by (repeat' (first | (with_reducible exact bel_refl _) | (with_reducible assumption) | (with_reducible refine bel_drew ?_) | (with_reducible refine bel_drewN ?_) | (with_reducible refine bel_alloc ?_) | (with_reducible refine bel_set ?_ ?_) | (with_reducible refine bel_trans ?_ (by with_reducible assumption)) | omega | (simp; done) | (simp; omega)))⟩
theorem allGroup (A : Option Addr) (n c : Nat) (xs : List Group) (p : Int) (pb : Nat) (w : World) (hS : Sl w 3 A n c (xs.flatMap Group.row)) (hn : n ≤ 1048576) (hpb : pb < w.heap.size) (hc : w.cell? ⟨pb, 0, none⟩ = some (.int .i64 p)) :
    Calls Try.prog 23 #[.slice A n c, .func (.func 19) #[] #[.pointer (some ⟨pb, 0, none⟩)]] w fun e w' => e = .returned (.bool (groupsB (wrap64 (p - 1)) xs)) ∧ Below w.heap.size w w' := by
  obtain ⟨W1, hW1⟩ : ∃ W1, w.alloc (.cells #[.func (.func 19) #[] #[.pointer (some ⟨pb, 0, none⟩)]] 53) = W1 := ⟨_, rfl⟩
  have hc1 : W1.cell? ⟨pb, 0, none⟩ = some (.int .i64 p) := by rw [← hW1, World.cell?_alloc_past _ _ _ hpb]; exact hc
  have hf1 : W1.cell? ⟨w.heap.size, 0, none⟩ = some (.func (.func 19) #[] #[.pointer (some ⟨pb, 0, none⟩)]) := by rw [← hW1, cell_of_row _ _ 0 _ _ (0, 0) (heap_alloc_new w _)]; rfl
  have hS1 : Sl W1 3 A n c (xs.flatMap Group.row) := by rw [← hW1]; exact hS.alloc _
  have hs1 : pb < W1.heap.size := by rw [← hW1]; simp; omega
  have hs2 : w.heap.size < W1.heap.size := by rw [← hW1]; simp
  go_enter Try.func23, Try.ntmps23
  go_wp2_with (go_at_call 33; (try rw [hW1]); refine (containsGroup _ _ _ xs p pb w.heap.size _ hS1 hn hs1 hc1 hs2 hf1).mono ?_; rintro _ w1 ⟨rfl, hb1⟩)
  go_ret
  refine ⟨ret_bool (by simp), ?_⟩
  have hb2 : Below w.heap.size w W1 := by rw [← hW1]; exact bel_alloc (bel_refl w)
  exact bel_trans hb2 hb1

theorem cloShelter (x : Shelter) (p : Int) (pb : Nat) (w : World) (hpb : pb < w.heap.size) (hc : w.cell? ⟨pb, 0, none⟩ = some (.int .i64 p)) :
    Calls Try.prog 22 #[.agg #[.int .i64 x.place, .int .i64 x.room], .pointer (some ⟨pb, 0, none⟩)] w fun e w' => e = .returned (.bool (goodSh (wrap64 (p - 1)) x)) ∧ Below w.heap.size w w' := by
  have hc1 := cell_past (o := .cells #[.int .i64 x.place, .int .i64 x.room] 48) hpb hc
  go_enter Try.func22, Try.ntmps22
  go_wp2_with (first | (go_at_call 20; refine (isIn _ _ _ _).mono ?_; rintro _ w1 ⟨rfl, rfl⟩))
  all_goals go_ret
  all_goals (refine ⟨ret_bool ?_, by (repeat' (first | (with_reducible exact bel_refl _) | (with_reducible assumption) | (with_reducible refine bel_drew ?_) | (with_reducible refine bel_drewN ?_) | (with_reducible refine bel_alloc ?_) | (with_reducible refine bel_set ?_ ?_) | (with_reducible refine bel_trans ?_ (by with_reducible assumption)) | omega | (simp; done) | (simp; omega)))⟩; simp [goodSh, *])
theorem cloPlaceOf (x : Shelter) (w : World) :
    Calls Try.prog 26 #[.agg #[.int .i64 x.place, .int .i64 x.room]] w fun e w' => e = .returned (.int .i64 x.place) ∧ Below w.heap.size w w' := by
  go_enter Try.func26, Try.ntmps26
  go_wp2
  go_ret
  exact ⟨rfl, by (repeat' (first | (with_reducible exact bel_refl _) | (with_reducible assumption) | (with_reducible refine bel_drew ?_) | (with_reducible refine bel_drewN ?_) | (with_reducible refine bel_alloc ?_) | (with_reducible refine bel_set ?_ ?_) | (with_reducible refine bel_trans ?_ (by with_reducible assumption)) | omega | (simp; done) | (simp; omega)))⟩
def clashSh (y x : Shelter) : Bool := decide (x.place ≤ y.place)
def sheltersB (q : Int) (xs : List Shelter) : Bool := noneBad (badAt (goodSh q) clashSh xs) xs.length && decide (xs.length ≤ 3)
set_option maxHeartbeats 1000000 in
theorem areListedSh (A : Option Addr) (n c : Nat) (xs : List Shelter) (p : Int) (pb : Nat) (w : World) (hS : Sl w 2 A n c (xs.flatMap Shelter.row)) (hn : n ≤ 1048576) (hpb : pb < w.heap.size) (hc : w.cell? ⟨pb, 0, none⟩ = some (.int .i64 p)) :
    Calls Try.prog 25 #[.slice A n c, .int .i64 3, .func (.func 22) #[] #[.pointer (some ⟨pb, 0, none⟩)], .func (.func 26) #[] #[]] w fun e w' => e = .returned (.bool (sheltersB (wrap64 (p - 1)) xs)) ∧ Below w.heap.size w w' := by
  have hl := hS.xs_len Shelter.row_len (by omega)
  have hlh := hid hl
  clear hl
  go_enter Try.func25, Try.ntmps25
  go_wp2_with fail
  go_loopw [13] (fun v wr => ∃ i : Nat, i ≤ n ∧ v = .int .i64 i ∧ (Hid (∀ r, r < i → badAt (goodSh (wrap64 (p - 1))) clashSh xs r = false)) ∧ Below w.heap.size w wr) (fun v _ => n - (intOf v).toNat)
  case atStart => exact ⟨0, by omega, rfl, fun r hr => absurd hr (by omega), by (repeat' (first | (with_reducible exact bel_refl _) | (with_reducible assumption) | (with_reducible refine bel_drew ?_) | (with_reducible refine bel_drewN ?_) | (with_reducible refine bel_alloc ?_) | (with_reducible refine bel_set ?_ ?_) | (with_reducible refine bel_trans ?_ (by with_reducible assumption)) | omega | (simp; done) | (simp; omega)))⟩
  case round =>
    obtain ⟨i, hi', rfl, hno, hB⟩ := hrel
    by_cases hlt : i < n
    · obtain ⟨x, hx⟩ : ∃ x, xs[i]? = some x := get_of_lt (by rw [hlh.out]; exact hlt)
      obtain ⟨b, o, rfl, hb, c0, c1⟩ := (hS.bel hB).shelter hx
      have hX := hid hx
      clear hx
      have hB2 := bel_refl (wr.alloc (.cells #[.int .i64 x.place, .int .i64 x.room] 48))
      have hsz := hB.size
      have hcw := cell_past (o := .cells #[.int .i64 x.place, .int .i64 x.room] 48) (show pb < wr.heap.size by omega) (((bcell hB).1 _ 0 hpb).trans hc)
      have hp1 : pb < ((wr.alloc (.cells #[.int .i64 x.place, .int .i64 x.room] 48))).heap.size := by simp; omega
      have hi0 : (0 : Int) ≤ (i : Int) := by omega
      have hi1 : (i : Int) < (n : Int) := by omega
      rcases hg : goodSh (wrap64 (p - 1)) x with _ | _
      · go_wp2_with fail
        (refine wp_region_bel (by kernel_rfl) (by kernel_rfl) ?_; have hD := bel_cells hB2; (repeat (go_big_quiet_step ((first | (go_at_call 22; exact calls_bel (cloShelter _ p pb _ (Nat.lt_of_lt_of_le hp1 (Bel.prop _).size) (((hD _).1 _ 0 hp1).trans hcw))) | (go_at_call 26; exact calls_bel (cloPlaceOf _ _)))))); refine wpQuiet_nil ?_; intro w1 hB1; replace hB2 := bel_trans hB2 hB1; obtain ⟨hC1, hF1⟩ := bcell hB2; clear hD; replace hB1 := hB1)
        go_wp2
        go_ret
        refine ⟨?_, by (repeat' (first | (with_reducible exact bel_refl _) | (with_reducible assumption) | (with_reducible refine bel_drew ?_) | (with_reducible refine bel_drewN ?_) | (with_reducible refine bel_alloc ?_) | (with_reducible refine bel_set ?_ ?_) | (with_reducible refine bel_trans ?_ (by with_reducible assumption)) | omega | (simp; done) | (simp; omega)))⟩
        rw [sheltersB, noneBad_no (by rw [hlh.out]; exact hlt) (badAt_ill hX.out hg)]
        rfl
      · rcases i with _ | j
        · simp only [Nat.zero_mul, Nat.add_zero] at c0 c1
          go_wp2_with fail
          (refine wp_region_bel (by kernel_rfl) (by kernel_rfl) ?_; have hD := bel_cells hB2; (repeat (go_big_quiet_step ((first | (go_at_call 22; exact calls_bel (cloShelter _ p pb _ (Nat.lt_of_lt_of_le hp1 (Bel.prop _).size) (((hD _).1 _ 0 hp1).trans hcw))) | (go_at_call 26; exact calls_bel (cloPlaceOf _ _)))))); refine wpQuiet_nil ?_; intro w1 hB1; replace hB2 := bel_trans hB2 hB1; obtain ⟨hC1, hF1⟩ := bcell hB2; clear hD; replace hB1 := hB1)
          go_wp2
          go_roundw
          case rel => exact ⟨1, by omega, by go_num, noBad_snoc hno (badAt_first hX.out hg), by (repeat' (first | (with_reducible exact bel_refl _) | (with_reducible assumption) | (with_reducible refine bel_drew ?_) | (with_reducible refine bel_drewN ?_) | (with_reducible refine bel_alloc ?_) | (with_reducible refine bel_set ?_ ?_) | (with_reducible refine bel_trans ?_ (by with_reducible assumption)) | omega | (simp; done) | (simp; omega)))⟩
          case measure => simp [intOf]; omega
        · obtain ⟨y, hy⟩ : ∃ y, xs[j]? = some y := get_of_lt (by rw [hlh.out]; omega)
          obtain ⟨b', o', hbo, _, e0, e1⟩ := (hS.bel hB).shelter hy
          simp only [Option.some.injEq, Addr.mk.injEq, and_true] at hbo
          obtain ⟨rfl, rfl⟩ := hbo
          have hY := hid hy
          clear hy
          have hp0 : ((j + 1 : Nat) : Int) = (j : Int) + 1 := by omega
          rw [hp0] at hi0 hi1 ⊢
          clear hp0
          have hj0 : (0 : Int) ≤ (j : Int) := by omega
          have hj1 : (j : Int) < (n : Int) := by omega
          by_cases hle : x.place ≤ y.place
          · go_wp2_with fail
            (refine wp_region_bel (by kernel_rfl) (by kernel_rfl) ?_; have hD := bel_cells hB2; (repeat (go_big_quiet_step ((first | (go_at_call 22; exact calls_bel (cloShelter _ p pb _ (Nat.lt_of_lt_of_le hp1 (Bel.prop _).size) (((hD _).1 _ 0 hp1).trans hcw))) | (go_at_call 26; exact calls_bel (cloPlaceOf _ _)))))); refine wpQuiet_nil ?_; intro w1 hB1; replace hB2 := bel_trans hB2 hB1; obtain ⟨hC1, hF1⟩ := bcell hB2; clear hD; replace hB1 := hB1)
            go_wp2
            go_ret
            refine ⟨?_, by (repeat' (first | (with_reducible exact bel_refl _) | (with_reducible assumption) | (with_reducible refine bel_drew ?_) | (with_reducible refine bel_drewN ?_) | (with_reducible refine bel_alloc ?_) | (with_reducible refine bel_set ?_ ?_) | (with_reducible refine bel_trans ?_ (by with_reducible assumption)) | omega | (simp; done) | (simp; omega)))⟩
            rw [sheltersB, noneBad_no (by rw [hlh.out]; exact hlt) (by rw [badAt_next hX.out hY.out hg]; simpa [clashSh] using hle)]
            rfl
          · go_wp2_with fail
            (refine wp_region_bel (by kernel_rfl) (by kernel_rfl) ?_; have hD := bel_cells hB2; (repeat (go_big_quiet_step ((first | (go_at_call 22; exact calls_bel (cloShelter _ p pb _ (Nat.lt_of_lt_of_le hp1 (Bel.prop _).size) (((hD _).1 _ 0 hp1).trans hcw))) | (go_at_call 26; exact calls_bel (cloPlaceOf _ _)))))); refine wpQuiet_nil ?_; intro w1 hB1; replace hB2 := bel_trans hB2 hB1; obtain ⟨hC1, hF1⟩ := bcell hB2; clear hD; replace hB1 := hB1)
            go_wp2
            go_roundw
            case rel => exact ⟨j + 1 + 1, by omega, by go_num, noBad_snoc hno (by rw [badAt_next hX.out hY.out hg]; simpa [clashSh] using hle), by (repeat' (first | (with_reducible exact bel_refl _) | (with_reducible assumption) | (with_reducible refine bel_drew ?_) | (with_reducible refine bel_drewN ?_) | (with_reducible refine bel_alloc ?_) | (with_reducible refine bel_set ?_ ?_) | (with_reducible refine bel_trans ?_ (by with_reducible assumption)) | omega | (simp; done) | (simp; omega)))⟩
            case measure => simp [intOf]; omega
    · go_wp2
      go_ret
      have e : i = n := by omega
      subst e
      refine ⟨?_, by (repeat' (first | (with_reducible exact bel_refl _) | (with_reducible assumption) | (with_reducible refine bel_drew ?_) | (with_reducible refine bel_drewN ?_) | (with_reducible refine bel_alloc ?_) | (with_reducible refine bel_set ?_ ?_) | (with_reducible refine bel_trans ?_ (by with_reducible assumption)) | omega | (simp; done) | (simp; omega)))⟩
      rw [sheltersB, noneBad_yes (by rw [hlh.out]; exact hno.out), hlh.out]
      simp
      omega
end Go.Proofs.Ytcgjdkkfecbgkaa
