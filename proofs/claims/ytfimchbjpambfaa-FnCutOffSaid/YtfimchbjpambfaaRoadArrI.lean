/-
  The arrivals at all places, of the program: the closure, the legs of all roads, the passes.
-/
import Derived.Test.YtfimchbjpambfaaRoadTop
import Derived.Test.YtfimchbjpambfaaRoadArr
import Derived.Deep.RegionHeld3
namespace Go.Proofs.Ytfimchbjpambfaa
open Go.RowKit

theorem ints_set (s : List Int) (i : Nat) (v : Int) : (ints s).set i (.int .i64 v) = ints (s.set i v) := by simp [ints]
theorem own_gi {w : World} {base g cap P : Nat} {e : TypeId} {s : List Int} (h : w.ownsRow base e 1 (.slice (some ⟨g, 0, none⟩) P cap) P (ints s)) {v : Nat} (hv : v < P) : w.cell? ⟨g, v, none⟩ = some (.int .i64 (gi s v)) := by
  rw [h.cellAt v (by omega)]
  have hl : s.length = P := by have := h.1; rw [ints_len] at this; omega
  obtain ⟨x, hx⟩ := get_of_lt (xs := s) (i := v) (by omega)
  rw [ints_get hx, gi_get (by simpa using hx)]
/-- The state in memory: the box of the variable, the slice that it holds, and all below the call as it was. -/
structure St (W : World) (g pb P c : Nat) (s : List Int) (w : World) : Prop where
  own : w.ownsRow W.heap.size 3 1 (.slice (some ⟨g, 0, none⟩) P c) P (ints s)
  box : w.cell? ⟨pb, 0, none⟩ = some (.slice (some ⟨g, 0, none⟩) P c)
  bel : Below W.heap.size W w
  ne : ¬ pb = g
theorem St.g_le {W w : World} {g pb P c : Nat} {s : List Int} (h : St W g pb P c s w) : W.heap.size ≤ g := (h.own.lt g rfl).1
theorem St.g_lt {W w : World} {g pb P c : Nat} {s : List Int} (h : St W g pb P c s w) : g < w.heap.size := (h.own.lt g rfl).2
theorem St.p_lt {W w : World} {g pb P c : Nat} {s : List Int} (h : St W g pb P c s w) : pb < w.heap.size := World.block_lt_of_cell? w _ h.box
theorem St.keep {W w w' : World} {g pb P c : Nat} {s : List Int} (h : St W g pb P c s w) (hb : Below w.heap.size w w') : St W g pb P c s w' :=
  ⟨own_bel h.own hb, (hb.cell (p := ⟨pb, 0, none⟩) h.p_lt).trans h.box, bel_trans h.bel hb, h.ne⟩
theorem St.set {W w : World} {g pb P c : Nat} {s : List Int} (h : St W g pb P c s w) (i : Nat) (v : Int) : St W g pb P c (s.set i v) (w.setCell ⟨g, i, none⟩ (.int .i64 v)) :=
  ⟨by have := (h.own.stored i (.int .i64 v)).1; rwa [ints_set] at this, by rw [World.cell?_setCell_far _ _ _ _ (fun e => h.ne (by simpa using e.symm))]; exact h.box, h.bel.setCell (p := ⟨g, i, none⟩) h.g_le _, h.ne⟩
theorem grown_of_bel {w w' : World} (h : Below w.heap.size w w') (r : Option Nat) : w.grownBy w' r := ⟨h.os, h.tape, h.output, h.size, fun i hi _ => h.block i hi⟩
theorem relA_yes {s : List Int} {r : Road} {a b : Int} (h0 : 0 ≤ gi s a) (hm : 1 ≤ r.minutes) (h1 : ¬ r.closes < gi s a + r.minutes) (h2 : gi s b < 0 ∨ gi s a + r.minutes < gi s b) (h3 : gi s b ≤ 999) (h4 : r.closes ≤ 999) : relA s r a b = s.set b.toNat (gi s a + r.minutes) := by
  have e : rideA r (gi s a) = gi s a + r.minutes := by unfold rideA; rw [if_neg (by omega)]
  unfold relA
  rw [e, if_pos]
  refine ⟨by omega, ?_⟩
  unfold valA
  repeat' split
  all_goals omega
theorem relA_no {s : List Int} {r : Road} {a b : Int} (h : gi s a < 0 ∨ r.closes < gi s a + r.minutes ∨ (0 ≤ gi s b ∧ gi s b ≤ gi s a + r.minutes)) : relA s r a b = s := by
  unfold relA
  rw [if_neg]
  rintro ⟨h1, h2⟩
  by_cases hc : gi s a < 0 ∨ r.closes < gi s a + r.minutes
  · unfold rideA at h1
    rw [if_pos hc] at h1
    omega
  · have e : rideA r (gi s a) = gi s a + r.minutes := by unfold rideA; rw [if_neg hc]
    rw [e] at h1 h2
    unfold valA at h2
    split at h2 <;> split at h2 <;> omega

set_option maxHeartbeats 2000000 in
theorem cloA (x : Road) (a b : Int) (an bn g pb P c : Nat) (s : List Int) (W w : World) (hst : St W g pb P c s w) (hA : Arr P s) (hg : goodR P x = true) (ha : a = an) (hb : b = bn) (han : an < P) (hbn : bn < P) :
    Calls Try.prog 64 #[.agg #[.int .i64 x.a, .int .i64 x.b, .int .i64 x.minutes, .int .i64 x.closes], .int .i64 a, .int .i64 b, .pointer (some ⟨pb, 0, none⟩)] w fun e w' => e = .returned (.tuple #[]) ∧ St W g pb P c (relA s x a b) w' ∧ w.grownBy w' (some g) := by
  subst ha
  subst hb
  have hgb := goodR_bd hg
  have b1 := hA.bd an
  have b2 := hA.bd bn
  have c1 := own_gi hst.own han
  have c2 := own_gi hst.own hbn
  have c3 := hst.box
  have z1 := own_fz hst.own bn
  have hgl := hst.g_lt
  have hpl := hst.p_lt
  have hne := hst.ne
  have hin1 : (0 : Int) ≤ (an : Int) := by omega
  have hin2 : (an : Int) < (P : Int) := by omega
  have hin3 : (0 : Int) ≤ (bn : Int) := by omega
  have hin4 : (bn : Int) < (P : Int) := by omega
  have hB2 := bel_refl (w.alloc (.cells #[.int .i64 x.a, .int .i64 x.b, .int .i64 x.minutes, .int .i64 x.closes] 39))
  obtain ⟨ya, hya⟩ : ∃ y, gi s an = y := ⟨_, rfl⟩
  obtain ⟨yb, hyb⟩ : ∃ y, gi s bn = y := ⟨_, rfl⟩
  have hno : Hid ((ya < 0 ∨ x.closes < ya + x.minutes ∨ (0 ≤ yb ∧ yb ≤ ya + x.minutes)) → relA s x an bn = s) := fun h => relA_no (by rw [hya, hyb]; exact h)
  have hyes : Hid (0 ≤ ya → ¬ x.closes < ya + x.minutes → (yb < 0 ∨ ya + x.minutes < yb) → relA s x an bn = s.set bn (ya + x.minutes)) := fun h1 h2 h3 => by
    have := relA_yes (s := s) (r := x) (a := an) (b := bn) (by rw [hya]; exact h1) (by omega) (by rw [hya]; exact h2) (by rw [hya, hyb]; exact h3) (by omega) (by omega)
    rw [this, hya]
    simp
  rw [hya] at b1 c1
  rw [hyb] at b2 c2
  clear hya hyb hg
  have hsh := hid hst
  by_cases g0 : ya < 0
  · have hr := hid (hno.out (Or.inl g0))
    clear hno hyes hst hA
    go_enter Try.func64, Try.ntmps64
    go_wp2_with fail
    (refine wp_region_bel (by kernel_rfl) (by kernel_rfl) ?_; have hD := bel_cells hB2; (repeat (go_big_quiet_step ((fail)))); refine wpQuiet_nil ?_; intro w1 hB1; replace hB2 := bel_trans hB2 hB1; obtain ⟨hC1, hF1⟩ := bcell hB2; clear hD; replace hB1 := hB1)
    go_wp2
    go_end0
    have hk : Below w.heap.size w w1 := by (repeat' (first | (with_reducible exact bel_refl _) | (with_reducible assumption) | (with_reducible refine bel_drew ?_) | (with_reducible refine bel_drewN ?_) | (with_reducible refine bel_alloc ?_) | (with_reducible refine bel_set ?_ ?_) | (with_reducible refine bel_trans ?_ (by with_reducible assumption)) | omega | (simp; done) | (simp; omega)))
    exact ⟨rfl, by rw [hr.out]; exact hsh.out.keep hk, grown_of_bel hk _⟩
  · by_cases g1 : x.closes < ya + x.minutes
    · have hr := hid (hno.out (Or.inr (Or.inl g1)))
      clear hno hyes hst hA
      go_enter Try.func64, Try.ntmps64
      go_wp2_with fail
      (refine wp_region_bel (by kernel_rfl) (by kernel_rfl) ?_; have hD := bel_cells hB2; (repeat (go_big_quiet_step ((fail)))); refine wpQuiet_nil ?_; intro w1 hB1; replace hB2 := bel_trans hB2 hB1; obtain ⟨hC1, hF1⟩ := bcell hB2; clear hD; replace hB1 := hB1)
      go_wp2
      go_end0
      have hk : Below w.heap.size w w1 := by (repeat' (first | (with_reducible exact bel_refl _) | (with_reducible assumption) | (with_reducible refine bel_drew ?_) | (with_reducible refine bel_drewN ?_) | (with_reducible refine bel_alloc ?_) | (with_reducible refine bel_set ?_ ?_) | (with_reducible refine bel_trans ?_ (by with_reducible assumption)) | omega | (simp; done) | (simp; omega)))
      exact ⟨rfl, by rw [hr.out]; exact hsh.out.keep hk, grown_of_bel hk _⟩
    · by_cases g2 : yb < 0
      · have hr := hid (hyes.out (by omega) (by omega) (Or.inl g2))
        clear hno hyes hst hA
        go_enter Try.func64, Try.ntmps64
        go_wp2_with fail
        (refine wp_region_bel (by kernel_rfl) (by kernel_rfl) ?_; have hD := bel_cells hB2; (repeat (go_big_quiet_step ((fail)))); refine wpQuiet_nil ?_; intro w1 hB1; replace hB2 := bel_trans hB2 hB1; obtain ⟨hC1, hF1⟩ := bcell hB2; clear hD; replace hB1 := hB1)
        go_wp2
        go_end0
        have hk : Below w.heap.size w w1 := by (repeat' (first | (with_reducible exact bel_refl _) | (with_reducible assumption) | (with_reducible refine bel_drew ?_) | (with_reducible refine bel_drewN ?_) | (with_reducible refine bel_alloc ?_) | (with_reducible refine bel_set ?_ ?_) | (with_reducible refine bel_trans ?_ (by with_reducible assumption)) | omega | (simp; done) | (simp; omega)))
        exact ⟨rfl, by rw [hr.out]; exact (hsh.out.keep hk).set bn _, grown_set (grown_of_bel hk _) _⟩
      · by_cases g3 : ya + x.minutes < yb
        · have hr := hid (hyes.out (by omega) (by omega) (Or.inr g3))
          clear hno hyes hst hA
          go_enter Try.func64, Try.ntmps64
          go_wp2_with fail
          (refine wp_region_bel (by kernel_rfl) (by kernel_rfl) ?_; have hD := bel_cells hB2; (repeat (go_big_quiet_step ((fail)))); refine wpQuiet_nil ?_; intro w1 hB1; replace hB2 := bel_trans hB2 hB1; obtain ⟨hC1, hF1⟩ := bcell hB2; clear hD; replace hB1 := hB1)
          go_wp2
          go_end0
          have hk : Below w.heap.size w w1 := by (repeat' (first | (with_reducible exact bel_refl _) | (with_reducible assumption) | (with_reducible refine bel_drew ?_) | (with_reducible refine bel_drewN ?_) | (with_reducible refine bel_alloc ?_) | (with_reducible refine bel_set ?_ ?_) | (with_reducible refine bel_trans ?_ (by with_reducible assumption)) | omega | (simp; done) | (simp; omega)))
          exact ⟨rfl, by rw [hr.out]; exact (hsh.out.keep hk).set bn _, grown_set (grown_of_bel hk _) _⟩
        · have hr := hid (hno.out (Or.inr (Or.inr ⟨by omega, by omega⟩)))
          clear hno hyes hst hA
          go_enter Try.func64, Try.ntmps64
          go_wp2_with fail
          (refine wp_region_bel (by kernel_rfl) (by kernel_rfl) ?_; have hD := bel_cells hB2; (repeat (go_big_quiet_step ((fail)))); refine wpQuiet_nil ?_; intro w1 hB1; replace hB2 := bel_trans hB2 hB1; obtain ⟨hC1, hF1⟩ := bcell hB2; clear hD; replace hB1 := hB1)
          go_wp2
          go_end0
          have hk : Below w.heap.size w w1 := by (repeat' (first | (with_reducible exact bel_refl _) | (with_reducible assumption) | (with_reducible refine bel_drew ?_) | (with_reducible refine bel_drewN ?_) | (with_reducible refine bel_alloc ?_) | (with_reducible refine bel_set ?_ ?_) | (with_reducible refine bel_trans ?_ (by with_reducible assumption)) | omega | (simp; done) | (simp; omega)))
          exact ⟨rfl, by rw [hr.out]; exact hsh.out.keep hk, grown_of_bel hk _⟩

theorem passA_next {xs : List Road} {s : List Int} {i : Nat} {x : Road} (hx : xs[i]? = some x) : passA (xs.take (i + 1)) s = relA (relA (passA (xs.take i) s) x x.a x.b) x x.b x.a := by
  rw [List.take_add_one, hx]
  simp [passA, roadA]
theorem good_mem {p : Int} {xs : List Road} (hG : allR p xs) : ∀ r ∈ xs, goodR p r = true := fun r hr => by
  obtain ⟨i, hi⟩ := List.getElem?_of_mem hr
  exact hG i r hi
theorem good_take {p : Int} {xs : List Road} (hG : allR p xs) (i : Nat) : ∀ r ∈ xs.take i, goodR p r = true := fun r hr => good_mem hG r (List.mem_of_mem_take hr)
set_option maxRecDepth 100000 in
set_option maxHeartbeats 2000000 in
theorem walkLegsA (A : Option Addr) (n c0 g pb P c : Nat) (xs : List Road) (s : List Int) (W w : World) (hst : St W g pb P c s w) (hA : Arr P s) (hS : Sl W 4 A n c0 (xs.flatMap Road.row)) (hn : n ≤ 12) (hG : allR P xs) :
    Calls Try.prog 45 #[.slice A n c0, .func (.func 64) #[] #[.pointer (some ⟨pb, 0, none⟩)]] w fun e w' => e = .returned (.tuple #[]) ∧ St W g pb P c (passA xs s) w' := by
  have hlh := hid (hS.xs_len Road.row_len (by omega))
  go_enter Try.func45, Try.ntmps45
  go_wp2_with fail
  go_loopw [8] (fun v wr => ∃ i : Nat, i ≤ n ∧ v = .int .i64 i ∧ St W g pb P c (passA (xs.take i) s) wr) (fun v _ => n - (intOf v).toNat)
  case atStart => exact ⟨0, by omega, rfl, by simpa [passA] using hst⟩
  case round =>
    obtain ⟨i, hi', rfl, hsi⟩ := hrel
    by_cases hlt : i < n
    · obtain ⟨x, hx⟩ : ∃ x, xs[i]? = some x := get_of_lt (by rw [hlh.out]; exact hlt)
      obtain ⟨b, o, rfl, hb, c1, c2, c3, c4⟩ := (hS.bel hsi.bel).road hx
      have hgx := hid (hG i x hx)
      have hN := hid (passA_next (s := s) hx)
      obtain ⟨⟨qa0, qa1⟩, ⟨qb0, qb1⟩⟩ := road_ends (hG i x hx)
      obtain ⟨an, hxa⟩ := Int.eq_ofNat_of_zero_le qa0
      obtain ⟨bn, hxb⟩ := Int.eq_ofNat_of_zero_le qb0
      have han : an < P := by omega
      have hbn : bn < P := by omega
      replace hxa := hid hxa
      replace hxb := hid hxb
      clear hx qa0 qa1 qb0 qb1
      have hAi := hid (hA.passA (good_take hG i))
      have hAj := hid (hAi.out.relA hgx.out x.a x.b (by have := hxb.out; omega))
      have hgl := hsi.g_lt
      have e0 : ((wr.alloc (.cells #[.int .i64 x.a, .int .i64 x.b, .int .i64 x.minutes, .int .i64 x.closes] 39))).cell? ⟨wr.heap.size, 0, none⟩ = some (.int .i64 x.a) := by rw [cell_of_row _ _ 0 _ _ (0, 0) (heap_alloc_new wr _)]; rfl
      have e1 : ((wr.alloc (.cells #[.int .i64 x.a, .int .i64 x.b, .int .i64 x.minutes, .int .i64 x.closes] 39))).cell? ⟨wr.heap.size, 1, none⟩ = some (.int .i64 x.b) := by rw [cell_of_row _ _ 1 _ _ (0, 0) (heap_alloc_new wr _)]; rfl
      have e2 : ((wr.alloc (.cells #[.int .i64 x.a, .int .i64 x.b, .int .i64 x.minutes, .int .i64 x.closes] 39))).cell? ⟨wr.heap.size, 2, none⟩ = some (.int .i64 x.minutes) := by rw [cell_of_row _ _ 2 _ _ (0, 0) (heap_alloc_new wr _)]; rfl
      have e3 : ((wr.alloc (.cells #[.int .i64 x.a, .int .i64 x.b, .int .i64 x.minutes, .int .i64 x.closes] 39))).cell? ⟨wr.heap.size, 3, none⟩ = some (.int .i64 x.closes) := by rw [cell_of_row _ _ 3 _ _ (0, 0) (heap_alloc_new wr _)]; rfl
      have hsti := hid hsi
      clear hsi hst
      go_wp2_with (first | (go_at_call 64; refine (cloA x x.b x.a bn an g pb P c _ W _ hst2 hAj.out hgx.out hxb.out hxa.out hbn han).mono ?_; rintro _ w3 ⟨rfl, hst3, hg3⟩) | (go_at_call 64; refine (cloA x x.a x.b an bn g pb P c _ W _ (hsti.out.keep (bel_alloc (bel_refl _))) hAi.out hgx.out hxa.out hxb.out han hbn).mono ?_; rintro _ w2 ⟨rfl, hst2, hg2⟩; have k0 := (hg2.cell_far ⟨wr.heap.size, 0, none⟩ (by simp) (by simp; omega)).trans e0; have k1 := (hg2.cell_far ⟨wr.heap.size, 1, none⟩ (by simp) (by simp; omega)).trans e1; have k2 := (hg2.cell_far ⟨wr.heap.size, 2, none⟩ (by simp) (by simp; omega)).trans e2; have k3 := (hg2.cell_far ⟨wr.heap.size, 3, none⟩ (by simp) (by simp; omega)).trans e3))
      go_roundw
      case rel => exact ⟨i + 1, by omega, by go_num, by rw [hN.out]; exact hst3⟩
      case measure => simp [intOf]; omega
    · go_wp2
      go_end0
      have e : i = n := by omega
      subst e
      rw [List.take_of_length_le (by rw [hlh.out]; omega)] at hsi
      exact ⟨rfl, hsi⟩

set_option maxRecDepth 100000 in
set_option maxHeartbeats 2000000 in
theorem arrI_go (A : Option Addr) (n c0 P F : Nat) (xs : List Road) (m : Int) (w : World) (hS : Sl w 4 A n c0 (xs.flatMap Road.row)) (hP2 : 2 ≤ P ∧ P ≤ 7) (hn12 : n ≤ 12) (hG : allR P xs) (hF : F < P) (hm : 0 ≤ m ∧ m ≤ 999) :
    Calls Try.prog 37 #[.int .i64 P, .slice A n c0, .int .i64 F, .int .i64 m] w fun e w' => ∃ A' c', e = .returned (.slice A' P c') ∧ Own w.heap.size w'.heap.size w' 3 1 A' P c' (ints (arrA P xs F m)) ∧ Below w.heap.size w w' := by
  obtain ⟨i0, hi, hz0, hz1, hz2⟩ := info_parts info_int
  have hP7 : P ≤ 7 := by omega
  have hmf : ∀ (fn : Fn) (first cap : Array Value) (w : World), (Instr.makeFunc fn first cap).run Try.prog w = .ok (.func fn first cap) w := fun _ _ _ _ => rfl
  go_enter Try.func37, Try.ntmps37
  go_wp2_with (at_make; refine wpList_make_full _ rfl _ _ 27 rfl w.heap.size 3 i0 _ 1 Try.underlying27 hi hz0 hz1 _ _ _ _ P rfl rfl rfl rfl (by rw [hz2]; omega) (by simp [maxLen]; omega) (Nat.le_refl _) ?_; intro w1 hown hg)
  have hb1 : Below w.heap.size w w1 := (Below.refl _ _).grown hg (Nat.le_refl _) (by simp)
  generalize hZ : (madeCells (Value.int .i64 0).cells (P * 1)).toList = Z at hown
  have hZl : Hid ((ints (List.replicate P (-1))).length = Z.length) := by
    show _ = _
    rw [← hZ, ints_len]
    simp [madeCells]
  clear hZ
  have hpb : w.heap.size < w1.heap.size := (hown.lt _ rfl).2
  have hpne : ¬ w1.heap.size = w.heap.size := by omega
  have hbox : (w1.alloc (.cells #[.slice (some ⟨w.heap.size, 0, none⟩) P P] 27)).cell? ⟨w1.heap.size, 0, none⟩ = some (.slice (some ⟨w.heap.size, 0, none⟩) P P) := by rw [cell_of_row _ _ 0 _ _ (0, 0) (heap_alloc_new w1 _)]; rfl
  go_loopw [10, 15] (fun _ v wr => ∃ i : Nat, i ≤ P ∧ v = .int .i64 i ∧ wr.ownsRow w.heap.size 3 1 (.slice (some ⟨w.heap.size, 0, none⟩) P P) P ((ints (List.replicate P (-1))).take i ++ Z.drop i) ∧ wr.cell? ⟨w1.heap.size, 0, none⟩ = some (.slice (some ⟨w.heap.size, 0, none⟩) P P) ∧ Below w.heap.size w wr) (fun _ v _ => P - (intOf v).toNat)
  case atStart => exact ⟨0, by omega, rfl, by simpa using own_bel hown (bel_alloc (bel_refl _)), hbox, by (repeat' (first | (with_reducible exact bel_refl _) | (with_reducible assumption) | (with_reducible refine bel_drew ?_) | (with_reducible refine bel_drewN ?_) | (with_reducible refine bel_alloc ?_) | (with_reducible refine bel_set ?_ ?_) | (with_reducible refine bel_trans ?_ (by with_reducible assumption)) | omega | (simp; done) | (simp; omega)))⟩
  case round =>
    obtain ⟨i, hi', rfl, hown, hbx, hB⟩ := hrel
    have hgl := (hown.lt _ rfl).2
    have hpl := World.block_lt_of_cell? wr _ hbx
    by_cases hlt : i < P
    · have z0 := own_fz hown i
      obtain ⟨u0, d0⟩ := own_at hown (j := i) (by omega)
      have hi0 : (0 : Int) ≤ (i : Int) := by omega
      have hi1 : (i : Int) < (P : Int) := by omega
      have f0 : (ints (List.replicate P (-1)))[i]? = some (.int .i64 (-1)) := ints_get (by simp [hlt])
      go_wp2
      go_roundw
      case rel => exact ⟨i + 1, by omega, by go_num, own_store hown hZl.out f0, by rw [World.cell?_setCell_far _ _ _ _ (fun e => hpne (by simpa using e.symm))]; exact hbx, by (repeat' (first | (with_reducible exact bel_refl _) | (with_reducible assumption) | (with_reducible refine bel_drew ?_) | (with_reducible refine bel_drewN ?_) | (with_reducible refine bel_alloc ?_) | (with_reducible refine bel_set ?_ ?_) | (with_reducible refine bel_trans ?_ (by with_reducible assumption)) | omega | (simp; done) | (simp; omega)))⟩
      case measure => simp [intOf]; omega
    · have e : i = P := by omega
      subst e
      have hl := hown.1
      have hl2 := hZl.out
      rw [ints_len, List.length_replicate] at hl2
      rw [List.take_of_length_le (by rw [ints_len, List.length_replicate]; omega), List.drop_of_length_le (by omega), List.append_nil] at hown
      clear hl hl2
      have hst : St w w.heap.size w1.heap.size i i (List.replicate i (-1)) wr := ⟨hown, hbx, hB, hpne⟩
      have z0 := own_fz hown F
      have d0 := own_gi hown hF
      have hF0 : (0 : Int) ≤ (F : Int) := by omega
      have hF1 : (F : Int) < (i : Int) := by omega
      go_wp2_with fail
      have hst0 := hst.set F m
      clear hown hbx hB z0 d0 hst hgl hpl hZl
      have hA0 : Arr i ((List.replicate i (-1)).set F m) := arr_start hF hm
      go_loopw [27] (fun v wr => ∃ k : Nat, k ≤ i ∧ v = .int .i64 k ∧ St w w.heap.size w1.heap.size i i (runA xs k ((List.replicate i (-1)).set F m)) wr) (fun v _ => i - (intOf v).toNat)
      case atStart => exact ⟨0, by omega, rfl, hst0⟩
      case round =>
        obtain ⟨k, hk', rfl, hsk⟩ := hrel
        by_cases hlt2 : k < i
        · have hAk := hA0.runA (good_mem hG) k
          have hst9 := hid hsk
          have hbx := hsk.box
          have hpl := hsk.p_lt
          clear hst0 hsk
          go_wp2_with (go_at_call 45; refine (walkLegsA _ _ _ w.heap.size w1.heap.size i i xs _ w _ hst9.out hAk hS hn12 hG).mono ?_; rintro _ w2 ⟨rfl, hst2⟩)
          go_roundw
          case rel => exact ⟨k + 1, by omega, by go_num, hst2⟩
          case measure => simp [intOf]; omega
        · have e : k = i := by omega
          subst e
          have hbx := hsk.box
          have hpl := hsk.p_lt
          go_wp2
          go_ret
          refine ⟨some ⟨w.heap.size, 0, none⟩, k, ?_, Own.mk_ hsk.own, hsk.bel⟩
          rfl
theorem arrI (A : Option Addr) (n c0 P F : Nat) (xs : List Road) (m : Int) (w : World) (hS : Sl w 4 A n c0 (xs.flatMap Road.row)) (hnet : netB P xs = true) (hF : F < P) (hm : 0 ≤ m ∧ m ≤ 999) :
    Calls Try.prog 37 #[.int .i64 P, .slice A n c0, .int .i64 F, .int .i64 m] w fun e w' => ∃ A' c', e = .returned (.slice A' P c') ∧ Own w.heap.size w'.heap.size w' 3 1 A' P c' (ints (arrA P xs F m)) ∧ Below w.heap.size w w' := by
  have hnb := netB_bd hnet
  exact arrI_go A n c0 P F xs m w hS (by omega) (by have := hnb.2.2; rwa [hS.xs_len Road.row_len (by omega)] at this) (netB_all hnet) hF hm
end Go.Proofs.Ytfimchbjpambfaa
