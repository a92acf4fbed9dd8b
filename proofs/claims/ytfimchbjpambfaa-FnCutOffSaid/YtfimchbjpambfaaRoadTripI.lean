/-
  The legs of a trip, of the program: the closure and the walk over all roads.
-/
import Derived.Test.YtfimchbjpambfaaRoadTripTop
namespace Go.Proofs.Ytfimchbjpambfaa
open Go.RowKit

/-- What the closure reads: the trip's first place, the times, the place before so far. -/
structure TS (sb g P c tb tg k tc bb : Nat) (s : List Int) (v acc : Int) (w : World) : Prop where
  tbox : w.cell? ⟨tb, 0, none⟩ = some (.slice (some ⟨tg, 0, none⟩) k tc)
  head : w.cell? ⟨tg, 0, none⟩ = some (.int .i64 v)
  sbox : w.cell? ⟨sb, 0, none⟩ = some (.slice (some ⟨g, 0, none⟩) P c)
  times : ∀ u : Nat, u < P → w.cell? ⟨g, u, none⟩ = some (.int .i64 (gi s u))
  bbox : w.cell? ⟨bb, 0, none⟩ = some (.int .i64 acc)
  bfz : w.frozen? ⟨bb, 0, none⟩ = false
  apart : bb ≠ tb ∧ bb ≠ tg ∧ bb ≠ sb ∧ bb ≠ g
  pos : 0 < k ∧ 0 < P
section
variable {sb g P c tb tg k tc bb : Nat} {s : List Int} {v acc : Int} {w w' : World}
theorem TS.lts (h : TS sb g P c tb tg k tc bb s v acc w) : tb < w.heap.size ∧ tg < w.heap.size ∧ sb < w.heap.size ∧ g < w.heap.size ∧ bb < w.heap.size :=
  ⟨World.block_lt_of_cell? w _ h.tbox, World.block_lt_of_cell? w _ h.head, World.block_lt_of_cell? w _ h.sbox, World.block_lt_of_cell? w _ (h.times 0 h.pos.2), World.block_lt_of_cell? w _ h.bbox⟩
theorem TS.keep (h : TS sb g P c tb tg k tc bb s v acc w) (hb : Below w.heap.size w w') : TS sb g P c tb tg k tc bb s v acc w' := by
  obtain ⟨l1, l2, l3, l4, l5⟩ := h.lts
  obtain ⟨hC, hF⟩ := bcell hb
  exact ⟨(hC _ _ l1).trans h.tbox, (hC _ _ l2).trans h.head, (hC _ _ l3).trans h.sbox, fun u hu => (hC _ _ l4).trans (h.times u hu), (hC _ _ l5).trans h.bbox, (hF _ _ l5).trans h.bfz, h.apart, h.pos⟩
theorem cell_set_far {w : World} {p q : Nat} {o : Nat} {u x : Value} (hne : p ≠ q) (hc : w.cell? ⟨q, o, none⟩ = some x) : (w.setCell ⟨p, 0, none⟩ u).cell? ⟨q, o, none⟩ = some x := by
  rw [World.cell?_setCell_far _ _ _ _ (by simpa using hne)]; exact hc
theorem TS.set (h : TS sb g P c tb tg k tc bb s v acc w) (u : Int) : TS sb g P c tb tg k tc bb s v u (w.setCell ⟨bb, 0, none⟩ (.int .i64 u)) :=
  ⟨cell_set_far h.apart.1 h.tbox, cell_set_far h.apart.2.1 h.head, cell_set_far h.apart.2.2.1 h.sbox, fun q hq => cell_set_far h.apart.2.2.2 (h.times q hq), World.cell?_setCell_same _ _ _ h.bbox, by rw [World.frozen?_setCell]; exact h.bfz, h.apart, h.pos⟩
end
theorem grown_trans {a b c : World} {r : Option Nat} (h : a.grownBy b r) (k : b.grownBy c r) : a.grownBy c r :=
  ⟨k.os.trans h.os, k.tape.trans h.tape, k.output.trans h.output, Nat.le_trans h.size k.size, fun i hi hne => (k.block i (Nat.lt_of_lt_of_le hi h.size) hne).trans (h.block i hi hne)⟩
set_option maxHeartbeats 2000000 in
theorem cloT (x : Road) (a b : Int) (an bn sb g P c tb tg k tc bb : Nat) (s : List Int) (v acc : Int) (w : World) (hst : TS sb g P c tb tg k tc bb s v acc w) (hA : Arr P s) (hg : goodR P x = true) (ha : a = an) (hb : b = bn) (han : an < P) (hbn : bn < P) :
    Calls Try.prog 46 #[.agg #[.int .i64 x.a, .int .i64 x.b, .int .i64 x.minutes, .int .i64 x.closes], .int .i64 a, .int .i64 b, .pointer (some ⟨tb, 0, none⟩), .pointer (some ⟨sb, 0, none⟩), .pointer (some ⟨bb, 0, none⟩)] w fun e w' => e = .returned (.tuple #[]) ∧ TS sb g P c tb tg k tc bb s v (befStep s v acc x a b) w' ∧ w.grownBy w' (some bb) := by
  subst ha
  subst hb
  have hgb := goodR_bd hg
  obtain ⟨l1, l2, l3, l4, l5⟩ := hst.lts
  have b1 := hA.bd an
  have b2 := hA.bd bn
  have c1 := hst.times an han
  have c2 := hst.times bn hbn
  have c3 := hst.tbox
  have c4 := hst.head
  have c5 := hst.sbox
  have c6 := hst.bbox
  have z1 := hst.bfz
  have hkp := hst.pos
  have hk0 : (0 : Int) < (k : Int) := by omega
  have hin1 : (0 : Int) ≤ (an : Int) := by omega
  have hin2 : (an : Int) < (P : Int) := by omega
  have hin3 : (0 : Int) ≤ (bn : Int) := by omega
  have hin4 : (bn : Int) < (P : Int) := by omega
  have hB2 := bel_refl (w.alloc (.cells #[.int .i64 x.a, .int .i64 x.b, .int .i64 x.minutes, .int .i64 x.closes] 39))
  obtain ⟨ya, hya⟩ : ∃ y, gi s an = y := ⟨_, rfl⟩
  obtain ⟨yb, hyb⟩ : ∃ y, gi s bn = y := ⟨_, rfl⟩
  have hno : Hid (¬ ((bn : Int) = v ∧ 0 ≤ ya ∧ ya + x.minutes = yb ∧ yb ≤ x.closes) → befStep s v acc x an bn = acc) := fun h => by
    unfold befStep
    rw [if_neg]
    intro h2
    exact h (by rw [← hya, ← hyb]; exact tight_iff.1 h2)
  have hyes : Hid (((bn : Int) = v ∧ 0 ≤ ya ∧ ya + x.minutes = yb ∧ yb ≤ x.closes) → befStep s v acc x an bn = min acc an) := fun h => by
    unfold befStep
    rw [if_pos]
    exact tight_iff.2 (by rw [hya, hyb]; exact h)
  rw [hya] at b1 c1
  rw [hyb] at b2 c2
  have hsh := hid hst
  clear hya hyb hg hst hA
  by_cases g0 : (bn : Int) = v
  · have q0 : ((bn : Int) == v) = true := by simpa using g0
    by_cases g1 : ya < 0
    · have hr := hid (hno.out (by omega))
      have q1 : decide (0 ≤ ya) = false := decide_eq_false (by omega)
      clear hno hyes g0
      go_enter Try.func46, Try.ntmps46; go_wp2_with fail; (refine wp_region_bel (by kernel_rfl) (by kernel_rfl) ?_; have hD := bel_cells hB2; (repeat (go_big_quiet_step ((fail)))); refine wpQuiet_nil ?_; intro w1 hB1; replace hB2 := bel_trans hB2 hB1; obtain ⟨hC1, hF1⟩ := bcell hB2; clear hD; replace hB1 := hB1); go_wp2; go_end0; have hk : Below w.heap.size w w1 := (by (repeat' (first | (with_reducible exact bel_refl _) | (with_reducible assumption) | (with_reducible refine bel_drew ?_) | (with_reducible refine bel_drewN ?_) | (with_reducible refine bel_alloc ?_) | (with_reducible refine bel_set ?_ ?_) | (with_reducible refine bel_trans ?_ (by with_reducible assumption)) | omega | (simp; done) | (simp; omega)))); exact ⟨rfl, by rw [hr.out]; exact hsh.out.keep hk, grown_of_bel hk _⟩
    · by_cases g2 : ya + x.minutes = yb
      · have q2 : (ya + x.minutes == yb) = true := by simpa using g2
        by_cases g3 : yb ≤ x.closes
        · have hr := hid (hyes.out ⟨g0, by omega, g2, g3⟩)
          clear hno hyes g0 g2
          go_enter Try.func46, Try.ntmps46
          go_wp2_with fail
          (refine wp_region_bel (by kernel_rfl) (by kernel_rfl) ?_; have hD := bel_cells hB2; (repeat (go_big_quiet_step ((fail)))); refine wpQuiet_nil ?_; intro w1 hB1; replace hB2 := bel_trans hB2 hB1; obtain ⟨hC1, hF1⟩ := bcell hB2; clear hD; replace hB1 := hB1)
          go_wp2
          go_end0
          have hk : Below w.heap.size w w1 := by (repeat' (first | (with_reducible exact bel_refl _) | (with_reducible assumption) | (with_reducible refine bel_drew ?_) | (with_reducible refine bel_drewN ?_) | (with_reducible refine bel_alloc ?_) | (with_reducible refine bel_set ?_ ?_) | (with_reducible refine bel_trans ?_ (by with_reducible assumption)) | omega | (simp; done) | (simp; omega)))
          exact ⟨rfl, by rw [hr.out]; exact (hsh.out.keep hk).set _, grown_set (grown_of_bel hk _) _⟩
        · have hr := hid (hno.out (by omega))
          have q3 : decide (yb ≤ x.closes) = false := decide_eq_false g3
          clear hno hyes g0 g2
          go_enter Try.func46, Try.ntmps46; go_wp2_with fail; (refine wp_region_bel (by kernel_rfl) (by kernel_rfl) ?_; have hD := bel_cells hB2; (repeat (go_big_quiet_step ((fail)))); refine wpQuiet_nil ?_; intro w1 hB1; replace hB2 := bel_trans hB2 hB1; obtain ⟨hC1, hF1⟩ := bcell hB2; clear hD; replace hB1 := hB1); go_wp2; go_end0; have hk : Below w.heap.size w w1 := (by (repeat' (first | (with_reducible exact bel_refl _) | (with_reducible assumption) | (with_reducible refine bel_drew ?_) | (with_reducible refine bel_drewN ?_) | (with_reducible refine bel_alloc ?_) | (with_reducible refine bel_set ?_ ?_) | (with_reducible refine bel_trans ?_ (by with_reducible assumption)) | omega | (simp; done) | (simp; omega)))); exact ⟨rfl, by rw [hr.out]; exact hsh.out.keep hk, grown_of_bel hk _⟩
      · have q2 : (ya + x.minutes == yb) = false := by simpa using g2
        have hr := hid (hno.out (by omega))
        clear hno hyes g0 g2
        go_enter Try.func46, Try.ntmps46; go_wp2_with fail; (refine wp_region_bel (by kernel_rfl) (by kernel_rfl) ?_; have hD := bel_cells hB2; (repeat (go_big_quiet_step ((fail)))); refine wpQuiet_nil ?_; intro w1 hB1; replace hB2 := bel_trans hB2 hB1; obtain ⟨hC1, hF1⟩ := bcell hB2; clear hD; replace hB1 := hB1); go_wp2; go_end0; have hk : Below w.heap.size w w1 := (by (repeat' (first | (with_reducible exact bel_refl _) | (with_reducible assumption) | (with_reducible refine bel_drew ?_) | (with_reducible refine bel_drewN ?_) | (with_reducible refine bel_alloc ?_) | (with_reducible refine bel_set ?_ ?_) | (with_reducible refine bel_trans ?_ (by with_reducible assumption)) | omega | (simp; done) | (simp; omega)))); exact ⟨rfl, by rw [hr.out]; exact hsh.out.keep hk, grown_of_bel hk _⟩
  · have q0 : ((bn : Int) == v) = false := by simpa using g0
    have hr := hid (hno.out (by omega))
    clear hno hyes g0
    go_enter Try.func46, Try.ntmps46; go_wp2_with fail; (refine wp_region_bel (by kernel_rfl) (by kernel_rfl) ?_; have hD := bel_cells hB2; (repeat (go_big_quiet_step ((fail)))); refine wpQuiet_nil ?_; intro w1 hB1; replace hB2 := bel_trans hB2 hB1; obtain ⟨hC1, hF1⟩ := bcell hB2; clear hD; replace hB1 := hB1); go_wp2; go_end0; have hk : Below w.heap.size w w1 := (by (repeat' (first | (with_reducible exact bel_refl _) | (with_reducible assumption) | (with_reducible refine bel_drew ?_) | (with_reducible refine bel_drewN ?_) | (with_reducible refine bel_alloc ?_) | (with_reducible refine bel_set ?_ ?_) | (with_reducible refine bel_trans ?_ (by with_reducible assumption)) | omega | (simp; done) | (simp; omega)))); exact ⟨rfl, by rw [hr.out]; exact hsh.out.keep hk, grown_of_bel hk _⟩
set_option maxRecDepth 100000 in
set_option maxHeartbeats 2000000 in
theorem walkLegsT (A : Option Addr) (n c0 sb g P c tb tg k tc bb : Nat) (xs : List Road) (s : List Int) (v acc : Int) (w : World) (hst : TS sb g P c tb tg k tc bb s v acc w) (hA : Arr P s) (hS : Sl w 4 A n c0 (xs.flatMap Road.row)) (hSb : 0 < n → ∀ b, A.map (·.block) = some b → b ≠ bb) (hn : n ≤ 12) (hG : allR P xs) :
    Calls Try.prog 45 #[.slice A n c0, .func (.func 46) #[] #[.pointer (some ⟨tb, 0, none⟩), .pointer (some ⟨sb, 0, none⟩), .pointer (some ⟨bb, 0, none⟩)]] w fun e w' => e = .returned (.tuple #[]) ∧ TS sb g P c tb tg k tc bb s v (befFold s v xs acc) w' ∧ w.grownBy w' (some bb) := by
  have hlh := hid (hS.xs_len Road.row_len (by omega))
  go_enter Try.func45, Try.ntmps45
  go_wp2_with fail
  go_loopw [8] (fun q wr => ∃ i : Nat, i ≤ n ∧ q = .int .i64 i ∧ TS sb g P c tb tg k tc bb s v (befFold s v (xs.take i) acc) wr ∧ w.grownBy wr (some bb)) (fun q _ => n - (intOf q).toNat)
  case atStart => exact ⟨0, by omega, rfl, by simpa [befFold] using hst, grown_of_bel (bel_refl _) _⟩
  case round =>
    obtain ⟨i, hi', rfl, hsi, hgr⟩ := hrel
    by_cases hlt : i < n
    · obtain ⟨x, hx⟩ : ∃ x, xs[i]? = some x := get_of_lt (by rw [hlh.out]; exact hlt)
      obtain ⟨b, o, rfl, hb, c1, c2, c3, c4⟩ := hS.road hx
      have hbb := hSb (by omega) b rfl
      replace c1 := (hgr.cell_far ⟨b, _, none⟩ hb (by simpa using hbb)).trans c1
      replace c2 := (hgr.cell_far ⟨b, _, none⟩ hb (by simpa using hbb)).trans c2
      replace c3 := (hgr.cell_far ⟨b, _, none⟩ hb (by simpa using hbb)).trans c3
      replace c4 := (hgr.cell_far ⟨b, _, none⟩ hb (by simpa using hbb)).trans c4
      have hb9 : b < wr.heap.size := Nat.lt_of_lt_of_le hb hgr.size
      have hgx := hid (hG i x hx)
      have hN := hid (befFold_next (s := s) (v := v) (acc := acc) hx)
      obtain ⟨⟨qa0, qa1⟩, ⟨qb0, qb1⟩⟩ := road_ends (hG i x hx)
      obtain ⟨an, hxa⟩ := Int.eq_ofNat_of_zero_le qa0
      obtain ⟨bn, hxb⟩ := Int.eq_ofNat_of_zero_le qb0
      have han : an < P := by omega
      have hbn : bn < P := by omega
      replace hxa := hid hxa
      replace hxb := hid hxb
      clear hx qa0 qa1 qb0 qb1
      obtain ⟨_, _, _, _, hgl⟩ := hsi.lts
      have e0 : ((wr.alloc (.cells #[.int .i64 x.a, .int .i64 x.b, .int .i64 x.minutes, .int .i64 x.closes] 39))).cell? ⟨wr.heap.size, 0, none⟩ = some (.int .i64 x.a) := by rw [cell_of_row _ _ 0 _ _ (0, 0) (heap_alloc_new wr _)]; rfl
      have e1 : ((wr.alloc (.cells #[.int .i64 x.a, .int .i64 x.b, .int .i64 x.minutes, .int .i64 x.closes] 39))).cell? ⟨wr.heap.size, 1, none⟩ = some (.int .i64 x.b) := by rw [cell_of_row _ _ 1 _ _ (0, 0) (heap_alloc_new wr _)]; rfl
      have e2 : ((wr.alloc (.cells #[.int .i64 x.a, .int .i64 x.b, .int .i64 x.minutes, .int .i64 x.closes] 39))).cell? ⟨wr.heap.size, 2, none⟩ = some (.int .i64 x.minutes) := by rw [cell_of_row _ _ 2 _ _ (0, 0) (heap_alloc_new wr _)]; rfl
      have e3 : ((wr.alloc (.cells #[.int .i64 x.a, .int .i64 x.b, .int .i64 x.minutes, .int .i64 x.closes] 39))).cell? ⟨wr.heap.size, 3, none⟩ = some (.int .i64 x.closes) := by rw [cell_of_row _ _ 3 _ _ (0, 0) (heap_alloc_new wr _)]; rfl
      have hsti := hid hsi
      clear hsi hst
      go_wp2_with (first | (go_at_call 46; refine (cloT x x.b x.a bn an sb g P c tb tg k tc bb s v _ _ hst2 hA hgx.out hxb.out hxa.out hbn han).mono ?_; rintro _ w3 ⟨rfl, hst3, hg3⟩) | (go_at_call 46; refine (cloT x x.a x.b an bn sb g P c tb tg k tc bb s v _ _ (hsti.out.keep (bel_alloc (bel_refl _))) hA hgx.out hxa.out hxb.out han hbn).mono ?_; rintro _ w2 ⟨rfl, hst2, hg2⟩; have k0 := (hg2.cell_far ⟨wr.heap.size, 0, none⟩ (by simp) (by simp; omega)).trans e0; have k1 := (hg2.cell_far ⟨wr.heap.size, 1, none⟩ (by simp) (by simp; omega)).trans e1; have k2 := (hg2.cell_far ⟨wr.heap.size, 2, none⟩ (by simp) (by simp; omega)).trans e2; have k3 := (hg2.cell_far ⟨wr.heap.size, 3, none⟩ (by simp) (by simp; omega)).trans e3))
      go_roundw
      case rel =>
        refine ⟨i + 1, by omega, by go_num, by rw [hN.out]; exact hst3, ?_⟩
        exact grown_trans hgr (grown_trans (grown_of_bel (bel_alloc (bel_refl wr)) _) (grown_trans hg2 hg3))
      case measure => simp [intOf]; omega
    · go_wp2
      go_end0
      have e : i = n := by omega
      subst e
      rw [List.take_of_length_le (by rw [hlh.out]; omega)] at hsi
      exact ⟨rfl, hsi, hgr⟩
end Go.Proofs.Ytfimchbjpambfaa
