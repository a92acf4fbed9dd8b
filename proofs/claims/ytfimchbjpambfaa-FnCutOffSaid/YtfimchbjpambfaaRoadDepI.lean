/-
  The last departures from all places, of the program: the closure, the legs of all roads, the passes.
-/
import Derived.Test.YtfimchbjpambfaaRoadArrI
import Derived.StillTailTactics
namespace Go.Proofs.Ytfimchbjpambfaa
open Go.RowKit

theorem set_gi {s : List Int} {v : Nat} (hv : v < s.length) : s.set v (gi s v) = s := by
  obtain ⟨x, hx⟩ := get_of_lt hv
  rw [gi_get (by simpa using hx)]
  refine List.ext_getElem? fun j => ?_
  rw [List.getElem?_set]
  split
  · rename_i e
    subst e
    exact hx.symm
  · rfl
theorem relD_no {s : List Int} {r : Road} {a b : Int} (h : gi s b < 0) (hm : 1 ≤ r.minutes) : relD s r b a = s := by
  unfold relD
  rw [if_neg]
  rintro ⟨h1, _⟩
  unfold rideD at h1
  omega
theorem relD_max {P : Nat} {s : List Int} {r : Road} {b : Int} {an : Nat} (hA : Arr P s) (han : an < P) (_hc : r.closes ≤ 999) (hm : 1 ≤ r.minutes) : relD s r b an = s.set an (max (gi s an) (min (gi s b) r.closes - r.minutes)) := by
  have b1 := hA.bd an
  have b2 := hA.bd b
  have hl : an < s.length := by rw [hA.len]; exact han
  unfold relD
  by_cases h : 0 ≤ rideD r (gi s b) ∧ valD (rideD r (gi s b)) < valD (gi s an)
  · rw [if_pos h]
    obtain ⟨h1, h2⟩ := h
    have e : max (gi s an) (min (gi s b) r.closes - r.minutes) = rideD r (gi s b) := by
      unfold rideD at h1 h2 ⊢
      unfold valD at h2
      split at h2 <;> split at h2 <;> omega
    rw [e]
    simp
  · rw [if_neg h]
    have e : max (gi s an) (min (gi s b) r.closes - r.minutes) = gi s an := by
      by_cases h1 : 0 ≤ rideD r (gi s b)
      · have h2 : ¬ valD (rideD r (gi s b)) < valD (gi s an) := fun h3 => h ⟨h1, h3⟩
        unfold rideD at h1 h2
        unfold valD at h2
        split at h2 <;> split at h2 <;> omega
      · unfold rideD at h1
        omega
    rw [e, set_gi hl]
set_option maxRecDepth 100000 in
set_option maxHeartbeats 2000000 in
theorem cloD (x : Road) (a b : Int) (an bn g pb P c : Nat) (s : List Int) (W w : World) (hst : St W g pb P c s w) (hA : Arr P s) (hg : goodR P x = true) (ha : a = an) (hb : b = bn) (han : an < P) (hbn : bn < P) :
    Calls Try.prog 67 #[.agg #[.int .i64 x.a, .int .i64 x.b, .int .i64 x.minutes, .int .i64 x.closes], .int .i64 a, .int .i64 b, .pointer (some ⟨pb, 0, none⟩)] w fun e w' => e = .returned (.tuple #[]) ∧ St W g pb P c (relD s x b a) w' ∧ w.grownBy w' (some g) := by
  subst ha
  subst hb
  have hgb := goodR_bd hg
  have b1 := hA.bd an
  have b2 := hA.bd bn
  have c1 := own_gi hst.own han
  have c2 := own_gi hst.own hbn
  have c3 := hst.box
  have z1 := own_fz hst.own an
  have hgl := hst.g_lt
  have hpl := hst.p_lt
  have hne := hst.ne
  have hin1 : (0 : Int) ≤ (an : Int) := by omega
  have hin2 : (an : Int) < (P : Int) := by omega
  have hin3 : (0 : Int) ≤ (bn : Int) := by omega
  have hin4 : (bn : Int) < (P : Int) := by omega
  have hmax := hid (relD_max (r := x) (b := bn) hA han (by omega) (by omega))
  have hno : Hid (gi s bn < 0 → relD s x bn an = s) := fun h => relD_no h (by omega)
  obtain ⟨ya, hya⟩ : ∃ y, gi s an = y := ⟨_, rfl⟩
  obtain ⟨yb, hyb⟩ : ∃ y, gi s bn = y := ⟨_, rfl⟩
  rw [hya] at b1 c1 hmax
  rw [hyb] at b2 c2 hmax hno
  clear hya hyb hg hA
  have hsh := hid hst
  clear hst
  have hBx : Below w.heap.size w (w.alloc (.cells #[.int .i64 x.a, .int .i64 x.b, .int .i64 x.minutes, .int .i64 x.closes] 39)) := bel_alloc (bel_refl w)
  by_cases g0 : yb < 0
  · have hr := hid (hno.out g0)
    clear hno hmax
    go_enter Try.func67, Try.ntmps67
    go_wp2
    go_end0
    exact ⟨rfl, by rw [hr.out]; exact hsh.out.keep (by (repeat' (first | (with_reducible exact bel_refl _) | (with_reducible assumption) | (with_reducible refine bel_drew ?_) | (with_reducible refine bel_drewN ?_) | (with_reducible refine bel_alloc ?_) | (with_reducible refine bel_set ?_ ?_) | (with_reducible refine bel_trans ?_ (by with_reducible assumption)) | omega | (simp; done) | (simp; omega)))), grown_of_bel (by (repeat' (first | (with_reducible exact bel_refl _) | (with_reducible assumption) | (with_reducible refine bel_drew ?_) | (with_reducible refine bel_drewN ?_) | (with_reducible refine bel_alloc ?_) | (with_reducible refine bel_set ?_ ?_) | (with_reducible refine bel_trans ?_ (by with_reducible assumption)) | omega | (simp; done) | (simp; omega)))) _⟩
  · clear hno
    have hw : IntKind.i64.wrap (min yb x.closes - x.minutes) = min yb x.closes - x.minutes := IntWalk.i64_in _ (by omega)
    have x1 := (hBx.cell (p := ⟨g, an, none⟩) hgl).trans c1
    have x2 := (hBx.cell (p := ⟨g, bn, none⟩) hgl).trans c2
    have x3 := (hBx.cell (p := ⟨pb, 0, none⟩) hpl).trans c3
    have y1 := own_fz (own_bel hsh.out.own hBx) an
    have k2 : ((w.alloc (.cells #[.int .i64 x.a, .int .i64 x.b, .int .i64 x.minutes, .int .i64 x.closes] 39))).cell? ⟨w.heap.size, 2, none⟩ = some (.int .i64 x.minutes) := by rw [cell_of_row _ _ 2 _ _ (0, 0) (heap_alloc_new w _)]; rfl
    have k3 : ((w.alloc (.cells #[.int .i64 x.a, .int .i64 x.b, .int .i64 x.minutes, .int .i64 x.closes] 39))).cell? ⟨w.heap.size, 3, none⟩ = some (.int .i64 x.closes) := by rw [cell_of_row _ _ 3 _ _ (0, 0) (heap_alloc_new w _)]; rfl
    go_enter Try.func67, Try.ntmps67
    go_wp2_with fail
    generalize (w.alloc (.cells #[.int .i64 x.a, .int .i64 x.b, .int .i64 x.minutes, .int .i64 x.closes] 39)) = W1 at x1 x2 x3 y1 k2 k3 hBx ⊢
    refine wp_region_still_tail 18 (by kernel_rfl) (by kernel_rfl) ?_
    (simp only [List.take_succ_cons, List.take_zero, List.drop_succ_cons, List.drop_zero])
    (repeat still_step)
    refine wpStill_nil ?_
    change wpList _ _ _ _ _ W1.drew
    go_wp2
    go_end0
    have hk : Below w.heap.size w W1.drew := by (repeat' (first | (with_reducible exact bel_refl _) | (with_reducible assumption) | (with_reducible refine bel_drew ?_) | (with_reducible refine bel_drewN ?_) | (with_reducible refine bel_alloc ?_) | (with_reducible refine bel_set ?_ ?_) | (with_reducible refine bel_trans ?_ (by with_reducible assumption)) | omega | (simp; done) | (simp; omega)))
    exact ⟨rfl, by rw [hmax.out]; exact (hsh.out.keep hk).set an _, grown_set (grown_of_bel hk _) _⟩
theorem passD_next {xs : List Road} {s : List Int} {i : Nat} {x : Road} (hx : xs[i]? = some x) : passD (xs.take (i + 1)) s = relD (relD (passD (xs.take i) s) x x.b x.a) x x.a x.b := by
  rw [List.take_add_one, hx]
  simp [passD, roadD]
set_option maxRecDepth 100000 in
set_option maxHeartbeats 2000000 in
theorem walkLegsD (A : Option Addr) (n c0 g pb P c : Nat) (xs : List Road) (s : List Int) (W w : World) (hst : St W g pb P c s w) (hA : Arr P s) (hS : Sl W 4 A n c0 (xs.flatMap Road.row)) (hn : n ≤ 12) (hG : allR P xs) :
    Calls Try.prog 45 #[.slice A n c0, .func (.func 67) #[] #[.pointer (some ⟨pb, 0, none⟩)]] w fun e w' => e = .returned (.tuple #[]) ∧ St W g pb P c (passD xs s) w' := by
  have hlh := hid (hS.xs_len Road.row_len (by omega))
  go_enter Try.func45, Try.ntmps45
  go_wp2_with fail
  go_loopw [8] (fun v wr => ∃ i : Nat, i ≤ n ∧ v = .int .i64 i ∧ St W g pb P c (passD (xs.take i) s) wr) (fun v _ => n - (intOf v).toNat)
  case atStart => exact ⟨0, by omega, rfl, by simpa [passD] using hst⟩
  case round =>
    obtain ⟨i, hi', rfl, hsi⟩ := hrel
    by_cases hlt : i < n
    · obtain ⟨x, hx⟩ : ∃ x, xs[i]? = some x := get_of_lt (by rw [hlh.out]; exact hlt)
      obtain ⟨b, o, rfl, hb, c1, c2, c3, c4⟩ := (hS.bel hsi.bel).road hx
      have hgx := hid (hG i x hx)
      have hN := hid (passD_next (s := s) hx)
      obtain ⟨⟨qa0, qa1⟩, ⟨qb0, qb1⟩⟩ := road_ends (hG i x hx)
      obtain ⟨an, hxa⟩ := Int.eq_ofNat_of_zero_le qa0
      obtain ⟨bn, hxb⟩ := Int.eq_ofNat_of_zero_le qb0
      have han : an < P := by omega
      have hbn : bn < P := by omega
      replace hxa := hid hxa
      replace hxb := hid hxb
      clear hx qa0 qa1 qb0 qb1
      have hAi := hid (hA.passD (good_take hG i))
      have hAj := hid (hAi.out.relD hgx.out x.b x.a (by have := hxa.out; omega))
      have hgl := hsi.g_lt
      have e0 : ((wr.alloc (.cells #[.int .i64 x.a, .int .i64 x.b, .int .i64 x.minutes, .int .i64 x.closes] 39))).cell? ⟨wr.heap.size, 0, none⟩ = some (.int .i64 x.a) := by rw [cell_of_row _ _ 0 _ _ (0, 0) (heap_alloc_new wr _)]; rfl
      have e1 : ((wr.alloc (.cells #[.int .i64 x.a, .int .i64 x.b, .int .i64 x.minutes, .int .i64 x.closes] 39))).cell? ⟨wr.heap.size, 1, none⟩ = some (.int .i64 x.b) := by rw [cell_of_row _ _ 1 _ _ (0, 0) (heap_alloc_new wr _)]; rfl
      have e2 : ((wr.alloc (.cells #[.int .i64 x.a, .int .i64 x.b, .int .i64 x.minutes, .int .i64 x.closes] 39))).cell? ⟨wr.heap.size, 2, none⟩ = some (.int .i64 x.minutes) := by rw [cell_of_row _ _ 2 _ _ (0, 0) (heap_alloc_new wr _)]; rfl
      have e3 : ((wr.alloc (.cells #[.int .i64 x.a, .int .i64 x.b, .int .i64 x.minutes, .int .i64 x.closes] 39))).cell? ⟨wr.heap.size, 3, none⟩ = some (.int .i64 x.closes) := by rw [cell_of_row _ _ 3 _ _ (0, 0) (heap_alloc_new wr _)]; rfl
      have hsti := hid hsi
      clear hsi hst
      go_wp2_with (first | (go_at_call 67; refine (cloD x x.b x.a bn an g pb P c _ W _ hst2 hAj.out hgx.out hxb.out hxa.out hbn han).mono ?_; rintro _ w3 ⟨rfl, hst3, hg3⟩) | (go_at_call 67; refine (cloD x x.a x.b an bn g pb P c _ W _ (hsti.out.keep (bel_alloc (bel_refl _))) hAi.out hgx.out hxa.out hxb.out han hbn).mono ?_; rintro _ w2 ⟨rfl, hst2, hg2⟩; have k0 := (hg2.cell_far ⟨wr.heap.size, 0, none⟩ (by simp) (by simp; omega)).trans e0; have k1 := (hg2.cell_far ⟨wr.heap.size, 1, none⟩ (by simp) (by simp; omega)).trans e1; have k2 := (hg2.cell_far ⟨wr.heap.size, 2, none⟩ (by simp) (by simp; omega)).trans e2; have k3 := (hg2.cell_far ⟨wr.heap.size, 3, none⟩ (by simp) (by simp; omega)).trans e3))
      go_roundw
      case rel => exact ⟨i + 1, by omega, by go_num, by rw [hN.out]; exact hst3⟩
      case measure => simp [intOf]; omega
    · go_wp2
      go_end0
      have e : i = n := by omega
      subst e
      rw [List.take_of_length_le (by rw [hlh.out]; omega)] at hsi
      exact ⟨rfl, hsi⟩

set_option maxRecDepth 100000 in
set_option maxHeartbeats 2000000 in
theorem depI (A : Option Addr) (n c0 P F : Nat) (xs : List Road) (w : World) (hS : Sl w 4 A n c0 (xs.flatMap Road.row)) (hnet : netB P xs = true) (hF : F < P) :
    Calls Try.prog 43 #[.int .i64 P, .slice A n c0, .int .i64 F] w fun e w' => ∃ A' c', e = .returned (.slice A' P c') ∧ Own w.heap.size w'.heap.size w' 3 1 A' P c' (ints (arrD P xs F 999)) ∧ Below w.heap.size w w' := by
  obtain ⟨i0, hi, hz0, hz1, hz2⟩ := info_parts info_int
  have hnb := netB_bd hnet
  have hG := netB_all hnet
  have hn12 : n ≤ 12 := by have := hnb.2.2; rwa [hS.xs_len Road.row_len (by omega)] at this
  have hP7 : P ≤ 7 := by omega
  have hmf : ∀ (fn : Fn) (first cap : Array Value) (w : World), (Instr.makeFunc fn first cap).run Try.prog w = .ok (.func fn first cap) w := fun _ _ _ _ => rfl
  go_enter Try.func43, Try.ntmps43
  go_wp2_with (at_make; refine wpList_make_full _ rfl _ _ 27 rfl w.heap.size 3 i0 _ 1 Try.underlying27 hi hz0 hz1 _ _ _ _ P rfl rfl rfl rfl (by rw [hz2]; omega) (by simp [maxLen]; omega) (Nat.le_refl _) ?_; intro w1 hown hg)
  have hb1 : Below w.heap.size w w1 := (Below.refl _ _).grown hg (Nat.le_refl _) (by simp)
  generalize hZ : (madeCells (Value.int .i64 0).cells (P * 1)).toList = Z at hown
  have hZl : Hid ((ints (List.replicate P (-1))).length = Z.length) := by
    show _ = _
    rw [← hZ, ints_len]
    simp [madeCells]
  clear hZ
  have hpb : w.heap.size < w1.heap.size := (hown.lt _ rfl).2
  have hpne : ¬ w1.heap.size = w.heap.size := by omega
  have hbox : (w1.alloc (.cells #[.slice (some ⟨w.heap.size, 0, none⟩) P P] 27)).cell? ⟨w1.heap.size, 0, none⟩ = some (.slice (some ⟨w.heap.size, 0, none⟩) P P) := by rw [cell_of_row _ _ 0 _ _ (0, 0) (heap_alloc_new w1 _)]; rfl
  go_loopw [8, 13] (fun _ v wr => ∃ i : Nat, i ≤ P ∧ v = .int .i64 i ∧ wr.ownsRow w.heap.size 3 1 (.slice (some ⟨w.heap.size, 0, none⟩) P P) P ((ints (List.replicate P (-1))).take i ++ Z.drop i) ∧ wr.cell? ⟨w1.heap.size, 0, none⟩ = some (.slice (some ⟨w.heap.size, 0, none⟩) P P) ∧ Below w.heap.size w wr) (fun _ v _ => P - (intOf v).toNat)
  case atStart => exact ⟨0, by omega, rfl, by simpa using own_bel hown (bel_alloc (bel_refl _)), hbox, by (repeat' (first | (with_reducible exact bel_refl _) | (with_reducible assumption) | (with_reducible refine bel_drew ?_) | (with_reducible refine bel_drewN ?_) | (with_reducible refine bel_alloc ?_) | (with_reducible refine bel_set ?_ ?_) | (with_reducible refine bel_trans ?_ (by with_reducible assumption)) | omega | (simp; done) | (simp; omega)))⟩
  case round =>
    obtain ⟨i, hi', rfl, hown, hbx, hB⟩ := hrel
    have hgl := (hown.lt _ rfl).2
    have hpl := World.block_lt_of_cell? wr _ hbx
    by_cases hlt : i < P
    · have z0 := own_fz hown i
      obtain ⟨u0, d0⟩ := own_at hown (j := i) (by omega)
      have hi0 : (0 : Int) ≤ (i : Int) := by omega
      have hi1 : (i : Int) < (P : Int) := by omega
      have f0 : (ints (List.replicate P (-1)))[i]? = some (.int .i64 (-1)) := ints_get (by simp [hlt])
      go_wp2
      go_roundw
      case rel => exact ⟨i + 1, by omega, by go_num, own_store hown hZl.out f0, by rw [World.cell?_setCell_far _ _ _ _ (fun e => hpne (by simpa using e.symm))]; exact hbx, by (repeat' (first | (with_reducible exact bel_refl _) | (with_reducible assumption) | (with_reducible refine bel_drew ?_) | (with_reducible refine bel_drewN ?_) | (with_reducible refine bel_alloc ?_) | (with_reducible refine bel_set ?_ ?_) | (with_reducible refine bel_trans ?_ (by with_reducible assumption)) | omega | (simp; done) | (simp; omega)))⟩
      case measure => simp [intOf]; omega
    · have e : i = P := by omega
      subst e
      have hl := hown.1
      have hl2 := hZl.out
      rw [ints_len, List.length_replicate] at hl2
      rw [List.take_of_length_le (by rw [ints_len, List.length_replicate]; omega), List.drop_of_length_le (by omega), List.append_nil] at hown
      clear hl hl2
      have hst : St w w.heap.size w1.heap.size i i (List.replicate i (-1)) wr := ⟨hown, hbx, hB, hpne⟩
      have z0 := own_fz hown F
      have d0 := own_gi hown hF
      have hF0 : (0 : Int) ≤ (F : Int) := by omega
      have hF1 : (F : Int) < (i : Int) := by omega
      go_wp2_with fail
      have hst0 := hst.set F 999
      clear hown hbx hB z0 d0 hst hgl hpl hZl
      have hA0 : Arr i ((List.replicate i (-1)).set F 999) := arr_start hF (by omega)
      go_loopw [24] (fun v wr => ∃ k : Nat, k ≤ i ∧ v = .int .i64 k ∧ St w w.heap.size w1.heap.size i i (runD xs k ((List.replicate i (-1)).set F 999)) wr) (fun v _ => i - (intOf v).toNat)
      case atStart => exact ⟨0, by omega, rfl, hst0⟩
      case round =>
        obtain ⟨k, hk', rfl, hsk⟩ := hrel
        by_cases hlt2 : k < i
        · have hAk := hA0.runD (good_mem hG) k
          have hst9 := hid hsk
          have hbx := hsk.box
          have hpl := hsk.p_lt
          clear hst0 hsk
          go_wp2_with (go_at_call 45; refine (walkLegsD _ _ _ w.heap.size w1.heap.size i i xs _ w _ hst9.out hAk hS hn12 hG).mono ?_; rintro _ w2 ⟨rfl, hst2⟩)
          go_roundw
          case rel => exact ⟨k + 1, by omega, by go_num, hst2⟩
          case measure => simp [intOf]; omega
        · have e : k = i := by omega
          subst e
          have hbx := hsk.box
          have hpl := hsk.p_lt
          go_wp2
          go_ret
          refine ⟨some ⟨w.heap.size, 0, none⟩, k, ?_, Own.mk_ hsk.own, hsk.bel⟩
          rfl
end Go.Proofs.Ytfimchbjpambfaa
