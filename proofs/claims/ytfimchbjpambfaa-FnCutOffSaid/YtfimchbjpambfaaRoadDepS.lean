/-
  The last departures from all places, of the reference: passes over all roads until none changes anything.
-/
import Derived.Test.YtfimchbjpambfaaRoadArrS
import Derived.Test.YtfimchbjpambfaaRoadDepI
namespace Go.Proofs.Ytfimchbjpambfaa
open Go.RowKit

def midD (x : Road) (s : List Int) (a : Nat) : List Int := if a ≤ x.a.toNat then s else if a ≤ x.b.toNat then relD s x x.b x.a else relD (relD s x x.b x.a) x x.a x.b
theorem Arr.midD {P : Nat} {x : Road} {s : List Int} (h : Arr P s) (hg : goodR P x = true) (a : Nat) : Arr P (midD x s a) := by
  obtain ⟨h1, h2⟩ := road_ends hg
  unfold Go.Proofs.Ytfimchbjpambfaa.midD
  split
  · exact h
  · split
    · exact h.relD hg _ _ h1.2
    · exact (h.relD hg _ _ h1.2).relD hg _ _ h2.2
theorem midD_a {x : Road} {s : List Int} {p : Int} (hg : goodR p x = true) {an : Nat} (h : x.a = an) : midD x s (an + 1) = relD (midD x s an) x x.b x.a := by
  have hb := goodR_bd hg
  unfold midD
  rw [if_neg (by omega), if_pos (by omega), if_pos (by omega)]
theorem midD_b {x : Road} {s : List Int} {p : Int} (hg : goodR p x = true) {bn : Nat} (h : x.b = bn) : midD x s (bn + 1) = relD (midD x s bn) x x.a x.b := by
  have hb := goodR_bd hg
  unfold midD
  rw [if_neg (by omega), if_neg (by omega), if_neg (by omega), if_pos (by omega)]
theorem midD_other {x : Road} {s : List Int} {p : Int} (hg : goodR p x = true) {v : Nat} (h1 : x.a ≠ v) (h2 : x.b ≠ v) : midD x s (v + 1) = midD x s v := by
  have hb := goodR_bd hg
  unfold midD
  by_cases h3 : v ≤ x.a.toNat
  · rw [if_pos (by omega), if_pos (by omega)]
  · rw [if_neg (show ¬ v + 1 ≤ x.a.toNat by omega), if_neg (show ¬ v ≤ x.a.toNat by omega)]
    by_cases h4 : v ≤ x.b.toNat
    · rw [if_pos (show v + 1 ≤ x.b.toNat by omega), if_pos h4]
    · rw [if_neg (show ¬ v + 1 ≤ x.b.toNat by omega), if_neg h4]
theorem midD_end {x : Road} {s : List Int} {P : Nat} (hg : goodR P x = true) : midD x s P = relD (relD s x x.b x.a) x x.a x.b := by
  have hb := goodR_bd hg
  unfold midD
  rw [if_neg (by omega), if_neg (by omega)]
theorem midD_start {x : Road} {s : List Int} : midD x s 0 = s := by
  unfold midD
  rw [if_pos (by omega)]

set_option maxRecDepth 100000 in
set_option maxHeartbeats 4000000 in
theorem depS (A : Option Addr) (n c0 P F : Nat) (xs : List Road) (w : World) (hS : Sl w 4 A n c0 (xs.flatMap Road.row)) (hnet : netB P xs = true) (hF : F < P) :
    Calls Try.prog 44 #[.int .i64 P, .slice A n c0, .int .i64 F] w fun e w' => ∃ A' c', e = .returned (.slice A' P c') ∧ Own w.heap.size w'.heap.size w' 3 1 A' P c' (ints (arrD P xs F 999)) ∧ Below w.heap.size w w' := by
  have hlh := hid (hS.xs_len Road.row_len (by omega))
  have hnb := netB_bd hnet
  have hG := netB_all hnet
  have hn12 : n ≤ 12 := by rw [← hlh.out]; exact hnb.2.2
  have hP7 : P ≤ 7 := by omega
  clear hnet
  go_enter Try.func44, Try.ntmps44
  go_wp2_with fail
  go_loopw [7, 8] (fun q v wr => ∃ i : Nat, i ≤ P ∧ v = .int .i64 i ∧ (∃ A' c', q = .slice A' i c' ∧ wr.ownsRow w.heap.size 3 1 (.slice A' i c') i (ints (List.replicate i (-1)))) ∧ Below w.heap.size w wr) (fun _ v _ => P - (intOf v).toNat)
  case atStart => exact ⟨0, by omega, rfl, ⟨_, _, rfl, own_empty (w := w) (size := 1) (e := 3) (Nat.le_refl _)⟩, by (repeat' (first | (with_reducible exact bel_refl _) | (with_reducible assumption) | (with_reducible refine bel_drew ?_) | (with_reducible refine bel_drewN ?_) | (with_reducible refine bel_alloc ?_) | (with_reducible refine bel_set ?_ ?_) | (with_reducible refine bel_trans ?_ (by with_reducible assumption)) | omega | (simp; done) | (simp; omega)))⟩
  case round =>
    obtain ⟨i, hi', rfl, ⟨A', c', rfl, hown⟩, hB2⟩ := hrel
    by_cases hlt : i < P
    · go_wp2_with (at_builtin; refine wpList_push rfl (.tmp 20) (.tmp 21) 27 rfl w.heap.size 3 (.int .i64 0) 1 8 Try.underlying27 info_int rfl (by omega) A' i c' _ [.int .i64 (-1)] 3 rfl hown rfl rfl (oneCell_int _) (by omega) (by omega) hB2.size ?_; intro A'' c'' w3 hown2 hb3 hg3)
      go_roundw
      case rel => exact ⟨i + 1, by omega, by go_num, ⟨_, _, rfl, by rw [List.replicate_succ', ← ints_snoc]; exact hown2⟩, hB2.trans hb3⟩
      case measure => simp [intOf]; omega
    · have e : i = P := by omega
      subst e
      obtain ⟨g, rfl, hgl, hgh⟩ := own_form hown (by omega)
      have hst : S0 w g i c' (List.replicate i (-1)) wr := ⟨hown, hB2⟩
      have z0 := own_fz hown F
      have d0 := own_gi hown hF
      have hF0 : (0 : Int) ≤ (F : Int) := by omega
      have hF1 : (F : Int) < (i : Int) := by omega
      go_wp2_with fail
      have hst0 := hst.set F 999
      clear hown hB2 z0 d0 hst hgh hi' hlt
      have hA0 : Arr i ((List.replicate i (-1)).set F 999) := arr_start hF (by omega)
      obtain ⟨s0, hs0⟩ : ∃ s, (List.replicate i (-1)).set F 999 = s := ⟨_, rfl⟩
      rw [hs0] at hst0 hA0
      have hdone : Hid (∀ K, passD xs (runD xs K s0) = runD xs K s0 → runD xs K s0 = arrD i xs F 999) := fun K hK => by
        rw [← hs0] at hK ⊢
        exact runD_done (good_mem hG) hF (by omega) hK
      clear hs0
      go_loopw [9, 10, 11, 12, 13] (fun ag _ _ _ _ wr => ∃ K : Nat, S0 w g i c' (runD xs K s0) wr ∧ (ag = .bool true ∨ (ag = .bool false ∧ passD xs (runD xs K s0) = runD xs K s0))) (fun ag _ _ _ _ wr => msrD g i wr + flagN ag)
      case atStart => exact ⟨0, hst0, Or.inl rfl⟩
      case round =>
        obtain ⟨K, hsk, hag⟩ := hrel
        rcases hag with rfl | ⟨rfl, hfix⟩
        · have hM := hid (msrD_eq hsk)
          have hAk := hA0.runD (good_mem hG) K
          obtain ⟨sK, hsK⟩ : ∃ s, runD xs K s0 = s := ⟨_, rfl⟩
          have hK1 : Hid (runD xs (K + 1) s0 = passD xs sK) := by show passD xs (runD xs K s0) = _; rw [hsK]
          rw [hsK] at hsk hAk hM
          clear hst0
          obtain ⟨wo, rfl⟩ : ∃ wo : World, wo = wr := ⟨_, rfl⟩
          go_wp2_with fail
          go_loopw [9, 10, 11, 12, 13] (fun ag v _ _ _ wr => ∃ j : Nat, j ≤ n ∧ v = .int .i64 j ∧ S0 w g i c' (passD (xs.take j) sK) wr ∧ FlagD i ag (passD (xs.take j) sK) sK) (fun _ v _ _ _ _ => n - (intOf v).toNat)
          case atStart => exact ⟨0, by omega, rfl, by simpa [passD] using hsk, Or.inr ⟨rfl, by simp [passD]⟩⟩
          case round =>
            obtain ⟨j, hj', rfl, hsj, hfj⟩ := hrel
            by_cases hlt3 : j < n
            · obtain ⟨x, hx⟩ : ∃ x, xs[j]? = some x := get_of_lt (by rw [hlh.out]; exact hlt3)
              have hX := hid hx
              have hgx := hid (hG j x hx)
              have hN := hid (passD_next (s := sK) hx)
              have hAj := hid (hAk.passD (good_take hG j))
              clear hx
              obtain ⟨sI, hsI⟩ : ∃ s, passD (xs.take j) sK = s := ⟨_, rfl⟩
              rw [hsI] at hsj hfj hN hAj
              clear hsI
              obtain ⟨⟨qa0, qa1⟩, ⟨qb0, qb1⟩⟩ := road_ends hgx.out
              obtain ⟨an, hxa⟩ := Int.eq_ofNat_of_zero_le qa0
              obtain ⟨bn, hxb⟩ := Int.eq_ofNat_of_zero_le qb0
              have han : an < i := by omega
              have hbn : bn < i := by omega
              replace hxa := hid hxa
              replace hxb := hid hxb
              clear qa0 qa1 qb0 qb1 hsk
              obtain ⟨wj, rfl⟩ : ∃ wj : World, wj = wr := ⟨_, rfl⟩
              go_wp2_with fail
              go_loopw [9, 11, 12, 13] (fun ag v _ _ wr => ∃ a : Nat, a ≤ i ∧ v = .int .i64 a ∧ S0 w g i c' (midD x sI a) wr ∧ FlagD i ag (midD x sI a) sK) (fun _ v _ _ _ => i - (intOf v).toNat)
              case atStart => exact ⟨0, by omega, rfl, by rw [midD_start]; exact hsj, by rw [midD_start]; exact hfj⟩
              case round =>
                obtain ⟨a, ha', rfl, hsm, hfm⟩ := hrel
                clear hsj hfj
                by_cases hlt4 : a < i
                · obtain ⟨b, o, rfl, hb, c3, c4, c5, c6⟩ := (hS.bel hsm.bel).road hX.out
                  have hAm := hid (hAj.out.midD hgx.out a)
                  have hB2 := bel_refl wr
                  have hj0 : (0 : Int) ≤ (j : Int) := by omega
                  have hj1 : (j : Int) < (n : Int) := by omega
                  have ha0 : (0 : Int) ≤ (a : Int) := by omega
                  have ha1 : (a : Int) < (i : Int) := by omega
                  by_cases hea : a = an
                  · subst hea
                    have hoth := hid (show otherI x (a : Int) = (bn : Int) by unfold otherI; rw [if_pos hxa.out.symm]; exact hxb.out)
                    have hnx := hid (midD_a hgx.out hxa.out (s := sI))
                    obtain ⟨sM, hsM⟩ : ∃ s, midD x sI a = s := ⟨_, rfl⟩
                    rw [hsM] at hsm hfm hAm hnx
                    clear hsM
                    rw [hxa.out, hxb.out] at hnx
                    have c1 := own_gi hsm.own (v := a) (by omega)
                    have c2 := own_gi hsm.own (v := bn) (by omega)
                    have z1 := own_fz hsm.own a
                    have b1 := hAm.out.bd a
                    have b2 := hAm.out.bd bn
                    have hgl := (hsm.own.lt g rfl).2
                    have hgb := goodR_bd hgx.out
                    have hd0 : (0 : Int) ≤ (bn : Int) := by omega
                    have hd1 : (bn : Int) < (i : Int) := by omega
                    have hyesF : Hid (0 ≤ rideD x (gi sM bn) → valD (rideD x (gi sM bn)) < valD (gi sM a) → FlagD i (.bool true) (relD sM x bn a) sK) := fun h1 h2 => hfm.yes hAm.out hgx.out (by omega) (by omega) h1 h2
                    have hmx := hid (relD_max (r := x) (b := bn) (an := a) hAm.out (by omega) (by omega) (by omega))
                    have hlen : Hid (a < sM.length) := by show a < _; rw [hAm.out.len]; omega
                    obtain ⟨ya, hya⟩ : ∃ y, gi sM a = y := ⟨_, rfl⟩
                    obtain ⟨yb, hyb⟩ : ∃ y, gi sM bn = y := ⟨_, rfl⟩
                    have hno : Hid (min yb x.closes - x.minutes < 0 ∨ min yb x.closes - x.minutes ≤ ya → midD x sI (a + 1) = sM) := fun h => by
                      have hs := set_gi hlen.out
                      rw [hnx.out, hmx.out, hya, hyb, show max ya (min yb x.closes - x.minutes) = ya by rw [hya] at b1; omega]
                      rwa [hya] at hs
                    have hyes : Hid (0 ≤ min yb x.closes - x.minutes → ya < min yb x.closes - x.minutes → midD x sI (a + 1) = sM.set a (min yb x.closes - x.minutes) ∧ FlagD i (.bool true) (sM.set a (min yb x.closes - x.minutes)) sK) := fun h1 h2 => by
                      have h5 := hyesF.out
                      have h4 := hmx.out
                      rw [hya, hyb, show max ya (min yb x.closes - x.minutes) = min yb x.closes - x.minutes by omega] at h4
                      rw [hyb, hya, h4] at h5
                      rw [hnx.out, h4]
                      refine ⟨rfl, h5 (by unfold rideD; omega) ?_⟩
                      rw [hya] at b1
                      rw [hyb] at b2
                      unfold valD rideD
                      repeat' split
                      all_goals omega
                    rw [hya] at b1 c1
                    rw [hyb] at b2 c2
                    clear hya hyb hyesF hmx
                    have hw : IntKind.i64.wrap (min yb x.closes - x.minutes) = min yb x.closes - x.minutes := IntWalk.i64_in _ (by omega)
                    by_cases g0 : min yb x.closes - x.minutes < 0
                    · have hr := hid (hno.out (Or.inl g0))
                      clear hno hyes
                      go_wp2_with (go_at_call 66; refine (l12Other x _ _).mono ?_; rintro _ w2 ⟨rfl, hb2⟩; (try rw [hoth.out]); replace hB2 := bel_trans hB2 hb2; obtain ⟨hC1, hF1⟩ := bcell hB2)
                      (refine wp_region_bel (by kernel_rfl) (by kernel_rfl) ?_; have hD := bel_cells hB2; (repeat (go_big_quiet_step (((go_at_call 68; exact calls_bel_same (l1Least _ _ _)))))); refine wpQuiet_nil ?_; intro w1 hB1; replace hB2 := bel_trans hB2 hB1; obtain ⟨hC1, hF1⟩ := bcell hB2; clear hD; replace hB1 := hB1)
                      go_wp2
                      go_roundw
                      case rel => exact ⟨a + 1, by omega, by go_num, by rw [hr.out]; exact hsm.keep (by (repeat' (first | (with_reducible exact bel_refl _) | (with_reducible assumption) | (with_reducible refine bel_drew ?_) | (with_reducible refine bel_drewN ?_) | (with_reducible refine bel_alloc ?_) | (with_reducible refine bel_set ?_ ?_) | (with_reducible refine bel_trans ?_ (by with_reducible assumption)) | omega | (simp; done) | (simp; omega)))), by rw [hr.out]; exact hfm⟩
                      case measure => simp [intOf]; omega
                    · by_cases g1 : min yb x.closes - x.minutes ≤ ya
                      · have hr := hid (hno.out (Or.inr g1))
                        clear hno hyes
                        go_wp2_with (go_at_call 66; refine (l12Other x _ _).mono ?_; rintro _ w2 ⟨rfl, hb2⟩; (try rw [hoth.out]); replace hB2 := bel_trans hB2 hb2; obtain ⟨hC1, hF1⟩ := bcell hB2)
                        (refine wp_region_bel (by kernel_rfl) (by kernel_rfl) ?_; have hD := bel_cells hB2; (repeat (go_big_quiet_step (((go_at_call 68; exact calls_bel_same (l1Least _ _ _)))))); refine wpQuiet_nil ?_; intro w1 hB1; replace hB2 := bel_trans hB2 hB1; obtain ⟨hC1, hF1⟩ := bcell hB2; clear hD; replace hB1 := hB1)
                        go_wp2
                        go_roundw
                        case rel => exact ⟨a + 1, by omega, by go_num, by rw [hr.out]; exact hsm.keep (by (repeat' (first | (with_reducible exact bel_refl _) | (with_reducible assumption) | (with_reducible refine bel_drew ?_) | (with_reducible refine bel_drewN ?_) | (with_reducible refine bel_alloc ?_) | (with_reducible refine bel_set ?_ ?_) | (with_reducible refine bel_trans ?_ (by with_reducible assumption)) | omega | (simp; done) | (simp; omega)))), by rw [hr.out]; exact hfm⟩
                        case measure => simp [intOf]; omega
                      · have hr := hid (hyes.out (by omega) (by omega))
                        clear hno hyes
                        go_wp2_with (go_at_call 66; refine (l12Other x _ _).mono ?_; rintro _ w2 ⟨rfl, hb2⟩; (try rw [hoth.out]); replace hB2 := bel_trans hB2 hb2; obtain ⟨hC1, hF1⟩ := bcell hB2)
                        (refine wp_region_bel (by kernel_rfl) (by kernel_rfl) ?_; have hD := bel_cells hB2; (repeat (go_big_quiet_step (((go_at_call 68; exact calls_bel_same (l1Least _ _ _)))))); refine wpQuiet_nil ?_; intro w1 hB1; replace hB2 := bel_trans hB2 hB1; obtain ⟨hC1, hF1⟩ := bcell hB2; clear hD; replace hB1 := hB1)
                        go_wp2
                        have hk : Below wr.heap.size wr w1 := by (repeat' (first | (with_reducible exact bel_refl _) | (with_reducible assumption) | (with_reducible refine bel_drew ?_) | (with_reducible refine bel_drewN ?_) | (with_reducible refine bel_alloc ?_) | (with_reducible refine bel_set ?_ ?_) | (with_reducible refine bel_trans ?_ (by with_reducible assumption)) | omega | (simp; done) | (simp; omega)))
                        go_roundw
                        case rel => exact ⟨a + 1, by omega, by go_num, by rw [hr.out.1]; exact (hsm.keep hk).set a _, by rw [hr.out.1]; exact hr.out.2⟩
                        case measure => simp [intOf]; omega
                  · by_cases heb : a = bn
                    · subst heb
                      have hoth := hid (show otherI x (a : Int) = (an : Int) by unfold otherI; rw [if_neg (by have := hxa.out; omega), if_pos hxb.out.symm]; exact hxa.out)
                      have hnx := hid (midD_b hgx.out hxb.out (s := sI))
                      obtain ⟨sM, hsM⟩ : ∃ s, midD x sI a = s := ⟨_, rfl⟩
                      rw [hsM] at hsm hfm hAm hnx
                      clear hsM
                      rw [hxb.out, hxa.out] at hnx
                      have c1 := own_gi hsm.own (v := a) (by omega)
                      have c2 := own_gi hsm.own (v := an) (by omega)
                      have z1 := own_fz hsm.own a
                      have b1 := hAm.out.bd a
                      have b2 := hAm.out.bd an
                      have hgl := (hsm.own.lt g rfl).2
                      have hgb := goodR_bd hgx.out
                      have hd0 : (0 : Int) ≤ (an : Int) := by omega
                      have hd1 : (an : Int) < (i : Int) := by omega
                      have hyesF : Hid (0 ≤ rideD x (gi sM an) → valD (rideD x (gi sM an)) < valD (gi sM a) → FlagD i (.bool true) (relD sM x an a) sK) := fun h1 h2 => hfm.yes hAm.out hgx.out (by omega) (by omega) h1 h2
                      have hmx := hid (relD_max (r := x) (b := an) (an := a) hAm.out (by omega) (by omega) (by omega))
                      have hlen : Hid (a < sM.length) := by show a < _; rw [hAm.out.len]; omega
                      obtain ⟨ya, hya⟩ : ∃ y, gi sM a = y := ⟨_, rfl⟩
                      obtain ⟨yb, hyb⟩ : ∃ y, gi sM an = y := ⟨_, rfl⟩
                      have hno : Hid (min yb x.closes - x.minutes < 0 ∨ min yb x.closes - x.minutes ≤ ya → midD x sI (a + 1) = sM) := fun h => by
                        have hs := set_gi hlen.out
                        rw [hnx.out, hmx.out, hya, hyb, show max ya (min yb x.closes - x.minutes) = ya by rw [hya] at b1; omega]
                        rwa [hya] at hs
                      have hyes : Hid (0 ≤ min yb x.closes - x.minutes → ya < min yb x.closes - x.minutes → midD x sI (a + 1) = sM.set a (min yb x.closes - x.minutes) ∧ FlagD i (.bool true) (sM.set a (min yb x.closes - x.minutes)) sK) := fun h1 h2 => by
                        have h5 := hyesF.out
                        have h4 := hmx.out
                        rw [hya, hyb, show max ya (min yb x.closes - x.minutes) = min yb x.closes - x.minutes by omega] at h4
                        rw [hyb, hya, h4] at h5
                        rw [hnx.out, h4]
                        refine ⟨rfl, h5 (by unfold rideD; omega) ?_⟩
                        rw [hya] at b1
                        rw [hyb] at b2
                        unfold valD rideD
                        repeat' split
                        all_goals omega
                      rw [hya] at b1 c1
                      rw [hyb] at b2 c2
                      clear hya hyb hyesF hmx
                      have hw : IntKind.i64.wrap (min yb x.closes - x.minutes) = min yb x.closes - x.minutes := IntWalk.i64_in _ (by omega)
                      by_cases g0 : min yb x.closes - x.minutes < 0
                      · have hr := hid (hno.out (Or.inl g0))
                        clear hno hyes
                        go_wp2_with (go_at_call 66; refine (l12Other x _ _).mono ?_; rintro _ w2 ⟨rfl, hb2⟩; (try rw [hoth.out]); replace hB2 := bel_trans hB2 hb2; obtain ⟨hC1, hF1⟩ := bcell hB2)
                        (refine wp_region_bel (by kernel_rfl) (by kernel_rfl) ?_; have hD := bel_cells hB2; (repeat (go_big_quiet_step (((go_at_call 68; exact calls_bel_same (l1Least _ _ _)))))); refine wpQuiet_nil ?_; intro w1 hB1; replace hB2 := bel_trans hB2 hB1; obtain ⟨hC1, hF1⟩ := bcell hB2; clear hD; replace hB1 := hB1)
                        go_wp2
                        go_roundw
                        case rel => exact ⟨a + 1, by omega, by go_num, by rw [hr.out]; exact hsm.keep (by (repeat' (first | (with_reducible exact bel_refl _) | (with_reducible assumption) | (with_reducible refine bel_drew ?_) | (with_reducible refine bel_drewN ?_) | (with_reducible refine bel_alloc ?_) | (with_reducible refine bel_set ?_ ?_) | (with_reducible refine bel_trans ?_ (by with_reducible assumption)) | omega | (simp; done) | (simp; omega)))), by rw [hr.out]; exact hfm⟩
                        case measure => simp [intOf]; omega
                      · by_cases g1 : min yb x.closes - x.minutes ≤ ya
                        · have hr := hid (hno.out (Or.inr g1))
                          clear hno hyes
                          go_wp2_with (go_at_call 66; refine (l12Other x _ _).mono ?_; rintro _ w2 ⟨rfl, hb2⟩; (try rw [hoth.out]); replace hB2 := bel_trans hB2 hb2; obtain ⟨hC1, hF1⟩ := bcell hB2)
                          (refine wp_region_bel (by kernel_rfl) (by kernel_rfl) ?_; have hD := bel_cells hB2; (repeat (go_big_quiet_step (((go_at_call 68; exact calls_bel_same (l1Least _ _ _)))))); refine wpQuiet_nil ?_; intro w1 hB1; replace hB2 := bel_trans hB2 hB1; obtain ⟨hC1, hF1⟩ := bcell hB2; clear hD; replace hB1 := hB1)
                          go_wp2
                          go_roundw
                          case rel => exact ⟨a + 1, by omega, by go_num, by rw [hr.out]; exact hsm.keep (by (repeat' (first | (with_reducible exact bel_refl _) | (with_reducible assumption) | (with_reducible refine bel_drew ?_) | (with_reducible refine bel_drewN ?_) | (with_reducible refine bel_alloc ?_) | (with_reducible refine bel_set ?_ ?_) | (with_reducible refine bel_trans ?_ (by with_reducible assumption)) | omega | (simp; done) | (simp; omega)))), by rw [hr.out]; exact hfm⟩
                          case measure => simp [intOf]; omega
                        · have hr := hid (hyes.out (by omega) (by omega))
                          clear hno hyes
                          go_wp2_with (go_at_call 66; refine (l12Other x _ _).mono ?_; rintro _ w2 ⟨rfl, hb2⟩; (try rw [hoth.out]); replace hB2 := bel_trans hB2 hb2; obtain ⟨hC1, hF1⟩ := bcell hB2)
                          (refine wp_region_bel (by kernel_rfl) (by kernel_rfl) ?_; have hD := bel_cells hB2; (repeat (go_big_quiet_step (((go_at_call 68; exact calls_bel_same (l1Least _ _ _)))))); refine wpQuiet_nil ?_; intro w1 hB1; replace hB2 := bel_trans hB2 hB1; obtain ⟨hC1, hF1⟩ := bcell hB2; clear hD; replace hB1 := hB1)
                          go_wp2
                          have hk : Below wr.heap.size wr w1 := by (repeat' (first | (with_reducible exact bel_refl _) | (with_reducible assumption) | (with_reducible refine bel_drew ?_) | (with_reducible refine bel_drewN ?_) | (with_reducible refine bel_alloc ?_) | (with_reducible refine bel_set ?_ ?_) | (with_reducible refine bel_trans ?_ (by with_reducible assumption)) | omega | (simp; done) | (simp; omega)))
                          go_roundw
                          case rel => exact ⟨a + 1, by omega, by go_num, by rw [hr.out.1]; exact (hsm.keep hk).set a _, by rw [hr.out.1]; exact hr.out.2⟩
                          case measure => simp [intOf]; omega
                    · have hoth := hid (show otherI x (a : Int) = -1 by unfold otherI; rw [if_neg (by have := hxa.out; omega), if_neg (by have := hxb.out; omega)])
                      have hnx := hid (midD_other (s := sI) hgx.out (v := a) (by have := hxa.out; omega) (by have := hxb.out; omega))
                      go_wp2_with (go_at_call 66; refine (l12Other x _ _).mono ?_; rintro _ w2 ⟨rfl, hb2⟩; (try rw [hoth.out]); replace hB2 := bel_trans hB2 hb2; obtain ⟨hC1, hF1⟩ := bcell hB2)
                      go_roundw
                      case rel => exact ⟨a + 1, by omega, by go_num, by rw [hnx.out]; exact hsm.keep (by (repeat' (first | (with_reducible exact bel_refl _) | (with_reducible assumption) | (with_reducible refine bel_drew ?_) | (with_reducible refine bel_drewN ?_) | (with_reducible refine bel_alloc ?_) | (with_reducible refine bel_set ?_ ?_) | (with_reducible refine bel_trans ?_ (by with_reducible assumption)) | omega | (simp; done) | (simp; omega)))), by rw [hnx.out]; exact hfm⟩
                      case measure => simp [intOf]; omega
                · have e : a = i := by omega
                  subst e
                  go_wp2
                  go_roundw
                  case rel => exact ⟨j + 1, by omega, by go_num, by rw [hN.out, ← midD_end hgx.out]; exact hsm, by rw [hN.out, ← midD_end hgx.out]; exact hfm⟩
                  case measure => simp [intOf]; omega
            · have e : j = n := by omega
              subst e
              rw [List.take_of_length_le (by rw [hlh.out]; omega), ← hK1.out] at hsj hfj
              go_wp2
              go_roundw
              case rel =>
                refine ⟨K + 1, hsj, ?_⟩
                rcases hfj with ⟨rfl, _⟩ | ⟨rfl, hf⟩
                · exact Or.inl rfl
                · exact Or.inr ⟨rfl, by show passD xs (runD xs (K + 1) s0) = _; rw [hf, ← hK1.out, hf]⟩
              case measure =>
                rw [hM.out, msrD_eq hsj]
                rcases hfj with ⟨rfl, hf⟩ | ⟨rfl, hf⟩
                · simp only [flagN]; omega
                · rw [hf]; simp [flagN]
        · go_wp2
          go_ret
          rw [hdone.out K hfix] at hsk
          exact ⟨some ⟨g, 0, none⟩, c', rfl, Own.mk_ hsk.own, hsk.bel⟩
end Go.Proofs.Ytfimchbjpambfaa
