/-
  The arrivals at all places, of the reference: passes over all roads until none changes anything.
-/
import Derived.Test.YtfimchbjpambfaaRoadOpen
import Derived.Test.YtfimchbjpambfaaRoadArrI
namespace Go.Proofs.Ytfimchbjpambfaa
open Go.RowKit

/-- The state in memory: a slice of the call's own. -/
structure S0 (W : World) (g P c : Nat) (s : List Int) (w : World) : Prop where
  own : w.ownsRow W.heap.size 3 1 (.slice (some ⟨g, 0, none⟩) P c) P (ints s)
  bel : Below W.heap.size W w
section
variable {W w w' : World} {g P c : Nat} {s : List Int}
theorem S0.keep (h : S0 W g P c s w) (hb : Below w.heap.size w w') : S0 W g P c s w' := ⟨own_bel h.own hb, bel_trans h.bel hb⟩
theorem S0.set (h : S0 W g P c s w) (i : Nat) (v : Int) : S0 W g P c (s.set i v) (w.setCell ⟨g, i, none⟩ (.int .i64 v)) :=
  ⟨by have := (h.own.stored i (.int .i64 v)).1; rwa [ints_set] at this, h.bel.setCell (p := ⟨g, i, none⟩) (h.own.lt g rfl).1 _⟩
end
def otherI (x : Road) (v : Int) : Int := if v = x.a then x.b else if v = x.b then x.a else -1
theorem l12Other (x : Road) (v : Int) (w : World) :
    Calls Try.prog 66 #[.agg #[.int .i64 x.a, .int .i64 x.b, .int .i64 x.minutes, .int .i64 x.closes], .int .i64 v] w fun e w' => e = .returned (.int .i64 (otherI x v)) ∧ Below w.heap.size w w' := by
  by_cases h1 : v = x.a
  · have hq : (v == x.a) = true := by simpa using h1
    have hR := hid (show otherI x v = x.b by unfold otherI; rw [if_pos h1])
    clear h1
    go_enter Try.func66, Try.ntmps66
    go_wp2
    go_ret
    exact ⟨by rw [hR.out]; rfl, by (repeat' (first | (with_reducible exact bel_refl _) | (with_reducible assumption) | (with_reducible refine bel_drew ?_) | (with_reducible refine bel_drewN ?_) | (with_reducible refine bel_alloc ?_) | (with_reducible refine bel_set ?_ ?_) | (with_reducible refine bel_trans ?_ (by with_reducible assumption)) | omega | (simp; done) | (simp; omega)))⟩
  · have hq : (v == x.a) = false := by simpa using h1
    by_cases h2 : v = x.b
    · have hq2 : (v == x.b) = true := by simpa using h2
      have hR := hid (show otherI x v = x.a by unfold otherI; rw [if_neg h1, if_pos h2])
      clear h1 h2
      go_enter Try.func66, Try.ntmps66
      go_wp2
      go_ret
      exact ⟨by rw [hR.out]; rfl, by (repeat' (first | (with_reducible exact bel_refl _) | (with_reducible assumption) | (with_reducible refine bel_drew ?_) | (with_reducible refine bel_drewN ?_) | (with_reducible refine bel_alloc ?_) | (with_reducible refine bel_set ?_ ?_) | (with_reducible refine bel_trans ?_ (by with_reducible assumption)) | omega | (simp; done) | (simp; omega)))⟩
    · have hq2 : (v == x.b) = false := by simpa using h2
      have hR := hid (show otherI x v = -1 by unfold otherI; rw [if_neg h1, if_neg h2])
      clear h1 h2
      go_enter Try.func66, Try.ntmps66
      go_wp2
      go_ret
      exact ⟨by rw [hR.out]; rfl, by (repeat' (first | (with_reducible exact bel_refl _) | (with_reducible assumption) | (with_reducible refine bel_drew ?_) | (with_reducible refine bel_drewN ?_) | (with_reducible refine bel_alloc ?_) | (with_reducible refine bel_set ?_ ?_) | (with_reducible refine bel_trans ?_ (by with_reducible assumption)) | omega | (simp; done) | (simp; omega)))⟩

theorem sum_map_le {f h : Nat → Nat} : ∀ {l : List Nat}, (∀ v ∈ l, f v ≤ h v) → (l.map f).sum ≤ (l.map h).sum
  | [], _ => Nat.le_refl _
  | x :: l, hl => by
    have h1 := hl x (by simp)
    have h2 := sum_map_le (l := l) (fun v hv => hl v (by simp [hv]))
    simp only [List.map_cons, List.sum_cons]
    omega
theorem sum_map_lt {f h : Nat → Nat} {v0 : Nat} : ∀ {l : List Nat}, (∀ v ∈ l, f v ≤ h v) → v0 ∈ l → f v0 < h v0 → (l.map f).sum < (l.map h).sum
  | [], _, hm, _ => by simp at hm
  | x :: l, hl, hm, hlt => by
    have h1 := hl x (by simp)
    have h2 := sum_map_le (l := l) (fun v hv => hl v (by simp [hv]))
    simp only [List.map_cons, List.sum_cons]
    rcases List.mem_cons.1 hm with e | e
    · subst e; omega
    · have := sum_map_lt (l := l) (fun v hv => hl v (by simp [hv])) e hlt
      omega
def flagN : Value → Nat
  | .bool true => 1
  | _ => 0
def totA (P : Nat) (s : List Int) : Nat := ((List.range P).map (stA s)).sum
def msrA (g P : Nat) (w : World) : Nat := ((List.range P).map fun v => valA (intOf ((w.cell? ⟨g, v, none⟩).getD (.int .i64 0)))).sum
theorem msrA_eq {W w : World} {g P c : Nat} {s : List Int} (h : S0 W g P c s w) : msrA g P w = totA P s := by
  unfold msrA totA
  congr 1
  refine List.map_congr_left fun v hv => ?_
  rw [own_gi h.own (List.mem_range.1 hv)]
  rfl
/-- Whether a pass has changed anything. -/
def FlagA (P : Nat) (ag : Value) (s s0 : List Int) : Prop := (ag = .bool true ∧ totA P s < totA P s0) ∨ (ag = .bool false ∧ s = s0)
theorem FlagA.yes {P : Nat} {p : Int} {ag : Value} {s s0 : List Int} {r : Road} {src dst : Int} (h : FlagA P ag s s0) (hA : Arr P s) (hr : goodR p r = true) (hs : 0 ≤ src ∧ src.toNat < P) (hd : 0 ≤ dst ∧ dst.toNat < P)
    (h1 : 0 ≤ rideA r (gi s src)) (h2 : valA (rideA r (gi s src)) < valA (gi s dst)) : FlagA P (.bool true) (relA s r src dst) s0 := by
  refine Or.inl ⟨rfl, ?_⟩
  have hlt : totA P (relA s r src dst) < totA P s := by
    unfold totA
    refine sum_map_lt (v0 := dst.toNat) (fun v _ => by rw [stA_rel hA hr src dst hs hd]; exact legStep_le _ _ _) (List.mem_range.2 hd.2) ?_
    unfold stA relA
    rw [if_pos ⟨h1, h2⟩, gi_set (by rw [hA.len]; exact hd.2)]
    rw [if_pos (by omega), show ((dst.toNat : Nat) : Int) = dst by omega]
    exact h2
  rcases h with ⟨_, h⟩ | ⟨_, h⟩
  · omega
  · rw [← h]; exact hlt
def totD (P : Nat) (s : List Int) : Nat := ((List.range P).map (stD s)).sum
def msrD (g P : Nat) (w : World) : Nat := ((List.range P).map fun v => valD (intOf ((w.cell? ⟨g, v, none⟩).getD (.int .i64 0)))).sum
theorem msrD_eq {W w : World} {g P c : Nat} {s : List Int} (h : S0 W g P c s w) : msrD g P w = totD P s := by
  unfold msrD totD
  congr 1
  refine List.map_congr_left fun v hv => ?_
  rw [own_gi h.own (List.mem_range.1 hv)]
  rfl
/-- Whether a pass has changed anything. -/
def FlagD (P : Nat) (ag : Value) (s s0 : List Int) : Prop := (ag = .bool true ∧ totD P s < totD P s0) ∨ (ag = .bool false ∧ s = s0)
theorem FlagD.yes {P : Nat} {p : Int} {ag : Value} {s s0 : List Int} {r : Road} {src dst : Int} (h : FlagD P ag s s0) (hA : Arr P s) (hr : goodR p r = true) (hs : 0 ≤ src ∧ src.toNat < P) (hd : 0 ≤ dst ∧ dst.toNat < P)
    (h1 : 0 ≤ rideD r (gi s src)) (h2 : valD (rideD r (gi s src)) < valD (gi s dst)) : FlagD P (.bool true) (relD s r src dst) s0 := by
  refine Or.inl ⟨rfl, ?_⟩
  have hlt : totD P (relD s r src dst) < totD P s := by
    unfold totD
    refine sum_map_lt (v0 := dst.toNat) (fun v _ => by rw [stD_rel hA hr src dst hs hd]; exact legStep_le _ _ _) (List.mem_range.2 hd.2) ?_
    unfold stD relD
    rw [if_pos ⟨h1, h2⟩, gi_set (by rw [hA.len]; exact hd.2)]
    rw [if_pos (by omega), show ((dst.toNat : Nat) : Int) = dst by omega]
    exact h2
  rcases h with ⟨_, h⟩ | ⟨_, h⟩
  · omega
  · rw [← h]; exact hlt
def midA (x : Road) (s : List Int) (a : Nat) : List Int := if a ≤ x.a.toNat then s else if a ≤ x.b.toNat then relA s x x.a x.b else relA (relA s x x.a x.b) x x.b x.a
theorem Arr.midA {P : Nat} {x : Road} {s : List Int} (h : Arr P s) (hg : goodR P x = true) (a : Nat) : Arr P (midA x s a) := by
  obtain ⟨h1, h2⟩ := road_ends hg
  unfold Go.Proofs.Ytfimchbjpambfaa.midA
  split
  · exact h
  · split
    · exact h.relA hg _ _ h2.2
    · exact (h.relA hg _ _ h2.2).relA hg _ _ h1.2
theorem midA_a {x : Road} {s : List Int} {p : Int} (hg : goodR p x = true) {an : Nat} (h : x.a = an) : midA x s (an + 1) = relA (midA x s an) x x.a x.b := by
  have hb := goodR_bd hg
  unfold midA
  rw [if_neg (by omega), if_pos (by omega), if_pos (by omega)]
theorem midA_b {x : Road} {s : List Int} {p : Int} (hg : goodR p x = true) {bn : Nat} (h : x.b = bn) : midA x s (bn + 1) = relA (midA x s bn) x x.b x.a := by
  have hb := goodR_bd hg
  unfold midA
  rw [if_neg (by omega), if_neg (by omega), if_neg (by omega), if_pos (by omega)]
theorem midA_other {x : Road} {s : List Int} {p : Int} (hg : goodR p x = true) {v : Nat} (h1 : x.a ≠ v) (h2 : x.b ≠ v) : midA x s (v + 1) = midA x s v := by
  have hb := goodR_bd hg
  unfold midA
  by_cases h3 : v ≤ x.a.toNat
  · rw [if_pos (by omega), if_pos (by omega)]
  · rw [if_neg (show ¬ v + 1 ≤ x.a.toNat by omega), if_neg (show ¬ v ≤ x.a.toNat by omega)]
    by_cases h4 : v ≤ x.b.toNat
    · rw [if_pos (show v + 1 ≤ x.b.toNat by omega), if_pos h4]
    · rw [if_neg (show ¬ v + 1 ≤ x.b.toNat by omega), if_neg h4]
theorem midA_end {x : Road} {s : List Int} {P : Nat} (hg : goodR P x = true) : midA x s P = relA (relA s x x.a x.b) x x.b x.a := by
  have hb := goodR_bd hg
  unfold midA
  rw [if_neg (by omega), if_neg (by omega)]
theorem midA_start {x : Road} {s : List Int} : midA x s 0 = s := by
  unfold midA
  rw [if_pos (by omega)]

theorem l12RideV (x : Road) (t v p : Int) (w : World) (hg : goodR p x = true) (ht : -1 ≤ t ∧ t ≤ 999) (hv : rideA x t = v) :
    Calls Try.prog 50 #[.agg #[.int .i64 x.a, .int .i64 x.b, .int .i64 x.minutes, .int .i64 x.closes], .int .i64 t] w fun e w' => e = .returned (.int .i64 v) ∧ Below w.heap.size w w' := by
  rw [← hv]
  exact l12Ride x t p w hg ht
set_option maxRecDepth 100000 in
set_option maxHeartbeats 4000000 in
theorem arrS_go (A : Option Addr) (n c0 P F : Nat) (xs : List Road) (m : Int) (w : World) (hS : Sl w 4 A n c0 (xs.flatMap Road.row)) (hP2 : 2 ≤ P ∧ P ≤ 7) (hn12 : n ≤ 12) (hG : allR P xs) (hF : F < P) (hm : 0 ≤ m ∧ m ≤ 999) :
    Calls Try.prog 40 #[.int .i64 P, .slice A n c0, .int .i64 F, .int .i64 m] w fun e w' => ∃ A' c', e = .returned (.slice A' P c') ∧ Own w.heap.size w'.heap.size w' 3 1 A' P c' (ints (arrA P xs F m)) ∧ Below w.heap.size w w' := by
  have hlh := hid (hS.xs_len Road.row_len (by omega))
  have hP7 : P ≤ 7 := by omega
  go_enter Try.func40, Try.ntmps40
  go_wp2_with fail
  go_loopw [9, 10] (fun q v wr => ∃ i : Nat, i ≤ P ∧ v = .int .i64 i ∧ (∃ A' c', q = .slice A' i c' ∧ wr.ownsRow w.heap.size 3 1 (.slice A' i c') i (ints (List.replicate i (-1)))) ∧ Below w.heap.size w wr) (fun _ v _ => P - (intOf v).toNat)
  case atStart => exact ⟨0, by omega, rfl, ⟨_, _, rfl, own_empty (w := w) (size := 1) (e := 3) (Nat.le_refl _)⟩, by (repeat' (first | (with_reducible exact bel_refl _) | (with_reducible assumption) | (with_reducible refine bel_drew ?_) | (with_reducible refine bel_drewN ?_) | (with_reducible refine bel_alloc ?_) | (with_reducible refine bel_set ?_ ?_) | (with_reducible refine bel_trans ?_ (by with_reducible assumption)) | omega | (simp; done) | (simp; omega)))⟩
  case round =>
    obtain ⟨i, hi', rfl, ⟨A', c', rfl, hown⟩, hB2⟩ := hrel
    by_cases hlt : i < P
    · go_wp2_with (at_builtin; refine wpList_push rfl (.tmp 22) (.tmp 23) 27 rfl w.heap.size 3 (.int .i64 0) 1 8 Try.underlying27 info_int rfl (by omega) A' i c' _ [.int .i64 (-1)] 3 rfl hown rfl rfl (oneCell_int _) (by omega) (by omega) hB2.size ?_; intro A'' c'' w3 hown2 hb3 hg3)
      go_roundw
      case rel => exact ⟨i + 1, by omega, by go_num, ⟨_, _, rfl, by rw [List.replicate_succ', ← ints_snoc]; exact hown2⟩, hB2.trans hb3⟩
      case measure => simp [intOf]; omega
    · have e : i = P := by omega
      subst e
      obtain ⟨g, rfl, hgl, hgh⟩ := own_form hown (by omega)
      have hst : S0 w g i c' (List.replicate i (-1)) wr := ⟨hown, hB2⟩
      have z0 := own_fz hown F
      have d0 := own_gi hown hF
      have hF0 : (0 : Int) ≤ (F : Int) := by omega
      have hF1 : (F : Int) < (i : Int) := by omega
      go_wp2_with fail
      have hst0 := hst.set F m
      clear hown hB2 z0 d0 hst hgh hi' hlt
      have hA0 : Arr i ((List.replicate i (-1)).set F m) := arr_start hF hm
      obtain ⟨s0, hs0⟩ : ∃ s, (List.replicate i (-1)).set F m = s := ⟨_, rfl⟩
      rw [hs0] at hst0 hA0
      have hdone : Hid (∀ K, passA xs (runA xs K s0) = runA xs K s0 → runA xs K s0 = arrA i xs F m) := fun K hK => by
        rw [← hs0] at hK ⊢
        exact runA_done (good_mem hG) hF hm hK
      clear hs0
      go_loopw [11, 12, 13, 14, 15] (fun ag _ _ _ _ wr => ∃ K : Nat, S0 w g i c' (runA xs K s0) wr ∧ (ag = .bool true ∨ (ag = .bool false ∧ passA xs (runA xs K s0) = runA xs K s0))) (fun ag _ _ _ _ wr => msrA g i wr + flagN ag)
      case atStart => exact ⟨0, hst0, Or.inl rfl⟩
      case round =>
        obtain ⟨K, hsk, hag⟩ := hrel
        rcases hag with rfl | ⟨rfl, hfix⟩
        · have hM := hid (msrA_eq hsk)
          have hAk := hA0.runA (good_mem hG) K
          obtain ⟨sK, hsK⟩ : ∃ s, runA xs K s0 = s := ⟨_, rfl⟩
          have hK1 : Hid (runA xs (K + 1) s0 = passA xs sK) := by show passA xs (runA xs K s0) = _; rw [hsK]
          rw [hsK] at hsk hAk hM
          clear hst0
          obtain ⟨wo, rfl⟩ : ∃ wo : World, wo = wr := ⟨_, rfl⟩
          go_wp2_with fail
          go_loopw [11, 12, 13, 14, 15] (fun ag v _ _ _ wr => ∃ j : Nat, j ≤ n ∧ v = .int .i64 j ∧ S0 w g i c' (passA (xs.take j) sK) wr ∧ FlagA i ag (passA (xs.take j) sK) sK) (fun _ v _ _ _ _ => n - (intOf v).toNat)
          case atStart => exact ⟨0, by omega, rfl, by simpa [passA] using hsk, Or.inr ⟨rfl, by simp [passA]⟩⟩
          case round =>
            obtain ⟨j, hj', rfl, hsj, hfj⟩ := hrel
            by_cases hlt3 : j < n
            · obtain ⟨x, hx⟩ : ∃ x, xs[j]? = some x := get_of_lt (by rw [hlh.out]; exact hlt3)
              have hX := hid hx
              have hgx := hid (hG j x hx)
              have hN := hid (passA_next (s := sK) hx)
              have hAj := hid (hAk.passA (good_take hG j))
              clear hx
              obtain ⟨sI, hsI⟩ : ∃ s, passA (xs.take j) sK = s := ⟨_, rfl⟩
              rw [hsI] at hsj hfj hN hAj
              clear hsI
              obtain ⟨⟨qa0, qa1⟩, ⟨qb0, qb1⟩⟩ := road_ends hgx.out
              obtain ⟨an, hxa⟩ := Int.eq_ofNat_of_zero_le qa0
              obtain ⟨bn, hxb⟩ := Int.eq_ofNat_of_zero_le qb0
              have han : an < i := by omega
              have hbn : bn < i := by omega
              replace hxa := hid hxa
              replace hxb := hid hxb
              clear qa0 qa1 qb0 qb1 hsk
              obtain ⟨wj, rfl⟩ : ∃ wj : World, wj = wr := ⟨_, rfl⟩
              go_wp2_with fail
              go_loopw [11, 13, 14, 15] (fun ag v _ _ wr => ∃ a : Nat, a ≤ i ∧ v = .int .i64 a ∧ S0 w g i c' (midA x sI a) wr ∧ FlagA i ag (midA x sI a) sK) (fun _ v _ _ _ => i - (intOf v).toNat)
              case atStart => exact ⟨0, by omega, rfl, by rw [midA_start]; exact hsj, by rw [midA_start]; exact hfj⟩
              case round =>
                obtain ⟨a, ha', rfl, hsm, hfm⟩ := hrel
                clear hsj hfj
                by_cases hlt4 : a < i
                · obtain ⟨b, o, rfl, hb, c3, c4, c5, c6⟩ := (hS.bel hsm.bel).road hX.out
                  have hAm := hid (hAj.out.midA hgx.out a)
                  have hB2 := bel_refl wr
                  have hj0 : (0 : Int) ≤ (j : Int) := by omega
                  have hj1 : (j : Int) < (n : Int) := by omega
                  have ha0 : (0 : Int) ≤ (a : Int) := by omega
                  have ha1 : (a : Int) < (i : Int) := by omega
                  by_cases hea : a = an
                  · subst hea
                    have hoth := hid (show otherI x (a : Int) = (bn : Int) by unfold otherI; rw [if_pos hxa.out.symm]; exact hxb.out)
                    have hnx := hid (midA_a hgx.out hxa.out (s := sI))
                    obtain ⟨sM, hsM⟩ : ∃ s, midA x sI a = s := ⟨_, rfl⟩
                    rw [hsM] at hsm hfm hAm hnx
                    clear hsM
                    rw [hxa.out, hxb.out] at hnx
                    have c1 := own_gi hsm.own (v := a) (by omega)
                    have c2 := own_gi hsm.own (v := bn) (by omega)
                    have z1 := own_fz hsm.own bn
                    have b1 := hAm.out.bd a
                    have b2 := hAm.out.bd bn
                    have hgl := (hsm.own.lt g rfl).2
                    have hgb := goodR_bd hgx.out
                    have hd0 : (0 : Int) ≤ (bn : Int) := by omega
                    have hd1 : (bn : Int) < (i : Int) := by omega
                    have hyesF : Hid (0 ≤ rideA x (gi sM a) → valA (rideA x (gi sM a)) < valA (gi sM bn) → FlagA i (.bool true) (relA sM x a bn) sK) := fun h1 h2 => hfm.yes hAm.out hgx.out (by omega) (by omega) h1 h2
                    obtain ⟨ya, hya⟩ : ∃ y, gi sM a = y := ⟨_, rfl⟩
                    obtain ⟨yb, hyb⟩ : ∃ y, gi sM bn = y := ⟨_, rfl⟩
                    have hno : Hid ((ya < 0 ∨ x.closes < ya + x.minutes ∨ (0 ≤ yb ∧ yb ≤ ya + x.minutes)) → midA x sI (a + 1) = sM) := fun h => by rw [hnx.out]; exact relA_no (by rw [hya, hyb]; exact h)
                    have hyes : Hid (0 ≤ ya → ¬ x.closes < ya + x.minutes → (yb < 0 ∨ ya + x.minutes < yb) → midA x sI (a + 1) = sM.set bn (ya + x.minutes) ∧ FlagA i (.bool true) (sM.set bn (ya + x.minutes)) sK) := fun h1 h2 h3 => by
                      have h4 := relA_yes (s := sM) (r := x) (a := a) (b := bn) (by rw [hya]; exact h1) (by omega) (by rw [hya]; exact h2) (by rw [hya, hyb]; exact h3) (by omega) (by omega)
                      have h5 := hyesF.out
                      rw [h4, hya, hyb] at h5
                      rw [hnx.out, h4, hya]
                      rw [hya] at h4
                      have e : rideA x ya = ya + x.minutes := by unfold rideA; rw [if_neg (by omega)]
                      rw [e] at h5
                      simp only [Int.toNat_natCast] at h5 ⊢
                      refine ⟨trivial, h5 (by omega) ?_⟩
                      unfold valA
                      repeat' split
                      all_goals omega
                    rw [hya] at b1 c1
                    rw [hyb] at b2 c2
                    clear hya hyb hyesF
                    by_cases g0 : ya < 0
                    · have hr := hid (hno.out (Or.inl g0))
                      have hrd := hid (show rideA x ya = -1 by unfold rideA; rw [if_pos (by omega)])
                      clear hno hyes
                      go_wp2_with (go_at_call 66; refine (l12Other x _ _).mono ?_; rintro _ w2 ⟨rfl, hb2⟩; (try rw [hoth.out]); replace hB2 := bel_trans hB2 hb2; obtain ⟨hC1, hF1⟩ := bcell hB2)
                      (refine wp_region_bel (by kernel_rfl) (by kernel_rfl) ?_; have hD := bel_cells hB2; (repeat (go_big_quiet_step (((go_at_call 50; exact calls_bel (l12RideV x _ (-1) i _ hgx.out (by omega) hrd.out)))))); refine wpQuiet_nil ?_; intro w1 hB1; replace hB2 := bel_trans hB2 hB1; obtain ⟨hC1, hF1⟩ := bcell hB2; clear hD; replace hB1 := hB1)
                      go_wp2
                      go_roundw
                      case rel => exact ⟨a + 1, by omega, by go_num, by rw [hr.out]; exact hsm.keep (by (repeat' (first | (with_reducible exact bel_refl _) | (with_reducible assumption) | (with_reducible refine bel_drew ?_) | (with_reducible refine bel_drewN ?_) | (with_reducible refine bel_alloc ?_) | (with_reducible refine bel_set ?_ ?_) | (with_reducible refine bel_trans ?_ (by with_reducible assumption)) | omega | (simp; done) | (simp; omega)))), by rw [hr.out]; exact hfm⟩
                      case measure => simp [intOf]; omega
                    · by_cases g1 : x.closes < ya + x.minutes
                      · have hr := hid (hno.out (Or.inr (Or.inl g1)))
                        have hrd := hid (show rideA x ya = -1 by unfold rideA; rw [if_pos (by omega)])
                        clear hno hyes
                        go_wp2_with (go_at_call 66; refine (l12Other x _ _).mono ?_; rintro _ w2 ⟨rfl, hb2⟩; (try rw [hoth.out]); replace hB2 := bel_trans hB2 hb2; obtain ⟨hC1, hF1⟩ := bcell hB2)
                        (refine wp_region_bel (by kernel_rfl) (by kernel_rfl) ?_; have hD := bel_cells hB2; (repeat (go_big_quiet_step (((go_at_call 50; exact calls_bel (l12RideV x _ (-1) i _ hgx.out (by omega) hrd.out)))))); refine wpQuiet_nil ?_; intro w1 hB1; replace hB2 := bel_trans hB2 hB1; obtain ⟨hC1, hF1⟩ := bcell hB2; clear hD; replace hB1 := hB1)
                        go_wp2
                        go_roundw
                        case rel => exact ⟨a + 1, by omega, by go_num, by rw [hr.out]; exact hsm.keep (by (repeat' (first | (with_reducible exact bel_refl _) | (with_reducible assumption) | (with_reducible refine bel_drew ?_) | (with_reducible refine bel_drewN ?_) | (with_reducible refine bel_alloc ?_) | (with_reducible refine bel_set ?_ ?_) | (with_reducible refine bel_trans ?_ (by with_reducible assumption)) | omega | (simp; done) | (simp; omega)))), by rw [hr.out]; exact hfm⟩
                        case measure => simp [intOf]; omega
                      · by_cases g2 : yb < 0
                        · have hr := hid (hyes.out (by omega) (by omega) (Or.inl g2))
                          have hrd := hid (show rideA x ya = ya + x.minutes by unfold rideA; rw [if_neg (by omega)])
                          clear hno hyes
                          go_wp2_with (go_at_call 66; refine (l12Other x _ _).mono ?_; rintro _ w2 ⟨rfl, hb2⟩; (try rw [hoth.out]); replace hB2 := bel_trans hB2 hb2; obtain ⟨hC1, hF1⟩ := bcell hB2)
                          (refine wp_region_bel (by kernel_rfl) (by kernel_rfl) ?_; have hD := bel_cells hB2; (repeat (go_big_quiet_step (((go_at_call 50; exact calls_bel (l12RideV x _ (ya + x.minutes) i _ hgx.out (by omega) hrd.out)))))); refine wpQuiet_nil ?_; intro w1 hB1; replace hB2 := bel_trans hB2 hB1; obtain ⟨hC1, hF1⟩ := bcell hB2; clear hD; replace hB1 := hB1)
                          go_wp2
                          have hk : Below wr.heap.size wr w1 := by (repeat' (first | (with_reducible exact bel_refl _) | (with_reducible assumption) | (with_reducible refine bel_drew ?_) | (with_reducible refine bel_drewN ?_) | (with_reducible refine bel_alloc ?_) | (with_reducible refine bel_set ?_ ?_) | (with_reducible refine bel_trans ?_ (by with_reducible assumption)) | omega | (simp; done) | (simp; omega)))
                          go_roundw
                          case rel => exact ⟨a + 1, by omega, by go_num, by rw [hr.out.1]; exact (hsm.keep hk).set bn _, by rw [hr.out.1]; exact hr.out.2⟩
                          case measure => simp [intOf]; omega
                        · by_cases g3 : ya + x.minutes < yb
                          · have hr := hid (hyes.out (by omega) (by omega) (Or.inr g3))
                            have hrd := hid (show rideA x ya = ya + x.minutes by unfold rideA; rw [if_neg (by omega)])
                            clear hno hyes
                            go_wp2_with (go_at_call 66; refine (l12Other x _ _).mono ?_; rintro _ w2 ⟨rfl, hb2⟩; (try rw [hoth.out]); replace hB2 := bel_trans hB2 hb2; obtain ⟨hC1, hF1⟩ := bcell hB2)
                            (refine wp_region_bel (by kernel_rfl) (by kernel_rfl) ?_; have hD := bel_cells hB2; (repeat (go_big_quiet_step (((go_at_call 50; exact calls_bel (l12RideV x _ (ya + x.minutes) i _ hgx.out (by omega) hrd.out)))))); refine wpQuiet_nil ?_; intro w1 hB1; replace hB2 := bel_trans hB2 hB1; obtain ⟨hC1, hF1⟩ := bcell hB2; clear hD; replace hB1 := hB1)
                            go_wp2
                            have hk : Below wr.heap.size wr w1 := by (repeat' (first | (with_reducible exact bel_refl _) | (with_reducible assumption) | (with_reducible refine bel_drew ?_) | (with_reducible refine bel_drewN ?_) | (with_reducible refine bel_alloc ?_) | (with_reducible refine bel_set ?_ ?_) | (with_reducible refine bel_trans ?_ (by with_reducible assumption)) | omega | (simp; done) | (simp; omega)))
                            go_roundw
                            case rel => exact ⟨a + 1, by omega, by go_num, by rw [hr.out.1]; exact (hsm.keep hk).set bn _, by rw [hr.out.1]; exact hr.out.2⟩
                            case measure => simp [intOf]; omega
                          · have hr := hid (hno.out (Or.inr (Or.inr ⟨by omega, by omega⟩)))
                            have hrd := hid (show rideA x ya = ya + x.minutes by unfold rideA; rw [if_neg (by omega)])
                            clear hno hyes
                            go_wp2_with (go_at_call 66; refine (l12Other x _ _).mono ?_; rintro _ w2 ⟨rfl, hb2⟩; (try rw [hoth.out]); replace hB2 := bel_trans hB2 hb2; obtain ⟨hC1, hF1⟩ := bcell hB2)
                            (refine wp_region_bel (by kernel_rfl) (by kernel_rfl) ?_; have hD := bel_cells hB2; (repeat (go_big_quiet_step (((go_at_call 50; exact calls_bel (l12RideV x _ (ya + x.minutes) i _ hgx.out (by omega) hrd.out)))))); refine wpQuiet_nil ?_; intro w1 hB1; replace hB2 := bel_trans hB2 hB1; obtain ⟨hC1, hF1⟩ := bcell hB2; clear hD; replace hB1 := hB1)
                            go_wp2
                            go_roundw
                            case rel => exact ⟨a + 1, by omega, by go_num, by rw [hr.out]; exact hsm.keep (by (repeat' (first | (with_reducible exact bel_refl _) | (with_reducible assumption) | (with_reducible refine bel_drew ?_) | (with_reducible refine bel_drewN ?_) | (with_reducible refine bel_alloc ?_) | (with_reducible refine bel_set ?_ ?_) | (with_reducible refine bel_trans ?_ (by with_reducible assumption)) | omega | (simp; done) | (simp; omega)))), by rw [hr.out]; exact hfm⟩
                            case measure => simp [intOf]; omega
                  · by_cases heb : a = bn
                    · subst heb
                      have hoth := hid (show otherI x (a : Int) = (an : Int) by unfold otherI; rw [if_neg (by have := hxa.out; omega), if_pos hxb.out.symm]; exact hxa.out)
                      have hnx := hid (midA_b hgx.out hxb.out (s := sI))
                      obtain ⟨sM, hsM⟩ : ∃ s, midA x sI a = s := ⟨_, rfl⟩
                      rw [hsM] at hsm hfm hAm hnx
                      clear hsM
                      rw [hxb.out, hxa.out] at hnx
                      have c1 := own_gi hsm.own (v := a) (by omega)
                      have c2 := own_gi hsm.own (v := an) (by omega)
                      have z1 := own_fz hsm.own an
                      have b1 := hAm.out.bd a
                      have b2 := hAm.out.bd an
                      have hgl := (hsm.own.lt g rfl).2
                      have hgb := goodR_bd hgx.out
                      have hd0 : (0 : Int) ≤ (an : Int) := by omega
                      have hd1 : (an : Int) < (i : Int) := by omega
                      have hyesF : Hid (0 ≤ rideA x (gi sM a) → valA (rideA x (gi sM a)) < valA (gi sM an) → FlagA i (.bool true) (relA sM x a an) sK) := fun h1 h2 => hfm.yes hAm.out hgx.out (by omega) (by omega) h1 h2
                      obtain ⟨ya, hya⟩ : ∃ y, gi sM a = y := ⟨_, rfl⟩
                      obtain ⟨yb, hyb⟩ : ∃ y, gi sM an = y := ⟨_, rfl⟩
                      have hno : Hid ((ya < 0 ∨ x.closes < ya + x.minutes ∨ (0 ≤ yb ∧ yb ≤ ya + x.minutes)) → midA x sI (a + 1) = sM) := fun h => by rw [hnx.out]; exact relA_no (by rw [hya, hyb]; exact h)
                      have hyes : Hid (0 ≤ ya → ¬ x.closes < ya + x.minutes → (yb < 0 ∨ ya + x.minutes < yb) → midA x sI (a + 1) = sM.set an (ya + x.minutes) ∧ FlagA i (.bool true) (sM.set an (ya + x.minutes)) sK) := fun h1 h2 h3 => by
                        have h4 := relA_yes (s := sM) (r := x) (a := a) (b := an) (by rw [hya]; exact h1) (by omega) (by rw [hya]; exact h2) (by rw [hya, hyb]; exact h3) (by omega) (by omega)
                        have h5 := hyesF.out
                        rw [h4, hya, hyb] at h5
                        rw [hnx.out, h4, hya]
                        rw [hya] at h4
                        have e : rideA x ya = ya + x.minutes := by unfold rideA; rw [if_neg (by omega)]
                        rw [e] at h5
                        simp only [Int.toNat_natCast] at h5 ⊢
                        refine ⟨trivial, h5 (by omega) ?_⟩
                        unfold valA
                        repeat' split
                        all_goals omega
                      rw [hya] at b1 c1
                      rw [hyb] at b2 c2
                      clear hya hyb hyesF
                      by_cases g0 : ya < 0
                      · have hr := hid (hno.out (Or.inl g0))
                        have hrd := hid (show rideA x ya = -1 by unfold rideA; rw [if_pos (by omega)])
                        clear hno hyes
                        go_wp2_with (go_at_call 66; refine (l12Other x _ _).mono ?_; rintro _ w2 ⟨rfl, hb2⟩; (try rw [hoth.out]); replace hB2 := bel_trans hB2 hb2; obtain ⟨hC1, hF1⟩ := bcell hB2)
                        (refine wp_region_bel (by kernel_rfl) (by kernel_rfl) ?_; have hD := bel_cells hB2; (repeat (go_big_quiet_step (((go_at_call 50; exact calls_bel (l12RideV x _ (-1) i _ hgx.out (by omega) hrd.out)))))); refine wpQuiet_nil ?_; intro w1 hB1; replace hB2 := bel_trans hB2 hB1; obtain ⟨hC1, hF1⟩ := bcell hB2; clear hD; replace hB1 := hB1)
                        go_wp2
                        go_roundw
                        case rel => exact ⟨a + 1, by omega, by go_num, by rw [hr.out]; exact hsm.keep (by (repeat' (first | (with_reducible exact bel_refl _) | (with_reducible assumption) | (with_reducible refine bel_drew ?_) | (with_reducible refine bel_drewN ?_) | (with_reducible refine bel_alloc ?_) | (with_reducible refine bel_set ?_ ?_) | (with_reducible refine bel_trans ?_ (by with_reducible assumption)) | omega | (simp; done) | (simp; omega)))), by rw [hr.out]; exact hfm⟩
                        case measure => simp [intOf]; omega
                      · by_cases g1 : x.closes < ya + x.minutes
                        · have hr := hid (hno.out (Or.inr (Or.inl g1)))
                          have hrd := hid (show rideA x ya = -1 by unfold rideA; rw [if_pos (by omega)])
                          clear hno hyes
                          go_wp2_with (go_at_call 66; refine (l12Other x _ _).mono ?_; rintro _ w2 ⟨rfl, hb2⟩; (try rw [hoth.out]); replace hB2 := bel_trans hB2 hb2; obtain ⟨hC1, hF1⟩ := bcell hB2)
                          (refine wp_region_bel (by kernel_rfl) (by kernel_rfl) ?_; have hD := bel_cells hB2; (repeat (go_big_quiet_step (((go_at_call 50; exact calls_bel (l12RideV x _ (-1) i _ hgx.out (by omega) hrd.out)))))); refine wpQuiet_nil ?_; intro w1 hB1; replace hB2 := bel_trans hB2 hB1; obtain ⟨hC1, hF1⟩ := bcell hB2; clear hD; replace hB1 := hB1)
                          go_wp2
                          go_roundw
                          case rel => exact ⟨a + 1, by omega, by go_num, by rw [hr.out]; exact hsm.keep (by (repeat' (first | (with_reducible exact bel_refl _) | (with_reducible assumption) | (with_reducible refine bel_drew ?_) | (with_reducible refine bel_drewN ?_) | (with_reducible refine bel_alloc ?_) | (with_reducible refine bel_set ?_ ?_) | (with_reducible refine bel_trans ?_ (by with_reducible assumption)) | omega | (simp; done) | (simp; omega)))), by rw [hr.out]; exact hfm⟩
                          case measure => simp [intOf]; omega
                        · by_cases g2 : yb < 0
                          · have hr := hid (hyes.out (by omega) (by omega) (Or.inl g2))
                            have hrd := hid (show rideA x ya = ya + x.minutes by unfold rideA; rw [if_neg (by omega)])
                            clear hno hyes
                            go_wp2_with (go_at_call 66; refine (l12Other x _ _).mono ?_; rintro _ w2 ⟨rfl, hb2⟩; (try rw [hoth.out]); replace hB2 := bel_trans hB2 hb2; obtain ⟨hC1, hF1⟩ := bcell hB2)
                            (refine wp_region_bel (by kernel_rfl) (by kernel_rfl) ?_; have hD := bel_cells hB2; (repeat (go_big_quiet_step (((go_at_call 50; exact calls_bel (l12RideV x _ (ya + x.minutes) i _ hgx.out (by omega) hrd.out)))))); refine wpQuiet_nil ?_; intro w1 hB1; replace hB2 := bel_trans hB2 hB1; obtain ⟨hC1, hF1⟩ := bcell hB2; clear hD; replace hB1 := hB1)
                            go_wp2
                            have hk : Below wr.heap.size wr w1 := by (repeat' (first | (with_reducible exact bel_refl _) | (with_reducible assumption) | (with_reducible refine bel_drew ?_) | (with_reducible refine bel_drewN ?_) | (with_reducible refine bel_alloc ?_) | (with_reducible refine bel_set ?_ ?_) | (with_reducible refine bel_trans ?_ (by with_reducible assumption)) | omega | (simp; done) | (simp; omega)))
                            go_roundw
                            case rel => exact ⟨a + 1, by omega, by go_num, by rw [hr.out.1]; exact (hsm.keep hk).set an _, by rw [hr.out.1]; exact hr.out.2⟩
                            case measure => simp [intOf]; omega
                          · by_cases g3 : ya + x.minutes < yb
                            · have hr := hid (hyes.out (by omega) (by omega) (Or.inr g3))
                              have hrd := hid (show rideA x ya = ya + x.minutes by unfold rideA; rw [if_neg (by omega)])
                              clear hno hyes
                              go_wp2_with (go_at_call 66; refine (l12Other x _ _).mono ?_; rintro _ w2 ⟨rfl, hb2⟩; (try rw [hoth.out]); replace hB2 := bel_trans hB2 hb2; obtain ⟨hC1, hF1⟩ := bcell hB2)
                              (refine wp_region_bel (by kernel_rfl) (by kernel_rfl) ?_; have hD := bel_cells hB2; (repeat (go_big_quiet_step (((go_at_call 50; exact calls_bel (l12RideV x _ (ya + x.minutes) i _ hgx.out (by omega) hrd.out)))))); refine wpQuiet_nil ?_; intro w1 hB1; replace hB2 := bel_trans hB2 hB1; obtain ⟨hC1, hF1⟩ := bcell hB2; clear hD; replace hB1 := hB1)
                              go_wp2
                              have hk : Below wr.heap.size wr w1 := by (repeat' (first | (with_reducible exact bel_refl _) | (with_reducible assumption) | (with_reducible refine bel_drew ?_) | (with_reducible refine bel_drewN ?_) | (with_reducible refine bel_alloc ?_) | (with_reducible refine bel_set ?_ ?_) | (with_reducible refine bel_trans ?_ (by with_reducible assumption)) | omega | (simp; done) | (simp; omega)))
                              go_roundw
                              case rel => exact ⟨a + 1, by omega, by go_num, by rw [hr.out.1]; exact (hsm.keep hk).set an _, by rw [hr.out.1]; exact hr.out.2⟩
                              case measure => simp [intOf]; omega
                            · have hr := hid (hno.out (Or.inr (Or.inr ⟨by omega, by omega⟩)))
                              have hrd := hid (show rideA x ya = ya + x.minutes by unfold rideA; rw [if_neg (by omega)])
                              clear hno hyes
                              go_wp2_with (go_at_call 66; refine (l12Other x _ _).mono ?_; rintro _ w2 ⟨rfl, hb2⟩; (try rw [hoth.out]); replace hB2 := bel_trans hB2 hb2; obtain ⟨hC1, hF1⟩ := bcell hB2)
                              (refine wp_region_bel (by kernel_rfl) (by kernel_rfl) ?_; have hD := bel_cells hB2; (repeat (go_big_quiet_step (((go_at_call 50; exact calls_bel (l12RideV x _ (ya + x.minutes) i _ hgx.out (by omega) hrd.out)))))); refine wpQuiet_nil ?_; intro w1 hB1; replace hB2 := bel_trans hB2 hB1; obtain ⟨hC1, hF1⟩ := bcell hB2; clear hD; replace hB1 := hB1)
                              go_wp2
                              go_roundw
                              case rel => exact ⟨a + 1, by omega, by go_num, by rw [hr.out]; exact hsm.keep (by (repeat' (first | (with_reducible exact bel_refl _) | (with_reducible assumption) | (with_reducible refine bel_drew ?_) | (with_reducible refine bel_drewN ?_) | (with_reducible refine bel_alloc ?_) | (with_reducible refine bel_set ?_ ?_) | (with_reducible refine bel_trans ?_ (by with_reducible assumption)) | omega | (simp; done) | (simp; omega)))), by rw [hr.out]; exact hfm⟩
                              case measure => simp [intOf]; omega
                    · have hoth := hid (show otherI x (a : Int) = -1 by unfold otherI; rw [if_neg (by have := hxa.out; omega), if_neg (by have := hxb.out; omega)])
                      have hnx := hid (midA_other (s := sI) hgx.out (v := a) (by have := hxa.out; omega) (by have := hxb.out; omega))
                      go_wp2_with (go_at_call 66; refine (l12Other x _ _).mono ?_; rintro _ w2 ⟨rfl, hb2⟩; (try rw [hoth.out]); replace hB2 := bel_trans hB2 hb2; obtain ⟨hC1, hF1⟩ := bcell hB2)
                      go_roundw
                      case rel => exact ⟨a + 1, by omega, by go_num, by rw [hnx.out]; exact hsm.keep (by (repeat' (first | (with_reducible exact bel_refl _) | (with_reducible assumption) | (with_reducible refine bel_drew ?_) | (with_reducible refine bel_drewN ?_) | (with_reducible refine bel_alloc ?_) | (with_reducible refine bel_set ?_ ?_) | (with_reducible refine bel_trans ?_ (by with_reducible assumption)) | omega | (simp; done) | (simp; omega)))), by rw [hnx.out]; exact hfm⟩
                      case measure => simp [intOf]; omega
                · have e : a = i := by omega
                  subst e
                  go_wp2
                  go_roundw
                  case rel => exact ⟨j + 1, by omega, by go_num, by rw [hN.out, ← midA_end hgx.out]; exact hsm, by rw [hN.out, ← midA_end hgx.out]; exact hfm⟩
                  case measure => simp [intOf]; omega
            · have e : j = n := by omega
              subst e
              rw [List.take_of_length_le (by rw [hlh.out]; omega), ← hK1.out] at hsj hfj
              go_wp2
              go_roundw
              case rel =>
                refine ⟨K + 1, hsj, ?_⟩
                rcases hfj with ⟨rfl, _⟩ | ⟨rfl, hf⟩
                · exact Or.inl rfl
                · exact Or.inr ⟨rfl, by show passA xs (runA xs (K + 1) s0) = _; rw [hf, ← hK1.out, hf]⟩
              case measure =>
                rw [hM.out, msrA_eq hsj]
                rcases hfj with ⟨rfl, hf⟩ | ⟨rfl, hf⟩
                · simp only [flagN]; omega
                · rw [hf]; simp [flagN]
        · go_wp2
          go_ret
          rw [hdone.out K hfix] at hsk
          exact ⟨some ⟨g, 0, none⟩, c', rfl, Own.mk_ hsk.own, hsk.bel⟩
theorem arrS (A : Option Addr) (n c0 P F : Nat) (xs : List Road) (m : Int) (w : World) (hS : Sl w 4 A n c0 (xs.flatMap Road.row)) (hnet : netB P xs = true) (hF : F < P) (hm : 0 ≤ m ∧ m ≤ 999) :
    Calls Try.prog 40 #[.int .i64 P, .slice A n c0, .int .i64 F, .int .i64 m] w fun e w' => ∃ A' c', e = .returned (.slice A' P c') ∧ Own w.heap.size w'.heap.size w' 3 1 A' P c' (ints (arrA P xs F m)) ∧ Below w.heap.size w w' := by
  have hnb := netB_bd hnet
  exact arrS_go A n c0 P F xs m w hS (by omega) (by have := hnb.2.2; rwa [hS.xs_len Road.row_len (by omega)] at this) (netB_all hnet) hF hm
end Go.Proofs.Ytfimchbjpambfaa
