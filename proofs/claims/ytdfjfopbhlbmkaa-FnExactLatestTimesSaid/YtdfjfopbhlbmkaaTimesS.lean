/-
  The earliest and the latest arrivals: of the reference, walked; and both sides of the functions that are exported.
-/
import Derived.Test.YtdfjfopbhlbmkaaTimes
import Derived.StillTailTactics
namespace Go.Proofs.Ytdfjfopbhlbmkaa
open Go.RowKit

theorem stillc {P : Program} {f : FuncId} {args : Array Value} {w : World} {v : Value} (h : Calls P f args w fun e w' => e = .returned v ∧ w = w') : Calls P f args w fun e w'' => e = .returned v ∧ w'' = w :=
  h.mono fun _ _ ⟨h1, h2⟩ => ⟨h1, h2.symm⟩
/-- What is known of the cells that are reached: as in some scenario. -/
def ReachOk (t : Terr) (so : List Int) (st : Int) (S : List Int) : Prop := ∃ ps s, phasesB ps = true ∧ ArrOk t ps so st s ∧ ∀ v, v < t.n → (gI S v = -1 ↔ gI s v = -1)
theorem stepV_none {l : Bool} {o a : Int} (h : a = -1 ↔ o = -1) : stepV l o a = -1 ↔ o = -1 := by
  cases l
  · rw [step_min h]; omega
  · rw [step_max h]; omega
set_option maxHeartbeats 4000000 in
set_option maxRecDepth 100000 in
theorem timesE (t : Terr) (A : Option Addr) (n c : Nat) (xs : List Scen) (B : Option Addr) (m d : Nat) (so : List Int) (st : Int) (w : World) (hT : TOk w t) (hS : Sl w 2 A n c (xs.flatMap Scen.row)) (hO : ScOk w xs) (hN : ∀ (i : Nat) (x : Scen), xs[i]? = some x → x.n ≤ 1048576) (hM : Sl w 1 B m d (ints so)) (hm : m ≤ 1048576) (hask : askB t xs so st = true) :
    Calls Try.prog 54 #[.agg #[.int .i64 t.W, .int .i64 t.H, .slice t.A t.n t.c], .slice A n c, .slice B m d, .int .i64 st, .bool false] w fun e w' => ∃ A' c', e = .returned (.slice A' t.n c') ∧ Own w.heap.size w'.heap.size w' 3 1 A' t.n c' (ints (extI false t so st xs n)) ∧ Below w.heap.size w w' := by
  have hlh := hid (hS.xs_len Scen.row_len (by omega))
  have hTz := (hT.bel (bel_alloc (o := .cells #[.int .i64 t.W, .int .i64 t.H, .slice t.A t.n t.c] 30) (bel_refl w)))
  have hMz := (hM.bel (bel_alloc (o := .cells #[.int .i64 t.W, .int .i64 t.H, .slice t.A t.n t.c] 30) (bel_refl w)))
  have hSz := (hS.bel (bel_alloc (o := .cells #[.int .i64 t.W, .int .i64 t.H, .slice t.A t.n t.c] 30) (bel_refl w)))
  have hOz := (hO.bel (bel_alloc (o := .cells #[.int .i64 t.W, .int .i64 t.H, .slice t.A t.n t.c] 30) (bel_refl w)))
  obtain ⟨hg, hens, hso, hst⟩ := askB_parts hask
  obtain ⟨hW, -, -, hn1, hn25, -⟩ := goodT_bd hg
  obtain ⟨hl1, hl4, hgs⟩ := ensB_parts hens
  have hn0 : 0 < n := by have := hlh.out; omega
  have hn4 : (n : Int) ≤ 4 := by have := hlh.out; omega
  have hnb : (t.n : Int) ≤ 25 := by omega
  have hgs := hid hgs
  clear hl1 hl4 hens hask
  obtain ⟨x, hx⟩ : ∃ x, xs[0]? = some x := get_of_lt (by rw [hlh.out]; omega)
  obtain ⟨b, o, rfl, hb, c0, c1⟩ := hSz.scen hx
  simp only [Nat.zero_mul, Nat.add_zero] at c0 c1
  have hph := hOz 0 x hx
  have hxn := hid (hN 0 x hx)
  have hgx := hid (hgs.out 0 x hx)
  have hN1 := hid (extI_next (l := false) (t := t) (so := so) (st := st) hx)
  clear hx
  obtain ⟨k0, k1, k2⟩ := box_at (t := t) (w := w) (bel_refl _)
  have hin0 : 0 < n := hn0
  have hB2 := bel_refl (w.alloc (.cells #[.int .i64 t.W, .int .i64 t.H, .slice t.A t.n t.c] 30))
  go_enter Try.func54, Try.ntmps54
  go_wp2_with fail
  obtain ⟨W1, hW1⟩ : ∃ W1, (w.alloc (.cells #[.int .i64 t.W, .int .i64 t.H, .slice t.A t.n t.c] 30)) = W1 := ⟨_, rfl⟩
  have hgw : w.heap.size < W1.heap.size := by rw [← hW1]; simp
  have hwW : Below w.heap.size w W1 := by rw [← hW1]; exact bel_alloc (bel_refl w)
  rw [hW1] at hTz hMz hSz hOz hb c0 c1 hph k0 k1 k2 hB2 ⊢
  clear hW1
  (refine wp_region_planB (.free 0 (.free 1 (.free 2 (.free 3 (.free 4 (.free 5 (.free 6 (.one 7 (.free 8 (.stop)))))))))) (by kernel_rfl) (by kernel_rfl) ?_; have hD := bel_cells hB2; simp only [Plan.ops, List.getElem?_cons_zero, List.getElem?_cons_succ, Option.getD_some])
  (iterate 7 (refine p_free rfl (by rintro w' ⟨d, rfl⟩; obtain ⟨hDc, hDf⟩ := hD d; (go_simp; first | done | rfl)) ?_; (try simp only [Act.put, List.setIfInBounds_toArray, List.set_cons_zero, List.set_cons_succ])))
  refine p_call rfl (by (go_simp; first | done | exact ⟨rfl, rfl⟩ | rfl)) ?_
  refine (arrSF t x.A x.n x.c x.ps B m d so st _ (hTz.bel (bel_drew (bel_refl _))) hg (hph.bel (bel_drew (bel_refl _))) hxn.out (goodSc_parts hgx.out).1 (hMz.bel (bel_drew (bel_refl _))) hm hso hst).mono ?_
  rintro _ w2 ⟨A2, c3, rfl, hk, hO2, hB3⟩
  have hbx := bel_trans (bel_drew (bel_refl W1)) hB3
  refine ⟨_, rfl, ⟨⟨_, hbx⟩, rfl⟩, ?_⟩
  replace hO2 := hO2.low (show W1.heap.size ≤ _ by simp)
  (try simp only [Act.put, List.setIfInBounds_toArray, List.set_cons_zero, List.set_cons_succ])
  (iterate 1 (refine p_free rfl (by rintro w' ⟨d, rfl⟩; obtain ⟨hDc, hDf⟩ := hD d; (go_simp; first | done | rfl)) ?_; (try simp only [Act.put, List.setIfInBounds_toArray, List.set_cons_zero, List.set_cons_succ])))
  refine p_stop ?_
  (try simp only [Act.put, List.setIfInBounds_toArray, List.set_cons_zero, List.set_cons_succ])
  clear hD hB2 hB3
  obtain ⟨g, rfl, hg1, hg2⟩ := own_form hO2.own (by omega)
  have hE : extI false t so st xs 1 = arrF t x.ps so st := by
    rw [hN1.out]
    apply List.ext_getElem?
    intro v
    rcases Nat.lt_or_ge v t.n with hv | hv
    · rw [List.getElem?_map, List.getElem?_range hv, gI_some (s := arrF t x.ps so st) (by rw [hk.len]; exact hv)]
      simp only [Option.map_some]
      rw [extI, gI_rep, step_first]
    · rw [List.getElem?_eq_none (by simpa using hv), List.getElem?_eq_none (by rw [hk.len]; exact hv)]
  have hs1 : S1 W1 g t.n c3 (extI false t so st xs 1) w2 := ⟨by rw [hE]; exact hO2.own, hbx⟩
  have hrc : Hid (ReachOk t so st (extI false t so st xs 1)) := ⟨x.ps, arrF t x.ps so st, (goodSc_parts hgx.out).1, hk, fun v _ => by rw [hE]⟩
  have K := hid (And.intro k0 (And.intro k1 k2))
  clear hE hk hO2 hbx hN1 hgx hxn hph c0 c1 k0 k1 k2 hg1 hg2 hin0
  go_wp2_with fail
  go_loopw [12] (fun v wr => ∃ i : Nat, 1 ≤ i ∧ i ≤ n ∧ v = .int .i64 i ∧ S1 W1 g t.n c3 (extI false t so st xs i) wr ∧ Hid (ReachOk t so st (extI false t so st xs i))) (fun v _ => n - (intOf v).toNat)
  case atStart => exact ⟨1, by omega, by omega, rfl, hs1, hrc⟩
  case round =>
    clear hs1 hrc
    obtain ⟨i, hi1', hi', rfl, hs1, hrc⟩ := hrel
    have hBo := hs1.bel
    by_cases hlt : i < n
    · obtain ⟨x, hx⟩ : ∃ x, xs[i]? = some x := get_of_lt (by rw [hlh.out]; exact hlt)
      obtain ⟨b', o', hbo, hb', c0, c1⟩ := (hSz.bel hBo).scen hx
      simp only [Option.some.injEq, Addr.mk.injEq, and_true] at hbo
      obtain ⟨rfl, rfl⟩ := hbo
      have hph := hOz i x hx
      have hxn := hid (hN i x hx)
      have hgx := hid (hgs.out i x hx)
      have hN1 := hid (extI_next (l := false) (t := t) (so := so) (st := st) hx)
      clear hx
      have hi0 : (0 : Int) ≤ (i : Int) := by omega
      have hi1 : (i : Int) < (n : Int) := by omega
      have hgz : w.heap.size < wr.heap.size := Nat.lt_of_lt_of_le hgw hBo.size
      have k0 := ((bcell hBo).1 _ 0 hgw).trans K.out.1
      have k1 := ((bcell hBo).1 _ 1 hgw).trans K.out.2.1
      have k2 := ((bcell hBo).1 _ 2 hgw).trans K.out.2.2
      have hsl : Hid ((extI false t so st xs i).length = t.n) := extI_len _ _ _ _ _ _
      obtain ⟨S, hSd⟩ : ∃ S, extI false t so st xs i = S := ⟨_, rfl⟩
      rw [hSd] at hs1 hN1 hsl hrc
      clear hSd
      have hgl := (hs1.own.lt g rfl).2
      have hB2 := bel_refl wr
      go_wp2_with fail
      (refine wp_region_planB (.free 0 (.free 1 (.free 2 (.free 3 (.free 4 (.free 5 (.free 6 (.free 7 (.one 8 (.free 9 (.stop))))))))))) (by kernel_rfl) (by kernel_rfl) ?_; have hD := bel_cells hB2; simp only [Plan.ops, List.getElem?_cons_zero, List.getElem?_cons_succ, Option.getD_some])
      (iterate 8 (refine p_free rfl (by rintro w' ⟨d, rfl⟩; obtain ⟨hDc, hDf⟩ := hD d; (go_simp; first | done | rfl)) ?_; (try simp only [Act.put, List.setIfInBounds_toArray, List.set_cons_zero, List.set_cons_succ])))
      refine p_call rfl (by (go_simp; first | done | exact ⟨rfl, rfl⟩ | rfl)) ?_
      refine (arrSF t x.A x.n x.c x.ps B m d so st _ ((hTz.bel hBo).bel (bel_drew (bel_refl _))) hg ((hph.bel hBo).bel (bel_drew (bel_refl _))) hxn.out (goodSc_parts hgx.out).1 ((hMz.bel hBo).bel (bel_drew (bel_refl _))) hm hso hst).mono ?_
      rintro _ w3 ⟨A2, c4, rfl, hk, hO2, hB3⟩
      refine ⟨_, rfl, ⟨⟨_, bel_trans (bel_drew (bel_refl _)) hB3⟩, rfl⟩, ?_⟩
      replace hs1 := (hs1.keep (bel_drew (bel_refl _))).keep hB3
      replace hO2 := hO2.low (show wr.heap.size ≤ _ by simp)
      (try simp only [Act.put, List.setIfInBounds_toArray, List.set_cons_zero, List.set_cons_succ])
      (iterate 1 (refine p_free rfl (by rintro w' ⟨d, rfl⟩; obtain ⟨hDc, hDf⟩ := hD d; (go_simp; first | done | rfl)) ?_; (try simp only [Act.put, List.setIfInBounds_toArray, List.set_cons_zero, List.set_cons_succ])))
      refine p_stop ?_
      (try simp only [Act.put, List.setIfInBounds_toArray, List.set_cons_zero, List.set_cons_succ])
      clear hD hB2
      obtain ⟨R, hRd⟩ : ∃ R, arrF t x.ps so st = R := ⟨_, rfl⟩
      rw [hRd] at hN1 hk hO2
      clear hRd
      have hRS : Hid (∀ v, v < t.n → (gI R v = -1 ↔ gI S v = -1)) := by
        obtain ⟨ps0, s0, h1, h2, h3⟩ := hrc.out
        exact fun v hv => (reach_same hg (goodSc_parts hgx.out).1 h1 hst hk h2 hv).trans (h3 v hv).symm
      clear hk
      obtain ⟨T, hTd⟩ : ∃ T, (List.range t.n).map (fun v => stepV false (gI S v) (gI R v)) = T := ⟨_, rfl⟩
      have hTl : Hid (T.length = S.length) := by show _ = _; rw [← hTd, hsl.out]; simp
      have hTg : Hid (∀ v, v < t.n → gI T v = stepV false (gI S v) (gI R v)) := by show ∀ v, _; rw [← hTd]; exact fun v hv => gI_map hv
      rw [hTd] at hN1
      clear hTd
      go_wp2_with fail
      obtain ⟨L0, hL0⟩ : ∃ L0, wr.heap.size = L0 := ⟨_, rfl⟩
      obtain ⟨H0, hH0⟩ : ∃ H0, w3.heap.size = H0 := ⟨_, rfl⟩
      rw [hL0] at hgl
      rw [hL0, hH0] at hO2
      clear hL0 hH0 hB3 k0 k1 k2 hBo c0 c1 hgz
      go_loopw [14] (fun v wr => ∃ q : Nat, q ≤ t.n ∧ v = .int .i64 q ∧ S1 W1 g t.n c3 (T.take q ++ S.drop q) wr ∧ Own L0 H0 wr 3 1 A2 t.n c4 (ints R)) (fun v _ => t.n - (intOf v).toNat)
      case atStart => exact ⟨0, by omega, rfl, by simpa using hs1, hO2⟩
      case round =>
        clear hs1 hO2
        obtain ⟨q, hq', rfl, hs1, hO2⟩ := hrel
        have hlk : R.length = t.n := by have := hO2.own.1; rw [ints_len] at this; omega
        by_cases hlt2 : q < t.n
        · obtain ⟨y, hy⟩ : ∃ y, R[q]? = some y := get_of_lt (by omega)
          obtain ⟨b', o', rfl, hb', d0⟩ := hO2.sl.int_at hy
          have hTq := hTg.out q hlt2
          have hRq := hRS.out q hlt2
          rw [gI_get hy] at hTq hRq
          clear hy
          have hj0 : (0 : Int) ≤ (q : Int) := by omega
          have hj1 : (q : Int) < (t.n : Int) := by omega
          have e0 := hs1.at_ (v := q) (by omega)
          rw [mix_get hTl.out (by rw [hsl.out]; exact hlt2)] at e0
          have hfz := own_fz hs1.own q
          have hnew : Hid (∀ y, gI T q = y → (T.take q ++ S.drop q).set q y = T.take (q + 1) ++ S.drop (q + 1)) := fun y h => by rw [← h]; exact mix_one hTl.out (gI_some (by rw [hTl.out, hsl.out]; exact hlt2))
          obtain ⟨z, hz⟩ : ∃ z, gI S q = z := ⟨_, rfl⟩
          rw [hz] at e0 hTq hRq
          clear hz
          rw [step_min hRq] at hTq
          have hnq := hid (hnew.out _ hTq)
          clear hTq hRq hnew
          obtain ⟨M, hMd⟩ : ∃ M, T.take q ++ S.drop q = M := ⟨_, rfl⟩
          rw [hMd] at hs1 hnq
          clear hMd
          go_wp2_with fail
          refine wp_region_still_tail 12 (by kernel_rfl) (by kernel_rfl) ?_
          (simp only [List.take_succ_cons, List.take_zero, List.drop_succ_cons, List.drop_zero])
          (repeat (first | still_step | still_call (stillc (l1Least _ _ _))))
          refine wpStill_nil ?_
          change wpList _ _ _ _ _ wr.drew
          go_wp2
          go_roundw
          case rel => exact ⟨q + 1, by omega, by go_num, by rw [← hnq.out]; exact (hs1.keep (bel_drew (bel_refl _))).set q _, (hs1.keep (bel_drew (bel_refl _))).own_ (hO2.bel (bel_drew (bel_refl _))) hgl q _⟩
          case measure => simp [intOf]; omega
        · have hj1 : ¬ (q : Int) < (t.n : Int) := by omega
          rw [List.take_of_length_le (by rw [hTl.out, hsl.out]; omega), List.drop_of_length_le (by rw [hsl.out]; omega), List.append_nil] at hs1
          have hrc2 : Hid (ReachOk t so st T) := by
            obtain ⟨ps0, s0, h1, h2, h3⟩ := hrc.out
            exact ⟨ps0, s0, h1, h2, fun v hv => by rw [hTg.out v hv, stepV_none (hRS.out v hv)]; exact h3 v hv⟩
          go_wp2_with fail
          go_roundw
          case rel => exact ⟨i + 1, by omega, by omega, by go_num, by rw [hN1.out]; exact hs1, by rw [hN1.out]; exact hrc2⟩
          case measure => simp [intOf]; omega
    · have hi1 : ¬ (i : Int) < (n : Int) := by omega
      have e : i = n := by omega
      go_wp2_with fail
      go_ret
      rw [e] at hs1
      exact ⟨_, _, rfl, Own.mk_ (own_low hs1.own (by omega)), hwW.trans (hs1.bel.mono (by omega))⟩
set_option maxHeartbeats 4000000 in
set_option maxRecDepth 100000 in
theorem timesL (t : Terr) (A : Option Addr) (n c : Nat) (xs : List Scen) (B : Option Addr) (m d : Nat) (so : List Int) (st : Int) (w : World) (hT : TOk w t) (hS : Sl w 2 A n c (xs.flatMap Scen.row)) (hO : ScOk w xs) (hN : ∀ (i : Nat) (x : Scen), xs[i]? = some x → x.n ≤ 1048576) (hM : Sl w 1 B m d (ints so)) (hm : m ≤ 1048576) (hask : askB t xs so st = true) :
    Calls Try.prog 54 #[.agg #[.int .i64 t.W, .int .i64 t.H, .slice t.A t.n t.c], .slice A n c, .slice B m d, .int .i64 st, .bool true] w fun e w' => ∃ A' c', e = .returned (.slice A' t.n c') ∧ Own w.heap.size w'.heap.size w' 3 1 A' t.n c' (ints (extI true t so st xs n)) ∧ Below w.heap.size w w' := by
  have hlh := hid (hS.xs_len Scen.row_len (by omega))
  have hTz := (hT.bel (bel_alloc (o := .cells #[.int .i64 t.W, .int .i64 t.H, .slice t.A t.n t.c] 30) (bel_refl w)))
  have hMz := (hM.bel (bel_alloc (o := .cells #[.int .i64 t.W, .int .i64 t.H, .slice t.A t.n t.c] 30) (bel_refl w)))
  have hSz := (hS.bel (bel_alloc (o := .cells #[.int .i64 t.W, .int .i64 t.H, .slice t.A t.n t.c] 30) (bel_refl w)))
  have hOz := (hO.bel (bel_alloc (o := .cells #[.int .i64 t.W, .int .i64 t.H, .slice t.A t.n t.c] 30) (bel_refl w)))
  obtain ⟨hg, hens, hso, hst⟩ := askB_parts hask
  obtain ⟨hW, -, -, hn1, hn25, -⟩ := goodT_bd hg
  obtain ⟨hl1, hl4, hgs⟩ := ensB_parts hens
  have hn0 : 0 < n := by have := hlh.out; omega
  have hn4 : (n : Int) ≤ 4 := by have := hlh.out; omega
  have hnb : (t.n : Int) ≤ 25 := by omega
  have hgs := hid hgs
  clear hl1 hl4 hens hask
  obtain ⟨x, hx⟩ : ∃ x, xs[0]? = some x := get_of_lt (by rw [hlh.out]; omega)
  obtain ⟨b, o, rfl, hb, c0, c1⟩ := hSz.scen hx
  simp only [Nat.zero_mul, Nat.add_zero] at c0 c1
  have hph := hOz 0 x hx
  have hxn := hid (hN 0 x hx)
  have hgx := hid (hgs.out 0 x hx)
  have hN1 := hid (extI_next (l := true) (t := t) (so := so) (st := st) hx)
  clear hx
  obtain ⟨k0, k1, k2⟩ := box_at (t := t) (w := w) (bel_refl _)
  have hin0 : 0 < n := hn0
  have hB2 := bel_refl (w.alloc (.cells #[.int .i64 t.W, .int .i64 t.H, .slice t.A t.n t.c] 30))
  go_enter Try.func54, Try.ntmps54
  go_wp2_with fail
  obtain ⟨W1, hW1⟩ : ∃ W1, (w.alloc (.cells #[.int .i64 t.W, .int .i64 t.H, .slice t.A t.n t.c] 30)) = W1 := ⟨_, rfl⟩
  have hgw : w.heap.size < W1.heap.size := by rw [← hW1]; simp
  have hwW : Below w.heap.size w W1 := by rw [← hW1]; exact bel_alloc (bel_refl w)
  rw [hW1] at hTz hMz hSz hOz hb c0 c1 hph k0 k1 k2 hB2 ⊢
  clear hW1
  (refine wp_region_planB (.free 0 (.free 1 (.free 2 (.free 3 (.free 4 (.free 5 (.free 6 (.one 7 (.free 8 (.stop)))))))))) (by kernel_rfl) (by kernel_rfl) ?_; have hD := bel_cells hB2; simp only [Plan.ops, List.getElem?_cons_zero, List.getElem?_cons_succ, Option.getD_some])
  (iterate 7 (refine p_free rfl (by rintro w' ⟨d, rfl⟩; obtain ⟨hDc, hDf⟩ := hD d; (go_simp; first | done | rfl)) ?_; (try simp only [Act.put, List.setIfInBounds_toArray, List.set_cons_zero, List.set_cons_succ])))
  refine p_call rfl (by (go_simp; first | done | exact ⟨rfl, rfl⟩ | rfl)) ?_
  refine (arrSF t x.A x.n x.c x.ps B m d so st _ (hTz.bel (bel_drew (bel_refl _))) hg (hph.bel (bel_drew (bel_refl _))) hxn.out (goodSc_parts hgx.out).1 (hMz.bel (bel_drew (bel_refl _))) hm hso hst).mono ?_
  rintro _ w2 ⟨A2, c3, rfl, hk, hO2, hB3⟩
  have hbx := bel_trans (bel_drew (bel_refl W1)) hB3
  refine ⟨_, rfl, ⟨⟨_, hbx⟩, rfl⟩, ?_⟩
  replace hO2 := hO2.low (show W1.heap.size ≤ _ by simp)
  (try simp only [Act.put, List.setIfInBounds_toArray, List.set_cons_zero, List.set_cons_succ])
  (iterate 1 (refine p_free rfl (by rintro w' ⟨d, rfl⟩; obtain ⟨hDc, hDf⟩ := hD d; (go_simp; first | done | rfl)) ?_; (try simp only [Act.put, List.setIfInBounds_toArray, List.set_cons_zero, List.set_cons_succ])))
  refine p_stop ?_
  (try simp only [Act.put, List.setIfInBounds_toArray, List.set_cons_zero, List.set_cons_succ])
  clear hD hB2 hB3
  obtain ⟨g, rfl, hg1, hg2⟩ := own_form hO2.own (by omega)
  have hE : extI true t so st xs 1 = arrF t x.ps so st := by
    rw [hN1.out]
    apply List.ext_getElem?
    intro v
    rcases Nat.lt_or_ge v t.n with hv | hv
    · rw [List.getElem?_map, List.getElem?_range hv, gI_some (s := arrF t x.ps so st) (by rw [hk.len]; exact hv)]
      simp only [Option.map_some]
      rw [extI, gI_rep, step_first]
    · rw [List.getElem?_eq_none (by simpa using hv), List.getElem?_eq_none (by rw [hk.len]; exact hv)]
  have hs1 : S1 W1 g t.n c3 (extI true t so st xs 1) w2 := ⟨by rw [hE]; exact hO2.own, hbx⟩
  have hrc : Hid (ReachOk t so st (extI true t so st xs 1)) := ⟨x.ps, arrF t x.ps so st, (goodSc_parts hgx.out).1, hk, fun v _ => by rw [hE]⟩
  have K := hid (And.intro k0 (And.intro k1 k2))
  clear hE hk hO2 hbx hN1 hgx hxn hph c0 c1 k0 k1 k2 hg1 hg2 hin0
  go_wp2_with fail
  go_loopw [12] (fun v wr => ∃ i : Nat, 1 ≤ i ∧ i ≤ n ∧ v = .int .i64 i ∧ S1 W1 g t.n c3 (extI true t so st xs i) wr ∧ Hid (ReachOk t so st (extI true t so st xs i))) (fun v _ => n - (intOf v).toNat)
  case atStart => exact ⟨1, by omega, by omega, rfl, hs1, hrc⟩
  case round =>
    clear hs1 hrc
    obtain ⟨i, hi1', hi', rfl, hs1, hrc⟩ := hrel
    have hBo := hs1.bel
    by_cases hlt : i < n
    · obtain ⟨x, hx⟩ : ∃ x, xs[i]? = some x := get_of_lt (by rw [hlh.out]; exact hlt)
      obtain ⟨b', o', hbo, hb', c0, c1⟩ := (hSz.bel hBo).scen hx
      simp only [Option.some.injEq, Addr.mk.injEq, and_true] at hbo
      obtain ⟨rfl, rfl⟩ := hbo
      have hph := hOz i x hx
      have hxn := hid (hN i x hx)
      have hgx := hid (hgs.out i x hx)
      have hN1 := hid (extI_next (l := true) (t := t) (so := so) (st := st) hx)
      clear hx
      have hi0 : (0 : Int) ≤ (i : Int) := by omega
      have hi1 : (i : Int) < (n : Int) := by omega
      have hgz : w.heap.size < wr.heap.size := Nat.lt_of_lt_of_le hgw hBo.size
      have k0 := ((bcell hBo).1 _ 0 hgw).trans K.out.1
      have k1 := ((bcell hBo).1 _ 1 hgw).trans K.out.2.1
      have k2 := ((bcell hBo).1 _ 2 hgw).trans K.out.2.2
      have hsl : Hid ((extI true t so st xs i).length = t.n) := extI_len _ _ _ _ _ _
      obtain ⟨S, hSd⟩ : ∃ S, extI true t so st xs i = S := ⟨_, rfl⟩
      rw [hSd] at hs1 hN1 hsl hrc
      clear hSd
      have hgl := (hs1.own.lt g rfl).2
      have hB2 := bel_refl wr
      go_wp2_with fail
      (refine wp_region_planB (.free 0 (.free 1 (.free 2 (.free 3 (.free 4 (.free 5 (.free 6 (.free 7 (.one 8 (.free 9 (.stop))))))))))) (by kernel_rfl) (by kernel_rfl) ?_; have hD := bel_cells hB2; simp only [Plan.ops, List.getElem?_cons_zero, List.getElem?_cons_succ, Option.getD_some])
      (iterate 8 (refine p_free rfl (by rintro w' ⟨d, rfl⟩; obtain ⟨hDc, hDf⟩ := hD d; (go_simp; first | done | rfl)) ?_; (try simp only [Act.put, List.setIfInBounds_toArray, List.set_cons_zero, List.set_cons_succ])))
      refine p_call rfl (by (go_simp; first | done | exact ⟨rfl, rfl⟩ | rfl)) ?_
      refine (arrSF t x.A x.n x.c x.ps B m d so st _ ((hTz.bel hBo).bel (bel_drew (bel_refl _))) hg ((hph.bel hBo).bel (bel_drew (bel_refl _))) hxn.out (goodSc_parts hgx.out).1 ((hMz.bel hBo).bel (bel_drew (bel_refl _))) hm hso hst).mono ?_
      rintro _ w3 ⟨A2, c4, rfl, hk, hO2, hB3⟩
      refine ⟨_, rfl, ⟨⟨_, bel_trans (bel_drew (bel_refl _)) hB3⟩, rfl⟩, ?_⟩
      replace hs1 := (hs1.keep (bel_drew (bel_refl _))).keep hB3
      replace hO2 := hO2.low (show wr.heap.size ≤ _ by simp)
      (try simp only [Act.put, List.setIfInBounds_toArray, List.set_cons_zero, List.set_cons_succ])
      (iterate 1 (refine p_free rfl (by rintro w' ⟨d, rfl⟩; obtain ⟨hDc, hDf⟩ := hD d; (go_simp; first | done | rfl)) ?_; (try simp only [Act.put, List.setIfInBounds_toArray, List.set_cons_zero, List.set_cons_succ])))
      refine p_stop ?_
      (try simp only [Act.put, List.setIfInBounds_toArray, List.set_cons_zero, List.set_cons_succ])
      clear hD hB2
      obtain ⟨R, hRd⟩ : ∃ R, arrF t x.ps so st = R := ⟨_, rfl⟩
      rw [hRd] at hN1 hk hO2
      clear hRd
      have hRS : Hid (∀ v, v < t.n → (gI R v = -1 ↔ gI S v = -1)) := by
        obtain ⟨ps0, s0, h1, h2, h3⟩ := hrc.out
        exact fun v hv => (reach_same hg (goodSc_parts hgx.out).1 h1 hst hk h2 hv).trans (h3 v hv).symm
      clear hk
      obtain ⟨T, hTd⟩ : ∃ T, (List.range t.n).map (fun v => stepV true (gI S v) (gI R v)) = T := ⟨_, rfl⟩
      have hTl : Hid (T.length = S.length) := by show _ = _; rw [← hTd, hsl.out]; simp
      have hTg : Hid (∀ v, v < t.n → gI T v = stepV true (gI S v) (gI R v)) := by show ∀ v, _; rw [← hTd]; exact fun v hv => gI_map hv
      rw [hTd] at hN1
      clear hTd
      go_wp2_with fail
      obtain ⟨L0, hL0⟩ : ∃ L0, wr.heap.size = L0 := ⟨_, rfl⟩
      obtain ⟨H0, hH0⟩ : ∃ H0, w3.heap.size = H0 := ⟨_, rfl⟩
      rw [hL0] at hgl
      rw [hL0, hH0] at hO2
      clear hL0 hH0 hB3 k0 k1 k2 hBo c0 c1 hgz
      go_loopw [14] (fun v wr => ∃ q : Nat, q ≤ t.n ∧ v = .int .i64 q ∧ S1 W1 g t.n c3 (T.take q ++ S.drop q) wr ∧ Own L0 H0 wr 3 1 A2 t.n c4 (ints R)) (fun v _ => t.n - (intOf v).toNat)
      case atStart => exact ⟨0, by omega, rfl, by simpa using hs1, hO2⟩
      case round =>
        clear hs1 hO2
        obtain ⟨q, hq', rfl, hs1, hO2⟩ := hrel
        have hlk : R.length = t.n := by have := hO2.own.1; rw [ints_len] at this; omega
        by_cases hlt2 : q < t.n
        · obtain ⟨y, hy⟩ : ∃ y, R[q]? = some y := get_of_lt (by omega)
          obtain ⟨b', o', rfl, hb', d0⟩ := hO2.sl.int_at hy
          have hTq := hTg.out q hlt2
          have hRq := hRS.out q hlt2
          rw [gI_get hy] at hTq hRq
          clear hy
          have hj0 : (0 : Int) ≤ (q : Int) := by omega
          have hj1 : (q : Int) < (t.n : Int) := by omega
          have e0 := hs1.at_ (v := q) (by omega)
          rw [mix_get hTl.out (by rw [hsl.out]; exact hlt2)] at e0
          have hfz := own_fz hs1.own q
          have hnew : Hid (∀ y, gI T q = y → (T.take q ++ S.drop q).set q y = T.take (q + 1) ++ S.drop (q + 1)) := fun y h => by rw [← h]; exact mix_one hTl.out (gI_some (by rw [hTl.out, hsl.out]; exact hlt2))
          obtain ⟨z, hz⟩ : ∃ z, gI S q = z := ⟨_, rfl⟩
          rw [hz] at e0 hTq hRq
          clear hz
          rw [step_max hRq] at hTq
          have hnq := hid (hnew.out _ hTq)
          clear hTq hRq hnew
          obtain ⟨M, hMd⟩ : ∃ M, T.take q ++ S.drop q = M := ⟨_, rfl⟩
          rw [hMd] at hs1 hnq
          clear hMd
          go_wp2_with fail
          refine wp_region_still_tail 12 (by kernel_rfl) (by kernel_rfl) ?_
          (simp only [List.take_succ_cons, List.take_zero, List.drop_succ_cons, List.drop_zero])
          (repeat (first | still_step | still_call (stillc (l1Most _ _ _))))
          refine wpStill_nil ?_
          change wpList _ _ _ _ _ wr.drew
          go_wp2
          go_roundw
          case rel => exact ⟨q + 1, by omega, by go_num, by rw [← hnq.out]; exact (hs1.keep (bel_drew (bel_refl _))).set q _, (hs1.keep (bel_drew (bel_refl _))).own_ (hO2.bel (bel_drew (bel_refl _))) hgl q _⟩
          case measure => simp [intOf]; omega
        · have hj1 : ¬ (q : Int) < (t.n : Int) := by omega
          rw [List.take_of_length_le (by rw [hTl.out, hsl.out]; omega), List.drop_of_length_le (by rw [hsl.out]; omega), List.append_nil] at hs1
          have hrc2 : Hid (ReachOk t so st T) := by
            obtain ⟨ps0, s0, h1, h2, h3⟩ := hrc.out
            exact ⟨ps0, s0, h1, h2, fun v hv => by rw [hTg.out v hv, stepV_none (hRS.out v hv)]; exact h3 v hv⟩
          go_wp2_with fail
          go_roundw
          case rel => exact ⟨i + 1, by omega, by omega, by go_num, by rw [hN1.out]; exact hs1, by rw [hN1.out]; exact hrc2⟩
          case measure => simp [intOf]; omega
    · have hi1 : ¬ (i : Int) < (n : Int) := by omega
      have e : i = n := by omega
      go_wp2_with fail
      go_ret
      rw [e] at hs1
      exact ⟨_, _, rfl, Own.mk_ (own_low hs1.own (by omega)), hwW.trans (hs1.bel.mono (by omega))⟩
noncomputable def extR (l : Bool) (t : Terr) (xs : List Scen) (so : List Int) (st : Int) : List Int := if askB t xs so st then extI l t so st xs xs.length else []
set_option maxHeartbeats 4000000 in
set_option maxRecDepth 100000 in
theorem tmsEI (t : Terr) (A : Option Addr) (n c : Nat) (xs : List Scen) (B : Option Addr) (m d : Nat) (so : List Int) (st : Int) (w : World) (hT : TOk w t) (ht : t.n ≤ 1048576) (hS : Sl w 2 A n c (xs.flatMap Scen.row)) (hO : ScOk w xs) (hN : ∀ (i : Nat) (x : Scen), xs[i]? = some x → x.n ≤ 1048576) (hn : n ≤ 1048576) (hM : Sl w 1 B m d (ints so)) (hm : m ≤ 1048576) :
    Calls Try.prog 26 #[.agg #[.int .i64 t.W, .int .i64 t.H, .slice t.A t.n t.c], .slice A n c, .slice B m d, .int .i64 st] w fun e w' => ∃ A' k c', e = .returned (.tuple #[.slice A' k c', .bool (askB t xs so st)]) ∧ Own w.heap.size w'.heap.size w' 3 1 A' k c' (ints (extR false t xs so st)) ∧ Below w.heap.size w w' := by
  have hlh := hid (hS.xs_len Scen.row_len (by omega))
  have hTz := (hT.bel (bel_alloc (o := .cells #[.int .i64 t.W, .int .i64 t.H, .slice t.A t.n t.c] 30) (bel_refl w)))
  have hMz := (hM.bel (bel_alloc (o := .cells #[.int .i64 t.W, .int .i64 t.H, .slice t.A t.n t.c] 30) (bel_refl w)))
  have hSz := (hS.bel (bel_alloc (o := .cells #[.int .i64 t.W, .int .i64 t.H, .slice t.A t.n t.c] 30) (bel_refl w)))
  have hOz := (hO.bel (bel_alloc (o := .cells #[.int .i64 t.W, .int .i64 t.H, .slice t.A t.n t.c] 30) (bel_refl w)))
  have hB2 := bel_refl (w.alloc (.cells #[.int .i64 t.W, .int .i64 t.H, .slice t.A t.n t.c] 30))
  rcases hask : askB t xs so st with _ | _
  · have hR : Hid (extR false t xs so st = []) := by show _ = _; rw [extR, hask]; rfl
    go_enter Try.func26, Try.ntmps26
    go_wp2_with (go_at_call 45; refine (isBlaze t _ _ _ xs _ _ _ so st _ hTz ht hSz hOz hN hn hMz hm).mono ?_; rw [hask]; rintro _ w1 ⟨rfl, hB1⟩; replace hB2 := bel_trans hB2 hB1; obtain ⟨hC1, hF1⟩ := bcell hB2)
    go_ret2
    exact ⟨none, 0, 0, rfl, by rw [hR.out]; exact ⟨⟨rfl, Or.inl ⟨rfl, rfl⟩⟩, fun g hg => by simp [Value.ownBlock] at hg⟩, bel_trans (bel_alloc (bel_refl w)) hB2⟩
  · have hR : Hid (extR false t xs so st = extI false t so st xs n) := by show _ = _; rw [extR, hask, hlh.out]; rfl
    go_enter Try.func26, Try.ntmps26
    go_wp2_with (first
      | (go_at_call 55; refine (extE t A n c xs B m d so st _ (hTz.bel hB2) (hSz.bel hB2) (hOz.bel hB2) hN (hMz.bel hB2) hm hask).mono ?_; rintro _ w3 ⟨A3, c3, rfl, hO3, hB3⟩)
      | (go_at_call 45; refine (isBlaze t _ _ _ xs _ _ _ so st _ hTz ht hSz hOz hN hn hMz hm).mono ?_; rw [hask]; rintro _ w1 ⟨rfl, hB1⟩; replace hB2 := bel_trans hB2 hB1; obtain ⟨hC1, hF1⟩ := bcell hB2))
    go_ret2
    refine ⟨A3, t.n, c3, rfl, ?_, bel_trans (bel_alloc (bel_refl w)) (bel_trans hB2 hB3)⟩
    rw [hR.out]
    exact hO3.low (by have := hB2.size; simp at this; omega)
set_option maxHeartbeats 4000000 in
set_option maxRecDepth 100000 in
theorem tmsES (t : Terr) (A : Option Addr) (n c : Nat) (xs : List Scen) (B : Option Addr) (m d : Nat) (so : List Int) (st : Int) (w : World) (hT : TOk w t) (ht : t.n ≤ 1048576) (hS : Sl w 2 A n c (xs.flatMap Scen.row)) (hO : ScOk w xs) (hN : ∀ (i : Nat) (x : Scen), xs[i]? = some x → x.n ≤ 1048576) (hn : n ≤ 1048576) (hM : Sl w 1 B m d (ints so)) (hm : m ≤ 1048576) :
    Calls Try.prog 25 #[.agg #[.int .i64 t.W, .int .i64 t.H, .slice t.A t.n t.c], .slice A n c, .slice B m d, .int .i64 st] w fun e w' => ∃ A' k c', e = .returned (.tuple #[.slice A' k c', .bool (askB t xs so st)]) ∧ Own w.heap.size w'.heap.size w' 3 1 A' k c' (ints (extR false t xs so st)) ∧ Below w.heap.size w w' := by
  have hlh := hid (hS.xs_len Scen.row_len (by omega))
  have hTz := (hT.bel (bel_alloc (o := .cells #[.int .i64 t.W, .int .i64 t.H, .slice t.A t.n t.c] 30) (bel_refl w)))
  have hMz := (hM.bel (bel_alloc (o := .cells #[.int .i64 t.W, .int .i64 t.H, .slice t.A t.n t.c] 30) (bel_refl w)))
  have hSz := (hS.bel (bel_alloc (o := .cells #[.int .i64 t.W, .int .i64 t.H, .slice t.A t.n t.c] 30) (bel_refl w)))
  have hOz := (hO.bel (bel_alloc (o := .cells #[.int .i64 t.W, .int .i64 t.H, .slice t.A t.n t.c] 30) (bel_refl w)))
  have hB2 := bel_refl (w.alloc (.cells #[.int .i64 t.W, .int .i64 t.H, .slice t.A t.n t.c] 30))
  rcases hask : askB t xs so st with _ | _
  · have hR : Hid (extR false t xs so st = []) := by show _ = _; rw [extR, hask]; rfl
    go_enter Try.func25, Try.ntmps25
    go_wp2_with (go_at_call 41; refine (l8Asked t _ _ _ xs _ _ _ so st _ hTz ht hSz hOz hN hn hMz hm).mono ?_; rw [hask]; rintro _ w1 ⟨rfl, hB1⟩; replace hB2 := bel_trans hB2 hB1; obtain ⟨hC1, hF1⟩ := bcell hB2)
    go_ret2
    refine ⟨_, _, _, rfl, ?_, bel_trans (bel_alloc (bel_refl w)) (bel_alloc hB2)⟩
    rw [hR.out]
    exact Own.mk_ (own_low (by simpa [ints] using own_empty (size := 1) (e := 3) (Nat.le_refl _)) (by have := hB2.size; simp at this; omega))
  · have hR : Hid (extR false t xs so st = extI false t so st xs n) := by show _ = _; rw [extR, hask, hlh.out]; rfl
    go_enter Try.func25, Try.ntmps25
    go_wp2_with (first
      | (go_at_call 54; refine (timesE t A n c xs B m d so st _ (hTz.bel hB2) (hSz.bel hB2) (hOz.bel hB2) hN (hMz.bel hB2) hm hask).mono ?_; rintro _ w3 ⟨A3, c3, rfl, hO3, hB3⟩)
      | (go_at_call 41; refine (l8Asked t _ _ _ xs _ _ _ so st _ hTz ht hSz hOz hN hn hMz hm).mono ?_; rw [hask]; rintro _ w1 ⟨rfl, hB1⟩; replace hB2 := bel_trans hB2 hB1; obtain ⟨hC1, hF1⟩ := bcell hB2))
    go_ret2
    refine ⟨A3, t.n, c3, rfl, ?_, bel_trans (bel_alloc (bel_refl w)) (bel_trans hB2 hB3)⟩
    rw [hR.out]
    exact hO3.low (by have := hB2.size; simp at this; omega)
set_option maxHeartbeats 4000000 in
set_option maxRecDepth 100000 in
theorem tmsLI (t : Terr) (A : Option Addr) (n c : Nat) (xs : List Scen) (B : Option Addr) (m d : Nat) (so : List Int) (st : Int) (w : World) (hT : TOk w t) (ht : t.n ≤ 1048576) (hS : Sl w 2 A n c (xs.flatMap Scen.row)) (hO : ScOk w xs) (hN : ∀ (i : Nat) (x : Scen), xs[i]? = some x → x.n ≤ 1048576) (hn : n ≤ 1048576) (hM : Sl w 1 B m d (ints so)) (hm : m ≤ 1048576) :
    Calls Try.prog 32 #[.agg #[.int .i64 t.W, .int .i64 t.H, .slice t.A t.n t.c], .slice A n c, .slice B m d, .int .i64 st] w fun e w' => ∃ A' k c', e = .returned (.tuple #[.slice A' k c', .bool (askB t xs so st)]) ∧ Own w.heap.size w'.heap.size w' 3 1 A' k c' (ints (extR true t xs so st)) ∧ Below w.heap.size w w' := by
  have hlh := hid (hS.xs_len Scen.row_len (by omega))
  have hTz := (hT.bel (bel_alloc (o := .cells #[.int .i64 t.W, .int .i64 t.H, .slice t.A t.n t.c] 30) (bel_refl w)))
  have hMz := (hM.bel (bel_alloc (o := .cells #[.int .i64 t.W, .int .i64 t.H, .slice t.A t.n t.c] 30) (bel_refl w)))
  have hSz := (hS.bel (bel_alloc (o := .cells #[.int .i64 t.W, .int .i64 t.H, .slice t.A t.n t.c] 30) (bel_refl w)))
  have hOz := (hO.bel (bel_alloc (o := .cells #[.int .i64 t.W, .int .i64 t.H, .slice t.A t.n t.c] 30) (bel_refl w)))
  have hB2 := bel_refl (w.alloc (.cells #[.int .i64 t.W, .int .i64 t.H, .slice t.A t.n t.c] 30))
  rcases hask : askB t xs so st with _ | _
  · have hR : Hid (extR true t xs so st = []) := by show _ = _; rw [extR, hask]; rfl
    go_enter Try.func32, Try.ntmps32
    go_wp2_with (go_at_call 45; refine (isBlaze t _ _ _ xs _ _ _ so st _ hTz ht hSz hOz hN hn hMz hm).mono ?_; rw [hask]; rintro _ w1 ⟨rfl, hB1⟩; replace hB2 := bel_trans hB2 hB1; obtain ⟨hC1, hF1⟩ := bcell hB2)
    go_ret2
    exact ⟨none, 0, 0, rfl, by rw [hR.out]; exact ⟨⟨rfl, Or.inl ⟨rfl, rfl⟩⟩, fun g hg => by simp [Value.ownBlock] at hg⟩, bel_trans (bel_alloc (bel_refl w)) hB2⟩
  · have hR : Hid (extR true t xs so st = extI true t so st xs n) := by show _ = _; rw [extR, hask, hlh.out]; rfl
    go_enter Try.func32, Try.ntmps32
    go_wp2_with (first
      | (go_at_call 55; refine (extL t A n c xs B m d so st _ (hTz.bel hB2) (hSz.bel hB2) (hOz.bel hB2) hN (hMz.bel hB2) hm hask).mono ?_; rintro _ w3 ⟨A3, c3, rfl, hO3, hB3⟩)
      | (go_at_call 45; refine (isBlaze t _ _ _ xs _ _ _ so st _ hTz ht hSz hOz hN hn hMz hm).mono ?_; rw [hask]; rintro _ w1 ⟨rfl, hB1⟩; replace hB2 := bel_trans hB2 hB1; obtain ⟨hC1, hF1⟩ := bcell hB2))
    go_ret2
    refine ⟨A3, t.n, c3, rfl, ?_, bel_trans (bel_alloc (bel_refl w)) (bel_trans hB2 hB3)⟩
    rw [hR.out]
    exact hO3.low (by have := hB2.size; simp at this; omega)
set_option maxHeartbeats 4000000 in
set_option maxRecDepth 100000 in
theorem tmsLS (t : Terr) (A : Option Addr) (n c : Nat) (xs : List Scen) (B : Option Addr) (m d : Nat) (so : List Int) (st : Int) (w : World) (hT : TOk w t) (ht : t.n ≤ 1048576) (hS : Sl w 2 A n c (xs.flatMap Scen.row)) (hO : ScOk w xs) (hN : ∀ (i : Nat) (x : Scen), xs[i]? = some x → x.n ≤ 1048576) (hn : n ≤ 1048576) (hM : Sl w 1 B m d (ints so)) (hm : m ≤ 1048576) :
    Calls Try.prog 31 #[.agg #[.int .i64 t.W, .int .i64 t.H, .slice t.A t.n t.c], .slice A n c, .slice B m d, .int .i64 st] w fun e w' => ∃ A' k c', e = .returned (.tuple #[.slice A' k c', .bool (askB t xs so st)]) ∧ Own w.heap.size w'.heap.size w' 3 1 A' k c' (ints (extR true t xs so st)) ∧ Below w.heap.size w w' := by
  have hlh := hid (hS.xs_len Scen.row_len (by omega))
  have hTz := (hT.bel (bel_alloc (o := .cells #[.int .i64 t.W, .int .i64 t.H, .slice t.A t.n t.c] 30) (bel_refl w)))
  have hMz := (hM.bel (bel_alloc (o := .cells #[.int .i64 t.W, .int .i64 t.H, .slice t.A t.n t.c] 30) (bel_refl w)))
  have hSz := (hS.bel (bel_alloc (o := .cells #[.int .i64 t.W, .int .i64 t.H, .slice t.A t.n t.c] 30) (bel_refl w)))
  have hOz := (hO.bel (bel_alloc (o := .cells #[.int .i64 t.W, .int .i64 t.H, .slice t.A t.n t.c] 30) (bel_refl w)))
  have hB2 := bel_refl (w.alloc (.cells #[.int .i64 t.W, .int .i64 t.H, .slice t.A t.n t.c] 30))
  rcases hask : askB t xs so st with _ | _
  · have hR : Hid (extR true t xs so st = []) := by show _ = _; rw [extR, hask]; rfl
    go_enter Try.func31, Try.ntmps31
    go_wp2_with (go_at_call 41; refine (l8Asked t _ _ _ xs _ _ _ so st _ hTz ht hSz hOz hN hn hMz hm).mono ?_; rw [hask]; rintro _ w1 ⟨rfl, hB1⟩; replace hB2 := bel_trans hB2 hB1; obtain ⟨hC1, hF1⟩ := bcell hB2)
    go_ret2
    refine ⟨_, _, _, rfl, ?_, bel_trans (bel_alloc (bel_refl w)) (bel_alloc hB2)⟩
    rw [hR.out]
    exact Own.mk_ (own_low (by simpa [ints] using own_empty (size := 1) (e := 3) (Nat.le_refl _)) (by have := hB2.size; simp at this; omega))
  · have hR : Hid (extR true t xs so st = extI true t so st xs n) := by show _ = _; rw [extR, hask, hlh.out]; rfl
    go_enter Try.func31, Try.ntmps31
    go_wp2_with (first
      | (go_at_call 54; refine (timesL t A n c xs B m d so st _ (hTz.bel hB2) (hSz.bel hB2) (hOz.bel hB2) hN (hMz.bel hB2) hm hask).mono ?_; rintro _ w3 ⟨A3, c3, rfl, hO3, hB3⟩)
      | (go_at_call 41; refine (l8Asked t _ _ _ xs _ _ _ so st _ hTz ht hSz hOz hN hn hMz hm).mono ?_; rw [hask]; rintro _ w1 ⟨rfl, hB1⟩; replace hB2 := bel_trans hB2 hB1; obtain ⟨hC1, hF1⟩ := bcell hB2))
    go_ret2
    refine ⟨A3, t.n, c3, rfl, ?_, bel_trans (bel_alloc (bel_refl w)) (bel_trans hB2 hB3)⟩
    rw [hR.out]
    exact hO3.low (by have := hB2.size; simp at this; omega)
end Go.Proofs.Ytdfjfopbhlbmkaa
