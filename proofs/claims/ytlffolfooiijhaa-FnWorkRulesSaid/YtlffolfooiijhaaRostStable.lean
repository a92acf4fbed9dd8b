/-
  The library's stable sort of any number of duties; a list with a duty more: of the program and of the reference, walked.
-/
import Derived.Test.YtlffolfooiijhaaRostSym2
import Derived.Test.YtlffolfooiijhaaRostAddS
namespace Go.Proofs.Ytlffolfooiijhaa
open Go.RowKit

set_option maxHeartbeats 4000000 in
set_option maxRecDepth 100000 in
theorem stableAny (g n c lo : Nat) (w : World) (h : DO lo g n c w) (hn : n ≤ 1048577) :
    Calls Try.prog 86 #[.slice (some ⟨g, 0, none⟩) n c, .int .i64 n, .func (.func 79) #[] #[]] w fun e w' => (∃ v, e = .returned v) ∧ DO lo g n c w' ∧ w.grownBy w' (some g) := by
  have hn2 : (n : Int) ≤ 1048577 := by omega
  go_enter Try.func86, Try.ntmps86
  go_wp2_with fail
  go_loopw [7, 8] (fun u v wr => ∃ a : Nat, a ≤ n ∧ u = .int .i64 a ∧ v = .int .i64 ((a + 20 : Nat) : Int) ∧ DO lo g n c wr ∧ w.grownBy wr (some g)) (fun u _ _ => n - (intOf u).toNat)
  case atStart => exact ⟨0, by omega, rfl, rfl, h, World.grownBy.refl _ _⟩
  case round =>
    clear h
    obtain ⟨a, ha, rfl, rfl, h, hg⟩ := hrel
    have ha3 : (a : Int) ≤ 1048577 := by omega
    by_cases hlt : a + 20 ≤ n
    · have hlt1 : ((a + 20 : Nat) : Int) ≤ (n : Int) := by omega
      obtain ⟨b, hb⟩ : ∃ b, a + 20 = b := ⟨_, rfl⟩
      rw [hb] at hlt1 hlt ⊢
      have hb3 : (b : Int) ≤ 1048577 := by omega
      obtain ⟨ys, hown⟩ := h
      go_wp2_with fail
      refine (insSort g n c lo a b ys _ hown hn hlt (by omega)).mono ?_
      rintro _ w1 ⟨⟨v, rfl⟩, hown1, hg1⟩
      go_wp2_with fail
      go_roundw
      case rel => exact ⟨b, hlt, rfl, by (congr 1), ⟨_, hown1⟩, gro_tr hg hg1⟩
      case measure => simp [intOf]; omega
    · have hlt1 : ¬ ((a + 20 : Nat) : Int) ≤ (n : Int) := by omega
      obtain ⟨b, hb⟩ : ∃ b, a + 20 = b := ⟨_, rfl⟩
      rw [hb] at hlt1 hlt ⊢
      obtain ⟨ys, hown⟩ := h
      go_wp2_with fail
      refine (insSort g n c lo a n ys _ hown hn (Nat.le_refl _) (by omega)).mono ?_
      rintro _ w1 ⟨⟨v, rfl⟩, hown1, hg1⟩
      replace hg := gro_tr hg hg1
      have h : DO lo g n c w1 := ⟨_, hown1⟩
      clear hown hown1 hg1 hlt1 hlt hb ha ha3
      go_wp2_with fail
      go_loopw [6] (fun u wr => ∃ s : Nat, u = .int .i64 s ∧ 20 ≤ s ∧ s ≤ 2097154 ∧ DO lo g n c wr ∧ w.grownBy wr (some g)) (fun u _ => n - (intOf u).toNat)
      case atStart => exact ⟨20, rfl, by omega, by omega, h, hg⟩
      case round =>
        clear h hg
        obtain ⟨s, rfl, hs, hsm, h, hg⟩ := hrel
        have hs3 : (s : Int) ≤ 2097154 := by omega
        by_cases hlt : s < n
        · have hlt1 : (s : Int) < (n : Int) := by omega
          go_wp2_with fail
          go_loopw [7, 8] (fun u v wr => ∃ a : Nat, a ≤ n ∧ u = .int .i64 a ∧ v = .int .i64 ((a + 2 * s : Nat) : Int) ∧ DO lo g n c wr ∧ w.grownBy wr (some g)) (fun u _ _ => n - (intOf u).toNat)
          case atStart => exact ⟨0, by omega, rfl, by (congr 1; omega), h, hg⟩
          case round =>
            clear h hg
            obtain ⟨a, ha, rfl, rfl, h, hg⟩ := hrel
            have ha3 : (a : Int) ≤ 1048577 := by omega
            by_cases hlt2 : a + 2 * s ≤ n
            · obtain ⟨b, hb⟩ : ∃ b, a + 2 * s = b := ⟨_, rfl⟩
              rw [hb] at hlt2 ⊢
              have hlt3 : (b : Int) ≤ (n : Int) := by omega
              have hb3 : (b : Int) ≤ 1048577 := by omega
              go_wp2_with fail
              rw [show (a : Int) + (s : Int) = ((a + s : Nat) : Int) by omega]
              refine (symMerge g n c lo hn _ a (a + s) b _ (Nat.le_refl _) h (by omega) (by omega) hlt2).mono ?_
              rintro _ w2 ⟨⟨v, rfl⟩, h2, hg2⟩
              go_wp2_with fail
              go_roundw
              case rel => exact ⟨b, hlt2, rfl, by (first | (congr 1; done) | (congr 1; omega)), h2, gro_tr hg hg2⟩
              case measure => simp [intOf]; omega
            · obtain ⟨b, hb⟩ : ∃ b, a + 2 * s = b := ⟨_, rfl⟩
              rw [hb] at hlt2 ⊢
              have hlt3 : ¬ (b : Int) ≤ (n : Int) := by omega
              by_cases hlt4 : a + s < n
              · have hlt5 : (a : Int) + (s : Int) < (n : Int) := by omega
                go_wp2_with fail
                rw [show (a : Int) + (s : Int) = ((a + s : Nat) : Int) by omega]
                refine (symMerge g n c lo hn _ a (a + s) n _ (Nat.le_refl _) h (by omega) hlt4 (Nat.le_refl _)).mono ?_
                rintro _ w2 ⟨⟨v, rfl⟩, h2, hg2⟩
                go_wp2_with fail
                go_roundw
                case rel => exact ⟨s * 2, by (congr 1), by omega, by omega, h2, gro_tr hg hg2⟩
                case measure => simp [intOf]; omega
              · have hlt5 : ¬ (a : Int) + (s : Int) < (n : Int) := by omega
                go_wp2_with fail
                go_roundw
                case rel => exact ⟨s * 2, by (congr 1), by omega, by omega, h, hg⟩
                case measure => simp [intOf]; omega
        · have hlt1 : ¬ (s : Int) < (n : Int) := by omega
          go_wp2_with fail
          exact body_none (by simp [results, Try.results86, go_sem]; rfl) rfl ⟨⟨_, rfl⟩, h, hg⟩
theorem sortAny (g n c lo : Nat) (w : World) (h : DO lo g n c w) (hn : n ≤ 1048577) :
    Calls Try.prog 78 #[.slice (some ⟨g, 0, none⟩) n c, .func (.func 79) #[] #[]] w fun e w' => (∃ v, e = .returned v) ∧ DO lo g n c w' ∧ w.grownBy w' (some g) := by
  go_enter Try.func78, Try.ntmps78
  go_wp2_with (go_at_call 86; refine (stableAny g n c lo _ h hn).mono ?_; rintro _ w1 ⟨⟨v, rfl⟩, hown, hg⟩)
  exact body_none (by simp [results, Try.results78, go_sem]; rfl) rfl ⟨⟨_, rfl⟩, hown, hg⟩
set_option maxHeartbeats 2000000 in
theorem withDutyAny (A : Option Addr) (n c : Nat) (xs : List Duty) (d : Duty) (w : World) (hS : Sl w 3 A n c (xs.flatMap Duty.row)) (hn : n ≤ 1048576) :
    Calls Try.prog 47 #[.slice A n c, .agg #[.int .i64 d.crew, .int .i64 d.fr, .int .i64 d.til]] w fun e w' => ∃ (A' : Option Addr) (c' : Nat) (ys : List Duty), e = .returned (.slice A' (n + 1) c') ∧ Own w.heap.size w'.heap.size w' 30 3 A' (n + 1) c' (ys.flatMap Duty.row) ∧ Below w.heap.size w w' := by
  have hB2 := bel_refl (w.alloc (.cells #[.int .i64 d.crew, .int .i64 d.fr, .int .i64 d.til] 30))
  go_enter Try.func47, Try.ntmps47
  go_wp2_with fail
  (refine wp_region_planB (.free 0 (.free 2 (.two 1 (.one 3 (.one 4 (.free 5 (.stop)))) 3 (.one 1 (.one 4 (.free 5 (.stop))))))) (by kernel_rfl) (by kernel_rfl) ?_; have hD := bel_cells hB2; simp only [Plan.ops, List.getElem?_cons_zero, List.getElem?_cons_succ, Option.getD_some])
  (iterate 2 (refine p_free rfl (by rintro w' ⟨d, rfl⟩; obtain ⟨hDc, hDf⟩ := hD d; (go_simp; first | done | rfl)) ?_; (try simp only [Act.put, List.setIfInBounds_toArray, List.set_cons_zero, List.set_cons_succ])))
  refine p_two ?_ ?_
  · refine p_call rfl (by (go_simp; first | done | exact ⟨rfl, rfl⟩ | rfl)) ?_
    refine (copyDuty _ _ _ xs _ ((hS.alloc _).drew) (by omega)).mono ?_
    rintro _ w1 ⟨A1, c1, rfl, hO1, hb1⟩
    have hb2 := bel_trans (bel_drew hB2) hb1
    refine ⟨_, rfl, ⟨⟨_, hb2⟩, rfl⟩, ?_⟩
    (try simp only [Act.put, List.setIfInBounds_toArray, List.set_cons_zero, List.set_cons_succ])
    refine p_val rfl (by (go_simp; first | done | rfl | exact ⟨rfl, rfl⟩)) ⟨⟨_, ?_⟩, rfl⟩ ?_
    · exact bel_alloc hb2
    (try simp only [Act.put, List.setIfInBounds_toArray, List.set_cons_zero, List.set_cons_succ])
    have hz := hb2.size
    refine p_app rfl (.tmp 7) (.tmp 9) 26 rfl (w.alloc (.cells #[.int .i64 d.crew, .int .i64 d.fr, .int .i64 d.til] 30)).heap.size 30 (.agg #[.int .i64 0, .int .i64 0, .int .i64 0]) 3 24 Try.underlying26 info_Duty rfl (by omega) A1 n c1 _ rfl (own_bel hO1.own (bel_alloc (bel_refl _))) (some ⟨w1.heap.size, 0, none⟩) 1 1 d.row rfl (sl_lit (L := d.row) rfl rfl (by simp [maxLen])) (by intro u hu; exact duty_one [d] u (by simpa using hu)) (by omega) (by omega) (bel_alloc hb2).size ?_
    intro A2 c2 w3 hown hb3 hg3
    have hb4 := Below.trans (bel_alloc hb2) hb3
    refine ⟨⟨⟨_, hb4⟩, rfl⟩, ?_⟩
    obtain ⟨g, rfl, hgl, hgh⟩ := own_form hown (by omega)
    (try simp only [Act.put, List.setIfInBounds_toArray, List.set_cons_zero, List.set_cons_succ])
    (iterate 1 (refine p_free rfl (by rintro w' ⟨d, rfl⟩; obtain ⟨hDc, hDf⟩ := hD d; (go_simp; first | done | rfl)) ?_; (try simp only [Act.put, List.setIfInBounds_toArray, List.set_cons_zero, List.set_cons_succ])))
    refine p_stop ?_
    (try simp only [Act.put, List.setIfInBounds_toArray, List.set_cons_zero, List.set_cons_succ])
    (rw [show xs.flatMap Duty.row ++ d.row = (xs ++ [d]).flatMap Duty.row from (by simp)] at hown; have hwW : w.heap.size ≤ (w.alloc (.cells #[.int .i64 d.crew, .int .i64 d.fr, .int .i64 d.til] 30)).heap.size := (by simp); have hbw : Below w.heap.size w w3 := bel_trans (bel_alloc (bel_refl w)) hb4; go_wp2_with (go_at_call 78; refine (sortAny g (n + 1) c2 _ _ ⟨_, hown⟩ (by omega)).mono ?_; rintro _ w4 ⟨⟨v, rfl⟩, ⟨ys, hown4⟩, hg4⟩); go_ret; exact ⟨_, c2, ys, rfl, Own.mk_ (own_low hown4 hwW), hbw.grown hg4 hbw.size (fun q hq => by injection hq with hq; omega)⟩)
  · refine p_val rfl (by (go_simp; first | done | rfl | exact ⟨rfl, rfl⟩)) ⟨⟨_, ?_⟩, rfl⟩ ?_
    · exact bel_alloc (bel_drew hB2)
    (try simp only [Act.put, List.setIfInBounds_toArray, List.set_cons_zero, List.set_cons_succ])
    refine p_call rfl (by (go_simp; first | done | exact ⟨rfl, rfl⟩ | rfl)) ?_
    refine (copyDuty _ _ _ xs _ (((hS.alloc _).alloc _).drew) (by omega)).mono ?_
    rintro _ w1 ⟨A1, c1, rfl, hO1, hb1⟩
    have hb2 := bel_trans (bel_drew (bel_alloc hB2)) hb1
    refine ⟨_, rfl, ⟨⟨_, hb2⟩, rfl⟩, ?_⟩
    (try simp only [Act.put, List.setIfInBounds_toArray, List.set_cons_zero, List.set_cons_succ])
    have hz := hb2.size
    have hsl := Sl.bel (Sl.drew (sl_lit (w := w.alloc (.cells #[.int .i64 d.crew, .int .i64 d.fr, .int .i64 d.til] 30)) (L := d.row) (t := 30) (g := w.heap.size + 1) (k := 3) (n := 1) (by simp) rfl (by simp [maxLen]))) hb1
    refine p_app rfl (.tmp 7) (.tmp 9) 26 rfl (w.alloc (.cells #[.int .i64 d.crew, .int .i64 d.fr, .int .i64 d.til] 30)).heap.size 30 (.agg #[.int .i64 0, .int .i64 0, .int .i64 0]) 3 24 Try.underlying26 info_Duty rfl (by omega) A1 n c1 _ rfl (own_low hO1.own (by simp)) (some ⟨w.heap.size + 1, 0, none⟩) 1 1 d.row rfl hsl (by intro u hu; exact duty_one [d] u (by simpa using hu)) (by omega) (by omega) hb2.size ?_
    intro A2 c2 w3 hown hb3 hg3
    have hb4 := Below.trans hb2 hb3
    refine ⟨⟨⟨_, hb4⟩, rfl⟩, ?_⟩
    obtain ⟨g, rfl, hgl, hgh⟩ := own_form hown (by omega)
    (try simp only [Act.put, List.setIfInBounds_toArray, List.set_cons_zero, List.set_cons_succ])
    (iterate 1 (refine p_free rfl (by rintro w' ⟨d, rfl⟩; obtain ⟨hDc, hDf⟩ := hD d; (go_simp; first | done | rfl)) ?_; (try simp only [Act.put, List.setIfInBounds_toArray, List.set_cons_zero, List.set_cons_succ])))
    refine p_stop ?_
    (try simp only [Act.put, List.setIfInBounds_toArray, List.set_cons_zero, List.set_cons_succ])
    (rw [show xs.flatMap Duty.row ++ d.row = (xs ++ [d]).flatMap Duty.row from (by simp)] at hown; have hwW : w.heap.size ≤ (w.alloc (.cells #[.int .i64 d.crew, .int .i64 d.fr, .int .i64 d.til] 30)).heap.size := (by simp); have hbw : Below w.heap.size w w3 := bel_trans (bel_alloc (bel_refl w)) hb4; go_wp2_with (go_at_call 78; refine (sortAny g (n + 1) c2 _ _ ⟨_, hown⟩ (by omega)).mono ?_; rintro _ w4 ⟨⟨v, rfl⟩, ⟨ys, hown4⟩, hg4⟩); go_ret; exact ⟨_, c2, ys, rfl, Own.mk_ (own_low hown4 hwW), hbw.grown hg4 hbw.size (fun q hq => by injection hq with hq; omega)⟩)
def addR (xs : List Duty) (d : Duty) : List Duty × Bool := if rosterB xs && rosterB (insS d xs) then (insS d xs, true) else ([], false)
theorem addR_len (xs : List Duty) (d : Duty) : (addR xs d).1.length ≤ 1048576 := by
  unfold addR
  split
  · rename_i h
    simp only [Bool.and_eq_true] at h
    have := rosterB_len h.2
    show (insS d xs).length ≤ _
    omega
  · simp
set_option maxHeartbeats 2000000 in
theorem addDutyI (A : Option Addr) (n c : Nat) (xs : List Duty) (d : Duty) (w : World) (hS : Sl w 3 A n c (xs.flatMap Duty.row)) (hn : n ≤ 1048576) :
    Calls Try.prog 10 #[.slice A n c, .agg #[.int .i64 d.crew, .int .i64 d.fr, .int .i64 d.til]] w fun e w' => ∃ A' n' c', e = .returned (.tuple #[.slice A' n' c', .bool (addR xs d).2]) ∧ Own w.heap.size w'.heap.size w' 30 3 A' n' c' ((addR xs d).1.flatMap Duty.row) ∧ Below w.heap.size w w' := by
  have hlx := hS.xs_len Duty.row_len (by omega)
  have hB2 := bel_refl (w.alloc (.cells #[.int .i64 d.crew, .int .i64 d.fr, .int .i64 d.til] 30))
  have hSz := hS.bel (bel_alloc (o := .cells #[.int .i64 d.crew, .int .i64 d.fr, .int .i64 d.til] 30) (bel_refl w))
  rcases hg : rosterB xs with _ | _
  · have hR : Hid (addR xs d = ([], false)) := by show _ = _; rw [addR, hg]; rfl
    go_enter Try.func10, Try.ntmps10
    go_wp2_with (first
      | (go_at_call 47; refine (withDutyAny _ _ _ xs d _ hSz (by omega)).mono ?_; rintro _ w1 ⟨A1, c1, ys, rfl, hO1, hB1⟩; replace hB2 := bel_trans hB2 hB1)
      | (go_at_call 26; refine (isRosterI _ _ _ xs _ (hSz.bel hB2) (by omega)).mono ?_; rw [hg]; rintro _ w2 ⟨rfl, hb2⟩; replace hB2 := bel_trans hB2 hb2))
    go_ret2
    exact ⟨none, 0, 0, by rw [hR.out]; rfl, by rw [hR.out]; exact Own.mk_ (World.ownsRow_nil _ _ _ _), bel_trans (bel_alloc (bel_refl w)) hB2⟩
  · have hn12 : n ≤ 12 := by have := rosterB_len hg; omega
    have hir := ins_roster (d := d) hg
    rcases hg2 : rosterB (insS d xs) with _ | _
    · have hR : Hid (addR xs d = ([], false)) := by show _ = _; rw [addR, hg, hg2]; rfl
      rw [hg2] at hir
      replace hir := hid hir
      go_enter Try.func10, Try.ntmps10
      go_wp2_with fail
      refine (withDuty20 _ _ _ xs d _ hSz hn12).mono ?_
      rintro _ w1 ⟨A1, c1, rfl, hO1, hB1⟩
      replace hB2 := bel_trans hB2 hB1
      go_wp2_with fail
      refine (isRosterI _ _ _ xs _ (hSz.bel hB2) (by omega)).mono ?_
      rw [hg]
      rintro _ w2 ⟨rfl, hb2⟩
      replace hB2 := bel_trans hB2 hb2
      go_wp2_with fail
      refine (isRosterI _ _ _ (insI xs d) _ (hO1.bel hb2).sl (by omega)).mono ?_
      rw [hir.out]
      rintro _ w3 ⟨rfl, hb3⟩
      go_wp2_with fail
      go_ret2
      exact ⟨none, 0, 0, by rw [hR.out]; rfl, by rw [hR.out]; exact Own.mk_ (World.ownsRow_nil _ _ _ _), bel_trans (bel_alloc (bel_refl w)) (bel_trans hB2 hb3)⟩
    · have hR : Hid (addR xs d = (insS d xs, true)) := by show _ = _; rw [addR, hg, hg2]; rfl
      have hsame := hid (insS_same hg hg2)
      rw [hg2] at hir
      replace hir := hid hir
      go_enter Try.func10, Try.ntmps10
      go_wp2_with fail
      refine (withDuty20 _ _ _ xs d _ hSz hn12).mono ?_
      rintro _ w1 ⟨A1, c1, rfl, hO1, hB1⟩
      replace hB2 := bel_trans hB2 hB1
      go_wp2_with fail
      refine (isRosterI _ _ _ xs _ (hSz.bel hB2) (by omega)).mono ?_
      rw [hg]
      rintro _ w2 ⟨rfl, hb2⟩
      go_wp2_with fail
      refine (isRosterI _ _ _ (insI xs d) _ (hO1.bel hb2).sl (by omega)).mono ?_
      rw [hir.out]
      rintro _ w3 ⟨rfl, hb3⟩
      go_wp2_with fail
      go_ret2
      refine ⟨A1, n + 1, c1, by rw [hR.out]; rfl, ?_, bel_trans (bel_alloc (bel_refl w)) (bel_trans (bel_trans hB2 hb2) hb3)⟩
      rw [hR.out, ← hsame.out]
      have hz2 := hb2.size
      have hz3 := hb3.size
      exact (((hO1.bel hb2).bel hb3).low (by simp)).high (by omega)
set_option maxHeartbeats 2000000 in
theorem addDutyS (A : Option Addr) (n c : Nat) (xs : List Duty) (d : Duty) (w : World) (hS : Sl w 3 A n c (xs.flatMap Duty.row)) (hn : n ≤ 1048576) :
    Calls Try.prog 7 #[.slice A n c, .agg #[.int .i64 d.crew, .int .i64 d.fr, .int .i64 d.til]] w fun e w' => ∃ A' n' c', e = .returned (.tuple #[.slice A' n' c', .bool (addR xs d).2]) ∧ Own w.heap.size w'.heap.size w' 30 3 A' n' c' ((addR xs d).1.flatMap Duty.row) ∧ Below w.heap.size w w' := by
  have hlx := hS.xs_len Duty.row_len (by omega)
  have hB2 := bel_refl (w.alloc (.cells #[.int .i64 d.crew, .int .i64 d.fr, .int .i64 d.til] 30))
  have hSz := hS.bel (bel_alloc (o := .cells #[.int .i64 d.crew, .int .i64 d.fr, .int .i64 d.til] 30) (bel_refl w))
  rcases hg : rosterB xs with _ | _
  · have hR : Hid (addR xs d = ([], false)) := by show _ = _; rw [addR, hg]; rfl
    go_enter Try.func7, Try.ntmps7
    go_wp2_with (go_at_call 45; refine (l11Good _ _ _ xs _ (hSz.bel hB2) (by omega)).mono ?_; rw [hg]; rintro _ w2 ⟨rfl, hb2⟩; replace hB2 := bel_trans hB2 hb2)
    go_ret2
    exact ⟨some ⟨w2.heap.size, 0, none⟩, 0, 0, by rw [hR.out]; rfl, by rw [hR.out]; exact Own.mk_ (own_low (own_empty (Nat.le_refl _)) (by have := hB2.size; simp at this; omega)), bel_trans (bel_alloc (bel_refl w)) (bel_alloc hB2)⟩
  · have hn12 : n ≤ 12 := by have := rosterB_len hg; omega
    rcases hg2 : rosterB (insS d xs) with _ | _
    · have hR : Hid (addR xs d = ([], false)) := by show _ = _; rw [addR, hg, hg2]; rfl
      go_enter Try.func7, Try.ntmps7
      go_wp2_with fail
      refine (l11Good _ _ _ xs _ (hSz.bel hB2) (by omega)).mono ?_
      rw [hg]
      rintro _ w1 ⟨rfl, hb1⟩
      replace hB2 := bel_trans hB2 hb1
      obtain ⟨hC1, hF1⟩ := bcell hB2
      go_wp2_with fail
      refine (addS _ _ _ xs d _ (hSz.bel hB2) hn12).mono ?_
      rintro _ w2 ⟨A1, c1, rfl, hO1, hB1⟩
      replace hB2 := bel_trans hB2 hB1
      go_wp2_with fail
      refine (l11Good _ _ _ (insS d xs) _ hO1.sl (by omega)).mono ?_
      rw [hg2]
      rintro _ w3 ⟨rfl, hb3⟩
      replace hB2 := bel_trans hB2 hb3
      go_wp2_with fail
      go_ret2
      exact ⟨some ⟨w3.heap.size, 0, none⟩, 0, 0, by rw [hR.out]; rfl, by rw [hR.out]; exact Own.mk_ (own_low (own_empty (Nat.le_refl _)) (by have := hB2.size; simp at this; omega)), bel_trans (bel_alloc (bel_refl w)) (bel_alloc hB2)⟩
    · have hR : Hid (addR xs d = (insS d xs, true)) := by show _ = _; rw [addR, hg, hg2]; rfl
      go_enter Try.func7, Try.ntmps7
      go_wp2_with fail
      refine (l11Good _ _ _ xs _ (hSz.bel hB2) (by omega)).mono ?_
      rw [hg]
      rintro _ w1 ⟨rfl, hb1⟩
      replace hB2 := bel_trans hB2 hb1
      obtain ⟨hC1, hF1⟩ := bcell hB2
      go_wp2_with fail
      refine (addS _ _ _ xs d _ (hSz.bel hB2) hn12).mono ?_
      rintro _ w2 ⟨A1, c1, rfl, hO1, hB1⟩
      replace hB2 := bel_trans hB2 hB1
      go_wp2_with fail
      refine (l11Good _ _ _ (insS d xs) _ hO1.sl (by omega)).mono ?_
      rw [hg2]
      rintro _ w3 ⟨rfl, hb3⟩
      replace hB2 := bel_trans hB2 hb3
      obtain ⟨hC1, hF1⟩ := bcell hB2
      go_wp2_with fail
      refine (addS _ _ _ xs d _ (hSz.bel hB2) hn12).mono ?_
      rintro _ w4 ⟨A2, c2, rfl, hO2, hB4⟩
      go_wp2_with fail
      go_ret2
      refine ⟨A2, n + 1, c2, by rw [hR.out]; rfl, ?_, bel_trans (bel_alloc (bel_refl w)) (bel_trans hB2 hB4)⟩
      rw [hR.out]
      exact hO2.low (by have := hB2.size; simp at this; omega)
end Go.Proofs.Ytlffolfooiijhaa
