/-
  A duty more: the program's copy and stable sort of few duties, the reference's insertion, walked.
-/
import Derived.Test.YtlffolfooiijhaaRostIns
namespace Go.Proofs.Ytlffolfooiijhaa
open Go.RowKit

theorem duty_one (xs : List Duty) : ∀ u ∈ xs.flatMap Duty.row, u.oneCell' = true := fun u hu => by
  obtain ⟨x, _, hx⟩ := List.mem_flatMap.1 hu
  simp only [Duty.row, List.mem_cons, List.not_mem_nil, or_false] at hx
  rcases hx with rfl | rfl | rfl <;> rfl
theorem copyDuty (A : Option Addr) (n c : Nat) (xs : List Duty) (w : World) (hS : Sl w 3 A n c (xs.flatMap Duty.row)) (hn : n ≤ 1048576) :
    Calls Try.prog 77 #[.slice A n c] w fun e w' => ∃ A' c', e = .returned (.slice A' n c') ∧ Own w.heap.size w'.heap.size w' 30 3 A' n c' (xs.flatMap Duty.row) ∧ Below w.heap.size w w' := by
  go_enter Try.func77, Try.ntmps77
  go_wp2_with (at_builtin; refine wpList_app rfl (.tmp 3) (.tmp 4) 26 rfl w.heap.size 30 (.agg #[.int .i64 0, .int .i64 0, .int .i64 0]) 3 24 Try.underlying26 info_Duty rfl (by omega) _ 0 0 [] rfl (own_empty (Nat.le_refl _)) A n c (xs.flatMap Duty.row) rfl (hS.alloc _) (duty_one xs) (by omega) (by omega) (by simp) ?_; intro A' c' w3 hown2 hb3 hg3)
  go_ret
  simp only [Nat.zero_add, List.nil_append] at hown2 ⊢
  exact ⟨A', c', rfl, Own.mk_ hown2, Below.trans (bel_alloc (bel_refl _)) hb3⟩
theorem stable20 (g n c lo : Nat) (xs : List Duty) (w : World) (h : w.ownsRow lo 30 3 (.slice (some ⟨g, 0, none⟩) n c) n (xs.flatMap Duty.row)) (hn : n ≤ 13) :
    Calls Try.prog 86 #[.slice (some ⟨g, 0, none⟩) n c, .int .i64 n, .func (.func 79) #[] #[]] w fun e w' => (∃ v, e = .returned v) ∧ w'.ownsRow lo 30 3 (.slice (some ⟨g, 0, none⟩) n c) n ((insU 0 xs n).flatMap Duty.row) ∧ w.grownBy w' (some g) := by
  have hn2 : (n : Int) ≤ 13 := by omega
  go_enter Try.func86, Try.ntmps86
  go_wp2_with fail
  go_loopw [7, 8] (fun u v wr => u = .int .i64 0 ∧ v = .int .i64 20 ∧ w = wr) (fun _ _ _ => 0)
  case atStart => exact ⟨rfl, rfl, rfl⟩
  case round =>
    obtain ⟨rfl, rfl, rfl⟩ := hrel
    have hlt : ¬ (20 : Int) ≤ (n : Int) := by omega
    go_wp2_with (go_at_call 88; refine (insSort g n c lo 0 n xs _ h (by omega) (Nat.le_refl _) (by omega)).mono ?_; rintro _ w1 ⟨⟨v, rfl⟩, hown, hg⟩)
    go_loopw [6] (fun v wr => v = .int .i64 20 ∧ w1 = wr) (fun _ _ => 0)
    case atStart => exact ⟨rfl, rfl⟩
    case round =>
      obtain ⟨rfl, rfl⟩ := hrel
      have hlt2 : ¬ (20 : Int) < (n : Int) := by omega
      go_wp2
      exact body_none (by simp [results, Try.results86, go_sem]; rfl) rfl ⟨⟨_, rfl⟩, hown, hg⟩
theorem sort20 (g n c lo : Nat) (xs : List Duty) (w : World) (h : w.ownsRow lo 30 3 (.slice (some ⟨g, 0, none⟩) n c) n (xs.flatMap Duty.row)) (hn : n ≤ 13) :
    Calls Try.prog 78 #[.slice (some ⟨g, 0, none⟩) n c, .func (.func 79) #[] #[]] w fun e w' => (∃ v, e = .returned v) ∧ w'.ownsRow lo 30 3 (.slice (some ⟨g, 0, none⟩) n c) n ((insU 0 xs n).flatMap Duty.row) ∧ w.grownBy w' (some g) := by
  go_enter Try.func78, Try.ntmps78
  go_wp2_with (go_at_call 86; refine (stable20 g n c lo xs _ h hn).mono ?_; rintro _ w1 ⟨⟨v, rfl⟩, hown, hg⟩)
  exact body_none (by simp [results, Try.results78, go_sem]; rfl) rfl ⟨⟨_, rfl⟩, hown, hg⟩
set_option maxHeartbeats 2000000 in
theorem withDuty20 (A : Option Addr) (n c : Nat) (xs : List Duty) (d : Duty) (w : World) (hS : Sl w 3 A n c (xs.flatMap Duty.row)) (hn : n ≤ 12) :
    Calls Try.prog 47 #[.slice A n c, .agg #[.int .i64 d.crew, .int .i64 d.fr, .int .i64 d.til]] w fun e w' => ∃ A' c', e = .returned (.slice A' (n + 1) c') ∧ Own w.heap.size w'.heap.size w' 30 3 A' (n + 1) c' ((insI xs d).flatMap Duty.row) ∧ Below w.heap.size w w' := by
  have hlx : Hid (xs.length = n) := hS.xs_len Duty.row_len (by omega)
  have hB2 := bel_refl (w.alloc (.cells #[.int .i64 d.crew, .int .i64 d.fr, .int .i64 d.til] 30))
  go_enter Try.func47, Try.ntmps47
  go_wp2_with fail
  (refine wp_region_planB (.free 0 (.free 2 (.two 1 (.one 3 (.one 4 (.free 5 (.stop)))) 3 (.one 1 (.one 4 (.free 5 (.stop))))))) (by kernel_rfl) (by kernel_rfl) ?_; have hD := bel_cells hB2; simp only [Plan.ops, List.getElem?_cons_zero, List.getElem?_cons_succ, Option.getD_some])
  (iterate 2 (refine p_free rfl (by rintro w' ⟨d, rfl⟩; obtain ⟨hDc, hDf⟩ := hD d; (go_simp; first | done | rfl)) ?_; (try simp only [Act.put, List.setIfInBounds_toArray, List.set_cons_zero, List.set_cons_succ])))
  refine p_two ?_ ?_
  · refine p_call rfl (by (go_simp; first | done | exact ⟨rfl, rfl⟩ | rfl)) ?_
    refine (copyDuty _ _ _ xs _ ((hS.alloc _).drew) (by omega)).mono ?_
    rintro _ w1 ⟨A1, c1, rfl, hO1, hb1⟩
    have hb2 := bel_trans (bel_drew hB2) hb1
    refine ⟨_, rfl, ⟨⟨_, hb2⟩, rfl⟩, ?_⟩
    (try simp only [Act.put, List.setIfInBounds_toArray, List.set_cons_zero, List.set_cons_succ])
    refine p_val rfl (by (go_simp; first | done | rfl | exact ⟨rfl, rfl⟩)) ⟨⟨_, ?_⟩, rfl⟩ ?_
    · exact bel_alloc hb2
    (try simp only [Act.put, List.setIfInBounds_toArray, List.set_cons_zero, List.set_cons_succ])
    have hz := hb2.size
    refine p_app rfl (.tmp 7) (.tmp 9) 26 rfl (w.alloc (.cells #[.int .i64 d.crew, .int .i64 d.fr, .int .i64 d.til] 30)).heap.size 30 (.agg #[.int .i64 0, .int .i64 0, .int .i64 0]) 3 24 Try.underlying26 info_Duty rfl (by omega) A1 n c1 _ rfl (own_bel hO1.own (bel_alloc (bel_refl _))) (some ⟨w1.heap.size, 0, none⟩) 1 1 d.row rfl (sl_lit (L := d.row) rfl rfl (by simp [maxLen])) (by intro u hu; exact duty_one [d] u (by simpa using hu)) (by omega) (by omega) (bel_alloc hb2).size ?_
    intro A2 c2 w3 hown hb3 hg3
    have hb4 := Below.trans (bel_alloc hb2) hb3
    refine ⟨⟨⟨_, hb4⟩, rfl⟩, ?_⟩
    obtain ⟨g, rfl, hgl, hgh⟩ := own_form hown (by omega)
    (try simp only [Act.put, List.setIfInBounds_toArray, List.set_cons_zero, List.set_cons_succ])
    (iterate 1 (refine p_free rfl (by rintro w' ⟨d, rfl⟩; obtain ⟨hDc, hDf⟩ := hD d; (go_simp; first | done | rfl)) ?_; (try simp only [Act.put, List.setIfInBounds_toArray, List.set_cons_zero, List.set_cons_succ])))
    refine p_stop ?_
    (try simp only [Act.put, List.setIfInBounds_toArray, List.set_cons_zero, List.set_cons_succ])
    (rw [show xs.flatMap Duty.row ++ d.row = (xs ++ [d]).flatMap Duty.row from (by simp)] at hown; have hwW : w.heap.size ≤ (w.alloc (.cells #[.int .i64 d.crew, .int .i64 d.fr, .int .i64 d.til] 30)).heap.size := (by simp); have hbw : Below w.heap.size w w3 := bel_trans (bel_alloc (bel_refl w)) hb4; go_wp2_with (go_at_call 78; refine (sort20 g (n + 1) c2 _ (xs ++ [d]) _ hown (by omega)).mono ?_; rintro _ w4 ⟨⟨v, rfl⟩, hown4, hg4⟩); go_ret; refine ⟨_, c2, rfl, ?_, hbw.grown hg4 hbw.size (fun q hq => by injection hq with hq; omega)⟩; rw [insI, hlx.out]; exact Own.mk_ (own_low hown4 hwW))
  · refine p_val rfl (by (go_simp; first | done | rfl | exact ⟨rfl, rfl⟩)) ⟨⟨_, ?_⟩, rfl⟩ ?_
    · exact bel_alloc (bel_drew hB2)
    (try simp only [Act.put, List.setIfInBounds_toArray, List.set_cons_zero, List.set_cons_succ])
    refine p_call rfl (by (go_simp; first | done | exact ⟨rfl, rfl⟩ | rfl)) ?_
    refine (copyDuty _ _ _ xs _ (((hS.alloc _).alloc _).drew) (by omega)).mono ?_
    rintro _ w1 ⟨A1, c1, rfl, hO1, hb1⟩
    have hb2 := bel_trans (bel_drew (bel_alloc hB2)) hb1
    refine ⟨_, rfl, ⟨⟨_, hb2⟩, rfl⟩, ?_⟩
    (try simp only [Act.put, List.setIfInBounds_toArray, List.set_cons_zero, List.set_cons_succ])
    have hz := hb2.size
    have hsl := Sl.bel (Sl.drew (sl_lit (w := w.alloc (.cells #[.int .i64 d.crew, .int .i64 d.fr, .int .i64 d.til] 30)) (L := d.row) (t := 30) (g := w.heap.size + 1) (k := 3) (n := 1) (by simp) rfl (by simp [maxLen]))) hb1
    refine p_app rfl (.tmp 7) (.tmp 9) 26 rfl (w.alloc (.cells #[.int .i64 d.crew, .int .i64 d.fr, .int .i64 d.til] 30)).heap.size 30 (.agg #[.int .i64 0, .int .i64 0, .int .i64 0]) 3 24 Try.underlying26 info_Duty rfl (by omega) A1 n c1 _ rfl (own_low hO1.own (by simp)) (some ⟨w.heap.size + 1, 0, none⟩) 1 1 d.row rfl hsl (by intro u hu; exact duty_one [d] u (by simpa using hu)) (by omega) (by omega) hb2.size ?_
    intro A2 c2 w3 hown hb3 hg3
    have hb4 := Below.trans hb2 hb3
    refine ⟨⟨⟨_, hb4⟩, rfl⟩, ?_⟩
    obtain ⟨g, rfl, hgl, hgh⟩ := own_form hown (by omega)
    (try simp only [Act.put, List.setIfInBounds_toArray, List.set_cons_zero, List.set_cons_succ])
    (iterate 1 (refine p_free rfl (by rintro w' ⟨d, rfl⟩; obtain ⟨hDc, hDf⟩ := hD d; (go_simp; first | done | rfl)) ?_; (try simp only [Act.put, List.setIfInBounds_toArray, List.set_cons_zero, List.set_cons_succ])))
    refine p_stop ?_
    (try simp only [Act.put, List.setIfInBounds_toArray, List.set_cons_zero, List.set_cons_succ])
    (rw [show xs.flatMap Duty.row ++ d.row = (xs ++ [d]).flatMap Duty.row from (by simp)] at hown; have hwW : w.heap.size ≤ (w.alloc (.cells #[.int .i64 d.crew, .int .i64 d.fr, .int .i64 d.til] 30)).heap.size := (by simp); have hbw : Below w.heap.size w w3 := bel_trans (bel_alloc (bel_refl w)) hb4; go_wp2_with (go_at_call 78; refine (sort20 g (n + 1) c2 _ (xs ++ [d]) _ hown (by omega)).mono ?_; rintro _ w4 ⟨⟨v, rfl⟩, hown4, hg4⟩); go_ret; refine ⟨_, c2, rfl, ?_, hbw.grown hg4 hbw.size (fun q hq => by injection hq with hq; omega)⟩; rw [insI, hlx.out]; exact Own.mk_ (own_low hown4 hwW))
end Go.Proofs.Ytlffolfooiijhaa
