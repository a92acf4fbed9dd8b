/-
  What the law on the next free hour draws: walked. (Printed by gennext.py.)
-/
import Derived.Test.YtlffolfooiijhaaRostDraw4
import Derived.Test.YtlffolfooiijhaaPlan3
import Derived.Deep.DeepCutAuto
namespace Go.Proofs.Ytlffolfooiijhaa
open Go.RowKit

theorem pick_quot (r : Int) (h0 : 0 ≤ r) (h1 : r < 24 ∨ r = 0) : ∃ s : Nat, s ≤ 2 ∧ IntKind.i64.wrap (r.tdiv 11) = (s : Int) := by
  refine ⟨(r / 11).toNat, by omega, ?_⟩
  rw [Int.tdiv_eq_ediv_of_nonneg h0, IntWalk.i64_in _ (by omega)]
  omega
/-- What holds ahead of the last statement. -/
structure NextI (w : World) (A : Option Addr) (n c : Nat) (A' : Option Addr) (m c' q : Nat) (xs : List Duty) (r : WorkRule) (wx : World) : Prop where
  hq : wx.heap[q]? = some (.cells #[.int .i64 r.work, .int .i64 r.rest, .int .i64 r.span, .int .i64 r.most] 53 (0, 0))
  hp : wx.heap[w.heap.size]? = some (.cells #[.int .i64 0, .int .i64 0, .int .i64 0, .int .i64 0] 53 (0, 0))
  hO : wx.ownsRow (w.heap.size + 1 + 1) 30 3 (.slice A' m c') m (xs.flatMap Duty.row)
  hc : Cur w (w.heap.size + 1) A n c 600 wx
  hl : ∀ b, (Value.slice A' m c').ownBlock = some b → b < q
theorem own_set_q {w : World} {q o base : Nat} {x v : Value} {e : TypeId} {k m : Nat} {L : List Value} (h : w.ownsRow base e k v m L) (hne : ∀ b, v.ownBlock = some b → b < q) : (w.setCell ⟨q, o, none⟩ x).ownsRow base e k v m L :=
  h.kept (gro_set w q o x) (Or.inr fun e1 => by have := hne q e1; omega)
set_option maxHeartbeats 16000000 in
set_option maxRecDepth 100000 in
theorem drawNext (A : Option Addr) (n c : Nat) (cs : List Int) (w : World) (hC : Code w A n c cs) :
    Calls Try.prog 35 #[.slice A n c] w fun e w' => ∃ (A' : Option Addr) (m c' : Nat) (xs : List Duty) (r : WorkRule) (v f hh : Int), e = .returned (.tuple #[.slice A' m c', .agg #[.int .i64 r.work, .int .i64 r.rest, .int .i64 r.span, .int .i64 r.most], .int .i64 v, .int .i64 f, .int .i64 hh]) ∧ Own w.heap.size w'.heap.size w' 30 3 A' m c' (xs.flatMap Duty.row) ∧ m ≤ 14 ∧ (-1 ≤ v ∧ v ≤ 500) ∧ (-1 ≤ f ∧ f ≤ 501) ∧ (0 ≤ hh ∧ hh ≤ 49) ∧ Below w.heap.size w w' := by
  have hp0 := heap_alloc_new w (.cells #[.int .i64 0, .int .i64 0, .int .i64 0, .int .i64 0] 53)
  have hst : Cur w (w.heap.size + 1) A n c 0 ((w.alloc (.cells #[.int .i64 0, .int .i64 0, .int .i64 0, .int .i64 0] 53)).alloc (.cells #[.slice A n c, .int .i64 0, .int .u64 0] 79)) := by simpa using code_start (A := A) (n := n) (c := c) (B := 0) (bel_alloc (o := .cells #[.int .i64 0, .int .i64 0, .int .i64 0, .int .i64 0] 53) (bel_refl w))
  go_enter Try.func35, Try.ntmps35
  go_wp2_with fail
  refine (rosterC w (w.heap.size + 1) A n c cs 0 _ hC hst (by omega)).mono ?_
  rintro _ w1 ⟨A', m, c', xs, rfl, hO, hm, hc1, hg1⟩
  replace hp0 := blk_gro (blk_bel hp0 (bel_alloc (o := .cells #[.slice A n c, .int .i64 0, .int .u64 0] 79) (bel_refl _))) hg1 (by simp)
  have hlt := hO.up
  have hO1 := own_low hO.own (show w.heap.size + 1 + 1 ≤ _ by simp)
  clear hO hg1 hst
  go_wp2_with fail
  refine (workRuleC w (w.heap.size + 1) A n c cs _ w1 hC hc1 (by omega)).mono ?_
  rintro _ w2 ⟨r, rfl, hc2, hg2⟩
  replace hp0 := blk_bel (blk_gro hp0 hg2 (by simp)) (bel_alloc (o := .cells #[.int .i64 r.work, .int .i64 r.rest, .int .i64 r.span, .int .i64 r.most] 53) (bel_refl _))
  have hq0 := heap_alloc_new w2 (.cells #[.int .i64 r.work, .int .i64 r.rest, .int .i64 r.span, .int .i64 r.most] 53)
  have hO2 := own_bel (own_gro hO1 hg2 (by simp)) (bel_alloc (o := .cells #[.int .i64 r.work, .int .i64 r.rest, .int .i64 r.span, .int .i64 r.most] 53) (bel_refl _))
  have hc3 := hc2.kept (bel_alloc (o := .cells #[.int .i64 r.work, .int .i64 r.rest, .int .i64 r.span, .int .i64 r.most] 53) (bel_refl _))
  have hq1 : w.heap.size + 1 < w2.heap.size := hc2.lt
  have hlq : ∀ b, (Value.slice A' m c').ownBlock = some b → b < w2.heap.size := fun b hb => Nat.lt_of_lt_of_le (hlt b hb) hg2.size
  clear hlt
  clear hO1 hg2 hc1 hc2
  go_upto_region 4 with fail
  obtain ⟨w3, hw3⟩ : ∃ w3, w2.alloc (.cells #[.int .i64 r.work, .int .i64 r.rest, .int .i64 r.span, .int .i64 r.most] 53) = w3 := ⟨_, rfl⟩
  obtain ⟨q, hq⟩ : ∃ q, w2.heap.size = q := ⟨_, rfl⟩
  rw [hw3] at hp0 hq0 hO2 hc3 ⊢
  rw [hq] at hq0 hq1 hlq ⊢
  clear hw3 hq
  have hI : NextI w A n c A' m c' q xs r w3 := ⟨hq0, hp0, hO2, hc3.up (by omega), hlq⟩
  clear hp0 hq0 hO2
  go_cut [23] (fun s wx => (∃ b : Bool, s = .bool b) ∧ Cur w (w.heap.size + 1) A n c 300 wx ∧ NextI w A n c A' m c' q xs r wx)
  case first => as_aux_lemma =>
    obtain ⟨⟨d0, d1, d2, d3⟩, dz⟩ := cells4 hI.hq
    by_cases h8 : r.work < 8
    · go_wp2_with fail
      refine (oneC w (w.heap.size + 1) A n c cs _ 2 w3 hC hc3 (by omega) (by omega)).mono ?_
      rintro _ w4 ⟨b, rfl, hc4, hg4⟩
      go_wp2_with fail
      go_meet
      exact ⟨⟨b, rfl⟩, hc4.up (by omega), blk_gro hI.hq hg4 (by intro e; injection e with e; omega), blk_gro hI.hp hg4 (by simp), own_gro hI.hO hg4 (by simp), hc4.up (by omega), hI.hl⟩
    · have h8' : decide (r.work < 8) = false := decide_eq_false h8
      go_wp2_with fail
      go_meet
      exact ⟨⟨false, rfl⟩, hc3.up (by omega), hI⟩
  case rest =>
    obtain ⟨⟨b, rfl⟩, hc5, hI⟩ := hcut
    go_upto_if 23 with fail
    go_cut [] (fun wx => ∃ r : WorkRule, Cur w (w.heap.size + 1) A n c 300 wx ∧ NextI w A n c A' m c' q xs r wx)
    case first => as_aux_lemma =>
      obtain ⟨⟨d0, d1, d2, d3⟩, dz⟩ := cells4 hI.hq
      have hz := dz 0
      rcases b with _ | _
      · go_wp2_with fail
        go_meet
        exact ⟨r, hc5, hI⟩
      · go_wp2_with fail
        go_meet
        have hcs := cur_set (o := 0) (v := .int .i64 8) hc5 (show w.heap.size ≤ q by omega) (show q ≠ w.heap.size + 1 by omega)
        exact ⟨⟨8, r.rest, r.span, r.most⟩, hcs, heap_setCell_same _ q 0 _ _ (.int .i64 8) hI.hq, blk_gro hI.hp (gro_set _ q 0 (.int .i64 8)) (by intro e; injection e with e; omega), own_set_q hI.hO hI.hl, hcs.up (by omega), hI.hl⟩
    case rest =>
      clear hI hc5 hc3
      obtain ⟨r, hc, hI⟩ := hcut
      go_wp2_with fail
      refine P3.wp_region_planL (fun w' => w'.heap[q]? = some (.cells #[.int .i64 r.work, .int .i64 r.rest, .int .i64 r.span, .int .i64 r.most] 53 (0, 0))) (.free 0 (.free 1 (.free 2 (.free 4 (.free 6 (.free 12 (.free 14 (.three 3 (.three 5 (.two 7 (.free 8 (.free 9 (.free 10 (.two 11 (.two 13 (.one 15 (.free 16 (.free 17 (.free 18 (.one 19 (.free 20 (.one 21 (.free 22 (.free 23 (.free 24 .stop)))))))))) 15 (.free 16 (.free 17 (.one 13 (.free 18 (.one 19 (.free 20 (.one 21 (.free 22 (.free 23 (.free 24 .stop))))))))))) 13 (.one 11 (.one 15 (.free 16 (.free 17 (.free 18 (.one 19 (.free 20 (.one 21 (.free 22 (.free 23 (.free 24 .stop))))))))))))))) 13 (.one 7 (.free 8 (.free 9 (.free 10 (.one 11 (.one 15 (.free 16 (.free 17 (.free 18 (.one 19 (.free 20 (.one 21 (.free 22 (.free 23 (.free 24 .stop)))))))))))))))) 7 (.free 8 (.free 9 (.two 5 (.free 10 (.two 11 (.two 13 (.one 15 (.free 16 (.free 17 (.free 18 (.one 19 (.free 20 (.one 21 (.free 22 (.free 23 (.free 24 .stop)))))))))) 15 (.free 16 (.free 17 (.one 13 (.free 18 (.one 19 (.free 20 (.one 21 (.free 22 (.free 23 (.free 24 .stop))))))))))) 13 (.one 11 (.one 15 (.free 16 (.free 17 (.free 18 (.one 19 (.free 20 (.one 21 (.free 22 (.free 23 (.free 24 .stop))))))))))))) 13 (.one 5 (.free 10 (.one 11 (.one 15 (.free 16 (.free 17 (.free 18 (.one 19 (.free 20 (.one 21 (.free 22 (.free 23 (.free 24 .stop)))))))))))))))) 13 (.two 5 (.one 7 (.free 8 (.free 9 (.free 10 (.one 11 (.one 15 (.free 16 (.free 17 (.free 18 (.one 19 (.free 20 (.one 21 (.free 22 (.free 23 (.free 24 .stop))))))))))))))) 7 (.free 8 (.free 9 (.one 5 (.free 10 (.one 11 (.one 15 (.free 16 (.free 17 (.free 18 (.one 19 (.free 20 (.one 21 (.free 22 (.free 23 (.free 24 .stop))))))))))))))))) 5 (.two 3 (.two 7 (.free 8 (.free 9 (.free 10 (.two 11 (.two 13 (.one 15 (.free 16 (.free 17 (.free 18 (.one 19 (.free 20 (.one 21 (.free 22 (.free 23 (.free 24 .stop)))))))))) 15 (.free 16 (.free 17 (.one 13 (.free 18 (.one 19 (.free 20 (.one 21 (.free 22 (.free 23 (.free 24 .stop))))))))))) 13 (.one 11 (.one 15 (.free 16 (.free 17 (.free 18 (.one 19 (.free 20 (.one 21 (.free 22 (.free 23 (.free 24 .stop))))))))))))))) 13 (.one 7 (.free 8 (.free 9 (.free 10 (.one 11 (.one 15 (.free 16 (.free 17 (.free 18 (.one 19 (.free 20 (.one 21 (.free 22 (.free 23 (.free 24 .stop)))))))))))))))) 13 (.one 3 (.one 7 (.free 8 (.free 9 (.free 10 (.one 11 (.one 15 (.free 16 (.free 17 (.free 18 (.one 19 (.free 20 (.one 21 (.free 22 (.free 23 (.free 24 .stop))))))))))))))))) 13 (.two 3 (.two 5 (.one 7 (.free 8 (.free 9 (.free 10 (.one 11 (.one 15 (.free 16 (.free 17 (.free 18 (.one 19 (.free 20 (.one 21 (.free 22 (.free 23 (.free 24 .stop))))))))))))))) 7 (.free 8 (.free 9 (.one 5 (.free 10 (.one 11 (.one 15 (.free 16 (.free 17 (.free 18 (.one 19 (.free 20 (.one 21 (.free 22 (.free 23 (.free 24 .stop)))))))))))))))) 5 (.one 3 (.one 7 (.free 8 (.free 9 (.free 10 (.one 11 (.one 15 (.free 16 (.free 17 (.free 18 (.one 19 (.free 20 (.one 21 (.free 22 (.free 23 (.free 24 .stop))))))))))))))))))))))))) (by kernel_rfl) (by kernel_rfl) hI.hq ?_
      intro l hl
      have e0 := congrArg (fun L => (L[0]?).getD P3.noOpP) hl
      simp only [List.getElem?_cons_zero, List.getElem?_cons_succ, Option.getD_some] at e0
      replace e0 := hid e0
      have e1 := congrArg (fun L => (L[1]?).getD P3.noOpP) hl
      simp only [List.getElem?_cons_zero, List.getElem?_cons_succ, Option.getD_some] at e1
      replace e1 := hid e1
      have e2 := congrArg (fun L => (L[2]?).getD P3.noOpP) hl
      simp only [List.getElem?_cons_zero, List.getElem?_cons_succ, Option.getD_some] at e2
      replace e2 := hid e2
      have e3 := congrArg (fun L => (L[3]?).getD P3.noOpP) hl
      simp only [List.getElem?_cons_zero, List.getElem?_cons_succ, Option.getD_some] at e3
      replace e3 := hid e3
      have e4 := congrArg (fun L => (L[4]?).getD P3.noOpP) hl
      simp only [List.getElem?_cons_zero, List.getElem?_cons_succ, Option.getD_some] at e4
      replace e4 := hid e4
      have e5 := congrArg (fun L => (L[5]?).getD P3.noOpP) hl
      simp only [List.getElem?_cons_zero, List.getElem?_cons_succ, Option.getD_some] at e5
      replace e5 := hid e5
      have e6 := congrArg (fun L => (L[6]?).getD P3.noOpP) hl
      simp only [List.getElem?_cons_zero, List.getElem?_cons_succ, Option.getD_some] at e6
      replace e6 := hid e6
      have e7 := congrArg (fun L => (L[7]?).getD P3.noOpP) hl
      simp only [List.getElem?_cons_zero, List.getElem?_cons_succ, Option.getD_some] at e7
      replace e7 := hid e7
      have e8 := congrArg (fun L => (L[8]?).getD P3.noOpP) hl
      simp only [List.getElem?_cons_zero, List.getElem?_cons_succ, Option.getD_some] at e8
      replace e8 := hid e8
      have e9 := congrArg (fun L => (L[9]?).getD P3.noOpP) hl
      simp only [List.getElem?_cons_zero, List.getElem?_cons_succ, Option.getD_some] at e9
      replace e9 := hid e9
      have e10 := congrArg (fun L => (L[10]?).getD P3.noOpP) hl
      simp only [List.getElem?_cons_zero, List.getElem?_cons_succ, Option.getD_some] at e10
      replace e10 := hid e10
      have e11 := congrArg (fun L => (L[11]?).getD P3.noOpP) hl
      simp only [List.getElem?_cons_zero, List.getElem?_cons_succ, Option.getD_some] at e11
      replace e11 := hid e11
      have e12 := congrArg (fun L => (L[12]?).getD P3.noOpP) hl
      simp only [List.getElem?_cons_zero, List.getElem?_cons_succ, Option.getD_some] at e12
      replace e12 := hid e12
      have e13 := congrArg (fun L => (L[13]?).getD P3.noOpP) hl
      simp only [List.getElem?_cons_zero, List.getElem?_cons_succ, Option.getD_some] at e13
      replace e13 := hid e13
      have e14 := congrArg (fun L => (L[14]?).getD P3.noOpP) hl
      simp only [List.getElem?_cons_zero, List.getElem?_cons_succ, Option.getD_some] at e14
      replace e14 := hid e14
      have e15 := congrArg (fun L => (L[15]?).getD P3.noOpP) hl
      simp only [List.getElem?_cons_zero, List.getElem?_cons_succ, Option.getD_some] at e15
      replace e15 := hid e15
      have e16 := congrArg (fun L => (L[16]?).getD P3.noOpP) hl
      simp only [List.getElem?_cons_zero, List.getElem?_cons_succ, Option.getD_some] at e16
      replace e16 := hid e16
      have e17 := congrArg (fun L => (L[17]?).getD P3.noOpP) hl
      simp only [List.getElem?_cons_zero, List.getElem?_cons_succ, Option.getD_some] at e17
      replace e17 := hid e17
      have e18 := congrArg (fun L => (L[18]?).getD P3.noOpP) hl
      simp only [List.getElem?_cons_zero, List.getElem?_cons_succ, Option.getD_some] at e18
      replace e18 := hid e18
      have e19 := congrArg (fun L => (L[19]?).getD P3.noOpP) hl
      simp only [List.getElem?_cons_zero, List.getElem?_cons_succ, Option.getD_some] at e19
      replace e19 := hid e19
      have e20 := congrArg (fun L => (L[20]?).getD P3.noOpP) hl
      simp only [List.getElem?_cons_zero, List.getElem?_cons_succ, Option.getD_some] at e20
      replace e20 := hid e20
      have e21 := congrArg (fun L => (L[21]?).getD P3.noOpP) hl
      simp only [List.getElem?_cons_zero, List.getElem?_cons_succ, Option.getD_some] at e21
      replace e21 := hid e21
      have e22 := congrArg (fun L => (L[22]?).getD P3.noOpP) hl
      simp only [List.getElem?_cons_zero, List.getElem?_cons_succ, Option.getD_some] at e22
      replace e22 := hid e22
      have e23 := congrArg (fun L => (L[23]?).getD P3.noOpP) hl
      simp only [List.getElem?_cons_zero, List.getElem?_cons_succ, Option.getD_some] at e23
      replace e23 := hid e23
      have e24 := congrArg (fun L => (L[24]?).getD P3.noOpP) hl
      simp only [List.getElem?_cons_zero, List.getElem?_cons_succ, Option.getD_some] at e24
      replace e24 := hid e24
      clear hl
      refine P3.q_free e0.out (P3.p_free rfl (by intro w' hw'; obtain ⟨⟨d0, d1, d2, d3⟩, dz⟩ := cells4 hw'; (go_simp; first | done | rfl)) ?_); (try simp only [Act.put, List.setIfInBounds_toArray, List.set_cons_zero, List.set_cons_succ])
      refine P3.q_free e1.out (P3.p_free rfl (by intro w' hw'; obtain ⟨⟨d0, d1, d2, d3⟩, dz⟩ := cells4 hw'; (go_simp; first | done | rfl)) ?_); (try simp only [Act.put, List.setIfInBounds_toArray, List.set_cons_zero, List.set_cons_succ])
      refine P3.q_free e2.out (P3.p_free rfl (by intro w' hw'; obtain ⟨⟨d0, d1, d2, d3⟩, dz⟩ := cells4 hw'; (go_simp; first | done | rfl)) ?_); (try simp only [Act.put, List.setIfInBounds_toArray, List.set_cons_zero, List.set_cons_succ])
      refine P3.q_free e4.out (P3.p_free rfl (by intro w' hw'; obtain ⟨⟨d0, d1, d2, d3⟩, dz⟩ := cells4 hw'; (go_simp; first | done | rfl)) ?_); (try simp only [Act.put, List.setIfInBounds_toArray, List.set_cons_zero, List.set_cons_succ])
      refine P3.q_free e6.out (P3.p_free rfl (by intro w' hw'; obtain ⟨⟨d0, d1, d2, d3⟩, dz⟩ := cells4 hw'; (go_simp; first | done | rfl)) ?_); (try simp only [Act.put, List.setIfInBounds_toArray, List.set_cons_zero, List.set_cons_succ])
      refine P3.q_free e12.out (P3.p_free rfl (by intro w' hw'; obtain ⟨⟨d0, d1, d2, d3⟩, dz⟩ := cells4 hw'; (go_simp; first | done | rfl)) ?_); (try simp only [Act.put, List.setIfInBounds_toArray, List.set_cons_zero, List.set_cons_succ])
      refine P3.q_free e14.out (P3.p_free rfl (by intro w' hw'; obtain ⟨⟨d0, d1, d2, d3⟩, dz⟩ := cells4 hw'; (go_simp; first | done | rfl)) ?_); (try simp only [Act.put, List.setIfInBounds_toArray, List.set_cons_zero, List.set_cons_succ])
      have hq := blk_bel hI.hq (bel_drew (bel_refl wc))
      have hp := blk_bel hI.hp (bel_drew (bel_refl wc))
      have hO := own_bel hI.hO (bel_drew (bel_refl wc))
      replace hc := hc.kept (bel_drew (bel_refl wc))
      obtain ⟨w4, hw⟩ : ∃ w4, wc.drew = w4 := ⟨_, rfl⟩
      rw [hw] at hq hp hO hc ⊢
      clear hw hI
      refine P3.q_three ?_ ?_ ?_
      · refine P3.q_one e3.out (P3.p_call rfl (by (go_simp; first | done | exact ⟨rfl, rfl⟩ | rfl)) ?_)
        refine (crew11C w (w.heap.size + 1) A n c cs _ w4 hC hc (by omega)).mono ?_
        rintro _ w5 ⟨v, rfl, hv, hc, hg⟩
        replace hq := blk_gro hq hg (by intro e; injection e with e; omega)
        replace hp := blk_gro hp hg (by intro e; injection e with e; omega)
        replace hO := own_gro hO hg (by simp)
        clear hg
        refine ⟨_, rfl, hq, ?_⟩
        (try simp only [Act.put, List.setIfInBounds_toArray, List.set_cons_zero, List.set_cons_succ])
        refine P3.q_three ?_ ?_ ?_
        · have hla : Sl (w5.alloc (.cells #[.int .i64 0, .int .i64 5, .int .i64 20, .int .i64 480, .int .i64 500, .int .i64 (-1), .int .i64 501] 3)) 1 (some ⟨w5.heap.size, 0, none⟩) 7 7 (ints [0, 5, 20, 480, 500, -1, 501]) := lit_sl rfl rfl (by simp [maxLen]) rfl
          have hna := hc.lt
          refine P3.q_one e5.out (P3.p_val rfl (by (go_simp; first | done | rfl | exact ⟨rfl, rfl⟩)) (blk_bel hq (bel_alloc (bel_refl _))) ?_)
          (try simp only [Act.put, List.setIfInBounds_toArray, List.set_cons_zero, List.set_cons_succ])
          replace hq := blk_bel hq (bel_alloc (o := .cells #[.int .i64 0, .int .i64 5, .int .i64 20, .int .i64 480, .int .i64 500, .int .i64 (-1), .int .i64 501] 3) (bel_refl _))
          replace hp := blk_bel hp (bel_alloc (o := .cells #[.int .i64 0, .int .i64 5, .int .i64 20, .int .i64 480, .int .i64 500, .int .i64 (-1), .int .i64 501] 3) (bel_refl _))
          replace hO := own_bel hO (bel_alloc (o := .cells #[.int .i64 0, .int .i64 5, .int .i64 20, .int .i64 480, .int .i64 500, .int .i64 (-1), .int .i64 501] 3) (bel_refl _))
          replace hc := hc.kept (bel_alloc (o := .cells #[.int .i64 0, .int .i64 5, .int .i64 20, .int .i64 480, .int .i64 500, .int .i64 (-1), .int .i64 501] 3) (bel_refl _))
          obtain ⟨w6, hw⟩ : ∃ w6, w5.alloc (.cells #[.int .i64 0, .int .i64 5, .int .i64 20, .int .i64 480, .int .i64 500, .int .i64 (-1), .int .i64 501] 3) = w6 := ⟨_, rfl⟩
          rw [hw] at hq hp hO hc hla ⊢
          clear hw
          refine P3.q_two ?_ ?_
          · refine P3.q_one e7.out (P3.p_call rfl (by (go_simp; first | done | exact ⟨rfl, rfl⟩ | rfl)) ?_)
            refine (pickC w (w.heap.size + 1) A n c cs _ 24 w6 hC hc (by omega) (by omega)).mono ?_
            rintro _ w7 ⟨r1, rfl, ⟨hr0, hr1⟩, hc, hg⟩
            obtain ⟨s1, hs1, hq1a⟩ := pick_quot r1 hr0 hr1
            have hq1b : IntKind.i64.wrap (5 + (s1 : Int)) = 5 + (s1 : Int) := IntWalk.i64_in _ (by omega)
            have hq1c : (0 : Int) ≤ 5 + (s1 : Int) := by omega
            have hq1d : 5 + (s1 : Int) ≤ 7 := by omega
            clear hr0 hr1
            replace hq := blk_gro hq hg (by intro e; injection e with e; omega)
            replace hp := blk_gro hp hg (by intro e; injection e with e; omega)
            replace hO := own_gro hO hg (by simp)
            replace hla := hla.gro hg (ne_lit hna)
            clear hg
            refine ⟨_, rfl, hq, ?_⟩
            (try simp only [Act.put, List.setIfInBounds_toArray, List.set_cons_zero, List.set_cons_succ])
            refine P3.q_free e8.out (P3.p_free rfl (by intro w' hw'; (go_simp; first | done | rfl)) ?_); (try simp only [Act.put, List.setIfInBounds_toArray, List.set_cons_zero, List.set_cons_succ])
            refine P3.q_free e9.out (P3.p_free rfl (by intro w' hw'; (go_simp; first | done | rfl)) ?_); (try simp only [Act.put, List.setIfInBounds_toArray, List.set_cons_zero, List.set_cons_succ])
            refine P3.q_free e10.out (P3.p_free rfl (by intro w' hw'; (go_simp; first | done | rfl)) ?_); (try simp only [Act.put, List.setIfInBounds_toArray, List.set_cons_zero, List.set_cons_succ])
            refine P3.q_two ?_ ?_
            · have hT := hla.to (show (5 + (s1 : Int)).toNat ≤ 7 by omega)
              rw [ints_take1] at hT
              refine P3.q_one e11.out (P3.p_call rfl (by (go_simp; first | done | exact ⟨rfl, rfl⟩ | rfl)) ?_)
              refine (amongC w (w.heap.size + 1) A n c cs _ _ (5 + (s1 : Int)).toNat 7 _ w7 hC hc (by omega) hT (by omega) (ne_lit hna)).mono ?_
              rintro _ w8 ⟨f, rfl, hf, hc, hg⟩
              replace hf := List.mem_of_mem_take hf
              have hfb : -1 ≤ f ∧ f ≤ 501 := by simp at hf; omega
              clear hf hT hq1a hq1b hq1c hq1d
              replace hq := blk_gro hq hg (by intro e; injection e with e; omega)
              replace hp := blk_gro hp hg (by intro e; injection e with e; omega)
              replace hO := own_gro hO hg (by simp)
              replace hla := hla.gro hg (ne_lit hna)
              clear hla hna
              clear hg
              refine ⟨_, rfl, hq, ?_⟩
              (try simp only [Act.put, List.setIfInBounds_toArray, List.set_cons_zero, List.set_cons_succ])
              refine P3.q_two ?_ ?_
              · have hlb : Sl (w8.alloc (.cells #[.int .i64 1, .int .i64 4, .int .i64 8, .int .i64 0, .int .i64 49] 3)) 1 (some ⟨w8.heap.size, 0, none⟩) 5 5 (ints [1, 4, 8, 0, 49]) := lit_sl rfl rfl (by simp [maxLen]) rfl
                have hnb := hc.lt
                refine P3.q_one e13.out (P3.p_val rfl (by (go_simp; first | done | rfl | exact ⟨rfl, rfl⟩)) (blk_bel hq (bel_alloc (bel_refl _))) ?_)
                (try simp only [Act.put, List.setIfInBounds_toArray, List.set_cons_zero, List.set_cons_succ])
                replace hq := blk_bel hq (bel_alloc (o := .cells #[.int .i64 1, .int .i64 4, .int .i64 8, .int .i64 0, .int .i64 49] 3) (bel_refl _))
                replace hp := blk_bel hp (bel_alloc (o := .cells #[.int .i64 1, .int .i64 4, .int .i64 8, .int .i64 0, .int .i64 49] 3) (bel_refl _))
                replace hO := own_bel hO (bel_alloc (o := .cells #[.int .i64 1, .int .i64 4, .int .i64 8, .int .i64 0, .int .i64 49] 3) (bel_refl _))
                replace hc := hc.kept (bel_alloc (o := .cells #[.int .i64 1, .int .i64 4, .int .i64 8, .int .i64 0, .int .i64 49] 3) (bel_refl _))
                obtain ⟨w9, hw⟩ : ∃ w9, w8.alloc (.cells #[.int .i64 1, .int .i64 4, .int .i64 8, .int .i64 0, .int .i64 49] 3) = w9 := ⟨_, rfl⟩
                rw [hw] at hq hp hO hc hlb ⊢
                clear hw
                refine P3.q_one e15.out (P3.p_call rfl (by (go_simp; first | done | exact ⟨rfl, rfl⟩ | rfl)) ?_)
                refine (pickC w (w.heap.size + 1) A n c cs _ 24 w9 hC hc (by omega) (by omega)).mono ?_
                rintro _ w10 ⟨r2, rfl, ⟨hs0, hs1⟩, hc, hg⟩
                obtain ⟨s2, hs2, hq2a⟩ := pick_quot r2 hs0 hs1
                have hq2b : IntKind.i64.wrap (3 + (s2 : Int)) = 3 + (s2 : Int) := IntWalk.i64_in _ (by omega)
                have hq2c : (0 : Int) ≤ 3 + (s2 : Int) := by omega
                have hq2d : 3 + (s2 : Int) ≤ 5 := by omega
                clear hs0 hs1
                replace hq := blk_gro hq hg (by intro e; injection e with e; omega)
                replace hp := blk_gro hp hg (by intro e; injection e with e; omega)
                replace hO := own_gro hO hg (by simp)
                replace hlb := hlb.gro hg (ne_lit hnb)
                clear hg
                refine ⟨_, rfl, hq, ?_⟩
                (try simp only [Act.put, List.setIfInBounds_toArray, List.set_cons_zero, List.set_cons_succ])
                refine P3.q_free e16.out (P3.p_free rfl (by intro w' hw'; (go_simp; first | done | rfl)) ?_); (try simp only [Act.put, List.setIfInBounds_toArray, List.set_cons_zero, List.set_cons_succ])
                refine P3.q_free e17.out (P3.p_free rfl (by intro w' hw'; (go_simp; first | done | rfl)) ?_); (try simp only [Act.put, List.setIfInBounds_toArray, List.set_cons_zero, List.set_cons_succ])
                refine P3.q_free e18.out (P3.p_free rfl (by intro w' hw'; (go_simp; first | done | rfl)) ?_); (try simp only [Act.put, List.setIfInBounds_toArray, List.set_cons_zero, List.set_cons_succ])
                have hT := hlb.to (show (3 + (s2 : Int)).toNat ≤ 5 by omega)
                rw [ints_take1] at hT
                refine P3.q_one e19.out (P3.p_call rfl (by (go_simp; first | done | exact ⟨rfl, rfl⟩ | rfl)) ?_)
                refine (amongC w (w.heap.size + 1) A n c cs _ _ (3 + (s2 : Int)).toNat 5 _ w10 hC hc (by omega) hT (by omega) (ne_lit hnb)).mono ?_
                rintro _ w11 ⟨hh, rfl, hf, hc, hg⟩
                replace hf := List.mem_of_mem_take hf
                have hhb : 0 ≤ hh ∧ hh ≤ 49 := by simp at hf; omega
                clear hf hT hq2a hq2b hq2c hq2d
                replace hq := blk_gro hq hg (by intro e; injection e with e; omega)
                replace hp := blk_gro hp hg (by intro e; injection e with e; omega)
                replace hO := own_gro hO hg (by simp)
                replace hlb := hlb.gro hg (ne_lit hnb)
                clear hlb hnb
                clear hg
                refine ⟨_, rfl, hq, ?_⟩
                (try simp only [Act.put, List.setIfInBounds_toArray, List.set_cons_zero, List.set_cons_succ])
                refine P3.q_free e20.out (P3.p_free rfl (by intro w' hw'; (go_simp; first | done | rfl)) ?_); (try simp only [Act.put, List.setIfInBounds_toArray, List.set_cons_zero, List.set_cons_succ])
                obtain ⟨⟨k0, k1, k2, k3⟩, kz⟩ := cells4 hp
                have nq1 : ¬ q = w.heap.size := by omega
                refine P3.q_one e21.out (P3.p_store rfl (by (go_simp; first | done | rfl)) (by (repeat' (first | (with_reducible assumption) | (refine (heap_setCell_other _ _ _ _ (by simpa using nq1)).trans ?_)))) ?_)
                (try simp only [Act.put])
                refine P3.q_free e22.out (P3.p_free rfl (by intro w' hw'; (go_simp; first | done | rfl)) ?_); (try simp only [Act.put, List.setIfInBounds_toArray, List.set_cons_zero, List.set_cons_succ])
                refine P3.q_free e23.out (P3.p_free rfl (by intro w' hw'; (go_simp; first | done | rfl)) ?_); (try simp only [Act.put, List.setIfInBounds_toArray, List.set_cons_zero, List.set_cons_succ])
                refine P3.q_free e24.out (P3.p_free rfl (by intro w' hw'; (go_simp; first | done | rfl)) ?_); (try simp only [Act.put, List.setIfInBounds_toArray, List.set_cons_zero, List.set_cons_succ])
                refine P3.q_stop ?_
                go_wp2_with fail
                refine bodyPost_ret (v := .tuple #[.slice A' m c', .agg #[.int .i64 r.work, .int .i64 r.rest, .int .i64 r.span, .int .i64 r.most], .int .i64 v, .int .i64 f, .int .i64 hh]) (by simp [results, Try.results35, go_sem, *]) rfl ?_
                refine ⟨A', m, c', xs, r, v, f, hh, rfl, Own.mk_ (own_low (base := w.heap.size + 1 + 1) ?_ (by omega)), hm, hv, hfb, hhb, ?_⟩
                · (iterate 4 (refine own_set_far ?_ (by omega)))
                  exact hO
                · have hb := hc.bel
                  (repeat' (first | (with_reducible assumption) | (refine Below.setCell ?_ (by simp) _)))
              · refine P3.q_one e15.out (P3.p_call rfl (by (go_simp; first | done | exact ⟨rfl, rfl⟩ | rfl)) ?_)
                refine (pickC w (w.heap.size + 1) A n c cs _ 24 w8 hC hc (by omega) (by omega)).mono ?_
                rintro _ w9 ⟨r2, rfl, ⟨hs0, hs1⟩, hc, hg⟩
                obtain ⟨s2, hs2, hq2a⟩ := pick_quot r2 hs0 hs1
                have hq2b : IntKind.i64.wrap (3 + (s2 : Int)) = 3 + (s2 : Int) := IntWalk.i64_in _ (by omega)
                have hq2c : (0 : Int) ≤ 3 + (s2 : Int) := by omega
                have hq2d : 3 + (s2 : Int) ≤ 5 := by omega
                clear hs0 hs1
                replace hq := blk_gro hq hg (by intro e; injection e with e; omega)
                replace hp := blk_gro hp hg (by intro e; injection e with e; omega)
                replace hO := own_gro hO hg (by simp)
                clear hg
                refine ⟨_, rfl, hq, ?_⟩
                (try simp only [Act.put, List.setIfInBounds_toArray, List.set_cons_zero, List.set_cons_succ])
                refine P3.q_free e16.out (P3.p_free rfl (by intro w' hw'; (go_simp; first | done | rfl)) ?_); (try simp only [Act.put, List.setIfInBounds_toArray, List.set_cons_zero, List.set_cons_succ])
                refine P3.q_free e17.out (P3.p_free rfl (by intro w' hw'; (go_simp; first | done | rfl)) ?_); (try simp only [Act.put, List.setIfInBounds_toArray, List.set_cons_zero, List.set_cons_succ])
                have hlb : Sl (w9.alloc (.cells #[.int .i64 1, .int .i64 4, .int .i64 8, .int .i64 0, .int .i64 49] 3)) 1 (some ⟨w9.heap.size, 0, none⟩) 5 5 (ints [1, 4, 8, 0, 49]) := lit_sl rfl rfl (by simp [maxLen]) rfl
                have hnb := hc.lt
                refine P3.q_one e13.out (P3.p_val rfl (by (go_simp; first | done | rfl | exact ⟨rfl, rfl⟩)) (blk_bel hq (bel_alloc (bel_refl _))) ?_)
                (try simp only [Act.put, List.setIfInBounds_toArray, List.set_cons_zero, List.set_cons_succ])
                replace hq := blk_bel hq (bel_alloc (o := .cells #[.int .i64 1, .int .i64 4, .int .i64 8, .int .i64 0, .int .i64 49] 3) (bel_refl _))
                replace hp := blk_bel hp (bel_alloc (o := .cells #[.int .i64 1, .int .i64 4, .int .i64 8, .int .i64 0, .int .i64 49] 3) (bel_refl _))
                replace hO := own_bel hO (bel_alloc (o := .cells #[.int .i64 1, .int .i64 4, .int .i64 8, .int .i64 0, .int .i64 49] 3) (bel_refl _))
                replace hc := hc.kept (bel_alloc (o := .cells #[.int .i64 1, .int .i64 4, .int .i64 8, .int .i64 0, .int .i64 49] 3) (bel_refl _))
                obtain ⟨w10, hw⟩ : ∃ w10, w9.alloc (.cells #[.int .i64 1, .int .i64 4, .int .i64 8, .int .i64 0, .int .i64 49] 3) = w10 := ⟨_, rfl⟩
                rw [hw] at hq hp hO hc hlb ⊢
                clear hw
                refine P3.q_free e18.out (P3.p_free rfl (by intro w' hw'; (go_simp; first | done | rfl)) ?_); (try simp only [Act.put, List.setIfInBounds_toArray, List.set_cons_zero, List.set_cons_succ])
                have hT := hlb.to (show (3 + (s2 : Int)).toNat ≤ 5 by omega)
                rw [ints_take1] at hT
                refine P3.q_one e19.out (P3.p_call rfl (by (go_simp; first | done | exact ⟨rfl, rfl⟩ | rfl)) ?_)
                refine (amongC w (w.heap.size + 1) A n c cs _ _ (3 + (s2 : Int)).toNat 5 _ w10 hC hc (by omega) hT (by omega) (ne_lit hnb)).mono ?_
                rintro _ w11 ⟨hh, rfl, hf, hc, hg⟩
                replace hf := List.mem_of_mem_take hf
                have hhb : 0 ≤ hh ∧ hh ≤ 49 := by simp at hf; omega
                clear hf hT hq2a hq2b hq2c hq2d
                replace hq := blk_gro hq hg (by intro e; injection e with e; omega)
                replace hp := blk_gro hp hg (by intro e; injection e with e; omega)
                replace hO := own_gro hO hg (by simp)
                replace hlb := hlb.gro hg (ne_lit hnb)
                clear hlb hnb
                clear hg
                refine ⟨_, rfl, hq, ?_⟩
                (try simp only [Act.put, List.setIfInBounds_toArray, List.set_cons_zero, List.set_cons_succ])
                refine P3.q_free e20.out (P3.p_free rfl (by intro w' hw'; (go_simp; first | done | rfl)) ?_); (try simp only [Act.put, List.setIfInBounds_toArray, List.set_cons_zero, List.set_cons_succ])
                obtain ⟨⟨k0, k1, k2, k3⟩, kz⟩ := cells4 hp
                have nq1 : ¬ q = w.heap.size := by omega
                refine P3.q_one e21.out (P3.p_store rfl (by (go_simp; first | done | rfl)) (by (repeat' (first | (with_reducible assumption) | (refine (heap_setCell_other _ _ _ _ (by simpa using nq1)).trans ?_)))) ?_)
                (try simp only [Act.put])
                refine P3.q_free e22.out (P3.p_free rfl (by intro w' hw'; (go_simp; first | done | rfl)) ?_); (try simp only [Act.put, List.setIfInBounds_toArray, List.set_cons_zero, List.set_cons_succ])
                refine P3.q_free e23.out (P3.p_free rfl (by intro w' hw'; (go_simp; first | done | rfl)) ?_); (try simp only [Act.put, List.setIfInBounds_toArray, List.set_cons_zero, List.set_cons_succ])
                refine P3.q_free e24.out (P3.p_free rfl (by intro w' hw'; (go_simp; first | done | rfl)) ?_); (try simp only [Act.put, List.setIfInBounds_toArray, List.set_cons_zero, List.set_cons_succ])
                refine P3.q_stop ?_
                go_wp2_with fail
                refine bodyPost_ret (v := .tuple #[.slice A' m c', .agg #[.int .i64 r.work, .int .i64 r.rest, .int .i64 r.span, .int .i64 r.most], .int .i64 v, .int .i64 f, .int .i64 hh]) (by simp [results, Try.results35, go_sem, *]) rfl ?_
                refine ⟨A', m, c', xs, r, v, f, hh, rfl, Own.mk_ (own_low (base := w.heap.size + 1 + 1) ?_ (by omega)), hm, hv, hfb, hhb, ?_⟩
                · (iterate 4 (refine own_set_far ?_ (by omega)))
                  exact hO
                · have hb := hc.bel
                  (repeat' (first | (with_reducible assumption) | (refine Below.setCell ?_ (by simp) _)))
            · have hlb : Sl (w7.alloc (.cells #[.int .i64 1, .int .i64 4, .int .i64 8, .int .i64 0, .int .i64 49] 3)) 1 (some ⟨w7.heap.size, 0, none⟩) 5 5 (ints [1, 4, 8, 0, 49]) := lit_sl rfl rfl (by simp [maxLen]) rfl
              have hnb := hc.lt
              refine P3.q_one e13.out (P3.p_val rfl (by (go_simp; first | done | rfl | exact ⟨rfl, rfl⟩)) (blk_bel hq (bel_alloc (bel_refl _))) ?_)
              (try simp only [Act.put, List.setIfInBounds_toArray, List.set_cons_zero, List.set_cons_succ])
              replace hq := blk_bel hq (bel_alloc (o := .cells #[.int .i64 1, .int .i64 4, .int .i64 8, .int .i64 0, .int .i64 49] 3) (bel_refl _))
              replace hp := blk_bel hp (bel_alloc (o := .cells #[.int .i64 1, .int .i64 4, .int .i64 8, .int .i64 0, .int .i64 49] 3) (bel_refl _))
              replace hO := own_bel hO (bel_alloc (o := .cells #[.int .i64 1, .int .i64 4, .int .i64 8, .int .i64 0, .int .i64 49] 3) (bel_refl _))
              replace hc := hc.kept (bel_alloc (o := .cells #[.int .i64 1, .int .i64 4, .int .i64 8, .int .i64 0, .int .i64 49] 3) (bel_refl _))
              replace hla := hla.bel (bel_alloc (o := .cells #[.int .i64 1, .int .i64 4, .int .i64 8, .int .i64 0, .int .i64 49] 3) (bel_refl _))
              obtain ⟨w8, hw⟩ : ∃ w8, w7.alloc (.cells #[.int .i64 1, .int .i64 4, .int .i64 8, .int .i64 0, .int .i64 49] 3) = w8 := ⟨_, rfl⟩
              rw [hw] at hq hp hO hc hlb hla ⊢
              clear hw
              have hT := hla.to (show (5 + (s1 : Int)).toNat ≤ 7 by omega)
              rw [ints_take1] at hT
              refine P3.q_one e11.out (P3.p_call rfl (by (go_simp; first | done | exact ⟨rfl, rfl⟩ | rfl)) ?_)
              refine (amongC w (w.heap.size + 1) A n c cs _ _ (5 + (s1 : Int)).toNat 7 _ w8 hC hc (by omega) hT (by omega) (ne_lit hna)).mono ?_
              rintro _ w9 ⟨f, rfl, hf, hc, hg⟩
              replace hf := List.mem_of_mem_take hf
              have hfb : -1 ≤ f ∧ f ≤ 501 := by simp at hf; omega
              clear hf hT hq1a hq1b hq1c hq1d
              replace hq := blk_gro hq hg (by intro e; injection e with e; omega)
              replace hp := blk_gro hp hg (by intro e; injection e with e; omega)
              replace hO := own_gro hO hg (by simp)
              replace hla := hla.gro hg (ne_lit hna)
              replace hlb := hlb.gro hg (ne_lit hnb)
              clear hla hna
              clear hg
              refine ⟨_, rfl, hq, ?_⟩
              (try simp only [Act.put, List.setIfInBounds_toArray, List.set_cons_zero, List.set_cons_succ])
              refine P3.q_one e15.out (P3.p_call rfl (by (go_simp; first | done | exact ⟨rfl, rfl⟩ | rfl)) ?_)
              refine (pickC w (w.heap.size + 1) A n c cs _ 24 w9 hC hc (by omega) (by omega)).mono ?_
              rintro _ w10 ⟨r2, rfl, ⟨hs0, hs1⟩, hc, hg⟩
              obtain ⟨s2, hs2, hq2a⟩ := pick_quot r2 hs0 hs1
              have hq2b : IntKind.i64.wrap (3 + (s2 : Int)) = 3 + (s2 : Int) := IntWalk.i64_in _ (by omega)
              have hq2c : (0 : Int) ≤ 3 + (s2 : Int) := by omega
              have hq2d : 3 + (s2 : Int) ≤ 5 := by omega
              clear hs0 hs1
              replace hq := blk_gro hq hg (by intro e; injection e with e; omega)
              replace hp := blk_gro hp hg (by intro e; injection e with e; omega)
              replace hO := own_gro hO hg (by simp)
              replace hlb := hlb.gro hg (ne_lit hnb)
              clear hg
              refine ⟨_, rfl, hq, ?_⟩
              (try simp only [Act.put, List.setIfInBounds_toArray, List.set_cons_zero, List.set_cons_succ])
              refine P3.q_free e16.out (P3.p_free rfl (by intro w' hw'; (go_simp; first | done | rfl)) ?_); (try simp only [Act.put, List.setIfInBounds_toArray, List.set_cons_zero, List.set_cons_succ])
              refine P3.q_free e17.out (P3.p_free rfl (by intro w' hw'; (go_simp; first | done | rfl)) ?_); (try simp only [Act.put, List.setIfInBounds_toArray, List.set_cons_zero, List.set_cons_succ])
              refine P3.q_free e18.out (P3.p_free rfl (by intro w' hw'; (go_simp; first | done | rfl)) ?_); (try simp only [Act.put, List.setIfInBounds_toArray, List.set_cons_zero, List.set_cons_succ])
              have hT := hlb.to (show (3 + (s2 : Int)).toNat ≤ 5 by omega)
              rw [ints_take1] at hT
              refine P3.q_one e19.out (P3.p_call rfl (by (go_simp; first | done | exact ⟨rfl, rfl⟩ | rfl)) ?_)
              refine (amongC w (w.heap.size + 1) A n c cs _ _ (3 + (s2 : Int)).toNat 5 _ w10 hC hc (by omega) hT (by omega) (ne_lit hnb)).mono ?_
              rintro _ w11 ⟨hh, rfl, hf, hc, hg⟩
              replace hf := List.mem_of_mem_take hf
              have hhb : 0 ≤ hh ∧ hh ≤ 49 := by simp at hf; omega
              clear hf hT hq2a hq2b hq2c hq2d
              replace hq := blk_gro hq hg (by intro e; injection e with e; omega)
              replace hp := blk_gro hp hg (by intro e; injection e with e; omega)
              replace hO := own_gro hO hg (by simp)
              replace hlb := hlb.gro hg (ne_lit hnb)
              clear hlb hnb
              clear hg
              refine ⟨_, rfl, hq, ?_⟩
              (try simp only [Act.put, List.setIfInBounds_toArray, List.set_cons_zero, List.set_cons_succ])
              refine P3.q_free e20.out (P3.p_free rfl (by intro w' hw'; (go_simp; first | done | rfl)) ?_); (try simp only [Act.put, List.setIfInBounds_toArray, List.set_cons_zero, List.set_cons_succ])
              obtain ⟨⟨k0, k1, k2, k3⟩, kz⟩ := cells4 hp
              have nq1 : ¬ q = w.heap.size := by omega
              refine P3.q_one e21.out (P3.p_store rfl (by (go_simp; first | done | rfl)) (by (repeat' (first | (with_reducible assumption) | (refine (heap_setCell_other _ _ _ _ (by simpa using nq1)).trans ?_)))) ?_)
              (try simp only [Act.put])
              refine P3.q_free e22.out (P3.p_free rfl (by intro w' hw'; (go_simp; first | done | rfl)) ?_); (try simp only [Act.put, List.setIfInBounds_toArray, List.set_cons_zero, List.set_cons_succ])
              refine P3.q_free e23.out (P3.p_free rfl (by intro w' hw'; (go_simp; first | done | rfl)) ?_); (try simp only [Act.put, List.setIfInBounds_toArray, List.set_cons_zero, List.set_cons_succ])
              refine P3.q_free e24.out (P3.p_free rfl (by intro w' hw'; (go_simp; first | done | rfl)) ?_); (try simp only [Act.put, List.setIfInBounds_toArray, List.set_cons_zero, List.set_cons_succ])
              refine P3.q_stop ?_
              go_wp2_with fail
              refine bodyPost_ret (v := .tuple #[.slice A' m c', .agg #[.int .i64 r.work, .int .i64 r.rest, .int .i64 r.span, .int .i64 r.most], .int .i64 v, .int .i64 f, .int .i64 hh]) (by simp [results, Try.results35, go_sem, *]) rfl ?_
              refine ⟨A', m, c', xs, r, v, f, hh, rfl, Own.mk_ (own_low (base := w.heap.size + 1 + 1) ?_ (by omega)), hm, hv, hfb, hhb, ?_⟩
              · (iterate 4 (refine own_set_far ?_ (by omega)))
                exact hO
              · have hb := hc.bel
                (repeat' (first | (with_reducible assumption) | (refine Below.setCell ?_ (by simp) _)))
          · have hlb : Sl (w6.alloc (.cells #[.int .i64 1, .int .i64 4, .int .i64 8, .int .i64 0, .int .i64 49] 3)) 1 (some ⟨w6.heap.size, 0, none⟩) 5 5 (ints [1, 4, 8, 0, 49]) := lit_sl rfl rfl (by simp [maxLen]) rfl
            have hnb := hc.lt
            refine P3.q_one e13.out (P3.p_val rfl (by (go_simp; first | done | rfl | exact ⟨rfl, rfl⟩)) (blk_bel hq (bel_alloc (bel_refl _))) ?_)
            (try simp only [Act.put, List.setIfInBounds_toArray, List.set_cons_zero, List.set_cons_succ])
            replace hq := blk_bel hq (bel_alloc (o := .cells #[.int .i64 1, .int .i64 4, .int .i64 8, .int .i64 0, .int .i64 49] 3) (bel_refl _))
            replace hp := blk_bel hp (bel_alloc (o := .cells #[.int .i64 1, .int .i64 4, .int .i64 8, .int .i64 0, .int .i64 49] 3) (bel_refl _))
            replace hO := own_bel hO (bel_alloc (o := .cells #[.int .i64 1, .int .i64 4, .int .i64 8, .int .i64 0, .int .i64 49] 3) (bel_refl _))
            replace hc := hc.kept (bel_alloc (o := .cells #[.int .i64 1, .int .i64 4, .int .i64 8, .int .i64 0, .int .i64 49] 3) (bel_refl _))
            replace hla := hla.bel (bel_alloc (o := .cells #[.int .i64 1, .int .i64 4, .int .i64 8, .int .i64 0, .int .i64 49] 3) (bel_refl _))
            obtain ⟨w7, hw⟩ : ∃ w7, w6.alloc (.cells #[.int .i64 1, .int .i64 4, .int .i64 8, .int .i64 0, .int .i64 49] 3) = w7 := ⟨_, rfl⟩
            rw [hw] at hq hp hO hc hlb hla ⊢
            clear hw
            refine P3.q_one e7.out (P3.p_call rfl (by (go_simp; first | done | exact ⟨rfl, rfl⟩ | rfl)) ?_)
            refine (pickC w (w.heap.size + 1) A n c cs _ 24 w7 hC hc (by omega) (by omega)).mono ?_
            rintro _ w8 ⟨r1, rfl, ⟨hr0, hr1⟩, hc, hg⟩
            obtain ⟨s1, hs1, hq1a⟩ := pick_quot r1 hr0 hr1
            have hq1b : IntKind.i64.wrap (5 + (s1 : Int)) = 5 + (s1 : Int) := IntWalk.i64_in _ (by omega)
            have hq1c : (0 : Int) ≤ 5 + (s1 : Int) := by omega
            have hq1d : 5 + (s1 : Int) ≤ 7 := by omega
            clear hr0 hr1
            replace hq := blk_gro hq hg (by intro e; injection e with e; omega)
            replace hp := blk_gro hp hg (by intro e; injection e with e; omega)
            replace hO := own_gro hO hg (by simp)
            replace hla := hla.gro hg (ne_lit hna)
            replace hlb := hlb.gro hg (ne_lit hnb)
            clear hg
            refine ⟨_, rfl, hq, ?_⟩
            (try simp only [Act.put, List.setIfInBounds_toArray, List.set_cons_zero, List.set_cons_succ])
            refine P3.q_free e8.out (P3.p_free rfl (by intro w' hw'; (go_simp; first | done | rfl)) ?_); (try simp only [Act.put, List.setIfInBounds_toArray, List.set_cons_zero, List.set_cons_succ])
            refine P3.q_free e9.out (P3.p_free rfl (by intro w' hw'; (go_simp; first | done | rfl)) ?_); (try simp only [Act.put, List.setIfInBounds_toArray, List.set_cons_zero, List.set_cons_succ])
            refine P3.q_free e10.out (P3.p_free rfl (by intro w' hw'; (go_simp; first | done | rfl)) ?_); (try simp only [Act.put, List.setIfInBounds_toArray, List.set_cons_zero, List.set_cons_succ])
            have hT := hla.to (show (5 + (s1 : Int)).toNat ≤ 7 by omega)
            rw [ints_take1] at hT
            refine P3.q_one e11.out (P3.p_call rfl (by (go_simp; first | done | exact ⟨rfl, rfl⟩ | rfl)) ?_)
            refine (amongC w (w.heap.size + 1) A n c cs _ _ (5 + (s1 : Int)).toNat 7 _ w8 hC hc (by omega) hT (by omega) (ne_lit hna)).mono ?_
            rintro _ w9 ⟨f, rfl, hf, hc, hg⟩
            replace hf := List.mem_of_mem_take hf
            have hfb : -1 ≤ f ∧ f ≤ 501 := by simp at hf; omega
            clear hf hT hq1a hq1b hq1c hq1d
            replace hq := blk_gro hq hg (by intro e; injection e with e; omega)
            replace hp := blk_gro hp hg (by intro e; injection e with e; omega)
            replace hO := own_gro hO hg (by simp)
            replace hla := hla.gro hg (ne_lit hna)
            replace hlb := hlb.gro hg (ne_lit hnb)
            clear hla hna
            clear hg
            refine ⟨_, rfl, hq, ?_⟩
            (try simp only [Act.put, List.setIfInBounds_toArray, List.set_cons_zero, List.set_cons_succ])
            refine P3.q_one e15.out (P3.p_call rfl (by (go_simp; first | done | exact ⟨rfl, rfl⟩ | rfl)) ?_)
            refine (pickC w (w.heap.size + 1) A n c cs _ 24 w9 hC hc (by omega) (by omega)).mono ?_
            rintro _ w10 ⟨r2, rfl, ⟨hs0, hs1⟩, hc, hg⟩
            obtain ⟨s2, hs2, hq2a⟩ := pick_quot r2 hs0 hs1
            have hq2b : IntKind.i64.wrap (3 + (s2 : Int)) = 3 + (s2 : Int) := IntWalk.i64_in _ (by omega)
            have hq2c : (0 : Int) ≤ 3 + (s2 : Int) := by omega
            have hq2d : 3 + (s2 : Int) ≤ 5 := by omega
            clear hs0 hs1
            replace hq := blk_gro hq hg (by intro e; injection e with e; omega)
            replace hp := blk_gro hp hg (by intro e; injection e with e; omega)
            replace hO := own_gro hO hg (by simp)
            replace hlb := hlb.gro hg (ne_lit hnb)
            clear hg
            refine ⟨_, rfl, hq, ?_⟩
            (try simp only [Act.put, List.setIfInBounds_toArray, List.set_cons_zero, List.set_cons_succ])
            refine P3.q_free e16.out (P3.p_free rfl (by intro w' hw'; (go_simp; first | done | rfl)) ?_); (try simp only [Act.put, List.setIfInBounds_toArray, List.set_cons_zero, List.set_cons_succ])
            refine P3.q_free e17.out (P3.p_free rfl (by intro w' hw'; (go_simp; first | done | rfl)) ?_); (try simp only [Act.put, List.setIfInBounds_toArray, List.set_cons_zero, List.set_cons_succ])
            refine P3.q_free e18.out (P3.p_free rfl (by intro w' hw'; (go_simp; first | done | rfl)) ?_); (try simp only [Act.put, List.setIfInBounds_toArray, List.set_cons_zero, List.set_cons_succ])
            have hT := hlb.to (show (3 + (s2 : Int)).toNat ≤ 5 by omega)
            rw [ints_take1] at hT
            refine P3.q_one e19.out (P3.p_call rfl (by (go_simp; first | done | exact ⟨rfl, rfl⟩ | rfl)) ?_)
            refine (amongC w (w.heap.size + 1) A n c cs _ _ (3 + (s2 : Int)).toNat 5 _ w10 hC hc (by omega) hT (by omega) (ne_lit hnb)).mono ?_
            rintro _ w11 ⟨hh, rfl, hf, hc, hg⟩
            replace hf := List.mem_of_mem_take hf
            have hhb : 0 ≤ hh ∧ hh ≤ 49 := by simp at hf; omega
            clear hf hT hq2a hq2b hq2c hq2d
            replace hq := blk_gro hq hg (by intro e; injection e with e; omega)
            replace hp := blk_gro hp hg (by intro e; injection e with e; omega)
            replace hO := own_gro hO hg (by simp)
            replace hlb := hlb.gro hg (ne_lit hnb)
            clear hlb hnb
            clear hg
            refine ⟨_, rfl, hq, ?_⟩
            (try simp only [Act.put, List.setIfInBounds_toArray, List.set_cons_zero, List.set_cons_succ])
            refine P3.q_free e20.out (P3.p_free rfl (by intro w' hw'; (go_simp; first | done | rfl)) ?_); (try simp only [Act.put, List.setIfInBounds_toArray, List.set_cons_zero, List.set_cons_succ])
            obtain ⟨⟨k0, k1, k2, k3⟩, kz⟩ := cells4 hp
            have nq1 : ¬ q = w.heap.size := by omega
            refine P3.q_one e21.out (P3.p_store rfl (by (go_simp; first | done | rfl)) (by (repeat' (first | (with_reducible assumption) | (refine (heap_setCell_other _ _ _ _ (by simpa using nq1)).trans ?_)))) ?_)
            (try simp only [Act.put])
            refine P3.q_free e22.out (P3.p_free rfl (by intro w' hw'; (go_simp; first | done | rfl)) ?_); (try simp only [Act.put, List.setIfInBounds_toArray, List.set_cons_zero, List.set_cons_succ])
            refine P3.q_free e23.out (P3.p_free rfl (by intro w' hw'; (go_simp; first | done | rfl)) ?_); (try simp only [Act.put, List.setIfInBounds_toArray, List.set_cons_zero, List.set_cons_succ])
            refine P3.q_free e24.out (P3.p_free rfl (by intro w' hw'; (go_simp; first | done | rfl)) ?_); (try simp only [Act.put, List.setIfInBounds_toArray, List.set_cons_zero, List.set_cons_succ])
            refine P3.q_stop ?_
            go_wp2_with fail
            refine bodyPost_ret (v := .tuple #[.slice A' m c', .agg #[.int .i64 r.work, .int .i64 r.rest, .int .i64 r.span, .int .i64 r.most], .int .i64 v, .int .i64 f, .int .i64 hh]) (by simp [results, Try.results35, go_sem, *]) rfl ?_
            refine ⟨A', m, c', xs, r, v, f, hh, rfl, Own.mk_ (own_low (base := w.heap.size + 1 + 1) ?_ (by omega)), hm, hv, hfb, hhb, ?_⟩
            · (iterate 4 (refine own_set_far ?_ (by omega)))
              exact hO
            · have hb := hc.bel
              (repeat' (first | (with_reducible assumption) | (refine Below.setCell ?_ (by simp) _)))
        · refine P3.q_one e7.out (P3.p_call rfl (by (go_simp; first | done | exact ⟨rfl, rfl⟩ | rfl)) ?_)
          refine (pickC w (w.heap.size + 1) A n c cs _ 24 w5 hC hc (by omega) (by omega)).mono ?_
          rintro _ w6 ⟨r1, rfl, ⟨hr0, hr1⟩, hc, hg⟩
          obtain ⟨s1, hs1, hq1a⟩ := pick_quot r1 hr0 hr1
          have hq1b : IntKind.i64.wrap (5 + (s1 : Int)) = 5 + (s1 : Int) := IntWalk.i64_in _ (by omega)
          have hq1c : (0 : Int) ≤ 5 + (s1 : Int) := by omega
          have hq1d : 5 + (s1 : Int) ≤ 7 := by omega
          clear hr0 hr1
          replace hq := blk_gro hq hg (by intro e; injection e with e; omega)
          replace hp := blk_gro hp hg (by intro e; injection e with e; omega)
          replace hO := own_gro hO hg (by simp)
          clear hg
          refine ⟨_, rfl, hq, ?_⟩
          (try simp only [Act.put, List.setIfInBounds_toArray, List.set_cons_zero, List.set_cons_succ])
          refine P3.q_free e8.out (P3.p_free rfl (by intro w' hw'; (go_simp; first | done | rfl)) ?_); (try simp only [Act.put, List.setIfInBounds_toArray, List.set_cons_zero, List.set_cons_succ])
          refine P3.q_free e9.out (P3.p_free rfl (by intro w' hw'; (go_simp; first | done | rfl)) ?_); (try simp only [Act.put, List.setIfInBounds_toArray, List.set_cons_zero, List.set_cons_succ])
          refine P3.q_two ?_ ?_
          · have hla : Sl (w6.alloc (.cells #[.int .i64 0, .int .i64 5, .int .i64 20, .int .i64 480, .int .i64 500, .int .i64 (-1), .int .i64 501] 3)) 1 (some ⟨w6.heap.size, 0, none⟩) 7 7 (ints [0, 5, 20, 480, 500, -1, 501]) := lit_sl rfl rfl (by simp [maxLen]) rfl
            have hna := hc.lt
            refine P3.q_one e5.out (P3.p_val rfl (by (go_simp; first | done | rfl | exact ⟨rfl, rfl⟩)) (blk_bel hq (bel_alloc (bel_refl _))) ?_)
            (try simp only [Act.put, List.setIfInBounds_toArray, List.set_cons_zero, List.set_cons_succ])
            replace hq := blk_bel hq (bel_alloc (o := .cells #[.int .i64 0, .int .i64 5, .int .i64 20, .int .i64 480, .int .i64 500, .int .i64 (-1), .int .i64 501] 3) (bel_refl _))
            replace hp := blk_bel hp (bel_alloc (o := .cells #[.int .i64 0, .int .i64 5, .int .i64 20, .int .i64 480, .int .i64 500, .int .i64 (-1), .int .i64 501] 3) (bel_refl _))
            replace hO := own_bel hO (bel_alloc (o := .cells #[.int .i64 0, .int .i64 5, .int .i64 20, .int .i64 480, .int .i64 500, .int .i64 (-1), .int .i64 501] 3) (bel_refl _))
            replace hc := hc.kept (bel_alloc (o := .cells #[.int .i64 0, .int .i64 5, .int .i64 20, .int .i64 480, .int .i64 500, .int .i64 (-1), .int .i64 501] 3) (bel_refl _))
            obtain ⟨w7, hw⟩ : ∃ w7, w6.alloc (.cells #[.int .i64 0, .int .i64 5, .int .i64 20, .int .i64 480, .int .i64 500, .int .i64 (-1), .int .i64 501] 3) = w7 := ⟨_, rfl⟩
            rw [hw] at hq hp hO hc hla ⊢
            clear hw
            refine P3.q_free e10.out (P3.p_free rfl (by intro w' hw'; (go_simp; first | done | rfl)) ?_); (try simp only [Act.put, List.setIfInBounds_toArray, List.set_cons_zero, List.set_cons_succ])
            refine P3.q_two ?_ ?_
            · have hT := hla.to (show (5 + (s1 : Int)).toNat ≤ 7 by omega)
              rw [ints_take1] at hT
              refine P3.q_one e11.out (P3.p_call rfl (by (go_simp; first | done | exact ⟨rfl, rfl⟩ | rfl)) ?_)
              refine (amongC w (w.heap.size + 1) A n c cs _ _ (5 + (s1 : Int)).toNat 7 _ w7 hC hc (by omega) hT (by omega) (ne_lit hna)).mono ?_
              rintro _ w8 ⟨f, rfl, hf, hc, hg⟩
              replace hf := List.mem_of_mem_take hf
              have hfb : -1 ≤ f ∧ f ≤ 501 := by simp at hf; omega
              clear hf hT hq1a hq1b hq1c hq1d
              replace hq := blk_gro hq hg (by intro e; injection e with e; omega)
              replace hp := blk_gro hp hg (by intro e; injection e with e; omega)
              replace hO := own_gro hO hg (by simp)
              replace hla := hla.gro hg (ne_lit hna)
              clear hla hna
              clear hg
              refine ⟨_, rfl, hq, ?_⟩
              (try simp only [Act.put, List.setIfInBounds_toArray, List.set_cons_zero, List.set_cons_succ])
              refine P3.q_two ?_ ?_
              · have hlb : Sl (w8.alloc (.cells #[.int .i64 1, .int .i64 4, .int .i64 8, .int .i64 0, .int .i64 49] 3)) 1 (some ⟨w8.heap.size, 0, none⟩) 5 5 (ints [1, 4, 8, 0, 49]) := lit_sl rfl rfl (by simp [maxLen]) rfl
                have hnb := hc.lt
                refine P3.q_one e13.out (P3.p_val rfl (by (go_simp; first | done | rfl | exact ⟨rfl, rfl⟩)) (blk_bel hq (bel_alloc (bel_refl _))) ?_)
                (try simp only [Act.put, List.setIfInBounds_toArray, List.set_cons_zero, List.set_cons_succ])
                replace hq := blk_bel hq (bel_alloc (o := .cells #[.int .i64 1, .int .i64 4, .int .i64 8, .int .i64 0, .int .i64 49] 3) (bel_refl _))
                replace hp := blk_bel hp (bel_alloc (o := .cells #[.int .i64 1, .int .i64 4, .int .i64 8, .int .i64 0, .int .i64 49] 3) (bel_refl _))
                replace hO := own_bel hO (bel_alloc (o := .cells #[.int .i64 1, .int .i64 4, .int .i64 8, .int .i64 0, .int .i64 49] 3) (bel_refl _))
                replace hc := hc.kept (bel_alloc (o := .cells #[.int .i64 1, .int .i64 4, .int .i64 8, .int .i64 0, .int .i64 49] 3) (bel_refl _))
                obtain ⟨w9, hw⟩ : ∃ w9, w8.alloc (.cells #[.int .i64 1, .int .i64 4, .int .i64 8, .int .i64 0, .int .i64 49] 3) = w9 := ⟨_, rfl⟩
                rw [hw] at hq hp hO hc hlb ⊢
                clear hw
                refine P3.q_one e15.out (P3.p_call rfl (by (go_simp; first | done | exact ⟨rfl, rfl⟩ | rfl)) ?_)
                refine (pickC w (w.heap.size + 1) A n c cs _ 24 w9 hC hc (by omega) (by omega)).mono ?_
                rintro _ w10 ⟨r2, rfl, ⟨hs0, hs1⟩, hc, hg⟩
                obtain ⟨s2, hs2, hq2a⟩ := pick_quot r2 hs0 hs1
                have hq2b : IntKind.i64.wrap (3 + (s2 : Int)) = 3 + (s2 : Int) := IntWalk.i64_in _ (by omega)
                have hq2c : (0 : Int) ≤ 3 + (s2 : Int) := by omega
                have hq2d : 3 + (s2 : Int) ≤ 5 := by omega
                clear hs0 hs1
                replace hq := blk_gro hq hg (by intro e; injection e with e; omega)
                replace hp := blk_gro hp hg (by intro e; injection e with e; omega)
                replace hO := own_gro hO hg (by simp)
                replace hlb := hlb.gro hg (ne_lit hnb)
                clear hg
                refine ⟨_, rfl, hq, ?_⟩
                (try simp only [Act.put, List.setIfInBounds_toArray, List.set_cons_zero, List.set_cons_succ])
                refine P3.q_free e16.out (P3.p_free rfl (by intro w' hw'; (go_simp; first | done | rfl)) ?_); (try simp only [Act.put, List.setIfInBounds_toArray, List.set_cons_zero, List.set_cons_succ])
                refine P3.q_free e17.out (P3.p_free rfl (by intro w' hw'; (go_simp; first | done | rfl)) ?_); (try simp only [Act.put, List.setIfInBounds_toArray, List.set_cons_zero, List.set_cons_succ])
                refine P3.q_free e18.out (P3.p_free rfl (by intro w' hw'; (go_simp; first | done | rfl)) ?_); (try simp only [Act.put, List.setIfInBounds_toArray, List.set_cons_zero, List.set_cons_succ])
                have hT := hlb.to (show (3 + (s2 : Int)).toNat ≤ 5 by omega)
                rw [ints_take1] at hT
                refine P3.q_one e19.out (P3.p_call rfl (by (go_simp; first | done | exact ⟨rfl, rfl⟩ | rfl)) ?_)
                refine (amongC w (w.heap.size + 1) A n c cs _ _ (3 + (s2 : Int)).toNat 5 _ w10 hC hc (by omega) hT (by omega) (ne_lit hnb)).mono ?_
                rintro _ w11 ⟨hh, rfl, hf, hc, hg⟩
                replace hf := List.mem_of_mem_take hf
                have hhb : 0 ≤ hh ∧ hh ≤ 49 := by simp at hf; omega
                clear hf hT hq2a hq2b hq2c hq2d
                replace hq := blk_gro hq hg (by intro e; injection e with e; omega)
                replace hp := blk_gro hp hg (by intro e; injection e with e; omega)
                replace hO := own_gro hO hg (by simp)
                replace hlb := hlb.gro hg (ne_lit hnb)
                clear hlb hnb
                clear hg
                refine ⟨_, rfl, hq, ?_⟩
                (try simp only [Act.put, List.setIfInBounds_toArray, List.set_cons_zero, List.set_cons_succ])
                refine P3.q_free e20.out (P3.p_free rfl (by intro w' hw'; (go_simp; first | done | rfl)) ?_); (try simp only [Act.put, List.setIfInBounds_toArray, List.set_cons_zero, List.set_cons_succ])
                obtain ⟨⟨k0, k1, k2, k3⟩, kz⟩ := cells4 hp
                have nq1 : ¬ q = w.heap.size := by omega
                refine P3.q_one e21.out (P3.p_store rfl (by (go_simp; first | done | rfl)) (by (repeat' (first | (with_reducible assumption) | (refine (heap_setCell_other _ _ _ _ (by simpa using nq1)).trans ?_)))) ?_)
                (try simp only [Act.put])
                refine P3.q_free e22.out (P3.p_free rfl (by intro w' hw'; (go_simp; first | done | rfl)) ?_); (try simp only [Act.put, List.setIfInBounds_toArray, List.set_cons_zero, List.set_cons_succ])
                refine P3.q_free e23.out (P3.p_free rfl (by intro w' hw'; (go_simp; first | done | rfl)) ?_); (try simp only [Act.put, List.setIfInBounds_toArray, List.set_cons_zero, List.set_cons_succ])
                refine P3.q_free e24.out (P3.p_free rfl (by intro w' hw'; (go_simp; first | done | rfl)) ?_); (try simp only [Act.put, List.setIfInBounds_toArray, List.set_cons_zero, List.set_cons_succ])
                refine P3.q_stop ?_
                go_wp2_with fail
                refine bodyPost_ret (v := .tuple #[.slice A' m c', .agg #[.int .i64 r.work, .int .i64 r.rest, .int .i64 r.span, .int .i64 r.most], .int .i64 v, .int .i64 f, .int .i64 hh]) (by simp [results, Try.results35, go_sem, *]) rfl ?_
                refine ⟨A', m, c', xs, r, v, f, hh, rfl, Own.mk_ (own_low (base := w.heap.size + 1 + 1) ?_ (by omega)), hm, hv, hfb, hhb, ?_⟩
                · (iterate 4 (refine own_set_far ?_ (by omega)))
                  exact hO
                · have hb := hc.bel
                  (repeat' (first | (with_reducible assumption) | (refine Below.setCell ?_ (by simp) _)))
              · refine P3.q_one e15.out (P3.p_call rfl (by (go_simp; first | done | exact ⟨rfl, rfl⟩ | rfl)) ?_)
                refine (pickC w (w.heap.size + 1) A n c cs _ 24 w8 hC hc (by omega) (by omega)).mono ?_
                rintro _ w9 ⟨r2, rfl, ⟨hs0, hs1⟩, hc, hg⟩
                obtain ⟨s2, hs2, hq2a⟩ := pick_quot r2 hs0 hs1
                have hq2b : IntKind.i64.wrap (3 + (s2 : Int)) = 3 + (s2 : Int) := IntWalk.i64_in _ (by omega)
                have hq2c : (0 : Int) ≤ 3 + (s2 : Int) := by omega
                have hq2d : 3 + (s2 : Int) ≤ 5 := by omega
                clear hs0 hs1
                replace hq := blk_gro hq hg (by intro e; injection e with e; omega)
                replace hp := blk_gro hp hg (by intro e; injection e with e; omega)
                replace hO := own_gro hO hg (by simp)
                clear hg
                refine ⟨_, rfl, hq, ?_⟩
                (try simp only [Act.put, List.setIfInBounds_toArray, List.set_cons_zero, List.set_cons_succ])
                refine P3.q_free e16.out (P3.p_free rfl (by intro w' hw'; (go_simp; first | done | rfl)) ?_); (try simp only [Act.put, List.setIfInBounds_toArray, List.set_cons_zero, List.set_cons_succ])
                refine P3.q_free e17.out (P3.p_free rfl (by intro w' hw'; (go_simp; first | done | rfl)) ?_); (try simp only [Act.put, List.setIfInBounds_toArray, List.set_cons_zero, List.set_cons_succ])
                have hlb : Sl (w9.alloc (.cells #[.int .i64 1, .int .i64 4, .int .i64 8, .int .i64 0, .int .i64 49] 3)) 1 (some ⟨w9.heap.size, 0, none⟩) 5 5 (ints [1, 4, 8, 0, 49]) := lit_sl rfl rfl (by simp [maxLen]) rfl
                have hnb := hc.lt
                refine P3.q_one e13.out (P3.p_val rfl (by (go_simp; first | done | rfl | exact ⟨rfl, rfl⟩)) (blk_bel hq (bel_alloc (bel_refl _))) ?_)
                (try simp only [Act.put, List.setIfInBounds_toArray, List.set_cons_zero, List.set_cons_succ])
                replace hq := blk_bel hq (bel_alloc (o := .cells #[.int .i64 1, .int .i64 4, .int .i64 8, .int .i64 0, .int .i64 49] 3) (bel_refl _))
                replace hp := blk_bel hp (bel_alloc (o := .cells #[.int .i64 1, .int .i64 4, .int .i64 8, .int .i64 0, .int .i64 49] 3) (bel_refl _))
                replace hO := own_bel hO (bel_alloc (o := .cells #[.int .i64 1, .int .i64 4, .int .i64 8, .int .i64 0, .int .i64 49] 3) (bel_refl _))
                replace hc := hc.kept (bel_alloc (o := .cells #[.int .i64 1, .int .i64 4, .int .i64 8, .int .i64 0, .int .i64 49] 3) (bel_refl _))
                obtain ⟨w10, hw⟩ : ∃ w10, w9.alloc (.cells #[.int .i64 1, .int .i64 4, .int .i64 8, .int .i64 0, .int .i64 49] 3) = w10 := ⟨_, rfl⟩
                rw [hw] at hq hp hO hc hlb ⊢
                clear hw
                refine P3.q_free e18.out (P3.p_free rfl (by intro w' hw'; (go_simp; first | done | rfl)) ?_); (try simp only [Act.put, List.setIfInBounds_toArray, List.set_cons_zero, List.set_cons_succ])
                have hT := hlb.to (show (3 + (s2 : Int)).toNat ≤ 5 by omega)
                rw [ints_take1] at hT
                refine P3.q_one e19.out (P3.p_call rfl (by (go_simp; first | done | exact ⟨rfl, rfl⟩ | rfl)) ?_)
                refine (amongC w (w.heap.size + 1) A n c cs _ _ (3 + (s2 : Int)).toNat 5 _ w10 hC hc (by omega) hT (by omega) (ne_lit hnb)).mono ?_
                rintro _ w11 ⟨hh, rfl, hf, hc, hg⟩
                replace hf := List.mem_of_mem_take hf
                have hhb : 0 ≤ hh ∧ hh ≤ 49 := by simp at hf; omega
                clear hf hT hq2a hq2b hq2c hq2d
                replace hq := blk_gro hq hg (by intro e; injection e with e; omega)
                replace hp := blk_gro hp hg (by intro e; injection e with e; omega)
                replace hO := own_gro hO hg (by simp)
                replace hlb := hlb.gro hg (ne_lit hnb)
                clear hlb hnb
                clear hg
                refine ⟨_, rfl, hq, ?_⟩
                (try simp only [Act.put, List.setIfInBounds_toArray, List.set_cons_zero, List.set_cons_succ])
                refine P3.q_free e20.out (P3.p_free rfl (by intro w' hw'; (go_simp; first | done | rfl)) ?_); (try simp only [Act.put, List.setIfInBounds_toArray, List.set_cons_zero, List.set_cons_succ])
                obtain ⟨⟨k0, k1, k2, k3⟩, kz⟩ := cells4 hp
                have nq1 : ¬ q = w.heap.size := by omega
                refine P3.q_one e21.out (P3.p_store rfl (by (go_simp; first | done | rfl)) (by (repeat' (first | (with_reducible assumption) | (refine (heap_setCell_other _ _ _ _ (by simpa using nq1)).trans ?_)))) ?_)
                (try simp only [Act.put])
                refine P3.q_free e22.out (P3.p_free rfl (by intro w' hw'; (go_simp; first | done | rfl)) ?_); (try simp only [Act.put, List.setIfInBounds_toArray, List.set_cons_zero, List.set_cons_succ])
                refine P3.q_free e23.out (P3.p_free rfl (by intro w' hw'; (go_simp; first | done | rfl)) ?_); (try simp only [Act.put, List.setIfInBounds_toArray, List.set_cons_zero, List.set_cons_succ])
                refine P3.q_free e24.out (P3.p_free rfl (by intro w' hw'; (go_simp; first | done | rfl)) ?_); (try simp only [Act.put, List.setIfInBounds_toArray, List.set_cons_zero, List.set_cons_succ])
                refine P3.q_stop ?_
                go_wp2_with fail
                refine bodyPost_ret (v := .tuple #[.slice A' m c', .agg #[.int .i64 r.work, .int .i64 r.rest, .int .i64 r.span, .int .i64 r.most], .int .i64 v, .int .i64 f, .int .i64 hh]) (by simp [results, Try.results35, go_sem, *]) rfl ?_
                refine ⟨A', m, c', xs, r, v, f, hh, rfl, Own.mk_ (own_low (base := w.heap.size + 1 + 1) ?_ (by omega)), hm, hv, hfb, hhb, ?_⟩
                · (iterate 4 (refine own_set_far ?_ (by omega)))
                  exact hO
                · have hb := hc.bel
                  (repeat' (first | (with_reducible assumption) | (refine Below.setCell ?_ (by simp) _)))
            · have hlb : Sl (w7.alloc (.cells #[.int .i64 1, .int .i64 4, .int .i64 8, .int .i64 0, .int .i64 49] 3)) 1 (some ⟨w7.heap.size, 0, none⟩) 5 5 (ints [1, 4, 8, 0, 49]) := lit_sl rfl rfl (by simp [maxLen]) rfl
              have hnb := hc.lt
              refine P3.q_one e13.out (P3.p_val rfl (by (go_simp; first | done | rfl | exact ⟨rfl, rfl⟩)) (blk_bel hq (bel_alloc (bel_refl _))) ?_)
              (try simp only [Act.put, List.setIfInBounds_toArray, List.set_cons_zero, List.set_cons_succ])
              replace hq := blk_bel hq (bel_alloc (o := .cells #[.int .i64 1, .int .i64 4, .int .i64 8, .int .i64 0, .int .i64 49] 3) (bel_refl _))
              replace hp := blk_bel hp (bel_alloc (o := .cells #[.int .i64 1, .int .i64 4, .int .i64 8, .int .i64 0, .int .i64 49] 3) (bel_refl _))
              replace hO := own_bel hO (bel_alloc (o := .cells #[.int .i64 1, .int .i64 4, .int .i64 8, .int .i64 0, .int .i64 49] 3) (bel_refl _))
              replace hc := hc.kept (bel_alloc (o := .cells #[.int .i64 1, .int .i64 4, .int .i64 8, .int .i64 0, .int .i64 49] 3) (bel_refl _))
              replace hla := hla.bel (bel_alloc (o := .cells #[.int .i64 1, .int .i64 4, .int .i64 8, .int .i64 0, .int .i64 49] 3) (bel_refl _))
              obtain ⟨w8, hw⟩ : ∃ w8, w7.alloc (.cells #[.int .i64 1, .int .i64 4, .int .i64 8, .int .i64 0, .int .i64 49] 3) = w8 := ⟨_, rfl⟩
              rw [hw] at hq hp hO hc hlb hla ⊢
              clear hw
              have hT := hla.to (show (5 + (s1 : Int)).toNat ≤ 7 by omega)
              rw [ints_take1] at hT
              refine P3.q_one e11.out (P3.p_call rfl (by (go_simp; first | done | exact ⟨rfl, rfl⟩ | rfl)) ?_)
              refine (amongC w (w.heap.size + 1) A n c cs _ _ (5 + (s1 : Int)).toNat 7 _ w8 hC hc (by omega) hT (by omega) (ne_lit hna)).mono ?_
              rintro _ w9 ⟨f, rfl, hf, hc, hg⟩
              replace hf := List.mem_of_mem_take hf
              have hfb : -1 ≤ f ∧ f ≤ 501 := by simp at hf; omega
              clear hf hT hq1a hq1b hq1c hq1d
              replace hq := blk_gro hq hg (by intro e; injection e with e; omega)
              replace hp := blk_gro hp hg (by intro e; injection e with e; omega)
              replace hO := own_gro hO hg (by simp)
              replace hla := hla.gro hg (ne_lit hna)
              replace hlb := hlb.gro hg (ne_lit hnb)
              clear hla hna
              clear hg
              refine ⟨_, rfl, hq, ?_⟩
              (try simp only [Act.put, List.setIfInBounds_toArray, List.set_cons_zero, List.set_cons_succ])
              refine P3.q_one e15.out (P3.p_call rfl (by (go_simp; first | done | exact ⟨rfl, rfl⟩ | rfl)) ?_)
              refine (pickC w (w.heap.size + 1) A n c cs _ 24 w9 hC hc (by omega) (by omega)).mono ?_
              rintro _ w10 ⟨r2, rfl, ⟨hs0, hs1⟩, hc, hg⟩
              obtain ⟨s2, hs2, hq2a⟩ := pick_quot r2 hs0 hs1
              have hq2b : IntKind.i64.wrap (3 + (s2 : Int)) = 3 + (s2 : Int) := IntWalk.i64_in _ (by omega)
              have hq2c : (0 : Int) ≤ 3 + (s2 : Int) := by omega
              have hq2d : 3 + (s2 : Int) ≤ 5 := by omega
              clear hs0 hs1
              replace hq := blk_gro hq hg (by intro e; injection e with e; omega)
              replace hp := blk_gro hp hg (by intro e; injection e with e; omega)
              replace hO := own_gro hO hg (by simp)
              replace hlb := hlb.gro hg (ne_lit hnb)
              clear hg
              refine ⟨_, rfl, hq, ?_⟩
              (try simp only [Act.put, List.setIfInBounds_toArray, List.set_cons_zero, List.set_cons_succ])
              refine P3.q_free e16.out (P3.p_free rfl (by intro w' hw'; (go_simp; first | done | rfl)) ?_); (try simp only [Act.put, List.setIfInBounds_toArray, List.set_cons_zero, List.set_cons_succ])
              refine P3.q_free e17.out (P3.p_free rfl (by intro w' hw'; (go_simp; first | done | rfl)) ?_); (try simp only [Act.put, List.setIfInBounds_toArray, List.set_cons_zero, List.set_cons_succ])
              refine P3.q_free e18.out (P3.p_free rfl (by intro w' hw'; (go_simp; first | done | rfl)) ?_); (try simp only [Act.put, List.setIfInBounds_toArray, List.set_cons_zero, List.set_cons_succ])
              have hT := hlb.to (show (3 + (s2 : Int)).toNat ≤ 5 by omega)
              rw [ints_take1] at hT
              refine P3.q_one e19.out (P3.p_call rfl (by (go_simp; first | done | exact ⟨rfl, rfl⟩ | rfl)) ?_)
              refine (amongC w (w.heap.size + 1) A n c cs _ _ (3 + (s2 : Int)).toNat 5 _ w10 hC hc (by omega) hT (by omega) (ne_lit hnb)).mono ?_
              rintro _ w11 ⟨hh, rfl, hf, hc, hg⟩
              replace hf := List.mem_of_mem_take hf
              have hhb : 0 ≤ hh ∧ hh ≤ 49 := by simp at hf; omega
              clear hf hT hq2a hq2b hq2c hq2d
              replace hq := blk_gro hq hg (by intro e; injection e with e; omega)
              replace hp := blk_gro hp hg (by intro e; injection e with e; omega)
              replace hO := own_gro hO hg (by simp)
              replace hlb := hlb.gro hg (ne_lit hnb)
              clear hlb hnb
              clear hg
              refine ⟨_, rfl, hq, ?_⟩
              (try simp only [Act.put, List.setIfInBounds_toArray, List.set_cons_zero, List.set_cons_succ])
              refine P3.q_free e20.out (P3.p_free rfl (by intro w' hw'; (go_simp; first | done | rfl)) ?_); (try simp only [Act.put, List.setIfInBounds_toArray, List.set_cons_zero, List.set_cons_succ])
              obtain ⟨⟨k0, k1, k2, k3⟩, kz⟩ := cells4 hp
              have nq1 : ¬ q = w.heap.size := by omega
              refine P3.q_one e21.out (P3.p_store rfl (by (go_simp; first | done | rfl)) (by (repeat' (first | (with_reducible assumption) | (refine (heap_setCell_other _ _ _ _ (by simpa using nq1)).trans ?_)))) ?_)
              (try simp only [Act.put])
              refine P3.q_free e22.out (P3.p_free rfl (by intro w' hw'; (go_simp; first | done | rfl)) ?_); (try simp only [Act.put, List.setIfInBounds_toArray, List.set_cons_zero, List.set_cons_succ])
              refine P3.q_free e23.out (P3.p_free rfl (by intro w' hw'; (go_simp; first | done | rfl)) ?_); (try simp only [Act.put, List.setIfInBounds_toArray, List.set_cons_zero, List.set_cons_succ])
              refine P3.q_free e24.out (P3.p_free rfl (by intro w' hw'; (go_simp; first | done | rfl)) ?_); (try simp only [Act.put, List.setIfInBounds_toArray, List.set_cons_zero, List.set_cons_succ])
              refine P3.q_stop ?_
              go_wp2_with fail
              refine bodyPost_ret (v := .tuple #[.slice A' m c', .agg #[.int .i64 r.work, .int .i64 r.rest, .int .i64 r.span, .int .i64 r.most], .int .i64 v, .int .i64 f, .int .i64 hh]) (by simp [results, Try.results35, go_sem, *]) rfl ?_
              refine ⟨A', m, c', xs, r, v, f, hh, rfl, Own.mk_ (own_low (base := w.heap.size + 1 + 1) ?_ (by omega)), hm, hv, hfb, hhb, ?_⟩
              · (iterate 4 (refine own_set_far ?_ (by omega)))
                exact hO
              · have hb := hc.bel
                (repeat' (first | (with_reducible assumption) | (refine Below.setCell ?_ (by simp) _)))
          · have hlb : Sl (w6.alloc (.cells #[.int .i64 1, .int .i64 4, .int .i64 8, .int .i64 0, .int .i64 49] 3)) 1 (some ⟨w6.heap.size, 0, none⟩) 5 5 (ints [1, 4, 8, 0, 49]) := lit_sl rfl rfl (by simp [maxLen]) rfl
            have hnb := hc.lt
            refine P3.q_one e13.out (P3.p_val rfl (by (go_simp; first | done | rfl | exact ⟨rfl, rfl⟩)) (blk_bel hq (bel_alloc (bel_refl _))) ?_)
            (try simp only [Act.put, List.setIfInBounds_toArray, List.set_cons_zero, List.set_cons_succ])
            replace hq := blk_bel hq (bel_alloc (o := .cells #[.int .i64 1, .int .i64 4, .int .i64 8, .int .i64 0, .int .i64 49] 3) (bel_refl _))
            replace hp := blk_bel hp (bel_alloc (o := .cells #[.int .i64 1, .int .i64 4, .int .i64 8, .int .i64 0, .int .i64 49] 3) (bel_refl _))
            replace hO := own_bel hO (bel_alloc (o := .cells #[.int .i64 1, .int .i64 4, .int .i64 8, .int .i64 0, .int .i64 49] 3) (bel_refl _))
            replace hc := hc.kept (bel_alloc (o := .cells #[.int .i64 1, .int .i64 4, .int .i64 8, .int .i64 0, .int .i64 49] 3) (bel_refl _))
            obtain ⟨w7, hw⟩ : ∃ w7, w6.alloc (.cells #[.int .i64 1, .int .i64 4, .int .i64 8, .int .i64 0, .int .i64 49] 3) = w7 := ⟨_, rfl⟩
            rw [hw] at hq hp hO hc hlb ⊢
            clear hw
            have hla : Sl (w7.alloc (.cells #[.int .i64 0, .int .i64 5, .int .i64 20, .int .i64 480, .int .i64 500, .int .i64 (-1), .int .i64 501] 3)) 1 (some ⟨w7.heap.size, 0, none⟩) 7 7 (ints [0, 5, 20, 480, 500, -1, 501]) := lit_sl rfl rfl (by simp [maxLen]) rfl
            have hna := hc.lt
            refine P3.q_one e5.out (P3.p_val rfl (by (go_simp; first | done | rfl | exact ⟨rfl, rfl⟩)) (blk_bel hq (bel_alloc (bel_refl _))) ?_)
            (try simp only [Act.put, List.setIfInBounds_toArray, List.set_cons_zero, List.set_cons_succ])
            replace hq := blk_bel hq (bel_alloc (o := .cells #[.int .i64 0, .int .i64 5, .int .i64 20, .int .i64 480, .int .i64 500, .int .i64 (-1), .int .i64 501] 3) (bel_refl _))
            replace hp := blk_bel hp (bel_alloc (o := .cells #[.int .i64 0, .int .i64 5, .int .i64 20, .int .i64 480, .int .i64 500, .int .i64 (-1), .int .i64 501] 3) (bel_refl _))
            replace hO := own_bel hO (bel_alloc (o := .cells #[.int .i64 0, .int .i64 5, .int .i64 20, .int .i64 480, .int .i64 500, .int .i64 (-1), .int .i64 501] 3) (bel_refl _))
            replace hc := hc.kept (bel_alloc (o := .cells #[.int .i64 0, .int .i64 5, .int .i64 20, .int .i64 480, .int .i64 500, .int .i64 (-1), .int .i64 501] 3) (bel_refl _))
            replace hlb := hlb.bel (bel_alloc (o := .cells #[.int .i64 0, .int .i64 5, .int .i64 20, .int .i64 480, .int .i64 500, .int .i64 (-1), .int .i64 501] 3) (bel_refl _))
            obtain ⟨w8, hw⟩ : ∃ w8, w7.alloc (.cells #[.int .i64 0, .int .i64 5, .int .i64 20, .int .i64 480, .int .i64 500, .int .i64 (-1), .int .i64 501] 3) = w8 := ⟨_, rfl⟩
            rw [hw] at hq hp hO hc hla hlb ⊢
            clear hw
            refine P3.q_free e10.out (P3.p_free rfl (by intro w' hw'; (go_simp; first | done | rfl)) ?_); (try simp only [Act.put, List.setIfInBounds_toArray, List.set_cons_zero, List.set_cons_succ])
            have hT := hla.to (show (5 + (s1 : Int)).toNat ≤ 7 by omega)
            rw [ints_take1] at hT
            refine P3.q_one e11.out (P3.p_call rfl (by (go_simp; first | done | exact ⟨rfl, rfl⟩ | rfl)) ?_)
            refine (amongC w (w.heap.size + 1) A n c cs _ _ (5 + (s1 : Int)).toNat 7 _ w8 hC hc (by omega) hT (by omega) (ne_lit hna)).mono ?_
            rintro _ w9 ⟨f, rfl, hf, hc, hg⟩
            replace hf := List.mem_of_mem_take hf
            have hfb : -1 ≤ f ∧ f ≤ 501 := by simp at hf; omega
            clear hf hT hq1a hq1b hq1c hq1d
            replace hq := blk_gro hq hg (by intro e; injection e with e; omega)
            replace hp := blk_gro hp hg (by intro e; injection e with e; omega)
            replace hO := own_gro hO hg (by simp)
            replace hla := hla.gro hg (ne_lit hna)
            replace hlb := hlb.gro hg (ne_lit hnb)
            clear hla hna
            clear hg
            refine ⟨_, rfl, hq, ?_⟩
            (try simp only [Act.put, List.setIfInBounds_toArray, List.set_cons_zero, List.set_cons_succ])
            refine P3.q_one e15.out (P3.p_call rfl (by (go_simp; first | done | exact ⟨rfl, rfl⟩ | rfl)) ?_)
            refine (pickC w (w.heap.size + 1) A n c cs _ 24 w9 hC hc (by omega) (by omega)).mono ?_
            rintro _ w10 ⟨r2, rfl, ⟨hs0, hs1⟩, hc, hg⟩
            obtain ⟨s2, hs2, hq2a⟩ := pick_quot r2 hs0 hs1
            have hq2b : IntKind.i64.wrap (3 + (s2 : Int)) = 3 + (s2 : Int) := IntWalk.i64_in _ (by omega)
            have hq2c : (0 : Int) ≤ 3 + (s2 : Int) := by omega
            have hq2d : 3 + (s2 : Int) ≤ 5 := by omega
            clear hs0 hs1
            replace hq := blk_gro hq hg (by intro e; injection e with e; omega)
            replace hp := blk_gro hp hg (by intro e; injection e with e; omega)
            replace hO := own_gro hO hg (by simp)
            replace hlb := hlb.gro hg (ne_lit hnb)
            clear hg
            refine ⟨_, rfl, hq, ?_⟩
            (try simp only [Act.put, List.setIfInBounds_toArray, List.set_cons_zero, List.set_cons_succ])
            refine P3.q_free e16.out (P3.p_free rfl (by intro w' hw'; (go_simp; first | done | rfl)) ?_); (try simp only [Act.put, List.setIfInBounds_toArray, List.set_cons_zero, List.set_cons_succ])
            refine P3.q_free e17.out (P3.p_free rfl (by intro w' hw'; (go_simp; first | done | rfl)) ?_); (try simp only [Act.put, List.setIfInBounds_toArray, List.set_cons_zero, List.set_cons_succ])
            refine P3.q_free e18.out (P3.p_free rfl (by intro w' hw'; (go_simp; first | done | rfl)) ?_); (try simp only [Act.put, List.setIfInBounds_toArray, List.set_cons_zero, List.set_cons_succ])
            have hT := hlb.to (show (3 + (s2 : Int)).toNat ≤ 5 by omega)
            rw [ints_take1] at hT
            refine P3.q_one e19.out (P3.p_call rfl (by (go_simp; first | done | exact ⟨rfl, rfl⟩ | rfl)) ?_)
            refine (amongC w (w.heap.size + 1) A n c cs _ _ (3 + (s2 : Int)).toNat 5 _ w10 hC hc (by omega) hT (by omega) (ne_lit hnb)).mono ?_
            rintro _ w11 ⟨hh, rfl, hf, hc, hg⟩
            replace hf := List.mem_of_mem_take hf
            have hhb : 0 ≤ hh ∧ hh ≤ 49 := by simp at hf; omega
            clear hf hT hq2a hq2b hq2c hq2d
            replace hq := blk_gro hq hg (by intro e; injection e with e; omega)
            replace hp := blk_gro hp hg (by intro e; injection e with e; omega)
            replace hO := own_gro hO hg (by simp)
            replace hlb := hlb.gro hg (ne_lit hnb)
            clear hlb hnb
            clear hg
            refine ⟨_, rfl, hq, ?_⟩
            (try simp only [Act.put, List.setIfInBounds_toArray, List.set_cons_zero, List.set_cons_succ])
            refine P3.q_free e20.out (P3.p_free rfl (by intro w' hw'; (go_simp; first | done | rfl)) ?_); (try simp only [Act.put, List.setIfInBounds_toArray, List.set_cons_zero, List.set_cons_succ])
            obtain ⟨⟨k0, k1, k2, k3⟩, kz⟩ := cells4 hp
            have nq1 : ¬ q = w.heap.size := by omega
            refine P3.q_one e21.out (P3.p_store rfl (by (go_simp; first | done | rfl)) (by (repeat' (first | (with_reducible assumption) | (refine (heap_setCell_other _ _ _ _ (by simpa using nq1)).trans ?_)))) ?_)
            (try simp only [Act.put])
            refine P3.q_free e22.out (P3.p_free rfl (by intro w' hw'; (go_simp; first | done | rfl)) ?_); (try simp only [Act.put, List.setIfInBounds_toArray, List.set_cons_zero, List.set_cons_succ])
            refine P3.q_free e23.out (P3.p_free rfl (by intro w' hw'; (go_simp; first | done | rfl)) ?_); (try simp only [Act.put, List.setIfInBounds_toArray, List.set_cons_zero, List.set_cons_succ])
            refine P3.q_free e24.out (P3.p_free rfl (by intro w' hw'; (go_simp; first | done | rfl)) ?_); (try simp only [Act.put, List.setIfInBounds_toArray, List.set_cons_zero, List.set_cons_succ])
            refine P3.q_stop ?_
            go_wp2_with fail
            refine bodyPost_ret (v := .tuple #[.slice A' m c', .agg #[.int .i64 r.work, .int .i64 r.rest, .int .i64 r.span, .int .i64 r.most], .int .i64 v, .int .i64 f, .int .i64 hh]) (by simp [results, Try.results35, go_sem, *]) rfl ?_
            refine ⟨A', m, c', xs, r, v, f, hh, rfl, Own.mk_ (own_low (base := w.heap.size + 1 + 1) ?_ (by omega)), hm, hv, hfb, hhb, ?_⟩
            · (iterate 4 (refine own_set_far ?_ (by omega)))
              exact hO
            · have hb := hc.bel
              (repeat' (first | (with_reducible assumption) | (refine Below.setCell ?_ (by simp) _)))
        · have hlb : Sl (w5.alloc (.cells #[.int .i64 1, .int .i64 4, .int .i64 8, .int .i64 0, .int .i64 49] 3)) 1 (some ⟨w5.heap.size, 0, none⟩) 5 5 (ints [1, 4, 8, 0, 49]) := lit_sl rfl rfl (by simp [maxLen]) rfl
          have hnb := hc.lt
          refine P3.q_one e13.out (P3.p_val rfl (by (go_simp; first | done | rfl | exact ⟨rfl, rfl⟩)) (blk_bel hq (bel_alloc (bel_refl _))) ?_)
          (try simp only [Act.put, List.setIfInBounds_toArray, List.set_cons_zero, List.set_cons_succ])
          replace hq := blk_bel hq (bel_alloc (o := .cells #[.int .i64 1, .int .i64 4, .int .i64 8, .int .i64 0, .int .i64 49] 3) (bel_refl _))
          replace hp := blk_bel hp (bel_alloc (o := .cells #[.int .i64 1, .int .i64 4, .int .i64 8, .int .i64 0, .int .i64 49] 3) (bel_refl _))
          replace hO := own_bel hO (bel_alloc (o := .cells #[.int .i64 1, .int .i64 4, .int .i64 8, .int .i64 0, .int .i64 49] 3) (bel_refl _))
          replace hc := hc.kept (bel_alloc (o := .cells #[.int .i64 1, .int .i64 4, .int .i64 8, .int .i64 0, .int .i64 49] 3) (bel_refl _))
          obtain ⟨w6, hw⟩ : ∃ w6, w5.alloc (.cells #[.int .i64 1, .int .i64 4, .int .i64 8, .int .i64 0, .int .i64 49] 3) = w6 := ⟨_, rfl⟩
          rw [hw] at hq hp hO hc hlb ⊢
          clear hw
          refine P3.q_two ?_ ?_
          · have hla : Sl (w6.alloc (.cells #[.int .i64 0, .int .i64 5, .int .i64 20, .int .i64 480, .int .i64 500, .int .i64 (-1), .int .i64 501] 3)) 1 (some ⟨w6.heap.size, 0, none⟩) 7 7 (ints [0, 5, 20, 480, 500, -1, 501]) := lit_sl rfl rfl (by simp [maxLen]) rfl
            have hna := hc.lt
            refine P3.q_one e5.out (P3.p_val rfl (by (go_simp; first | done | rfl | exact ⟨rfl, rfl⟩)) (blk_bel hq (bel_alloc (bel_refl _))) ?_)
            (try simp only [Act.put, List.setIfInBounds_toArray, List.set_cons_zero, List.set_cons_succ])
            replace hq := blk_bel hq (bel_alloc (o := .cells #[.int .i64 0, .int .i64 5, .int .i64 20, .int .i64 480, .int .i64 500, .int .i64 (-1), .int .i64 501] 3) (bel_refl _))
            replace hp := blk_bel hp (bel_alloc (o := .cells #[.int .i64 0, .int .i64 5, .int .i64 20, .int .i64 480, .int .i64 500, .int .i64 (-1), .int .i64 501] 3) (bel_refl _))
            replace hO := own_bel hO (bel_alloc (o := .cells #[.int .i64 0, .int .i64 5, .int .i64 20, .int .i64 480, .int .i64 500, .int .i64 (-1), .int .i64 501] 3) (bel_refl _))
            replace hc := hc.kept (bel_alloc (o := .cells #[.int .i64 0, .int .i64 5, .int .i64 20, .int .i64 480, .int .i64 500, .int .i64 (-1), .int .i64 501] 3) (bel_refl _))
            replace hlb := hlb.bel (bel_alloc (o := .cells #[.int .i64 0, .int .i64 5, .int .i64 20, .int .i64 480, .int .i64 500, .int .i64 (-1), .int .i64 501] 3) (bel_refl _))
            obtain ⟨w7, hw⟩ : ∃ w7, w6.alloc (.cells #[.int .i64 0, .int .i64 5, .int .i64 20, .int .i64 480, .int .i64 500, .int .i64 (-1), .int .i64 501] 3) = w7 := ⟨_, rfl⟩
            rw [hw] at hq hp hO hc hla hlb ⊢
            clear hw
            refine P3.q_one e7.out (P3.p_call rfl (by (go_simp; first | done | exact ⟨rfl, rfl⟩ | rfl)) ?_)
            refine (pickC w (w.heap.size + 1) A n c cs _ 24 w7 hC hc (by omega) (by omega)).mono ?_
            rintro _ w8 ⟨r1, rfl, ⟨hr0, hr1⟩, hc, hg⟩
            obtain ⟨s1, hs1, hq1a⟩ := pick_quot r1 hr0 hr1
            have hq1b : IntKind.i64.wrap (5 + (s1 : Int)) = 5 + (s1 : Int) := IntWalk.i64_in _ (by omega)
            have hq1c : (0 : Int) ≤ 5 + (s1 : Int) := by omega
            have hq1d : 5 + (s1 : Int) ≤ 7 := by omega
            clear hr0 hr1
            replace hq := blk_gro hq hg (by intro e; injection e with e; omega)
            replace hp := blk_gro hp hg (by intro e; injection e with e; omega)
            replace hO := own_gro hO hg (by simp)
            replace hla := hla.gro hg (ne_lit hna)
            replace hlb := hlb.gro hg (ne_lit hnb)
            clear hg
            refine ⟨_, rfl, hq, ?_⟩
            (try simp only [Act.put, List.setIfInBounds_toArray, List.set_cons_zero, List.set_cons_succ])
            refine P3.q_free e8.out (P3.p_free rfl (by intro w' hw'; (go_simp; first | done | rfl)) ?_); (try simp only [Act.put, List.setIfInBounds_toArray, List.set_cons_zero, List.set_cons_succ])
            refine P3.q_free e9.out (P3.p_free rfl (by intro w' hw'; (go_simp; first | done | rfl)) ?_); (try simp only [Act.put, List.setIfInBounds_toArray, List.set_cons_zero, List.set_cons_succ])
            refine P3.q_free e10.out (P3.p_free rfl (by intro w' hw'; (go_simp; first | done | rfl)) ?_); (try simp only [Act.put, List.setIfInBounds_toArray, List.set_cons_zero, List.set_cons_succ])
            have hT := hla.to (show (5 + (s1 : Int)).toNat ≤ 7 by omega)
            rw [ints_take1] at hT
            refine P3.q_one e11.out (P3.p_call rfl (by (go_simp; first | done | exact ⟨rfl, rfl⟩ | rfl)) ?_)
            refine (amongC w (w.heap.size + 1) A n c cs _ _ (5 + (s1 : Int)).toNat 7 _ w8 hC hc (by omega) hT (by omega) (ne_lit hna)).mono ?_
            rintro _ w9 ⟨f, rfl, hf, hc, hg⟩
            replace hf := List.mem_of_mem_take hf
            have hfb : -1 ≤ f ∧ f ≤ 501 := by simp at hf; omega
            clear hf hT hq1a hq1b hq1c hq1d
            replace hq := blk_gro hq hg (by intro e; injection e with e; omega)
            replace hp := blk_gro hp hg (by intro e; injection e with e; omega)
            replace hO := own_gro hO hg (by simp)
            replace hla := hla.gro hg (ne_lit hna)
            replace hlb := hlb.gro hg (ne_lit hnb)
            clear hla hna
            clear hg
            refine ⟨_, rfl, hq, ?_⟩
            (try simp only [Act.put, List.setIfInBounds_toArray, List.set_cons_zero, List.set_cons_succ])
            refine P3.q_one e15.out (P3.p_call rfl (by (go_simp; first | done | exact ⟨rfl, rfl⟩ | rfl)) ?_)
            refine (pickC w (w.heap.size + 1) A n c cs _ 24 w9 hC hc (by omega) (by omega)).mono ?_
            rintro _ w10 ⟨r2, rfl, ⟨hs0, hs1⟩, hc, hg⟩
            obtain ⟨s2, hs2, hq2a⟩ := pick_quot r2 hs0 hs1
            have hq2b : IntKind.i64.wrap (3 + (s2 : Int)) = 3 + (s2 : Int) := IntWalk.i64_in _ (by omega)
            have hq2c : (0 : Int) ≤ 3 + (s2 : Int) := by omega
            have hq2d : 3 + (s2 : Int) ≤ 5 := by omega
            clear hs0 hs1
            replace hq := blk_gro hq hg (by intro e; injection e with e; omega)
            replace hp := blk_gro hp hg (by intro e; injection e with e; omega)
            replace hO := own_gro hO hg (by simp)
            replace hlb := hlb.gro hg (ne_lit hnb)
            clear hg
            refine ⟨_, rfl, hq, ?_⟩
            (try simp only [Act.put, List.setIfInBounds_toArray, List.set_cons_zero, List.set_cons_succ])
            refine P3.q_free e16.out (P3.p_free rfl (by intro w' hw'; (go_simp; first | done | rfl)) ?_); (try simp only [Act.put, List.setIfInBounds_toArray, List.set_cons_zero, List.set_cons_succ])
            refine P3.q_free e17.out (P3.p_free rfl (by intro w' hw'; (go_simp; first | done | rfl)) ?_); (try simp only [Act.put, List.setIfInBounds_toArray, List.set_cons_zero, List.set_cons_succ])
            refine P3.q_free e18.out (P3.p_free rfl (by intro w' hw'; (go_simp; first | done | rfl)) ?_); (try simp only [Act.put, List.setIfInBounds_toArray, List.set_cons_zero, List.set_cons_succ])
            have hT := hlb.to (show (3 + (s2 : Int)).toNat ≤ 5 by omega)
            rw [ints_take1] at hT
            refine P3.q_one e19.out (P3.p_call rfl (by (go_simp; first | done | exact ⟨rfl, rfl⟩ | rfl)) ?_)
            refine (amongC w (w.heap.size + 1) A n c cs _ _ (3 + (s2 : Int)).toNat 5 _ w10 hC hc (by omega) hT (by omega) (ne_lit hnb)).mono ?_
            rintro _ w11 ⟨hh, rfl, hf, hc, hg⟩
            replace hf := List.mem_of_mem_take hf
            have hhb : 0 ≤ hh ∧ hh ≤ 49 := by simp at hf; omega
            clear hf hT hq2a hq2b hq2c hq2d
            replace hq := blk_gro hq hg (by intro e; injection e with e; omega)
            replace hp := blk_gro hp hg (by intro e; injection e with e; omega)
            replace hO := own_gro hO hg (by simp)
            replace hlb := hlb.gro hg (ne_lit hnb)
            clear hlb hnb
            clear hg
            refine ⟨_, rfl, hq, ?_⟩
            (try simp only [Act.put, List.setIfInBounds_toArray, List.set_cons_zero, List.set_cons_succ])
            refine P3.q_free e20.out (P3.p_free rfl (by intro w' hw'; (go_simp; first | done | rfl)) ?_); (try simp only [Act.put, List.setIfInBounds_toArray, List.set_cons_zero, List.set_cons_succ])
            obtain ⟨⟨k0, k1, k2, k3⟩, kz⟩ := cells4 hp
            have nq1 : ¬ q = w.heap.size := by omega
            refine P3.q_one e21.out (P3.p_store rfl (by (go_simp; first | done | rfl)) (by (repeat' (first | (with_reducible assumption) | (refine (heap_setCell_other _ _ _ _ (by simpa using nq1)).trans ?_)))) ?_)
            (try simp only [Act.put])
            refine P3.q_free e22.out (P3.p_free rfl (by intro w' hw'; (go_simp; first | done | rfl)) ?_); (try simp only [Act.put, List.setIfInBounds_toArray, List.set_cons_zero, List.set_cons_succ])
            refine P3.q_free e23.out (P3.p_free rfl (by intro w' hw'; (go_simp; first | done | rfl)) ?_); (try simp only [Act.put, List.setIfInBounds_toArray, List.set_cons_zero, List.set_cons_succ])
            refine P3.q_free e24.out (P3.p_free rfl (by intro w' hw'; (go_simp; first | done | rfl)) ?_); (try simp only [Act.put, List.setIfInBounds_toArray, List.set_cons_zero, List.set_cons_succ])
            refine P3.q_stop ?_
            go_wp2_with fail
            refine bodyPost_ret (v := .tuple #[.slice A' m c', .agg #[.int .i64 r.work, .int .i64 r.rest, .int .i64 r.span, .int .i64 r.most], .int .i64 v, .int .i64 f, .int .i64 hh]) (by simp [results, Try.results35, go_sem, *]) rfl ?_
            refine ⟨A', m, c', xs, r, v, f, hh, rfl, Own.mk_ (own_low (base := w.heap.size + 1 + 1) ?_ (by omega)), hm, hv, hfb, hhb, ?_⟩
            · (iterate 4 (refine own_set_far ?_ (by omega)))
              exact hO
            · have hb := hc.bel
              (repeat' (first | (with_reducible assumption) | (refine Below.setCell ?_ (by simp) _)))
          · refine P3.q_one e7.out (P3.p_call rfl (by (go_simp; first | done | exact ⟨rfl, rfl⟩ | rfl)) ?_)
            refine (pickC w (w.heap.size + 1) A n c cs _ 24 w6 hC hc (by omega) (by omega)).mono ?_
            rintro _ w7 ⟨r1, rfl, ⟨hr0, hr1⟩, hc, hg⟩
            obtain ⟨s1, hs1, hq1a⟩ := pick_quot r1 hr0 hr1
            have hq1b : IntKind.i64.wrap (5 + (s1 : Int)) = 5 + (s1 : Int) := IntWalk.i64_in _ (by omega)
            have hq1c : (0 : Int) ≤ 5 + (s1 : Int) := by omega
            have hq1d : 5 + (s1 : Int) ≤ 7 := by omega
            clear hr0 hr1
            replace hq := blk_gro hq hg (by intro e; injection e with e; omega)
            replace hp := blk_gro hp hg (by intro e; injection e with e; omega)
            replace hO := own_gro hO hg (by simp)
            replace hlb := hlb.gro hg (ne_lit hnb)
            clear hg
            refine ⟨_, rfl, hq, ?_⟩
            (try simp only [Act.put, List.setIfInBounds_toArray, List.set_cons_zero, List.set_cons_succ])
            refine P3.q_free e8.out (P3.p_free rfl (by intro w' hw'; (go_simp; first | done | rfl)) ?_); (try simp only [Act.put, List.setIfInBounds_toArray, List.set_cons_zero, List.set_cons_succ])
            refine P3.q_free e9.out (P3.p_free rfl (by intro w' hw'; (go_simp; first | done | rfl)) ?_); (try simp only [Act.put, List.setIfInBounds_toArray, List.set_cons_zero, List.set_cons_succ])
            have hla : Sl (w7.alloc (.cells #[.int .i64 0, .int .i64 5, .int .i64 20, .int .i64 480, .int .i64 500, .int .i64 (-1), .int .i64 501] 3)) 1 (some ⟨w7.heap.size, 0, none⟩) 7 7 (ints [0, 5, 20, 480, 500, -1, 501]) := lit_sl rfl rfl (by simp [maxLen]) rfl
            have hna := hc.lt
            refine P3.q_one e5.out (P3.p_val rfl (by (go_simp; first | done | rfl | exact ⟨rfl, rfl⟩)) (blk_bel hq (bel_alloc (bel_refl _))) ?_)
            (try simp only [Act.put, List.setIfInBounds_toArray, List.set_cons_zero, List.set_cons_succ])
            replace hq := blk_bel hq (bel_alloc (o := .cells #[.int .i64 0, .int .i64 5, .int .i64 20, .int .i64 480, .int .i64 500, .int .i64 (-1), .int .i64 501] 3) (bel_refl _))
            replace hp := blk_bel hp (bel_alloc (o := .cells #[.int .i64 0, .int .i64 5, .int .i64 20, .int .i64 480, .int .i64 500, .int .i64 (-1), .int .i64 501] 3) (bel_refl _))
            replace hO := own_bel hO (bel_alloc (o := .cells #[.int .i64 0, .int .i64 5, .int .i64 20, .int .i64 480, .int .i64 500, .int .i64 (-1), .int .i64 501] 3) (bel_refl _))
            replace hc := hc.kept (bel_alloc (o := .cells #[.int .i64 0, .int .i64 5, .int .i64 20, .int .i64 480, .int .i64 500, .int .i64 (-1), .int .i64 501] 3) (bel_refl _))
            replace hlb := hlb.bel (bel_alloc (o := .cells #[.int .i64 0, .int .i64 5, .int .i64 20, .int .i64 480, .int .i64 500, .int .i64 (-1), .int .i64 501] 3) (bel_refl _))
            obtain ⟨w8, hw⟩ : ∃ w8, w7.alloc (.cells #[.int .i64 0, .int .i64 5, .int .i64 20, .int .i64 480, .int .i64 500, .int .i64 (-1), .int .i64 501] 3) = w8 := ⟨_, rfl⟩
            rw [hw] at hq hp hO hc hla hlb ⊢
            clear hw
            refine P3.q_free e10.out (P3.p_free rfl (by intro w' hw'; (go_simp; first | done | rfl)) ?_); (try simp only [Act.put, List.setIfInBounds_toArray, List.set_cons_zero, List.set_cons_succ])
            have hT := hla.to (show (5 + (s1 : Int)).toNat ≤ 7 by omega)
            rw [ints_take1] at hT
            refine P3.q_one e11.out (P3.p_call rfl (by (go_simp; first | done | exact ⟨rfl, rfl⟩ | rfl)) ?_)
            refine (amongC w (w.heap.size + 1) A n c cs _ _ (5 + (s1 : Int)).toNat 7 _ w8 hC hc (by omega) hT (by omega) (ne_lit hna)).mono ?_
            rintro _ w9 ⟨f, rfl, hf, hc, hg⟩
            replace hf := List.mem_of_mem_take hf
            have hfb : -1 ≤ f ∧ f ≤ 501 := by simp at hf; omega
            clear hf hT hq1a hq1b hq1c hq1d
            replace hq := blk_gro hq hg (by intro e; injection e with e; omega)
            replace hp := blk_gro hp hg (by intro e; injection e with e; omega)
            replace hO := own_gro hO hg (by simp)
            replace hla := hla.gro hg (ne_lit hna)
            replace hlb := hlb.gro hg (ne_lit hnb)
            clear hla hna
            clear hg
            refine ⟨_, rfl, hq, ?_⟩
            (try simp only [Act.put, List.setIfInBounds_toArray, List.set_cons_zero, List.set_cons_succ])
            refine P3.q_one e15.out (P3.p_call rfl (by (go_simp; first | done | exact ⟨rfl, rfl⟩ | rfl)) ?_)
            refine (pickC w (w.heap.size + 1) A n c cs _ 24 w9 hC hc (by omega) (by omega)).mono ?_
            rintro _ w10 ⟨r2, rfl, ⟨hs0, hs1⟩, hc, hg⟩
            obtain ⟨s2, hs2, hq2a⟩ := pick_quot r2 hs0 hs1
            have hq2b : IntKind.i64.wrap (3 + (s2 : Int)) = 3 + (s2 : Int) := IntWalk.i64_in _ (by omega)
            have hq2c : (0 : Int) ≤ 3 + (s2 : Int) := by omega
            have hq2d : 3 + (s2 : Int) ≤ 5 := by omega
            clear hs0 hs1
            replace hq := blk_gro hq hg (by intro e; injection e with e; omega)
            replace hp := blk_gro hp hg (by intro e; injection e with e; omega)
            replace hO := own_gro hO hg (by simp)
            replace hlb := hlb.gro hg (ne_lit hnb)
            clear hg
            refine ⟨_, rfl, hq, ?_⟩
            (try simp only [Act.put, List.setIfInBounds_toArray, List.set_cons_zero, List.set_cons_succ])
            refine P3.q_free e16.out (P3.p_free rfl (by intro w' hw'; (go_simp; first | done | rfl)) ?_); (try simp only [Act.put, List.setIfInBounds_toArray, List.set_cons_zero, List.set_cons_succ])
            refine P3.q_free e17.out (P3.p_free rfl (by intro w' hw'; (go_simp; first | done | rfl)) ?_); (try simp only [Act.put, List.setIfInBounds_toArray, List.set_cons_zero, List.set_cons_succ])
            refine P3.q_free e18.out (P3.p_free rfl (by intro w' hw'; (go_simp; first | done | rfl)) ?_); (try simp only [Act.put, List.setIfInBounds_toArray, List.set_cons_zero, List.set_cons_succ])
            have hT := hlb.to (show (3 + (s2 : Int)).toNat ≤ 5 by omega)
            rw [ints_take1] at hT
            refine P3.q_one e19.out (P3.p_call rfl (by (go_simp; first | done | exact ⟨rfl, rfl⟩ | rfl)) ?_)
            refine (amongC w (w.heap.size + 1) A n c cs _ _ (3 + (s2 : Int)).toNat 5 _ w10 hC hc (by omega) hT (by omega) (ne_lit hnb)).mono ?_
            rintro _ w11 ⟨hh, rfl, hf, hc, hg⟩
            replace hf := List.mem_of_mem_take hf
            have hhb : 0 ≤ hh ∧ hh ≤ 49 := by simp at hf; omega
            clear hf hT hq2a hq2b hq2c hq2d
            replace hq := blk_gro hq hg (by intro e; injection e with e; omega)
            replace hp := blk_gro hp hg (by intro e; injection e with e; omega)
            replace hO := own_gro hO hg (by simp)
            replace hlb := hlb.gro hg (ne_lit hnb)
            clear hlb hnb
            clear hg
            refine ⟨_, rfl, hq, ?_⟩
            (try simp only [Act.put, List.setIfInBounds_toArray, List.set_cons_zero, List.set_cons_succ])
            refine P3.q_free e20.out (P3.p_free rfl (by intro w' hw'; (go_simp; first | done | rfl)) ?_); (try simp only [Act.put, List.setIfInBounds_toArray, List.set_cons_zero, List.set_cons_succ])
            obtain ⟨⟨k0, k1, k2, k3⟩, kz⟩ := cells4 hp
            have nq1 : ¬ q = w.heap.size := by omega
            refine P3.q_one e21.out (P3.p_store rfl (by (go_simp; first | done | rfl)) (by (repeat' (first | (with_reducible assumption) | (refine (heap_setCell_other _ _ _ _ (by simpa using nq1)).trans ?_)))) ?_)
            (try simp only [Act.put])
            refine P3.q_free e22.out (P3.p_free rfl (by intro w' hw'; (go_simp; first | done | rfl)) ?_); (try simp only [Act.put, List.setIfInBounds_toArray, List.set_cons_zero, List.set_cons_succ])
            refine P3.q_free e23.out (P3.p_free rfl (by intro w' hw'; (go_simp; first | done | rfl)) ?_); (try simp only [Act.put, List.setIfInBounds_toArray, List.set_cons_zero, List.set_cons_succ])
            refine P3.q_free e24.out (P3.p_free rfl (by intro w' hw'; (go_simp; first | done | rfl)) ?_); (try simp only [Act.put, List.setIfInBounds_toArray, List.set_cons_zero, List.set_cons_succ])
            refine P3.q_stop ?_
            go_wp2_with fail
            refine bodyPost_ret (v := .tuple #[.slice A' m c', .agg #[.int .i64 r.work, .int .i64 r.rest, .int .i64 r.span, .int .i64 r.most], .int .i64 v, .int .i64 f, .int .i64 hh]) (by simp [results, Try.results35, go_sem, *]) rfl ?_
            refine ⟨A', m, c', xs, r, v, f, hh, rfl, Own.mk_ (own_low (base := w.heap.size + 1 + 1) ?_ (by omega)), hm, hv, hfb, hhb, ?_⟩
            · (iterate 4 (refine own_set_far ?_ (by omega)))
              exact hO
            · have hb := hc.bel
              (repeat' (first | (with_reducible assumption) | (refine Below.setCell ?_ (by simp) _)))
      · have hla : Sl (w4.alloc (.cells #[.int .i64 0, .int .i64 5, .int .i64 20, .int .i64 480, .int .i64 500, .int .i64 (-1), .int .i64 501] 3)) 1 (some ⟨w4.heap.size, 0, none⟩) 7 7 (ints [0, 5, 20, 480, 500, -1, 501]) := lit_sl rfl rfl (by simp [maxLen]) rfl
        have hna := hc.lt
        refine P3.q_one e5.out (P3.p_val rfl (by (go_simp; first | done | rfl | exact ⟨rfl, rfl⟩)) (blk_bel hq (bel_alloc (bel_refl _))) ?_)
        (try simp only [Act.put, List.setIfInBounds_toArray, List.set_cons_zero, List.set_cons_succ])
        replace hq := blk_bel hq (bel_alloc (o := .cells #[.int .i64 0, .int .i64 5, .int .i64 20, .int .i64 480, .int .i64 500, .int .i64 (-1), .int .i64 501] 3) (bel_refl _))
        replace hp := blk_bel hp (bel_alloc (o := .cells #[.int .i64 0, .int .i64 5, .int .i64 20, .int .i64 480, .int .i64 500, .int .i64 (-1), .int .i64 501] 3) (bel_refl _))
        replace hO := own_bel hO (bel_alloc (o := .cells #[.int .i64 0, .int .i64 5, .int .i64 20, .int .i64 480, .int .i64 500, .int .i64 (-1), .int .i64 501] 3) (bel_refl _))
        replace hc := hc.kept (bel_alloc (o := .cells #[.int .i64 0, .int .i64 5, .int .i64 20, .int .i64 480, .int .i64 500, .int .i64 (-1), .int .i64 501] 3) (bel_refl _))
        obtain ⟨w5, hw⟩ : ∃ w5, w4.alloc (.cells #[.int .i64 0, .int .i64 5, .int .i64 20, .int .i64 480, .int .i64 500, .int .i64 (-1), .int .i64 501] 3) = w5 := ⟨_, rfl⟩
        rw [hw] at hq hp hO hc hla ⊢
        clear hw
        refine P3.q_two ?_ ?_
        · refine P3.q_one e3.out (P3.p_call rfl (by (go_simp; first | done | exact ⟨rfl, rfl⟩ | rfl)) ?_)
          refine (crew11C w (w.heap.size + 1) A n c cs _ w5 hC hc (by omega)).mono ?_
          rintro _ w6 ⟨v, rfl, hv, hc, hg⟩
          replace hq := blk_gro hq hg (by intro e; injection e with e; omega)
          replace hp := blk_gro hp hg (by intro e; injection e with e; omega)
          replace hO := own_gro hO hg (by simp)
          replace hla := hla.gro hg (ne_lit hna)
          clear hg
          refine ⟨_, rfl, hq, ?_⟩
          (try simp only [Act.put, List.setIfInBounds_toArray, List.set_cons_zero, List.set_cons_succ])
          refine P3.q_two ?_ ?_
          · refine P3.q_one e7.out (P3.p_call rfl (by (go_simp; first | done | exact ⟨rfl, rfl⟩ | rfl)) ?_)
            refine (pickC w (w.heap.size + 1) A n c cs _ 24 w6 hC hc (by omega) (by omega)).mono ?_
            rintro _ w7 ⟨r1, rfl, ⟨hr0, hr1⟩, hc, hg⟩
            obtain ⟨s1, hs1, hq1a⟩ := pick_quot r1 hr0 hr1
            have hq1b : IntKind.i64.wrap (5 + (s1 : Int)) = 5 + (s1 : Int) := IntWalk.i64_in _ (by omega)
            have hq1c : (0 : Int) ≤ 5 + (s1 : Int) := by omega
            have hq1d : 5 + (s1 : Int) ≤ 7 := by omega
            clear hr0 hr1
            replace hq := blk_gro hq hg (by intro e; injection e with e; omega)
            replace hp := blk_gro hp hg (by intro e; injection e with e; omega)
            replace hO := own_gro hO hg (by simp)
            replace hla := hla.gro hg (ne_lit hna)
            clear hg
            refine ⟨_, rfl, hq, ?_⟩
            (try simp only [Act.put, List.setIfInBounds_toArray, List.set_cons_zero, List.set_cons_succ])
            refine P3.q_free e8.out (P3.p_free rfl (by intro w' hw'; (go_simp; first | done | rfl)) ?_); (try simp only [Act.put, List.setIfInBounds_toArray, List.set_cons_zero, List.set_cons_succ])
            refine P3.q_free e9.out (P3.p_free rfl (by intro w' hw'; (go_simp; first | done | rfl)) ?_); (try simp only [Act.put, List.setIfInBounds_toArray, List.set_cons_zero, List.set_cons_succ])
            refine P3.q_free e10.out (P3.p_free rfl (by intro w' hw'; (go_simp; first | done | rfl)) ?_); (try simp only [Act.put, List.setIfInBounds_toArray, List.set_cons_zero, List.set_cons_succ])
            refine P3.q_two ?_ ?_
            · have hT := hla.to (show (5 + (s1 : Int)).toNat ≤ 7 by omega)
              rw [ints_take1] at hT
              refine P3.q_one e11.out (P3.p_call rfl (by (go_simp; first | done | exact ⟨rfl, rfl⟩ | rfl)) ?_)
              refine (amongC w (w.heap.size + 1) A n c cs _ _ (5 + (s1 : Int)).toNat 7 _ w7 hC hc (by omega) hT (by omega) (ne_lit hna)).mono ?_
              rintro _ w8 ⟨f, rfl, hf, hc, hg⟩
              replace hf := List.mem_of_mem_take hf
              have hfb : -1 ≤ f ∧ f ≤ 501 := by simp at hf; omega
              clear hf hT hq1a hq1b hq1c hq1d
              replace hq := blk_gro hq hg (by intro e; injection e with e; omega)
              replace hp := blk_gro hp hg (by intro e; injection e with e; omega)
              replace hO := own_gro hO hg (by simp)
              replace hla := hla.gro hg (ne_lit hna)
              clear hla hna
              clear hg
              refine ⟨_, rfl, hq, ?_⟩
              (try simp only [Act.put, List.setIfInBounds_toArray, List.set_cons_zero, List.set_cons_succ])
              refine P3.q_two ?_ ?_
              · have hlb : Sl (w8.alloc (.cells #[.int .i64 1, .int .i64 4, .int .i64 8, .int .i64 0, .int .i64 49] 3)) 1 (some ⟨w8.heap.size, 0, none⟩) 5 5 (ints [1, 4, 8, 0, 49]) := lit_sl rfl rfl (by simp [maxLen]) rfl
                have hnb := hc.lt
                refine P3.q_one e13.out (P3.p_val rfl (by (go_simp; first | done | rfl | exact ⟨rfl, rfl⟩)) (blk_bel hq (bel_alloc (bel_refl _))) ?_)
                (try simp only [Act.put, List.setIfInBounds_toArray, List.set_cons_zero, List.set_cons_succ])
                replace hq := blk_bel hq (bel_alloc (o := .cells #[.int .i64 1, .int .i64 4, .int .i64 8, .int .i64 0, .int .i64 49] 3) (bel_refl _))
                replace hp := blk_bel hp (bel_alloc (o := .cells #[.int .i64 1, .int .i64 4, .int .i64 8, .int .i64 0, .int .i64 49] 3) (bel_refl _))
                replace hO := own_bel hO (bel_alloc (o := .cells #[.int .i64 1, .int .i64 4, .int .i64 8, .int .i64 0, .int .i64 49] 3) (bel_refl _))
                replace hc := hc.kept (bel_alloc (o := .cells #[.int .i64 1, .int .i64 4, .int .i64 8, .int .i64 0, .int .i64 49] 3) (bel_refl _))
                obtain ⟨w9, hw⟩ : ∃ w9, w8.alloc (.cells #[.int .i64 1, .int .i64 4, .int .i64 8, .int .i64 0, .int .i64 49] 3) = w9 := ⟨_, rfl⟩
                rw [hw] at hq hp hO hc hlb ⊢
                clear hw
                refine P3.q_one e15.out (P3.p_call rfl (by (go_simp; first | done | exact ⟨rfl, rfl⟩ | rfl)) ?_)
                refine (pickC w (w.heap.size + 1) A n c cs _ 24 w9 hC hc (by omega) (by omega)).mono ?_
                rintro _ w10 ⟨r2, rfl, ⟨hs0, hs1⟩, hc, hg⟩
                obtain ⟨s2, hs2, hq2a⟩ := pick_quot r2 hs0 hs1
                have hq2b : IntKind.i64.wrap (3 + (s2 : Int)) = 3 + (s2 : Int) := IntWalk.i64_in _ (by omega)
                have hq2c : (0 : Int) ≤ 3 + (s2 : Int) := by omega
                have hq2d : 3 + (s2 : Int) ≤ 5 := by omega
                clear hs0 hs1
                replace hq := blk_gro hq hg (by intro e; injection e with e; omega)
                replace hp := blk_gro hp hg (by intro e; injection e with e; omega)
                replace hO := own_gro hO hg (by simp)
                replace hlb := hlb.gro hg (ne_lit hnb)
                clear hg
                refine ⟨_, rfl, hq, ?_⟩
                (try simp only [Act.put, List.setIfInBounds_toArray, List.set_cons_zero, List.set_cons_succ])
                refine P3.q_free e16.out (P3.p_free rfl (by intro w' hw'; (go_simp; first | done | rfl)) ?_); (try simp only [Act.put, List.setIfInBounds_toArray, List.set_cons_zero, List.set_cons_succ])
                refine P3.q_free e17.out (P3.p_free rfl (by intro w' hw'; (go_simp; first | done | rfl)) ?_); (try simp only [Act.put, List.setIfInBounds_toArray, List.set_cons_zero, List.set_cons_succ])
                refine P3.q_free e18.out (P3.p_free rfl (by intro w' hw'; (go_simp; first | done | rfl)) ?_); (try simp only [Act.put, List.setIfInBounds_toArray, List.set_cons_zero, List.set_cons_succ])
                have hT := hlb.to (show (3 + (s2 : Int)).toNat ≤ 5 by omega)
                rw [ints_take1] at hT
                refine P3.q_one e19.out (P3.p_call rfl (by (go_simp; first | done | exact ⟨rfl, rfl⟩ | rfl)) ?_)
                refine (amongC w (w.heap.size + 1) A n c cs _ _ (3 + (s2 : Int)).toNat 5 _ w10 hC hc (by omega) hT (by omega) (ne_lit hnb)).mono ?_
                rintro _ w11 ⟨hh, rfl, hf, hc, hg⟩
                replace hf := List.mem_of_mem_take hf
                have hhb : 0 ≤ hh ∧ hh ≤ 49 := by simp at hf; omega
                clear hf hT hq2a hq2b hq2c hq2d
                replace hq := blk_gro hq hg (by intro e; injection e with e; omega)
                replace hp := blk_gro hp hg (by intro e; injection e with e; omega)
                replace hO := own_gro hO hg (by simp)
                replace hlb := hlb.gro hg (ne_lit hnb)
                clear hlb hnb
                clear hg
                refine ⟨_, rfl, hq, ?_⟩
                (try simp only [Act.put, List.setIfInBounds_toArray, List.set_cons_zero, List.set_cons_succ])
                refine P3.q_free e20.out (P3.p_free rfl (by intro w' hw'; (go_simp; first | done | rfl)) ?_); (try simp only [Act.put, List.setIfInBounds_toArray, List.set_cons_zero, List.set_cons_succ])
                obtain ⟨⟨k0, k1, k2, k3⟩, kz⟩ := cells4 hp
                have nq1 : ¬ q = w.heap.size := by omega
                refine P3.q_one e21.out (P3.p_store rfl (by (go_simp; first | done | rfl)) (by (repeat' (first | (with_reducible assumption) | (refine (heap_setCell_other _ _ _ _ (by simpa using nq1)).trans ?_)))) ?_)
                (try simp only [Act.put])
                refine P3.q_free e22.out (P3.p_free rfl (by intro w' hw'; (go_simp; first | done | rfl)) ?_); (try simp only [Act.put, List.setIfInBounds_toArray, List.set_cons_zero, List.set_cons_succ])
                refine P3.q_free e23.out (P3.p_free rfl (by intro w' hw'; (go_simp; first | done | rfl)) ?_); (try simp only [Act.put, List.setIfInBounds_toArray, List.set_cons_zero, List.set_cons_succ])
                refine P3.q_free e24.out (P3.p_free rfl (by intro w' hw'; (go_simp; first | done | rfl)) ?_); (try simp only [Act.put, List.setIfInBounds_toArray, List.set_cons_zero, List.set_cons_succ])
                refine P3.q_stop ?_
                go_wp2_with fail
                refine bodyPost_ret (v := .tuple #[.slice A' m c', .agg #[.int .i64 r.work, .int .i64 r.rest, .int .i64 r.span, .int .i64 r.most], .int .i64 v, .int .i64 f, .int .i64 hh]) (by simp [results, Try.results35, go_sem, *]) rfl ?_
                refine ⟨A', m, c', xs, r, v, f, hh, rfl, Own.mk_ (own_low (base := w.heap.size + 1 + 1) ?_ (by omega)), hm, hv, hfb, hhb, ?_⟩
                · (iterate 4 (refine own_set_far ?_ (by omega)))
                  exact hO
                · have hb := hc.bel
                  (repeat' (first | (with_reducible assumption) | (refine Below.setCell ?_ (by simp) _)))
              · refine P3.q_one e15.out (P3.p_call rfl (by (go_simp; first | done | exact ⟨rfl, rfl⟩ | rfl)) ?_)
                refine (pickC w (w.heap.size + 1) A n c cs _ 24 w8 hC hc (by omega) (by omega)).mono ?_
                rintro _ w9 ⟨r2, rfl, ⟨hs0, hs1⟩, hc, hg⟩
                obtain ⟨s2, hs2, hq2a⟩ := pick_quot r2 hs0 hs1
                have hq2b : IntKind.i64.wrap (3 + (s2 : Int)) = 3 + (s2 : Int) := IntWalk.i64_in _ (by omega)
                have hq2c : (0 : Int) ≤ 3 + (s2 : Int) := by omega
                have hq2d : 3 + (s2 : Int) ≤ 5 := by omega
                clear hs0 hs1
                replace hq := blk_gro hq hg (by intro e; injection e with e; omega)
                replace hp := blk_gro hp hg (by intro e; injection e with e; omega)
                replace hO := own_gro hO hg (by simp)
                clear hg
                refine ⟨_, rfl, hq, ?_⟩
                (try simp only [Act.put, List.setIfInBounds_toArray, List.set_cons_zero, List.set_cons_succ])
                refine P3.q_free e16.out (P3.p_free rfl (by intro w' hw'; (go_simp; first | done | rfl)) ?_); (try simp only [Act.put, List.setIfInBounds_toArray, List.set_cons_zero, List.set_cons_succ])
                refine P3.q_free e17.out (P3.p_free rfl (by intro w' hw'; (go_simp; first | done | rfl)) ?_); (try simp only [Act.put, List.setIfInBounds_toArray, List.set_cons_zero, List.set_cons_succ])
                have hlb : Sl (w9.alloc (.cells #[.int .i64 1, .int .i64 4, .int .i64 8, .int .i64 0, .int .i64 49] 3)) 1 (some ⟨w9.heap.size, 0, none⟩) 5 5 (ints [1, 4, 8, 0, 49]) := lit_sl rfl rfl (by simp [maxLen]) rfl
                have hnb := hc.lt
                refine P3.q_one e13.out (P3.p_val rfl (by (go_simp; first | done | rfl | exact ⟨rfl, rfl⟩)) (blk_bel hq (bel_alloc (bel_refl _))) ?_)
                (try simp only [Act.put, List.setIfInBounds_toArray, List.set_cons_zero, List.set_cons_succ])
                replace hq := blk_bel hq (bel_alloc (o := .cells #[.int .i64 1, .int .i64 4, .int .i64 8, .int .i64 0, .int .i64 49] 3) (bel_refl _))
                replace hp := blk_bel hp (bel_alloc (o := .cells #[.int .i64 1, .int .i64 4, .int .i64 8, .int .i64 0, .int .i64 49] 3) (bel_refl _))
                replace hO := own_bel hO (bel_alloc (o := .cells #[.int .i64 1, .int .i64 4, .int .i64 8, .int .i64 0, .int .i64 49] 3) (bel_refl _))
                replace hc := hc.kept (bel_alloc (o := .cells #[.int .i64 1, .int .i64 4, .int .i64 8, .int .i64 0, .int .i64 49] 3) (bel_refl _))
                obtain ⟨w10, hw⟩ : ∃ w10, w9.alloc (.cells #[.int .i64 1, .int .i64 4, .int .i64 8, .int .i64 0, .int .i64 49] 3) = w10 := ⟨_, rfl⟩
                rw [hw] at hq hp hO hc hlb ⊢
                clear hw
                refine P3.q_free e18.out (P3.p_free rfl (by intro w' hw'; (go_simp; first | done | rfl)) ?_); (try simp only [Act.put, List.setIfInBounds_toArray, List.set_cons_zero, List.set_cons_succ])
                have hT := hlb.to (show (3 + (s2 : Int)).toNat ≤ 5 by omega)
                rw [ints_take1] at hT
                refine P3.q_one e19.out (P3.p_call rfl (by (go_simp; first | done | exact ⟨rfl, rfl⟩ | rfl)) ?_)
                refine (amongC w (w.heap.size + 1) A n c cs _ _ (3 + (s2 : Int)).toNat 5 _ w10 hC hc (by omega) hT (by omega) (ne_lit hnb)).mono ?_
                rintro _ w11 ⟨hh, rfl, hf, hc, hg⟩
                replace hf := List.mem_of_mem_take hf
                have hhb : 0 ≤ hh ∧ hh ≤ 49 := by simp at hf; omega
                clear hf hT hq2a hq2b hq2c hq2d
                replace hq := blk_gro hq hg (by intro e; injection e with e; omega)
                replace hp := blk_gro hp hg (by intro e; injection e with e; omega)
                replace hO := own_gro hO hg (by simp)
                replace hlb := hlb.gro hg (ne_lit hnb)
                clear hlb hnb
                clear hg
                refine ⟨_, rfl, hq, ?_⟩
                (try simp only [Act.put, List.setIfInBounds_toArray, List.set_cons_zero, List.set_cons_succ])
                refine P3.q_free e20.out (P3.p_free rfl (by intro w' hw'; (go_simp; first | done | rfl)) ?_); (try simp only [Act.put, List.setIfInBounds_toArray, List.set_cons_zero, List.set_cons_succ])
                obtain ⟨⟨k0, k1, k2, k3⟩, kz⟩ := cells4 hp
                have nq1 : ¬ q = w.heap.size := by omega
                refine P3.q_one e21.out (P3.p_store rfl (by (go_simp; first | done | rfl)) (by (repeat' (first | (with_reducible assumption) | (refine (heap_setCell_other _ _ _ _ (by simpa using nq1)).trans ?_)))) ?_)
                (try simp only [Act.put])
                refine P3.q_free e22.out (P3.p_free rfl (by intro w' hw'; (go_simp; first | done | rfl)) ?_); (try simp only [Act.put, List.setIfInBounds_toArray, List.set_cons_zero, List.set_cons_succ])
                refine P3.q_free e23.out (P3.p_free rfl (by intro w' hw'; (go_simp; first | done | rfl)) ?_); (try simp only [Act.put, List.setIfInBounds_toArray, List.set_cons_zero, List.set_cons_succ])
                refine P3.q_free e24.out (P3.p_free rfl (by intro w' hw'; (go_simp; first | done | rfl)) ?_); (try simp only [Act.put, List.setIfInBounds_toArray, List.set_cons_zero, List.set_cons_succ])
                refine P3.q_stop ?_
                go_wp2_with fail
                refine bodyPost_ret (v := .tuple #[.slice A' m c', .agg #[.int .i64 r.work, .int .i64 r.rest, .int .i64 r.span, .int .i64 r.most], .int .i64 v, .int .i64 f, .int .i64 hh]) (by simp [results, Try.results35, go_sem, *]) rfl ?_
                refine ⟨A', m, c', xs, r, v, f, hh, rfl, Own.mk_ (own_low (base := w.heap.size + 1 + 1) ?_ (by omega)), hm, hv, hfb, hhb, ?_⟩
                · (iterate 4 (refine own_set_far ?_ (by omega)))
                  exact hO
                · have hb := hc.bel
                  (repeat' (first | (with_reducible assumption) | (refine Below.setCell ?_ (by simp) _)))
            · have hlb : Sl (w7.alloc (.cells #[.int .i64 1, .int .i64 4, .int .i64 8, .int .i64 0, .int .i64 49] 3)) 1 (some ⟨w7.heap.size, 0, none⟩) 5 5 (ints [1, 4, 8, 0, 49]) := lit_sl rfl rfl (by simp [maxLen]) rfl
              have hnb := hc.lt
              refine P3.q_one e13.out (P3.p_val rfl (by (go_simp; first | done | rfl | exact ⟨rfl, rfl⟩)) (blk_bel hq (bel_alloc (bel_refl _))) ?_)
              (try simp only [Act.put, List.setIfInBounds_toArray, List.set_cons_zero, List.set_cons_succ])
              replace hq := blk_bel hq (bel_alloc (o := .cells #[.int .i64 1, .int .i64 4, .int .i64 8, .int .i64 0, .int .i64 49] 3) (bel_refl _))
              replace hp := blk_bel hp (bel_alloc (o := .cells #[.int .i64 1, .int .i64 4, .int .i64 8, .int .i64 0, .int .i64 49] 3) (bel_refl _))
              replace hO := own_bel hO (bel_alloc (o := .cells #[.int .i64 1, .int .i64 4, .int .i64 8, .int .i64 0, .int .i64 49] 3) (bel_refl _))
              replace hc := hc.kept (bel_alloc (o := .cells #[.int .i64 1, .int .i64 4, .int .i64 8, .int .i64 0, .int .i64 49] 3) (bel_refl _))
              replace hla := hla.bel (bel_alloc (o := .cells #[.int .i64 1, .int .i64 4, .int .i64 8, .int .i64 0, .int .i64 49] 3) (bel_refl _))
              obtain ⟨w8, hw⟩ : ∃ w8, w7.alloc (.cells #[.int .i64 1, .int .i64 4, .int .i64 8, .int .i64 0, .int .i64 49] 3) = w8 := ⟨_, rfl⟩
              rw [hw] at hq hp hO hc hlb hla ⊢
              clear hw
              have hT := hla.to (show (5 + (s1 : Int)).toNat ≤ 7 by omega)
              rw [ints_take1] at hT
              refine P3.q_one e11.out (P3.p_call rfl (by (go_simp; first | done | exact ⟨rfl, rfl⟩ | rfl)) ?_)
              refine (amongC w (w.heap.size + 1) A n c cs _ _ (5 + (s1 : Int)).toNat 7 _ w8 hC hc (by omega) hT (by omega) (ne_lit hna)).mono ?_
              rintro _ w9 ⟨f, rfl, hf, hc, hg⟩
              replace hf := List.mem_of_mem_take hf
              have hfb : -1 ≤ f ∧ f ≤ 501 := by simp at hf; omega
              clear hf hT hq1a hq1b hq1c hq1d
              replace hq := blk_gro hq hg (by intro e; injection e with e; omega)
              replace hp := blk_gro hp hg (by intro e; injection e with e; omega)
              replace hO := own_gro hO hg (by simp)
              replace hla := hla.gro hg (ne_lit hna)
              replace hlb := hlb.gro hg (ne_lit hnb)
              clear hla hna
              clear hg
              refine ⟨_, rfl, hq, ?_⟩
              (try simp only [Act.put, List.setIfInBounds_toArray, List.set_cons_zero, List.set_cons_succ])
              refine P3.q_one e15.out (P3.p_call rfl (by (go_simp; first | done | exact ⟨rfl, rfl⟩ | rfl)) ?_)
              refine (pickC w (w.heap.size + 1) A n c cs _ 24 w9 hC hc (by omega) (by omega)).mono ?_
              rintro _ w10 ⟨r2, rfl, ⟨hs0, hs1⟩, hc, hg⟩
              obtain ⟨s2, hs2, hq2a⟩ := pick_quot r2 hs0 hs1
              have hq2b : IntKind.i64.wrap (3 + (s2 : Int)) = 3 + (s2 : Int) := IntWalk.i64_in _ (by omega)
              have hq2c : (0 : Int) ≤ 3 + (s2 : Int) := by omega
              have hq2d : 3 + (s2 : Int) ≤ 5 := by omega
              clear hs0 hs1
              replace hq := blk_gro hq hg (by intro e; injection e with e; omega)
              replace hp := blk_gro hp hg (by intro e; injection e with e; omega)
              replace hO := own_gro hO hg (by simp)
              replace hlb := hlb.gro hg (ne_lit hnb)
              clear hg
              refine ⟨_, rfl, hq, ?_⟩
              (try simp only [Act.put, List.setIfInBounds_toArray, List.set_cons_zero, List.set_cons_succ])
              refine P3.q_free e16.out (P3.p_free rfl (by intro w' hw'; (go_simp; first | done | rfl)) ?_); (try simp only [Act.put, List.setIfInBounds_toArray, List.set_cons_zero, List.set_cons_succ])
              refine P3.q_free e17.out (P3.p_free rfl (by intro w' hw'; (go_simp; first | done | rfl)) ?_); (try simp only [Act.put, List.setIfInBounds_toArray, List.set_cons_zero, List.set_cons_succ])
              refine P3.q_free e18.out (P3.p_free rfl (by intro w' hw'; (go_simp; first | done | rfl)) ?_); (try simp only [Act.put, List.setIfInBounds_toArray, List.set_cons_zero, List.set_cons_succ])
              have hT := hlb.to (show (3 + (s2 : Int)).toNat ≤ 5 by omega)
              rw [ints_take1] at hT
              refine P3.q_one e19.out (P3.p_call rfl (by (go_simp; first | done | exact ⟨rfl, rfl⟩ | rfl)) ?_)
              refine (amongC w (w.heap.size + 1) A n c cs _ _ (3 + (s2 : Int)).toNat 5 _ w10 hC hc (by omega) hT (by omega) (ne_lit hnb)).mono ?_
              rintro _ w11 ⟨hh, rfl, hf, hc, hg⟩
              replace hf := List.mem_of_mem_take hf
              have hhb : 0 ≤ hh ∧ hh ≤ 49 := by simp at hf; omega
              clear hf hT hq2a hq2b hq2c hq2d
              replace hq := blk_gro hq hg (by intro e; injection e with e; omega)
              replace hp := blk_gro hp hg (by intro e; injection e with e; omega)
              replace hO := own_gro hO hg (by simp)
              replace hlb := hlb.gro hg (ne_lit hnb)
              clear hlb hnb
              clear hg
              refine ⟨_, rfl, hq, ?_⟩
              (try simp only [Act.put, List.setIfInBounds_toArray, List.set_cons_zero, List.set_cons_succ])
              refine P3.q_free e20.out (P3.p_free rfl (by intro w' hw'; (go_simp; first | done | rfl)) ?_); (try simp only [Act.put, List.setIfInBounds_toArray, List.set_cons_zero, List.set_cons_succ])
              obtain ⟨⟨k0, k1, k2, k3⟩, kz⟩ := cells4 hp
              have nq1 : ¬ q = w.heap.size := by omega
              refine P3.q_one e21.out (P3.p_store rfl (by (go_simp; first | done | rfl)) (by (repeat' (first | (with_reducible assumption) | (refine (heap_setCell_other _ _ _ _ (by simpa using nq1)).trans ?_)))) ?_)
              (try simp only [Act.put])
              refine P3.q_free e22.out (P3.p_free rfl (by intro w' hw'; (go_simp; first | done | rfl)) ?_); (try simp only [Act.put, List.setIfInBounds_toArray, List.set_cons_zero, List.set_cons_succ])
              refine P3.q_free e23.out (P3.p_free rfl (by intro w' hw'; (go_simp; first | done | rfl)) ?_); (try simp only [Act.put, List.setIfInBounds_toArray, List.set_cons_zero, List.set_cons_succ])
              refine P3.q_free e24.out (P3.p_free rfl (by intro w' hw'; (go_simp; first | done | rfl)) ?_); (try simp only [Act.put, List.setIfInBounds_toArray, List.set_cons_zero, List.set_cons_succ])
              refine P3.q_stop ?_
              go_wp2_with fail
              refine bodyPost_ret (v := .tuple #[.slice A' m c', .agg #[.int .i64 r.work, .int .i64 r.rest, .int .i64 r.span, .int .i64 r.most], .int .i64 v, .int .i64 f, .int .i64 hh]) (by simp [results, Try.results35, go_sem, *]) rfl ?_
              refine ⟨A', m, c', xs, r, v, f, hh, rfl, Own.mk_ (own_low (base := w.heap.size + 1 + 1) ?_ (by omega)), hm, hv, hfb, hhb, ?_⟩
              · (iterate 4 (refine own_set_far ?_ (by omega)))
                exact hO
              · have hb := hc.bel
                (repeat' (first | (with_reducible assumption) | (refine Below.setCell ?_ (by simp) _)))
          · have hlb : Sl (w6.alloc (.cells #[.int .i64 1, .int .i64 4, .int .i64 8, .int .i64 0, .int .i64 49] 3)) 1 (some ⟨w6.heap.size, 0, none⟩) 5 5 (ints [1, 4, 8, 0, 49]) := lit_sl rfl rfl (by simp [maxLen]) rfl
            have hnb := hc.lt
            refine P3.q_one e13.out (P3.p_val rfl (by (go_simp; first | done | rfl | exact ⟨rfl, rfl⟩)) (blk_bel hq (bel_alloc (bel_refl _))) ?_)
            (try simp only [Act.put, List.setIfInBounds_toArray, List.set_cons_zero, List.set_cons_succ])
            replace hq := blk_bel hq (bel_alloc (o := .cells #[.int .i64 1, .int .i64 4, .int .i64 8, .int .i64 0, .int .i64 49] 3) (bel_refl _))
            replace hp := blk_bel hp (bel_alloc (o := .cells #[.int .i64 1, .int .i64 4, .int .i64 8, .int .i64 0, .int .i64 49] 3) (bel_refl _))
            replace hO := own_bel hO (bel_alloc (o := .cells #[.int .i64 1, .int .i64 4, .int .i64 8, .int .i64 0, .int .i64 49] 3) (bel_refl _))
            replace hc := hc.kept (bel_alloc (o := .cells #[.int .i64 1, .int .i64 4, .int .i64 8, .int .i64 0, .int .i64 49] 3) (bel_refl _))
            replace hla := hla.bel (bel_alloc (o := .cells #[.int .i64 1, .int .i64 4, .int .i64 8, .int .i64 0, .int .i64 49] 3) (bel_refl _))
            obtain ⟨w7, hw⟩ : ∃ w7, w6.alloc (.cells #[.int .i64 1, .int .i64 4, .int .i64 8, .int .i64 0, .int .i64 49] 3) = w7 := ⟨_, rfl⟩
            rw [hw] at hq hp hO hc hlb hla ⊢
            clear hw
            refine P3.q_one e7.out (P3.p_call rfl (by (go_simp; first | done | exact ⟨rfl, rfl⟩ | rfl)) ?_)
            refine (pickC w (w.heap.size + 1) A n c cs _ 24 w7 hC hc (by omega) (by omega)).mono ?_
            rintro _ w8 ⟨r1, rfl, ⟨hr0, hr1⟩, hc, hg⟩
            obtain ⟨s1, hs1, hq1a⟩ := pick_quot r1 hr0 hr1
            have hq1b : IntKind.i64.wrap (5 + (s1 : Int)) = 5 + (s1 : Int) := IntWalk.i64_in _ (by omega)
            have hq1c : (0 : Int) ≤ 5 + (s1 : Int) := by omega
            have hq1d : 5 + (s1 : Int) ≤ 7 := by omega
            clear hr0 hr1
            replace hq := blk_gro hq hg (by intro e; injection e with e; omega)
            replace hp := blk_gro hp hg (by intro e; injection e with e; omega)
            replace hO := own_gro hO hg (by simp)
            replace hla := hla.gro hg (ne_lit hna)
            replace hlb := hlb.gro hg (ne_lit hnb)
            clear hg
            refine ⟨_, rfl, hq, ?_⟩
            (try simp only [Act.put, List.setIfInBounds_toArray, List.set_cons_zero, List.set_cons_succ])
            refine P3.q_free e8.out (P3.p_free rfl (by intro w' hw'; (go_simp; first | done | rfl)) ?_); (try simp only [Act.put, List.setIfInBounds_toArray, List.set_cons_zero, List.set_cons_succ])
            refine P3.q_free e9.out (P3.p_free rfl (by intro w' hw'; (go_simp; first | done | rfl)) ?_); (try simp only [Act.put, List.setIfInBounds_toArray, List.set_cons_zero, List.set_cons_succ])
            refine P3.q_free e10.out (P3.p_free rfl (by intro w' hw'; (go_simp; first | done | rfl)) ?_); (try simp only [Act.put, List.setIfInBounds_toArray, List.set_cons_zero, List.set_cons_succ])
            have hT := hla.to (show (5 + (s1 : Int)).toNat ≤ 7 by omega)
            rw [ints_take1] at hT
            refine P3.q_one e11.out (P3.p_call rfl (by (go_simp; first | done | exact ⟨rfl, rfl⟩ | rfl)) ?_)
            refine (amongC w (w.heap.size + 1) A n c cs _ _ (5 + (s1 : Int)).toNat 7 _ w8 hC hc (by omega) hT (by omega) (ne_lit hna)).mono ?_
            rintro _ w9 ⟨f, rfl, hf, hc, hg⟩
            replace hf := List.mem_of_mem_take hf
            have hfb : -1 ≤ f ∧ f ≤ 501 := by simp at hf; omega
            clear hf hT hq1a hq1b hq1c hq1d
            replace hq := blk_gro hq hg (by intro e; injection e with e; omega)
            replace hp := blk_gro hp hg (by intro e; injection e with e; omega)
            replace hO := own_gro hO hg (by simp)
            replace hla := hla.gro hg (ne_lit hna)
            replace hlb := hlb.gro hg (ne_lit hnb)
            clear hla hna
            clear hg
            refine ⟨_, rfl, hq, ?_⟩
            (try simp only [Act.put, List.setIfInBounds_toArray, List.set_cons_zero, List.set_cons_succ])
            refine P3.q_one e15.out (P3.p_call rfl (by (go_simp; first | done | exact ⟨rfl, rfl⟩ | rfl)) ?_)
            refine (pickC w (w.heap.size + 1) A n c cs _ 24 w9 hC hc (by omega) (by omega)).mono ?_
            rintro _ w10 ⟨r2, rfl, ⟨hs0, hs1⟩, hc, hg⟩
            obtain ⟨s2, hs2, hq2a⟩ := pick_quot r2 hs0 hs1
            have hq2b : IntKind.i64.wrap (3 + (s2 : Int)) = 3 + (s2 : Int) := IntWalk.i64_in _ (by omega)
            have hq2c : (0 : Int) ≤ 3 + (s2 : Int) := by omega
            have hq2d : 3 + (s2 : Int) ≤ 5 := by omega
            clear hs0 hs1
            replace hq := blk_gro hq hg (by intro e; injection e with e; omega)
            replace hp := blk_gro hp hg (by intro e; injection e with e; omega)
            replace hO := own_gro hO hg (by simp)
            replace hlb := hlb.gro hg (ne_lit hnb)
            clear hg
            refine ⟨_, rfl, hq, ?_⟩
            (try simp only [Act.put, List.setIfInBounds_toArray, List.set_cons_zero, List.set_cons_succ])
            refine P3.q_free e16.out (P3.p_free rfl (by intro w' hw'; (go_simp; first | done | rfl)) ?_); (try simp only [Act.put, List.setIfInBounds_toArray, List.set_cons_zero, List.set_cons_succ])
            refine P3.q_free e17.out (P3.p_free rfl (by intro w' hw'; (go_simp; first | done | rfl)) ?_); (try simp only [Act.put, List.setIfInBounds_toArray, List.set_cons_zero, List.set_cons_succ])
            refine P3.q_free e18.out (P3.p_free rfl (by intro w' hw'; (go_simp; first | done | rfl)) ?_); (try simp only [Act.put, List.setIfInBounds_toArray, List.set_cons_zero, List.set_cons_succ])
            have hT := hlb.to (show (3 + (s2 : Int)).toNat ≤ 5 by omega)
            rw [ints_take1] at hT
            refine P3.q_one e19.out (P3.p_call rfl (by (go_simp; first | done | exact ⟨rfl, rfl⟩ | rfl)) ?_)
            refine (amongC w (w.heap.size + 1) A n c cs _ _ (3 + (s2 : Int)).toNat 5 _ w10 hC hc (by omega) hT (by omega) (ne_lit hnb)).mono ?_
            rintro _ w11 ⟨hh, rfl, hf, hc, hg⟩
            replace hf := List.mem_of_mem_take hf
            have hhb : 0 ≤ hh ∧ hh ≤ 49 := by simp at hf; omega
            clear hf hT hq2a hq2b hq2c hq2d
            replace hq := blk_gro hq hg (by intro e; injection e with e; omega)
            replace hp := blk_gro hp hg (by intro e; injection e with e; omega)
            replace hO := own_gro hO hg (by simp)
            replace hlb := hlb.gro hg (ne_lit hnb)
            clear hlb hnb
            clear hg
            refine ⟨_, rfl, hq, ?_⟩
            (try simp only [Act.put, List.setIfInBounds_toArray, List.set_cons_zero, List.set_cons_succ])
            refine P3.q_free e20.out (P3.p_free rfl (by intro w' hw'; (go_simp; first | done | rfl)) ?_); (try simp only [Act.put, List.setIfInBounds_toArray, List.set_cons_zero, List.set_cons_succ])
            obtain ⟨⟨k0, k1, k2, k3⟩, kz⟩ := cells4 hp
            have nq1 : ¬ q = w.heap.size := by omega
            refine P3.q_one e21.out (P3.p_store rfl (by (go_simp; first | done | rfl)) (by (repeat' (first | (with_reducible assumption) | (refine (heap_setCell_other _ _ _ _ (by simpa using nq1)).trans ?_)))) ?_)
            (try simp only [Act.put])
            refine P3.q_free e22.out (P3.p_free rfl (by intro w' hw'; (go_simp; first | done | rfl)) ?_); (try simp only [Act.put, List.setIfInBounds_toArray, List.set_cons_zero, List.set_cons_succ])
            refine P3.q_free e23.out (P3.p_free rfl (by intro w' hw'; (go_simp; first | done | rfl)) ?_); (try simp only [Act.put, List.setIfInBounds_toArray, List.set_cons_zero, List.set_cons_succ])
            refine P3.q_free e24.out (P3.p_free rfl (by intro w' hw'; (go_simp; first | done | rfl)) ?_); (try simp only [Act.put, List.setIfInBounds_toArray, List.set_cons_zero, List.set_cons_succ])
            refine P3.q_stop ?_
            go_wp2_with fail
            refine bodyPost_ret (v := .tuple #[.slice A' m c', .agg #[.int .i64 r.work, .int .i64 r.rest, .int .i64 r.span, .int .i64 r.most], .int .i64 v, .int .i64 f, .int .i64 hh]) (by simp [results, Try.results35, go_sem, *]) rfl ?_
            refine ⟨A', m, c', xs, r, v, f, hh, rfl, Own.mk_ (own_low (base := w.heap.size + 1 + 1) ?_ (by omega)), hm, hv, hfb, hhb, ?_⟩
            · (iterate 4 (refine own_set_far ?_ (by omega)))
              exact hO
            · have hb := hc.bel
              (repeat' (first | (with_reducible assumption) | (refine Below.setCell ?_ (by simp) _)))
        · have hlb : Sl (w5.alloc (.cells #[.int .i64 1, .int .i64 4, .int .i64 8, .int .i64 0, .int .i64 49] 3)) 1 (some ⟨w5.heap.size, 0, none⟩) 5 5 (ints [1, 4, 8, 0, 49]) := lit_sl rfl rfl (by simp [maxLen]) rfl
          have hnb := hc.lt
          refine P3.q_one e13.out (P3.p_val rfl (by (go_simp; first | done | rfl | exact ⟨rfl, rfl⟩)) (blk_bel hq (bel_alloc (bel_refl _))) ?_)
          (try simp only [Act.put, List.setIfInBounds_toArray, List.set_cons_zero, List.set_cons_succ])
          replace hq := blk_bel hq (bel_alloc (o := .cells #[.int .i64 1, .int .i64 4, .int .i64 8, .int .i64 0, .int .i64 49] 3) (bel_refl _))
          replace hp := blk_bel hp (bel_alloc (o := .cells #[.int .i64 1, .int .i64 4, .int .i64 8, .int .i64 0, .int .i64 49] 3) (bel_refl _))
          replace hO := own_bel hO (bel_alloc (o := .cells #[.int .i64 1, .int .i64 4, .int .i64 8, .int .i64 0, .int .i64 49] 3) (bel_refl _))
          replace hc := hc.kept (bel_alloc (o := .cells #[.int .i64 1, .int .i64 4, .int .i64 8, .int .i64 0, .int .i64 49] 3) (bel_refl _))
          replace hla := hla.bel (bel_alloc (o := .cells #[.int .i64 1, .int .i64 4, .int .i64 8, .int .i64 0, .int .i64 49] 3) (bel_refl _))
          obtain ⟨w6, hw⟩ : ∃ w6, w5.alloc (.cells #[.int .i64 1, .int .i64 4, .int .i64 8, .int .i64 0, .int .i64 49] 3) = w6 := ⟨_, rfl⟩
          rw [hw] at hq hp hO hc hlb hla ⊢
          clear hw
          refine P3.q_one e3.out (P3.p_call rfl (by (go_simp; first | done | exact ⟨rfl, rfl⟩ | rfl)) ?_)
          refine (crew11C w (w.heap.size + 1) A n c cs _ w6 hC hc (by omega)).mono ?_
          rintro _ w7 ⟨v, rfl, hv, hc, hg⟩
          replace hq := blk_gro hq hg (by intro e; injection e with e; omega)
          replace hp := blk_gro hp hg (by intro e; injection e with e; omega)
          replace hO := own_gro hO hg (by simp)
          replace hla := hla.gro hg (ne_lit hna)
          replace hlb := hlb.gro hg (ne_lit hnb)
          clear hg
          refine ⟨_, rfl, hq, ?_⟩
          (try simp only [Act.put, List.setIfInBounds_toArray, List.set_cons_zero, List.set_cons_succ])
          refine P3.q_one e7.out (P3.p_call rfl (by (go_simp; first | done | exact ⟨rfl, rfl⟩ | rfl)) ?_)
          refine (pickC w (w.heap.size + 1) A n c cs _ 24 w7 hC hc (by omega) (by omega)).mono ?_
          rintro _ w8 ⟨r1, rfl, ⟨hr0, hr1⟩, hc, hg⟩
          obtain ⟨s1, hs1, hq1a⟩ := pick_quot r1 hr0 hr1
          have hq1b : IntKind.i64.wrap (5 + (s1 : Int)) = 5 + (s1 : Int) := IntWalk.i64_in _ (by omega)
          have hq1c : (0 : Int) ≤ 5 + (s1 : Int) := by omega
          have hq1d : 5 + (s1 : Int) ≤ 7 := by omega
          clear hr0 hr1
          replace hq := blk_gro hq hg (by intro e; injection e with e; omega)
          replace hp := blk_gro hp hg (by intro e; injection e with e; omega)
          replace hO := own_gro hO hg (by simp)
          replace hla := hla.gro hg (ne_lit hna)
          replace hlb := hlb.gro hg (ne_lit hnb)
          clear hg
          refine ⟨_, rfl, hq, ?_⟩
          (try simp only [Act.put, List.setIfInBounds_toArray, List.set_cons_zero, List.set_cons_succ])
          refine P3.q_free e8.out (P3.p_free rfl (by intro w' hw'; (go_simp; first | done | rfl)) ?_); (try simp only [Act.put, List.setIfInBounds_toArray, List.set_cons_zero, List.set_cons_succ])
          refine P3.q_free e9.out (P3.p_free rfl (by intro w' hw'; (go_simp; first | done | rfl)) ?_); (try simp only [Act.put, List.setIfInBounds_toArray, List.set_cons_zero, List.set_cons_succ])
          refine P3.q_free e10.out (P3.p_free rfl (by intro w' hw'; (go_simp; first | done | rfl)) ?_); (try simp only [Act.put, List.setIfInBounds_toArray, List.set_cons_zero, List.set_cons_succ])
          have hT := hla.to (show (5 + (s1 : Int)).toNat ≤ 7 by omega)
          rw [ints_take1] at hT
          refine P3.q_one e11.out (P3.p_call rfl (by (go_simp; first | done | exact ⟨rfl, rfl⟩ | rfl)) ?_)
          refine (amongC w (w.heap.size + 1) A n c cs _ _ (5 + (s1 : Int)).toNat 7 _ w8 hC hc (by omega) hT (by omega) (ne_lit hna)).mono ?_
          rintro _ w9 ⟨f, rfl, hf, hc, hg⟩
          replace hf := List.mem_of_mem_take hf
          have hfb : -1 ≤ f ∧ f ≤ 501 := by simp at hf; omega
          clear hf hT hq1a hq1b hq1c hq1d
          replace hq := blk_gro hq hg (by intro e; injection e with e; omega)
          replace hp := blk_gro hp hg (by intro e; injection e with e; omega)
          replace hO := own_gro hO hg (by simp)
          replace hla := hla.gro hg (ne_lit hna)
          replace hlb := hlb.gro hg (ne_lit hnb)
          clear hla hna
          clear hg
          refine ⟨_, rfl, hq, ?_⟩
          (try simp only [Act.put, List.setIfInBounds_toArray, List.set_cons_zero, List.set_cons_succ])
          refine P3.q_one e15.out (P3.p_call rfl (by (go_simp; first | done | exact ⟨rfl, rfl⟩ | rfl)) ?_)
          refine (pickC w (w.heap.size + 1) A n c cs _ 24 w9 hC hc (by omega) (by omega)).mono ?_
          rintro _ w10 ⟨r2, rfl, ⟨hs0, hs1⟩, hc, hg⟩
          obtain ⟨s2, hs2, hq2a⟩ := pick_quot r2 hs0 hs1
          have hq2b : IntKind.i64.wrap (3 + (s2 : Int)) = 3 + (s2 : Int) := IntWalk.i64_in _ (by omega)
          have hq2c : (0 : Int) ≤ 3 + (s2 : Int) := by omega
          have hq2d : 3 + (s2 : Int) ≤ 5 := by omega
          clear hs0 hs1
          replace hq := blk_gro hq hg (by intro e; injection e with e; omega)
          replace hp := blk_gro hp hg (by intro e; injection e with e; omega)
          replace hO := own_gro hO hg (by simp)
          replace hlb := hlb.gro hg (ne_lit hnb)
          clear hg
          refine ⟨_, rfl, hq, ?_⟩
          (try simp only [Act.put, List.setIfInBounds_toArray, List.set_cons_zero, List.set_cons_succ])
          refine P3.q_free e16.out (P3.p_free rfl (by intro w' hw'; (go_simp; first | done | rfl)) ?_); (try simp only [Act.put, List.setIfInBounds_toArray, List.set_cons_zero, List.set_cons_succ])
          refine P3.q_free e17.out (P3.p_free rfl (by intro w' hw'; (go_simp; first | done | rfl)) ?_); (try simp only [Act.put, List.setIfInBounds_toArray, List.set_cons_zero, List.set_cons_succ])
          refine P3.q_free e18.out (P3.p_free rfl (by intro w' hw'; (go_simp; first | done | rfl)) ?_); (try simp only [Act.put, List.setIfInBounds_toArray, List.set_cons_zero, List.set_cons_succ])
          have hT := hlb.to (show (3 + (s2 : Int)).toNat ≤ 5 by omega)
          rw [ints_take1] at hT
          refine P3.q_one e19.out (P3.p_call rfl (by (go_simp; first | done | exact ⟨rfl, rfl⟩ | rfl)) ?_)
          refine (amongC w (w.heap.size + 1) A n c cs _ _ (3 + (s2 : Int)).toNat 5 _ w10 hC hc (by omega) hT (by omega) (ne_lit hnb)).mono ?_
          rintro _ w11 ⟨hh, rfl, hf, hc, hg⟩
          replace hf := List.mem_of_mem_take hf
          have hhb : 0 ≤ hh ∧ hh ≤ 49 := by simp at hf; omega
          clear hf hT hq2a hq2b hq2c hq2d
          replace hq := blk_gro hq hg (by intro e; injection e with e; omega)
          replace hp := blk_gro hp hg (by intro e; injection e with e; omega)
          replace hO := own_gro hO hg (by simp)
          replace hlb := hlb.gro hg (ne_lit hnb)
          clear hlb hnb
          clear hg
          refine ⟨_, rfl, hq, ?_⟩
          (try simp only [Act.put, List.setIfInBounds_toArray, List.set_cons_zero, List.set_cons_succ])
          refine P3.q_free e20.out (P3.p_free rfl (by intro w' hw'; (go_simp; first | done | rfl)) ?_); (try simp only [Act.put, List.setIfInBounds_toArray, List.set_cons_zero, List.set_cons_succ])
          obtain ⟨⟨k0, k1, k2, k3⟩, kz⟩ := cells4 hp
          have nq1 : ¬ q = w.heap.size := by omega
          refine P3.q_one e21.out (P3.p_store rfl (by (go_simp; first | done | rfl)) (by (repeat' (first | (with_reducible assumption) | (refine (heap_setCell_other _ _ _ _ (by simpa using nq1)).trans ?_)))) ?_)
          (try simp only [Act.put])
          refine P3.q_free e22.out (P3.p_free rfl (by intro w' hw'; (go_simp; first | done | rfl)) ?_); (try simp only [Act.put, List.setIfInBounds_toArray, List.set_cons_zero, List.set_cons_succ])
          refine P3.q_free e23.out (P3.p_free rfl (by intro w' hw'; (go_simp; first | done | rfl)) ?_); (try simp only [Act.put, List.setIfInBounds_toArray, List.set_cons_zero, List.set_cons_succ])
          refine P3.q_free e24.out (P3.p_free rfl (by intro w' hw'; (go_simp; first | done | rfl)) ?_); (try simp only [Act.put, List.setIfInBounds_toArray, List.set_cons_zero, List.set_cons_succ])
          refine P3.q_stop ?_
          go_wp2_with fail
          refine bodyPost_ret (v := .tuple #[.slice A' m c', .agg #[.int .i64 r.work, .int .i64 r.rest, .int .i64 r.span, .int .i64 r.most], .int .i64 v, .int .i64 f, .int .i64 hh]) (by simp [results, Try.results35, go_sem, *]) rfl ?_
          refine ⟨A', m, c', xs, r, v, f, hh, rfl, Own.mk_ (own_low (base := w.heap.size + 1 + 1) ?_ (by omega)), hm, hv, hfb, hhb, ?_⟩
          · (iterate 4 (refine own_set_far ?_ (by omega)))
            exact hO
          · have hb := hc.bel
            (repeat' (first | (with_reducible assumption) | (refine Below.setCell ?_ (by simp) _)))
      · have hlb : Sl (w4.alloc (.cells #[.int .i64 1, .int .i64 4, .int .i64 8, .int .i64 0, .int .i64 49] 3)) 1 (some ⟨w4.heap.size, 0, none⟩) 5 5 (ints [1, 4, 8, 0, 49]) := lit_sl rfl rfl (by simp [maxLen]) rfl
        have hnb := hc.lt
        refine P3.q_one e13.out (P3.p_val rfl (by (go_simp; first | done | rfl | exact ⟨rfl, rfl⟩)) (blk_bel hq (bel_alloc (bel_refl _))) ?_)
        (try simp only [Act.put, List.setIfInBounds_toArray, List.set_cons_zero, List.set_cons_succ])
        replace hq := blk_bel hq (bel_alloc (o := .cells #[.int .i64 1, .int .i64 4, .int .i64 8, .int .i64 0, .int .i64 49] 3) (bel_refl _))
        replace hp := blk_bel hp (bel_alloc (o := .cells #[.int .i64 1, .int .i64 4, .int .i64 8, .int .i64 0, .int .i64 49] 3) (bel_refl _))
        replace hO := own_bel hO (bel_alloc (o := .cells #[.int .i64 1, .int .i64 4, .int .i64 8, .int .i64 0, .int .i64 49] 3) (bel_refl _))
        replace hc := hc.kept (bel_alloc (o := .cells #[.int .i64 1, .int .i64 4, .int .i64 8, .int .i64 0, .int .i64 49] 3) (bel_refl _))
        obtain ⟨w5, hw⟩ : ∃ w5, w4.alloc (.cells #[.int .i64 1, .int .i64 4, .int .i64 8, .int .i64 0, .int .i64 49] 3) = w5 := ⟨_, rfl⟩
        rw [hw] at hq hp hO hc hlb ⊢
        clear hw
        refine P3.q_two ?_ ?_
        · refine P3.q_one e3.out (P3.p_call rfl (by (go_simp; first | done | exact ⟨rfl, rfl⟩ | rfl)) ?_)
          refine (crew11C w (w.heap.size + 1) A n c cs _ w5 hC hc (by omega)).mono ?_
          rintro _ w6 ⟨v, rfl, hv, hc, hg⟩
          replace hq := blk_gro hq hg (by intro e; injection e with e; omega)
          replace hp := blk_gro hp hg (by intro e; injection e with e; omega)
          replace hO := own_gro hO hg (by simp)
          replace hlb := hlb.gro hg (ne_lit hnb)
          clear hg
          refine ⟨_, rfl, hq, ?_⟩
          (try simp only [Act.put, List.setIfInBounds_toArray, List.set_cons_zero, List.set_cons_succ])
          refine P3.q_two ?_ ?_
          · have hla : Sl (w6.alloc (.cells #[.int .i64 0, .int .i64 5, .int .i64 20, .int .i64 480, .int .i64 500, .int .i64 (-1), .int .i64 501] 3)) 1 (some ⟨w6.heap.size, 0, none⟩) 7 7 (ints [0, 5, 20, 480, 500, -1, 501]) := lit_sl rfl rfl (by simp [maxLen]) rfl
            have hna := hc.lt
            refine P3.q_one e5.out (P3.p_val rfl (by (go_simp; first | done | rfl | exact ⟨rfl, rfl⟩)) (blk_bel hq (bel_alloc (bel_refl _))) ?_)
            (try simp only [Act.put, List.setIfInBounds_toArray, List.set_cons_zero, List.set_cons_succ])
            replace hq := blk_bel hq (bel_alloc (o := .cells #[.int .i64 0, .int .i64 5, .int .i64 20, .int .i64 480, .int .i64 500, .int .i64 (-1), .int .i64 501] 3) (bel_refl _))
            replace hp := blk_bel hp (bel_alloc (o := .cells #[.int .i64 0, .int .i64 5, .int .i64 20, .int .i64 480, .int .i64 500, .int .i64 (-1), .int .i64 501] 3) (bel_refl _))
            replace hO := own_bel hO (bel_alloc (o := .cells #[.int .i64 0, .int .i64 5, .int .i64 20, .int .i64 480, .int .i64 500, .int .i64 (-1), .int .i64 501] 3) (bel_refl _))
            replace hc := hc.kept (bel_alloc (o := .cells #[.int .i64 0, .int .i64 5, .int .i64 20, .int .i64 480, .int .i64 500, .int .i64 (-1), .int .i64 501] 3) (bel_refl _))
            replace hlb := hlb.bel (bel_alloc (o := .cells #[.int .i64 0, .int .i64 5, .int .i64 20, .int .i64 480, .int .i64 500, .int .i64 (-1), .int .i64 501] 3) (bel_refl _))
            obtain ⟨w7, hw⟩ : ∃ w7, w6.alloc (.cells #[.int .i64 0, .int .i64 5, .int .i64 20, .int .i64 480, .int .i64 500, .int .i64 (-1), .int .i64 501] 3) = w7 := ⟨_, rfl⟩
            rw [hw] at hq hp hO hc hla hlb ⊢
            clear hw
            refine P3.q_one e7.out (P3.p_call rfl (by (go_simp; first | done | exact ⟨rfl, rfl⟩ | rfl)) ?_)
            refine (pickC w (w.heap.size + 1) A n c cs _ 24 w7 hC hc (by omega) (by omega)).mono ?_
            rintro _ w8 ⟨r1, rfl, ⟨hr0, hr1⟩, hc, hg⟩
            obtain ⟨s1, hs1, hq1a⟩ := pick_quot r1 hr0 hr1
            have hq1b : IntKind.i64.wrap (5 + (s1 : Int)) = 5 + (s1 : Int) := IntWalk.i64_in _ (by omega)
            have hq1c : (0 : Int) ≤ 5 + (s1 : Int) := by omega
            have hq1d : 5 + (s1 : Int) ≤ 7 := by omega
            clear hr0 hr1
            replace hq := blk_gro hq hg (by intro e; injection e with e; omega)
            replace hp := blk_gro hp hg (by intro e; injection e with e; omega)
            replace hO := own_gro hO hg (by simp)
            replace hla := hla.gro hg (ne_lit hna)
            replace hlb := hlb.gro hg (ne_lit hnb)
            clear hg
            refine ⟨_, rfl, hq, ?_⟩
            (try simp only [Act.put, List.setIfInBounds_toArray, List.set_cons_zero, List.set_cons_succ])
            refine P3.q_free e8.out (P3.p_free rfl (by intro w' hw'; (go_simp; first | done | rfl)) ?_); (try simp only [Act.put, List.setIfInBounds_toArray, List.set_cons_zero, List.set_cons_succ])
            refine P3.q_free e9.out (P3.p_free rfl (by intro w' hw'; (go_simp; first | done | rfl)) ?_); (try simp only [Act.put, List.setIfInBounds_toArray, List.set_cons_zero, List.set_cons_succ])
            refine P3.q_free e10.out (P3.p_free rfl (by intro w' hw'; (go_simp; first | done | rfl)) ?_); (try simp only [Act.put, List.setIfInBounds_toArray, List.set_cons_zero, List.set_cons_succ])
            have hT := hla.to (show (5 + (s1 : Int)).toNat ≤ 7 by omega)
            rw [ints_take1] at hT
            refine P3.q_one e11.out (P3.p_call rfl (by (go_simp; first | done | exact ⟨rfl, rfl⟩ | rfl)) ?_)
            refine (amongC w (w.heap.size + 1) A n c cs _ _ (5 + (s1 : Int)).toNat 7 _ w8 hC hc (by omega) hT (by omega) (ne_lit hna)).mono ?_
            rintro _ w9 ⟨f, rfl, hf, hc, hg⟩
            replace hf := List.mem_of_mem_take hf
            have hfb : -1 ≤ f ∧ f ≤ 501 := by simp at hf; omega
            clear hf hT hq1a hq1b hq1c hq1d
            replace hq := blk_gro hq hg (by intro e; injection e with e; omega)
            replace hp := blk_gro hp hg (by intro e; injection e with e; omega)
            replace hO := own_gro hO hg (by simp)
            replace hla := hla.gro hg (ne_lit hna)
            replace hlb := hlb.gro hg (ne_lit hnb)
            clear hla hna
            clear hg
            refine ⟨_, rfl, hq, ?_⟩
            (try simp only [Act.put, List.setIfInBounds_toArray, List.set_cons_zero, List.set_cons_succ])
            refine P3.q_one e15.out (P3.p_call rfl (by (go_simp; first | done | exact ⟨rfl, rfl⟩ | rfl)) ?_)
            refine (pickC w (w.heap.size + 1) A n c cs _ 24 w9 hC hc (by omega) (by omega)).mono ?_
            rintro _ w10 ⟨r2, rfl, ⟨hs0, hs1⟩, hc, hg⟩
            obtain ⟨s2, hs2, hq2a⟩ := pick_quot r2 hs0 hs1
            have hq2b : IntKind.i64.wrap (3 + (s2 : Int)) = 3 + (s2 : Int) := IntWalk.i64_in _ (by omega)
            have hq2c : (0 : Int) ≤ 3 + (s2 : Int) := by omega
            have hq2d : 3 + (s2 : Int) ≤ 5 := by omega
            clear hs0 hs1
            replace hq := blk_gro hq hg (by intro e; injection e with e; omega)
            replace hp := blk_gro hp hg (by intro e; injection e with e; omega)
            replace hO := own_gro hO hg (by simp)
            replace hlb := hlb.gro hg (ne_lit hnb)
            clear hg
            refine ⟨_, rfl, hq, ?_⟩
            (try simp only [Act.put, List.setIfInBounds_toArray, List.set_cons_zero, List.set_cons_succ])
            refine P3.q_free e16.out (P3.p_free rfl (by intro w' hw'; (go_simp; first | done | rfl)) ?_); (try simp only [Act.put, List.setIfInBounds_toArray, List.set_cons_zero, List.set_cons_succ])
            refine P3.q_free e17.out (P3.p_free rfl (by intro w' hw'; (go_simp; first | done | rfl)) ?_); (try simp only [Act.put, List.setIfInBounds_toArray, List.set_cons_zero, List.set_cons_succ])
            refine P3.q_free e18.out (P3.p_free rfl (by intro w' hw'; (go_simp; first | done | rfl)) ?_); (try simp only [Act.put, List.setIfInBounds_toArray, List.set_cons_zero, List.set_cons_succ])
            have hT := hlb.to (show (3 + (s2 : Int)).toNat ≤ 5 by omega)
            rw [ints_take1] at hT
            refine P3.q_one e19.out (P3.p_call rfl (by (go_simp; first | done | exact ⟨rfl, rfl⟩ | rfl)) ?_)
            refine (amongC w (w.heap.size + 1) A n c cs _ _ (3 + (s2 : Int)).toNat 5 _ w10 hC hc (by omega) hT (by omega) (ne_lit hnb)).mono ?_
            rintro _ w11 ⟨hh, rfl, hf, hc, hg⟩
            replace hf := List.mem_of_mem_take hf
            have hhb : 0 ≤ hh ∧ hh ≤ 49 := by simp at hf; omega
            clear hf hT hq2a hq2b hq2c hq2d
            replace hq := blk_gro hq hg (by intro e; injection e with e; omega)
            replace hp := blk_gro hp hg (by intro e; injection e with e; omega)
            replace hO := own_gro hO hg (by simp)
            replace hlb := hlb.gro hg (ne_lit hnb)
            clear hlb hnb
            clear hg
            refine ⟨_, rfl, hq, ?_⟩
            (try simp only [Act.put, List.setIfInBounds_toArray, List.set_cons_zero, List.set_cons_succ])
            refine P3.q_free e20.out (P3.p_free rfl (by intro w' hw'; (go_simp; first | done | rfl)) ?_); (try simp only [Act.put, List.setIfInBounds_toArray, List.set_cons_zero, List.set_cons_succ])
            obtain ⟨⟨k0, k1, k2, k3⟩, kz⟩ := cells4 hp
            have nq1 : ¬ q = w.heap.size := by omega
            refine P3.q_one e21.out (P3.p_store rfl (by (go_simp; first | done | rfl)) (by (repeat' (first | (with_reducible assumption) | (refine (heap_setCell_other _ _ _ _ (by simpa using nq1)).trans ?_)))) ?_)
            (try simp only [Act.put])
            refine P3.q_free e22.out (P3.p_free rfl (by intro w' hw'; (go_simp; first | done | rfl)) ?_); (try simp only [Act.put, List.setIfInBounds_toArray, List.set_cons_zero, List.set_cons_succ])
            refine P3.q_free e23.out (P3.p_free rfl (by intro w' hw'; (go_simp; first | done | rfl)) ?_); (try simp only [Act.put, List.setIfInBounds_toArray, List.set_cons_zero, List.set_cons_succ])
            refine P3.q_free e24.out (P3.p_free rfl (by intro w' hw'; (go_simp; first | done | rfl)) ?_); (try simp only [Act.put, List.setIfInBounds_toArray, List.set_cons_zero, List.set_cons_succ])
            refine P3.q_stop ?_
            go_wp2_with fail
            refine bodyPost_ret (v := .tuple #[.slice A' m c', .agg #[.int .i64 r.work, .int .i64 r.rest, .int .i64 r.span, .int .i64 r.most], .int .i64 v, .int .i64 f, .int .i64 hh]) (by simp [results, Try.results35, go_sem, *]) rfl ?_
            refine ⟨A', m, c', xs, r, v, f, hh, rfl, Own.mk_ (own_low (base := w.heap.size + 1 + 1) ?_ (by omega)), hm, hv, hfb, hhb, ?_⟩
            · (iterate 4 (refine own_set_far ?_ (by omega)))
              exact hO
            · have hb := hc.bel
              (repeat' (first | (with_reducible assumption) | (refine Below.setCell ?_ (by simp) _)))
          · refine P3.q_one e7.out (P3.p_call rfl (by (go_simp; first | done | exact ⟨rfl, rfl⟩ | rfl)) ?_)
            refine (pickC w (w.heap.size + 1) A n c cs _ 24 w6 hC hc (by omega) (by omega)).mono ?_
            rintro _ w7 ⟨r1, rfl, ⟨hr0, hr1⟩, hc, hg⟩
            obtain ⟨s1, hs1, hq1a⟩ := pick_quot r1 hr0 hr1
            have hq1b : IntKind.i64.wrap (5 + (s1 : Int)) = 5 + (s1 : Int) := IntWalk.i64_in _ (by omega)
            have hq1c : (0 : Int) ≤ 5 + (s1 : Int) := by omega
            have hq1d : 5 + (s1 : Int) ≤ 7 := by omega
            clear hr0 hr1
            replace hq := blk_gro hq hg (by intro e; injection e with e; omega)
            replace hp := blk_gro hp hg (by intro e; injection e with e; omega)
            replace hO := own_gro hO hg (by simp)
            replace hlb := hlb.gro hg (ne_lit hnb)
            clear hg
            refine ⟨_, rfl, hq, ?_⟩
            (try simp only [Act.put, List.setIfInBounds_toArray, List.set_cons_zero, List.set_cons_succ])
            refine P3.q_free e8.out (P3.p_free rfl (by intro w' hw'; (go_simp; first | done | rfl)) ?_); (try simp only [Act.put, List.setIfInBounds_toArray, List.set_cons_zero, List.set_cons_succ])
            refine P3.q_free e9.out (P3.p_free rfl (by intro w' hw'; (go_simp; first | done | rfl)) ?_); (try simp only [Act.put, List.setIfInBounds_toArray, List.set_cons_zero, List.set_cons_succ])
            have hla : Sl (w7.alloc (.cells #[.int .i64 0, .int .i64 5, .int .i64 20, .int .i64 480, .int .i64 500, .int .i64 (-1), .int .i64 501] 3)) 1 (some ⟨w7.heap.size, 0, none⟩) 7 7 (ints [0, 5, 20, 480, 500, -1, 501]) := lit_sl rfl rfl (by simp [maxLen]) rfl
            have hna := hc.lt
            refine P3.q_one e5.out (P3.p_val rfl (by (go_simp; first | done | rfl | exact ⟨rfl, rfl⟩)) (blk_bel hq (bel_alloc (bel_refl _))) ?_)
            (try simp only [Act.put, List.setIfInBounds_toArray, List.set_cons_zero, List.set_cons_succ])
            replace hq := blk_bel hq (bel_alloc (o := .cells #[.int .i64 0, .int .i64 5, .int .i64 20, .int .i64 480, .int .i64 500, .int .i64 (-1), .int .i64 501] 3) (bel_refl _))
            replace hp := blk_bel hp (bel_alloc (o := .cells #[.int .i64 0, .int .i64 5, .int .i64 20, .int .i64 480, .int .i64 500, .int .i64 (-1), .int .i64 501] 3) (bel_refl _))
            replace hO := own_bel hO (bel_alloc (o := .cells #[.int .i64 0, .int .i64 5, .int .i64 20, .int .i64 480, .int .i64 500, .int .i64 (-1), .int .i64 501] 3) (bel_refl _))
            replace hc := hc.kept (bel_alloc (o := .cells #[.int .i64 0, .int .i64 5, .int .i64 20, .int .i64 480, .int .i64 500, .int .i64 (-1), .int .i64 501] 3) (bel_refl _))
            replace hlb := hlb.bel (bel_alloc (o := .cells #[.int .i64 0, .int .i64 5, .int .i64 20, .int .i64 480, .int .i64 500, .int .i64 (-1), .int .i64 501] 3) (bel_refl _))
            obtain ⟨w8, hw⟩ : ∃ w8, w7.alloc (.cells #[.int .i64 0, .int .i64 5, .int .i64 20, .int .i64 480, .int .i64 500, .int .i64 (-1), .int .i64 501] 3) = w8 := ⟨_, rfl⟩
            rw [hw] at hq hp hO hc hla hlb ⊢
            clear hw
            refine P3.q_free e10.out (P3.p_free rfl (by intro w' hw'; (go_simp; first | done | rfl)) ?_); (try simp only [Act.put, List.setIfInBounds_toArray, List.set_cons_zero, List.set_cons_succ])
            have hT := hla.to (show (5 + (s1 : Int)).toNat ≤ 7 by omega)
            rw [ints_take1] at hT
            refine P3.q_one e11.out (P3.p_call rfl (by (go_simp; first | done | exact ⟨rfl, rfl⟩ | rfl)) ?_)
            refine (amongC w (w.heap.size + 1) A n c cs _ _ (5 + (s1 : Int)).toNat 7 _ w8 hC hc (by omega) hT (by omega) (ne_lit hna)).mono ?_
            rintro _ w9 ⟨f, rfl, hf, hc, hg⟩
            replace hf := List.mem_of_mem_take hf
            have hfb : -1 ≤ f ∧ f ≤ 501 := by simp at hf; omega
            clear hf hT hq1a hq1b hq1c hq1d
            replace hq := blk_gro hq hg (by intro e; injection e with e; omega)
            replace hp := blk_gro hp hg (by intro e; injection e with e; omega)
            replace hO := own_gro hO hg (by simp)
            replace hla := hla.gro hg (ne_lit hna)
            replace hlb := hlb.gro hg (ne_lit hnb)
            clear hla hna
            clear hg
            refine ⟨_, rfl, hq, ?_⟩
            (try simp only [Act.put, List.setIfInBounds_toArray, List.set_cons_zero, List.set_cons_succ])
            refine P3.q_one e15.out (P3.p_call rfl (by (go_simp; first | done | exact ⟨rfl, rfl⟩ | rfl)) ?_)
            refine (pickC w (w.heap.size + 1) A n c cs _ 24 w9 hC hc (by omega) (by omega)).mono ?_
            rintro _ w10 ⟨r2, rfl, ⟨hs0, hs1⟩, hc, hg⟩
            obtain ⟨s2, hs2, hq2a⟩ := pick_quot r2 hs0 hs1
            have hq2b : IntKind.i64.wrap (3 + (s2 : Int)) = 3 + (s2 : Int) := IntWalk.i64_in _ (by omega)
            have hq2c : (0 : Int) ≤ 3 + (s2 : Int) := by omega
            have hq2d : 3 + (s2 : Int) ≤ 5 := by omega
            clear hs0 hs1
            replace hq := blk_gro hq hg (by intro e; injection e with e; omega)
            replace hp := blk_gro hp hg (by intro e; injection e with e; omega)
            replace hO := own_gro hO hg (by simp)
            replace hlb := hlb.gro hg (ne_lit hnb)
            clear hg
            refine ⟨_, rfl, hq, ?_⟩
            (try simp only [Act.put, List.setIfInBounds_toArray, List.set_cons_zero, List.set_cons_succ])
            refine P3.q_free e16.out (P3.p_free rfl (by intro w' hw'; (go_simp; first | done | rfl)) ?_); (try simp only [Act.put, List.setIfInBounds_toArray, List.set_cons_zero, List.set_cons_succ])
            refine P3.q_free e17.out (P3.p_free rfl (by intro w' hw'; (go_simp; first | done | rfl)) ?_); (try simp only [Act.put, List.setIfInBounds_toArray, List.set_cons_zero, List.set_cons_succ])
            refine P3.q_free e18.out (P3.p_free rfl (by intro w' hw'; (go_simp; first | done | rfl)) ?_); (try simp only [Act.put, List.setIfInBounds_toArray, List.set_cons_zero, List.set_cons_succ])
            have hT := hlb.to (show (3 + (s2 : Int)).toNat ≤ 5 by omega)
            rw [ints_take1] at hT
            refine P3.q_one e19.out (P3.p_call rfl (by (go_simp; first | done | exact ⟨rfl, rfl⟩ | rfl)) ?_)
            refine (amongC w (w.heap.size + 1) A n c cs _ _ (3 + (s2 : Int)).toNat 5 _ w10 hC hc (by omega) hT (by omega) (ne_lit hnb)).mono ?_
            rintro _ w11 ⟨hh, rfl, hf, hc, hg⟩
            replace hf := List.mem_of_mem_take hf
            have hhb : 0 ≤ hh ∧ hh ≤ 49 := by simp at hf; omega
            clear hf hT hq2a hq2b hq2c hq2d
            replace hq := blk_gro hq hg (by intro e; injection e with e; omega)
            replace hp := blk_gro hp hg (by intro e; injection e with e; omega)
            replace hO := own_gro hO hg (by simp)
            replace hlb := hlb.gro hg (ne_lit hnb)
            clear hlb hnb
            clear hg
            refine ⟨_, rfl, hq, ?_⟩
            (try simp only [Act.put, List.setIfInBounds_toArray, List.set_cons_zero, List.set_cons_succ])
            refine P3.q_free e20.out (P3.p_free rfl (by intro w' hw'; (go_simp; first | done | rfl)) ?_); (try simp only [Act.put, List.setIfInBounds_toArray, List.set_cons_zero, List.set_cons_succ])
            obtain ⟨⟨k0, k1, k2, k3⟩, kz⟩ := cells4 hp
            have nq1 : ¬ q = w.heap.size := by omega
            refine P3.q_one e21.out (P3.p_store rfl (by (go_simp; first | done | rfl)) (by (repeat' (first | (with_reducible assumption) | (refine (heap_setCell_other _ _ _ _ (by simpa using nq1)).trans ?_)))) ?_)
            (try simp only [Act.put])
            refine P3.q_free e22.out (P3.p_free rfl (by intro w' hw'; (go_simp; first | done | rfl)) ?_); (try simp only [Act.put, List.setIfInBounds_toArray, List.set_cons_zero, List.set_cons_succ])
            refine P3.q_free e23.out (P3.p_free rfl (by intro w' hw'; (go_simp; first | done | rfl)) ?_); (try simp only [Act.put, List.setIfInBounds_toArray, List.set_cons_zero, List.set_cons_succ])
            refine P3.q_free e24.out (P3.p_free rfl (by intro w' hw'; (go_simp; first | done | rfl)) ?_); (try simp only [Act.put, List.setIfInBounds_toArray, List.set_cons_zero, List.set_cons_succ])
            refine P3.q_stop ?_
            go_wp2_with fail
            refine bodyPost_ret (v := .tuple #[.slice A' m c', .agg #[.int .i64 r.work, .int .i64 r.rest, .int .i64 r.span, .int .i64 r.most], .int .i64 v, .int .i64 f, .int .i64 hh]) (by simp [results, Try.results35, go_sem, *]) rfl ?_
            refine ⟨A', m, c', xs, r, v, f, hh, rfl, Own.mk_ (own_low (base := w.heap.size + 1 + 1) ?_ (by omega)), hm, hv, hfb, hhb, ?_⟩
            · (iterate 4 (refine own_set_far ?_ (by omega)))
              exact hO
            · have hb := hc.bel
              (repeat' (first | (with_reducible assumption) | (refine Below.setCell ?_ (by simp) _)))
        · have hla : Sl (w5.alloc (.cells #[.int .i64 0, .int .i64 5, .int .i64 20, .int .i64 480, .int .i64 500, .int .i64 (-1), .int .i64 501] 3)) 1 (some ⟨w5.heap.size, 0, none⟩) 7 7 (ints [0, 5, 20, 480, 500, -1, 501]) := lit_sl rfl rfl (by simp [maxLen]) rfl
          have hna := hc.lt
          refine P3.q_one e5.out (P3.p_val rfl (by (go_simp; first | done | rfl | exact ⟨rfl, rfl⟩)) (blk_bel hq (bel_alloc (bel_refl _))) ?_)
          (try simp only [Act.put, List.setIfInBounds_toArray, List.set_cons_zero, List.set_cons_succ])
          replace hq := blk_bel hq (bel_alloc (o := .cells #[.int .i64 0, .int .i64 5, .int .i64 20, .int .i64 480, .int .i64 500, .int .i64 (-1), .int .i64 501] 3) (bel_refl _))
          replace hp := blk_bel hp (bel_alloc (o := .cells #[.int .i64 0, .int .i64 5, .int .i64 20, .int .i64 480, .int .i64 500, .int .i64 (-1), .int .i64 501] 3) (bel_refl _))
          replace hO := own_bel hO (bel_alloc (o := .cells #[.int .i64 0, .int .i64 5, .int .i64 20, .int .i64 480, .int .i64 500, .int .i64 (-1), .int .i64 501] 3) (bel_refl _))
          replace hc := hc.kept (bel_alloc (o := .cells #[.int .i64 0, .int .i64 5, .int .i64 20, .int .i64 480, .int .i64 500, .int .i64 (-1), .int .i64 501] 3) (bel_refl _))
          replace hlb := hlb.bel (bel_alloc (o := .cells #[.int .i64 0, .int .i64 5, .int .i64 20, .int .i64 480, .int .i64 500, .int .i64 (-1), .int .i64 501] 3) (bel_refl _))
          obtain ⟨w6, hw⟩ : ∃ w6, w5.alloc (.cells #[.int .i64 0, .int .i64 5, .int .i64 20, .int .i64 480, .int .i64 500, .int .i64 (-1), .int .i64 501] 3) = w6 := ⟨_, rfl⟩
          rw [hw] at hq hp hO hc hla hlb ⊢
          clear hw
          refine P3.q_one e3.out (P3.p_call rfl (by (go_simp; first | done | exact ⟨rfl, rfl⟩ | rfl)) ?_)
          refine (crew11C w (w.heap.size + 1) A n c cs _ w6 hC hc (by omega)).mono ?_
          rintro _ w7 ⟨v, rfl, hv, hc, hg⟩
          replace hq := blk_gro hq hg (by intro e; injection e with e; omega)
          replace hp := blk_gro hp hg (by intro e; injection e with e; omega)
          replace hO := own_gro hO hg (by simp)
          replace hla := hla.gro hg (ne_lit hna)
          replace hlb := hlb.gro hg (ne_lit hnb)
          clear hg
          refine ⟨_, rfl, hq, ?_⟩
          (try simp only [Act.put, List.setIfInBounds_toArray, List.set_cons_zero, List.set_cons_succ])
          refine P3.q_one e7.out (P3.p_call rfl (by (go_simp; first | done | exact ⟨rfl, rfl⟩ | rfl)) ?_)
          refine (pickC w (w.heap.size + 1) A n c cs _ 24 w7 hC hc (by omega) (by omega)).mono ?_
          rintro _ w8 ⟨r1, rfl, ⟨hr0, hr1⟩, hc, hg⟩
          obtain ⟨s1, hs1, hq1a⟩ := pick_quot r1 hr0 hr1
          have hq1b : IntKind.i64.wrap (5 + (s1 : Int)) = 5 + (s1 : Int) := IntWalk.i64_in _ (by omega)
          have hq1c : (0 : Int) ≤ 5 + (s1 : Int) := by omega
          have hq1d : 5 + (s1 : Int) ≤ 7 := by omega
          clear hr0 hr1
          replace hq := blk_gro hq hg (by intro e; injection e with e; omega)
          replace hp := blk_gro hp hg (by intro e; injection e with e; omega)
          replace hO := own_gro hO hg (by simp)
          replace hla := hla.gro hg (ne_lit hna)
          replace hlb := hlb.gro hg (ne_lit hnb)
          clear hg
          refine ⟨_, rfl, hq, ?_⟩
          (try simp only [Act.put, List.setIfInBounds_toArray, List.set_cons_zero, List.set_cons_succ])
          refine P3.q_free e8.out (P3.p_free rfl (by intro w' hw'; (go_simp; first | done | rfl)) ?_); (try simp only [Act.put, List.setIfInBounds_toArray, List.set_cons_zero, List.set_cons_succ])
          refine P3.q_free e9.out (P3.p_free rfl (by intro w' hw'; (go_simp; first | done | rfl)) ?_); (try simp only [Act.put, List.setIfInBounds_toArray, List.set_cons_zero, List.set_cons_succ])
          refine P3.q_free e10.out (P3.p_free rfl (by intro w' hw'; (go_simp; first | done | rfl)) ?_); (try simp only [Act.put, List.setIfInBounds_toArray, List.set_cons_zero, List.set_cons_succ])
          have hT := hla.to (show (5 + (s1 : Int)).toNat ≤ 7 by omega)
          rw [ints_take1] at hT
          refine P3.q_one e11.out (P3.p_call rfl (by (go_simp; first | done | exact ⟨rfl, rfl⟩ | rfl)) ?_)
          refine (amongC w (w.heap.size + 1) A n c cs _ _ (5 + (s1 : Int)).toNat 7 _ w8 hC hc (by omega) hT (by omega) (ne_lit hna)).mono ?_
          rintro _ w9 ⟨f, rfl, hf, hc, hg⟩
          replace hf := List.mem_of_mem_take hf
          have hfb : -1 ≤ f ∧ f ≤ 501 := by simp at hf; omega
          clear hf hT hq1a hq1b hq1c hq1d
          replace hq := blk_gro hq hg (by intro e; injection e with e; omega)
          replace hp := blk_gro hp hg (by intro e; injection e with e; omega)
          replace hO := own_gro hO hg (by simp)
          replace hla := hla.gro hg (ne_lit hna)
          replace hlb := hlb.gro hg (ne_lit hnb)
          clear hla hna
          clear hg
          refine ⟨_, rfl, hq, ?_⟩
          (try simp only [Act.put, List.setIfInBounds_toArray, List.set_cons_zero, List.set_cons_succ])
          refine P3.q_one e15.out (P3.p_call rfl (by (go_simp; first | done | exact ⟨rfl, rfl⟩ | rfl)) ?_)
          refine (pickC w (w.heap.size + 1) A n c cs _ 24 w9 hC hc (by omega) (by omega)).mono ?_
          rintro _ w10 ⟨r2, rfl, ⟨hs0, hs1⟩, hc, hg⟩
          obtain ⟨s2, hs2, hq2a⟩ := pick_quot r2 hs0 hs1
          have hq2b : IntKind.i64.wrap (3 + (s2 : Int)) = 3 + (s2 : Int) := IntWalk.i64_in _ (by omega)
          have hq2c : (0 : Int) ≤ 3 + (s2 : Int) := by omega
          have hq2d : 3 + (s2 : Int) ≤ 5 := by omega
          clear hs0 hs1
          replace hq := blk_gro hq hg (by intro e; injection e with e; omega)
          replace hp := blk_gro hp hg (by intro e; injection e with e; omega)
          replace hO := own_gro hO hg (by simp)
          replace hlb := hlb.gro hg (ne_lit hnb)
          clear hg
          refine ⟨_, rfl, hq, ?_⟩
          (try simp only [Act.put, List.setIfInBounds_toArray, List.set_cons_zero, List.set_cons_succ])
          refine P3.q_free e16.out (P3.p_free rfl (by intro w' hw'; (go_simp; first | done | rfl)) ?_); (try simp only [Act.put, List.setIfInBounds_toArray, List.set_cons_zero, List.set_cons_succ])
          refine P3.q_free e17.out (P3.p_free rfl (by intro w' hw'; (go_simp; first | done | rfl)) ?_); (try simp only [Act.put, List.setIfInBounds_toArray, List.set_cons_zero, List.set_cons_succ])
          refine P3.q_free e18.out (P3.p_free rfl (by intro w' hw'; (go_simp; first | done | rfl)) ?_); (try simp only [Act.put, List.setIfInBounds_toArray, List.set_cons_zero, List.set_cons_succ])
          have hT := hlb.to (show (3 + (s2 : Int)).toNat ≤ 5 by omega)
          rw [ints_take1] at hT
          refine P3.q_one e19.out (P3.p_call rfl (by (go_simp; first | done | exact ⟨rfl, rfl⟩ | rfl)) ?_)
          refine (amongC w (w.heap.size + 1) A n c cs _ _ (3 + (s2 : Int)).toNat 5 _ w10 hC hc (by omega) hT (by omega) (ne_lit hnb)).mono ?_
          rintro _ w11 ⟨hh, rfl, hf, hc, hg⟩
          replace hf := List.mem_of_mem_take hf
          have hhb : 0 ≤ hh ∧ hh ≤ 49 := by simp at hf; omega
          clear hf hT hq2a hq2b hq2c hq2d
          replace hq := blk_gro hq hg (by intro e; injection e with e; omega)
          replace hp := blk_gro hp hg (by intro e; injection e with e; omega)
          replace hO := own_gro hO hg (by simp)
          replace hlb := hlb.gro hg (ne_lit hnb)
          clear hlb hnb
          clear hg
          refine ⟨_, rfl, hq, ?_⟩
          (try simp only [Act.put, List.setIfInBounds_toArray, List.set_cons_zero, List.set_cons_succ])
          refine P3.q_free e20.out (P3.p_free rfl (by intro w' hw'; (go_simp; first | done | rfl)) ?_); (try simp only [Act.put, List.setIfInBounds_toArray, List.set_cons_zero, List.set_cons_succ])
          obtain ⟨⟨k0, k1, k2, k3⟩, kz⟩ := cells4 hp
          have nq1 : ¬ q = w.heap.size := by omega
          refine P3.q_one e21.out (P3.p_store rfl (by (go_simp; first | done | rfl)) (by (repeat' (first | (with_reducible assumption) | (refine (heap_setCell_other _ _ _ _ (by simpa using nq1)).trans ?_)))) ?_)
          (try simp only [Act.put])
          refine P3.q_free e22.out (P3.p_free rfl (by intro w' hw'; (go_simp; first | done | rfl)) ?_); (try simp only [Act.put, List.setIfInBounds_toArray, List.set_cons_zero, List.set_cons_succ])
          refine P3.q_free e23.out (P3.p_free rfl (by intro w' hw'; (go_simp; first | done | rfl)) ?_); (try simp only [Act.put, List.setIfInBounds_toArray, List.set_cons_zero, List.set_cons_succ])
          refine P3.q_free e24.out (P3.p_free rfl (by intro w' hw'; (go_simp; first | done | rfl)) ?_); (try simp only [Act.put, List.setIfInBounds_toArray, List.set_cons_zero, List.set_cons_succ])
          refine P3.q_stop ?_
          go_wp2_with fail
          refine bodyPost_ret (v := .tuple #[.slice A' m c', .agg #[.int .i64 r.work, .int .i64 r.rest, .int .i64 r.span, .int .i64 r.most], .int .i64 v, .int .i64 f, .int .i64 hh]) (by simp [results, Try.results35, go_sem, *]) rfl ?_
          refine ⟨A', m, c', xs, r, v, f, hh, rfl, Own.mk_ (own_low (base := w.heap.size + 1 + 1) ?_ (by omega)), hm, hv, hfb, hhb, ?_⟩
          · (iterate 4 (refine own_set_far ?_ (by omega)))
            exact hO
          · have hb := hc.bel
            (repeat' (first | (with_reducible assumption) | (refine Below.setCell ?_ (by simp) _)))
end Go.Proofs.Ytlffolfooiijhaa
