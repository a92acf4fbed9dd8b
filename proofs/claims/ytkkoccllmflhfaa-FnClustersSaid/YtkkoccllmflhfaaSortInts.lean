/-
  The library's sort of at most twelve numbers, walked: the same numbers, in order.
-/
import Derived.Test.YtkkoccllmflhfaaMem
import Derived.Test.YtkkoccllmflhfaaPlan
import Derived.Test.YtkkoccllmflhfaaIn
import Derived.Shelf.Strconv.Itoa0
namespace Go.Proofs.Ytkkoccllmflhfaa
open Go.RowKit

theorem gro_tr {a b c : World} {r : Option Nat} (h : a.grownBy b r) (k : b.grownBy c r) : a.grownBy c r :=
  ⟨k.os.trans h.os, k.tape.trans h.tape, k.output.trans h.output, Nat.le_trans h.size k.size, fun i hi hr => (k.block i (Nat.lt_of_lt_of_le hi h.size) hr).trans (h.block i hi hr)⟩
theorem grown_bel {w w1 w2 : World} {r : Option Nat} (h : w.grownBy w1 r) (hb : Below w1.heap.size w1 w2) : w.grownBy w2 r :=
  ⟨hb.os.trans h.os, hb.tape.trans h.tape, hb.output.trans h.output, Nat.le_trans h.size hb.size, fun i hi hne => (hb.block i (Nat.lt_of_lt_of_le hi h.size)).trans (h.block i hi hne)⟩
theorem body_none {P : Program} {fn : Func} {R : Ending → World → Prop} {a : Act} {w : World} {v : Value} (hr : (results fn a.tmps).run P w = .ok v w) (hd : a.defers = []) (h : R (.returned v) w) : bodyPost P fn R .normal a w := ⟨hd, v, hr, h⟩
theorem ints_set (xs : List Int) (i : Nat) (v : Int) : (ints xs).set i (.int .i64 v) = ints (xs.set i v) := by simp [ints, List.map_set]
theorem own_seti {w : World} {lo g n c : Nat} {e : TypeId} {xs : List Int} {i : Nat} (v : Int) (h : w.ownsRow lo e 1 (.slice (some ⟨g, 0, none⟩) n c) n (ints xs)) :
    (w.setCell ⟨g, i, none⟩ (.int .i64 v)).ownsRow lo e 1 (.slice (some ⟨g, 0, none⟩) n c) n (ints (xs.set i v)) := by
  have := (h.stored i (.int .i64 v)).1
  rwa [ints_set] at this
theorem own_at_int {w : World} {lo g n c : Nat} {e : TypeId} {xs : List Int} {i : Nat} {v : Int} (h : w.ownsRow lo e 1 (.slice (some ⟨g, 0, none⟩) n c) n (ints xs)) (hv : xs[i]? = some v) : w.cell? ⟨g, i, none⟩ = some (.int .i64 v) := by
  have hl := h.1
  rw [ints_len] at hl
  have hi := (List.getElem?_eq_some_iff.1 hv).1
  rw [h.cellAt i (by omega)]
  simp [ints, hv]
theorem swap_perm {xs : List Int} {i j : Nat} {u v : Int} (hi : xs[i]? = some u) (hj : xs[j]? = some v) : ((xs.set i v).set j u).Perm xs := by
  obtain ⟨h1, rfl⟩ := List.getElem?_eq_some_iff.1 hi
  obtain ⟨h2, rfl⟩ := List.getElem?_eq_some_iff.1 hj
  exact List.set_set_perm h1 h2
/-- In order up to i, but for what lies at j. -/
def Sunk (j i : Nat) (ys : List Int) : Prop := ∀ (p q : Nat) (u v : Int), p < q → q ≤ i → q ≠ j → ys[p]? = some u → ys[q]? = some v → u ≤ v
def Upto (i : Nat) (ys : List Int) : Prop := ∀ (p q : Nat) (u v : Int), p < q → q < i → ys[p]? = some u → ys[q]? = some v → u ≤ v
theorem sunk_start {i : Nat} {ys : List Int} (h : Upto i ys) : Sunk i i ys := fun p q u v hpq hq hne hp hv => h p q u v hpq (by omega) hp hv
theorem sunk_stay {i j : Nat} {ys : List Int} {u v : Int} (h : Sunk (j + 1) i ys) (hp : ys[j]? = some u) (hq : ys[j + 1]? = some v) (hl : ¬ v < u) : Upto (i + 1) ys := fun p q a b hpq hqi ha hb => by
  by_cases hne : q = j + 1
  · subst hne
    rw [hq] at hb
    cases hb
    rcases Nat.lt_or_ge p j with h1 | h1
    · have := h p j a u h1 (by omega) (by omega) ha hp
      omega
    · obtain rfl : p = j := by omega
      rw [hp] at ha
      cases ha
      omega
  · exact h p q a b hpq (by omega) hne ha hb
theorem sunk_end {i : Nat} {ys : List Int} (h : Sunk 0 i ys) : Upto (i + 1) ys := fun p q a b hpq hqi ha hb => h p q a b hpq (by omega) (by omega) ha hb
theorem sunk_go {i j : Nat} {ys : List Int} {u v : Int} (hji : j + 1 ≤ i) (h : Sunk (j + 1) i ys) (hp : ys[j]? = some u) (hq : ys[j + 1]? = some v) (hl : v < u) : Sunk j i ((ys.set (j + 1) u).set j v) := fun p q a b hpq hqi hne ha hb => by
  have hjl := (List.getElem?_eq_some_iff.1 hp).1
  have hjl2 := (List.getElem?_eq_some_iff.1 hq).1
  have get : ∀ k, ((ys.set (j + 1) u).set j v)[k]? = if k = j then some v else if k = j + 1 then some u else ys[k]? := fun k => by
    rw [List.getElem?_set, List.getElem?_set]
    by_cases h1 : k = j
    · subst h1; simp [hjl]
    · rw [if_neg (by omega), if_neg h1]
      by_cases h2 : k = j + 1
      · subst h2; simp [hjl2]
      · rw [if_neg (by omega), if_neg h2]
  rw [get] at ha hb
  rw [if_neg hne] at hb
  by_cases hq1 : q = j + 1
  · subst hq1
    rw [if_pos rfl] at hb
    cases hb
    by_cases hpj : p = j
    · rw [if_pos hpj] at ha
      cases ha
      omega
    · rw [if_neg hpj, if_neg (by omega)] at ha
      exact h p j a _ (by omega) (by omega) (by omega) ha hp
  · rw [if_neg hq1] at hb
    by_cases hpj : p = j
    · rw [if_pos hpj] at ha
      cases ha
      exact h (j + 1) q _ b (by omega) hqi hq1 hq hb
    · rw [if_neg hpj] at ha
      by_cases hpj1 : p = j + 1
      · rw [if_pos hpj1] at ha
        cases ha
        exact h j q _ b (by omega) hqi hq1 hp hb
      · rw [if_neg hpj1] at ha
        exact h p q a b hpq hqi hq1 ha hb
theorem cmpLess (x y : Int) (w : World) : Calls Try.prog 74 #[.int .i64 x, .int .i64 y] w fun e w' => e = .returned (.bool (decide (x < y))) ∧ w = w' := by
  have hx : (x != x) = false := by simp
  go_enter Try.func74, Try.ntmps74
  go_wp2
  all_goals (go_ret; exact ⟨ret_bool (by simp [*]), rfl⟩)
set_option maxHeartbeats 4000000 in
set_option maxRecDepth 100000 in
theorem insInts (g n c lo : Nat) (xs : List Int) (w : World) (h : w.ownsRow lo 3 1 (.slice (some ⟨g, 0, none⟩) n c) n (ints xs)) (hn : n ≤ 12) :
    Calls Try.prog 68 #[.slice (some ⟨g, 0, none⟩) n c, .int .i64 0, .int .i64 n] w fun e w' => (∃ v, e = .returned v) ∧ (∃ ys : List Int, ys.Perm xs ∧ Upto n ys ∧ w'.ownsRow lo 3 1 (.slice (some ⟨g, 0, none⟩) n c) n (ints ys)) ∧ w.grownBy w' (some g) := by
  have hnb : (n : Int) ≤ 12 := by omega
  go_enter Try.func68, Try.ntmps68
  go_wp2_with fail
  go_loopw [6] (fun v wr => ∃ i : Nat, 1 ≤ i ∧ (i ≤ n ∨ i = 1) ∧ v = .int .i64 i ∧ (∃ ys : List Int, Hid (ys.Perm xs ∧ Upto i ys) ∧ wr.ownsRow lo 3 1 (.slice (some ⟨g, 0, none⟩) n c) n (ints ys)) ∧ w.grownBy wr (some g)) (fun v _ => (n + 1) - (intOf v).toNat)
  case atStart => exact ⟨1, by omega, Or.inr rfl, by go_num, ⟨xs, ⟨List.Perm.refl _, fun p q u v h1 h2 => by omega⟩, h⟩, World.grownBy.refl _ _⟩
  case round =>
    clear h
    obtain ⟨i, hi1, hin, rfl, ⟨ys, hys, hown⟩, hg⟩ := hrel
    by_cases hlt : i < n
    · have hlt2 : (i : Int) < (n : Int) := by omega
      go_wp2_with fail
      go_loopw [7] (fun v wr => ∃ (j : Nat) (ys : List Int), j ≤ i ∧ v = .int .i64 j ∧ Hid (ys.Perm xs ∧ Sunk j i ys) ∧ wr.ownsRow lo 3 1 (.slice (some ⟨g, 0, none⟩) n c) n (ints ys) ∧ w.grownBy wr (some g)) (fun v _ => (intOf v).toNat)
      case atStart => exact ⟨i, ys, Nat.le_refl _, rfl, ⟨hys.out.1, sunk_start hys.out.2⟩, hown, hg⟩
      case round =>
        clear hown hg hys ys
        obtain ⟨j, ys, hji, rfl, hS, hown, hg⟩ := hrel
        have hyl : ys.length = n := by have h1 := hown.1; rw [ints_len] at h1; omega
        have hgz := (hown.lt g rfl).2
        have hB2 := bel_refl wr
        rcases j with _ | j
        · have hU := hid (sunk_end hS.out.2)
          go_wp2_with fail
          (refine wp_region_bel (by kernel_rfl) (by kernel_rfl) ?_; have hD := bel_cells hB2; (repeat (go_big_quiet_step ((fail)))); refine wpQuiet_nil ?_; intro w1 hB1; replace hB2 := bel_trans hB2 hB1; obtain ⟨hC1, hF1⟩ := bcell hB2; clear hD; replace hB1 := hB1)
          go_wp2
          go_roundw
          case rel => exact ⟨i + 1, by omega, Or.inl (by omega), by go_num, ⟨ys, ⟨hS.out.1, hU.out⟩, own_bel hown hB2⟩, grown_bel hg hB2⟩
          case measure => simp [intOf]; omega
        · obtain ⟨p, hp⟩ : ∃ p, ys[j]? = some p := get_of_lt (by omega)
          obtain ⟨q, hq⟩ : ∃ q, ys[j + 1]? = some q := get_of_lt (by omega)
          have hP := hid hp
          have hQ := hid hq
          have c0 := own_at_int hown hp
          have d0 := own_at_int hown hq
          clear hp hq
          have hfz := own_fz hown
          have hp0 : ((j + 1 : Nat) : Int) = (j : Int) + 1 := by omega
          rw [hp0]
          have hja2 : (0 : Int) < (j : Int) + 1 := by omega
          have hj0 : (0 : Int) ≤ (j : Int) := by omega
          have hj1 : (j : Int) < (n : Int) := by omega
          have hj2 : (j : Int) + 1 < (n : Int) := by omega
          have hj3 : (0 : Int) ≤ (j : Int) + 1 := by omega
          clear hp0
          have hwj : IntKind.i64.wrap (j : Int) = j := IntWalk.i64_in _ (by omega)
          rcases hl : decide (q < p) with _ | _
          · have hU := hid (sunk_stay hS.out.2 hP.out hQ.out (of_decide_eq_false hl))
            go_wp2_with fail
            (refine wp_region_bel (by kernel_rfl) (by kernel_rfl) ?_; have hD := bel_cells hB2; (repeat (go_big_quiet_step (((go_at_call 74; exact calls_bel_same (cmpLess q p _)))))); refine wpQuiet_nil ?_; intro w1 hB1; replace hB2 := bel_trans hB2 hB1; obtain ⟨hC1, hF1⟩ := bcell hB2; clear hD; replace hB1 := hB1)
            go_wp2
            go_roundw
            case rel => exact ⟨i + 1, by omega, Or.inl (by omega), by go_num, ⟨ys, ⟨hS.out.1, hU.out⟩, own_bel hown hB2⟩, grown_bel hg hB2⟩
            case measure => simp [intOf]; omega
          · have hU := hid (sunk_go hji hS.out.2 hP.out hQ.out (of_decide_eq_true hl))
            have hPm := hid ((swap_perm (i := j + 1) (j := j) hQ.out hP.out).trans hS.out.1)
            go_wp2_with fail
            (refine wp_region_bel (by kernel_rfl) (by kernel_rfl) ?_; have hD := bel_cells hB2; (repeat (go_big_quiet_step (((go_at_call 74; exact calls_bel_same (cmpLess q p _)))))); refine wpQuiet_nil ?_; intro w1 hB1; replace hB2 := bel_trans hB2 hB1; obtain ⟨hC1, hF1⟩ := bcell hB2; clear hD; replace hB1 := hB1)
            have hb1 := hB2
            have k0 := (hC1 _ _ hgz).trans c0
            have m0 := (hC1 _ _ hgz).trans d0
            have z0 := fun o => (hF1 g o hgz).trans (hfz o)
            go_wp2_with fail
            (refine wp_region_plan (fun _ => True) (.free 0 (.free 1 (.free 2 (.free 3 (.free 4 (.free 5 (.free 6 (.free 7 (.free 8 (.here 9 (.free 10 (.free 11 (.free 12 (.here 13 (.free 14 (.one 15 (.free 16 (.one 17 (.stop))))))))))))))))))) (by kernel_rfl) (by kernel_rfl) trivial ?_; simp only [Plan.ops, List.getElem?_cons_zero, List.getElem?_cons_succ, Option.getD_some])
            (iterate 9 (refine p_free rfl (by intro w' _; (go_simp; first | done | rfl)) ?_; (try simp only [Act.put, List.setIfInBounds_toArray, List.set_cons_zero, List.set_cons_succ])))
            (iterate 1 (refine p_here rfl (by (go_simp; first | done | rfl)) ?_; (try simp only [Act.put, List.setIfInBounds_toArray, List.set_cons_zero, List.set_cons_succ])))
            (iterate 3 (refine p_free rfl (by intro w' _; (go_simp; first | done | rfl)) ?_; (try simp only [Act.put, List.setIfInBounds_toArray, List.set_cons_zero, List.set_cons_succ])))
            (iterate 1 (refine p_here rfl (by (go_simp; first | done | rfl)) ?_; (try simp only [Act.put, List.setIfInBounds_toArray, List.set_cons_zero, List.set_cons_succ])))
            (iterate 1 (refine p_free rfl (by intro w' _; (go_simp; first | done | rfl)) ?_; (try simp only [Act.put, List.setIfInBounds_toArray, List.set_cons_zero, List.set_cons_succ])))
            refine p_store rfl (by (go_simp; first | done | rfl)) trivial ?_
            (try simp only [Act.put])
            (iterate 1 (refine p_free rfl (by intro w' _; (go_simp; first | done | rfl)) ?_; (try simp only [Act.put, List.setIfInBounds_toArray, List.set_cons_zero, List.set_cons_succ])))
            refine p_store rfl (by (go_simp; first | done | rfl)) trivial ?_
            (try simp only [Act.put])
            refine p_stop ?_
            (try simp only [Act.put, List.setIfInBounds_toArray, List.set_cons_zero, List.set_cons_succ])
            go_wp2
            refine ⟨⟨j, _, by omega, rfl, ⟨hPm.out, hU.out⟩, own_bel (own_seti q (own_seti p (own_bel hown hb1))) (bel_drew (bel_refl _)), grown_bel (grown_set (grown_set (grown_bel hg hb1) _) _) (bel_drew (bel_refl _))⟩, by simp [intOf]⟩
    · have hlt2 : ¬ (i : Int) < (n : Int) := by omega
      go_wp2
      refine body_none (by simp [results, Try.results68, go_sem]; rfl) rfl ⟨⟨_, rfl⟩, ⟨ys, hys.out.1, fun p q u v h1 h2 => hys.out.2 p q u v h1 ?_, hown⟩, hg⟩
      have hyl : ys.length = n := by have h1 := hown.1; rw [ints_len] at h1; omega
      omega
def lays129_ren : Go.Shelf.Ren := ⟨fun | 129 => 78 | n => n, fun | 53 => 70 | 3 => 3 | 4 => 4 | 46 => 80 | 5 => 5 | 9 => 9 | n => n, fun | n => n⟩
theorem lays129 : Go.Proofs.Lays.n129 Try.prog lays129_ren := {
  mixed := by kernel_rfl,
  f129 := Try.func78.trans (congrArg some (by kernel_rfl)),
  t3 := Try.underlying3, a3 := Try.isAgg3, z3 := Try.sizeOf3, v3 := Try.zeroValue3,
  t4 := Try.underlying4, a4 := Try.isAgg4, z4 := Try.sizeOf4, v4 := Try.zeroValue4,
  t5 := Try.underlying5, a5 := Try.isAgg5, z5 := Try.sizeOf5, v5 := Try.zeroValue5,
  t9 := Try.underlying9, a9 := Try.isAgg9, z9 := Try.sizeOf9, v9 := Try.zeroValue9,
  t46 := Try.underlying80, a46 := Try.isAgg80, z46 := Try.sizeOf80, v46 := Try.zeroValue80,
  t53 := Try.underlying70, a53 := Try.isAgg70, z53 := Try.sizeOf70, v53 := Try.zeroValue70 }
theorem bitsLen (x : Int) (w : World) (h0 : 0 ≤ x) (h1 : x ≤ 12) : Calls Try.prog 62 #[.int .u64 x] w fun e w' => e = .returned (.int .i64 (Go.Lib.bitLen x.toNat)) ∧ w' = w := by
  go_enter Try.func62, Try.ntmps62
  go_wp2_with (go_at_call 78; refine (Any.bits_Len64 lays129 x _ h0 (by omega)).mono ?_; rintro _ _ ⟨rfl, rfl⟩)
  go_ret
  exact ⟨rfl, rfl⟩
set_option maxHeartbeats 4000000 in
set_option maxRecDepth 100000 in
theorem pdqInts (g n c lo : Nat) (xs : List Int) (k : Int) (w : World) (h : w.ownsRow lo 3 1 (.slice (some ⟨g, 0, none⟩) n c) n (ints xs)) (hn : n ≤ 12) :
    Calls Try.prog 61 #[.slice (some ⟨g, 0, none⟩) n c, .int .i64 0, .int .i64 n, .int .i64 k] w fun e w' => (∃ v, e = .returned v) ∧ (∃ ys : List Int, ys.Perm xs ∧ Upto n ys ∧ w'.ownsRow lo 3 1 (.slice (some ⟨g, 0, none⟩) n c) n (ints ys)) ∧ w.grownBy w' (some g) := by
  have hn0 : (0 : Int) ≤ (n : Int) := by omega
  have hn1 : (n : Int) ≤ 12 := by omega
  have hwj : IntKind.i64.wrap (n : Int) = n := IntWalk.i64_in _ (by omega)
  go_enter Try.func61, Try.ntmps61
  go_wp2_with fail
  go_loopw [1, 2] (fun u v wr => u = .int .i64 0 ∧ v = .int .i64 n ∧ w = wr) (fun _ _ _ => 0)
  case atStart => exact ⟨rfl, rfl, rfl⟩
  case round =>
    obtain ⟨rfl, rfl, rfl⟩ := hrel
    go_wp2_with fail
    refine (insInts g n c lo xs w h hn).mono ?_
    rintro _ w1 ⟨⟨v, rfl⟩, hys, hg⟩
    go_wp2_with fail
    exact bodyPost_ret (v := .tuple #[]) (by simp [results, Try.results61, go_sem]) rfl ⟨⟨_, rfl⟩, hys, hg⟩
set_option maxHeartbeats 4000000 in
set_option maxRecDepth 100000 in
theorem sortInts (g n c lo : Nat) (xs : List Int) (w : World) (h : w.ownsRow lo 3 1 (.slice (some ⟨g, 0, none⟩) n c) n (ints xs)) (hn : n ≤ 12) :
    Calls Try.prog 41 #[.slice (some ⟨g, 0, none⟩) n c] w fun e w' => (∃ v, e = .returned v) ∧ (∃ ys : List Int, ys.Perm xs ∧ Upto n ys ∧ w'.ownsRow lo 3 1 (.slice (some ⟨g, 0, none⟩) n c) n (ints ys)) ∧ w.grownBy w' (some g) := by
  have hn0 : (0 : Int) ≤ (n : Int) := by omega
  have hn1 : (n : Int) ≤ 12 := by omega
  have hw : IntKind.u64.wrap (n : Int) = n := by rw [IntKind.wrap_u64]; omega
  go_enter Try.func41, Try.ntmps41
  go_wp2_with fail
  refine (bitsLen _ _ hn0 hn1).mono ?_
  rintro _ _ ⟨rfl, rfl⟩
  go_wp2_with fail
  refine (pdqInts g n c lo xs _ _ h hn).mono ?_
  rintro _ w1 ⟨⟨v, rfl⟩, hys, hg⟩
  go_wp2_with fail
  exact body_none (by simp [results, Try.results41, go_sem]; rfl) rfl ⟨⟨_, rfl⟩, hys, hg⟩
end Go.Proofs.Ytkkoccllmflhfaa
