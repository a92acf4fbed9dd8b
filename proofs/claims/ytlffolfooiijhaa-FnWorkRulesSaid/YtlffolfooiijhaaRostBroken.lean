/-
  The limits that a crew does not keep: of the program and of the reference, walked.
-/
import Derived.Test.YtlffolfooiijhaaRostStTop
import Derived.Test.YtlffolfooiijhaaStrData
import Derived.Test.YtlffolfooiijhaaFree
namespace Go.Proofs.Ytlffolfooiijhaa
open Go.RowKit

def goodW (r : WorkRule) : Bool := inB r.work 1 48 && inB r.rest 0 48 && inB r.span 1 200 && inB r.most 1 r.span
theorem goodW_bd {r : WorkRule} (h : goodW r = true) : 1 ≤ r.work ∧ r.work ≤ 48 ∧ 0 ≤ r.rest ∧ r.rest ≤ 48 ∧ 1 ≤ r.span ∧ r.span ≤ 200 ∧ 1 ≤ r.most ∧ r.most ≤ r.span := by
  simp only [goodW, Bool.and_eq_true, inB_iff] at h
  omega
theorem isWorkRule (r : WorkRule) (w : World) :
    Calls Try.prog 65 #[.agg #[.int .i64 r.work, .int .i64 r.rest, .int .i64 r.span, .int .i64 r.most]] w fun e w' => e = .returned (.bool (goodW r)) ∧ Below w.heap.size w w' := by
  rcases h1 : inB r.work 1 48 with _ | _ <;> rcases h2 : inB r.rest 0 48 with _ | _ <;> rcases h3 : inB r.span 1 200 with _ | _
  all_goals (
    go_enter Try.func65, Try.ntmps65
    go_wp2_with (first | (go_at_call 59; refine (isIn _ _ _ _).mono ?_; rintro _ w1 ⟨rfl, rfl⟩) | fail)
    go_ret
    exact ⟨ret_bool (by simp [goodW, *]), by (repeat' (first | (with_reducible exact bel_refl _) | (with_reducible assumption) | (with_reducible refine bel_drew ?_) | (with_reducible refine bel_drewN ?_) | (with_reducible refine bel_alloc ?_) | (with_reducible refine bel_set ?_ ?_) | (with_reducible refine bel_trans ?_ (by with_reducible assumption)) | omega | (simp; done) | (simp; omega)))⟩)

theorem l11Rule (r : WorkRule) (w : World) :
    Calls Try.prog 67 #[.agg #[.int .i64 r.work, .int .i64 r.rest, .int .i64 r.span, .int .i64 r.most]] w fun e w' => e = .returned (.bool (goodW r)) ∧ Below w.heap.size w w' := by
  rcases h1 : inB r.work 1 48 with _ | _ <;> rcases h2 : inB r.rest 0 48 with _ | _ <;> rcases h3 : inB r.span 1 200 with _ | _
  all_goals (
    go_enter Try.func67, Try.ntmps67
    go_wp2_with (first | (go_at_call 73; refine (l1In _ _ _ _).mono ?_; rintro _ w1 ⟨rfl, rfl⟩) | (go_at_call 61; refine (l11Span _ _).mono ?_; rintro _ w1 ⟨rfl, rfl⟩))
    go_ret
    exact ⟨ret_bool (by simp [goodW, *]), by (repeat' (first | (with_reducible exact bel_refl _) | (with_reducible assumption) | (with_reducible refine bel_drew ?_) | (with_reducible refine bel_drewN ?_) | (with_reducible refine bel_alloc ?_) | (with_reducible refine bel_set ?_ ?_) | (with_reducible refine bel_trans ?_ (by with_reducible assumption)) | omega | (simp; done) | (simp; omega)))⟩)

def overU (ps : List (Int × Int)) (k : Int) : Nat → Bool
  | 0 => false
  | i + 1 => overU ps k i || (match ps[i]? with | some p => decide (k < p.2 - p.1) | none => false)
def nearU (ps : List (Int × Int)) (k : Int) : Nat → Bool
  | 0 => false
  | i + 1 => nearU ps k i || (match i with
    | 0 => false
    | j + 1 => match ps[j]?, ps[j + 1]? with
      | some q, some p => decide (p.1 - q.2 < k)
      | _, _ => false)
abbrev wWork : ByteArray := { data := #[119, 111, 114, 107] }
abbrev wRest : ByteArray := { data := #[114, 101, 115, 116] }
abbrev wSpan : ByteArray := { data := #[115, 112, 97, 110] }
def flagL (xs : List Duty) (cr : Int) (r : WorkRule) : List (ByteArray × Bool) :=
  [(wWork, overU (stintsP xs cr) r.work (stintsP xs cr).length), (wRest, nearU (stintsP xs cr) r.rest (stintsP xs cr).length), (wSpan, decide (r.most < mostN xs cr r.span))]
def flRow (f : ByteArray × Bool) : List Value := [.string f.1, .bool f.2]
def wordsL (fl : List (ByteArray × Bool)) : List ByteArray := (fl.filter (·.2)).map (·.1)
def brokenL (xs : List Duty) (cr : Int) (r : WorkRule) : List ByteArray := wordsL (flagL xs cr r)
theorem wordsL_yes {fl : List (ByteArray × Bool)} {i : Nat} {s : ByteArray} (h : fl[i]? = some (s, true)) : wordsL (fl.take i) ++ [s] = wordsL (fl.take (i + 1)) := by
  rw [List.take_add_one, h]
  simp [wordsL]
theorem wordsL_no {fl : List (ByteArray × Bool)} {i : Nat} {s : ByteArray} (h : fl[i]? = some (s, false)) : wordsL (fl.take (i + 1)) = wordsL (fl.take i) := by
  rw [List.take_add_one, h]
  simp [wordsL]
theorem wordsL_len (fl : List (ByteArray × Bool)) (i : Nat) : (wordsL (fl.take i)).length ≤ i := by
  unfold wordsL
  rw [List.length_map]
  exact Nat.le_trans (List.length_filter_le _ _) (List.length_take_le _ _)
theorem stepP_bd {cr : Int} {out : List (Int × Int)} {x : Duty} (hx : goodD x = true) (h : ∀ p ∈ out, 0 ≤ p.1 ∧ p.1 < p.2 ∧ p.2 ≤ 500) : ∀ p ∈ stepP cr out x, 0 ≤ p.1 ∧ p.1 < p.2 ∧ p.2 ≤ 500 := by
  have hb := goodD_bd hx
  unfold stepP
  split
  · split
    · rename_i p hp
      have hpm := List.mem_of_getLast? hp
      have h1 := h p hpm
      split
      · rename_i he
        intro q hq
        rw [List.mem_append, List.mem_singleton] at hq
        rcases hq with hq | rfl
        · exact h q (List.dropLast_subset _ hq)
        · show _ ∧ _ ∧ _
          omega
      · intro q hq
        rw [List.mem_append, List.mem_singleton] at hq
        rcases hq with hq | rfl
        · exact h q hq
        · show _ ∧ _ ∧ _
          omega
    · intro q hq
      rw [List.mem_singleton] at hq
      subst hq
      show _ ∧ _ ∧ _
      omega
  · exact h
theorem stints_bd {xs : List Duty} {cr : Int} (hG : allD xs) : ∀ p ∈ stintsP xs cr, 0 ≤ p.1 ∧ p.1 < p.2 ∧ p.2 ≤ 500 := by
  have key : ∀ i, ∀ p ∈ stintsP (xs.take i) cr, 0 ≤ p.1 ∧ p.1 < p.2 ∧ p.2 ≤ 500 := fun i => by
    induction i with
    | zero => intro p hp; simp [stintsP] at hp
    | succ i ih =>
      rcases hx : xs[i]? with _ | x
      · rw [List.take_add_one, hx]
        simpa using ih
      · rw [stints_next hx]
        exact stepP_bd (hG i x hx) ih
  have := key xs.length
  rwa [List.take_length] at this
theorem SS.pair {w : World} {A : Option Addr} {n c : Nat} {ps : List (Int × Int)} (h : SS w A n c (rows (pairs ps))) {i : Nat} {p : Int × Int} (hp : ps[i]? = some p) :
    ∃ b o g q d, A = some ⟨b, o, none⟩ ∧ b < w.heap.size ∧ g < w.heap.size ∧ w.cell? ⟨b, o + i, none⟩ = some (.slice (some ⟨g, q, none⟩) 2 d) ∧ w.cell? ⟨g, q, none⟩ = some (.int .i64 p.1) ∧ w.cell? ⟨g, q + 1, none⟩ = some (.int .i64 p.2) := by
  obtain ⟨b, o, rfl, hb, a, m, d, hc, hs⟩ := h.at_ (rows_get (LL := pairs ps) (i := i) (l := [p.1, p.2]) (by simp [pairs, hp]))
  obtain rfl : m = 2 := by
    have := hs.len
    simp [ints] at this
    omega
  obtain ⟨g, q, rfl, hg, hcc⟩ := hs.at_ (by omega)
  exact ⟨b, o, g, q, d, rfl, hb, hg, hc, hcc 0 _ rfl, hcc 1 _ rfl⟩
theorem over_step {ps : List (Int × Int)} {k : Int} {i : Nat} {p : Int × Int} (hp : ps[i]? = some p) : overU ps k (i + 1) = (overU ps k i || decide (k < p.2 - p.1)) := by simp only [overU, hp]
theorem near_step {ps : List (Int × Int)} {k : Int} {j : Nat} {q p : Int × Int} (hq : ps[j]? = some q) (hp : ps[j + 1]? = some p) : nearU ps k (j + 1 + 1) = (nearU ps k (j + 1) || decide (p.1 - q.2 < k)) := by
  rw [nearU, hq, hp]
theorem near_one (ps : List (Int × Int)) (k : Int) : nearU ps k 1 = false := rfl
set_option maxHeartbeats 4000000 in
set_option maxRecDepth 100000 in
theorem brokenI (A : Option Addr) (n c : Nat) (xs : List Duty) (cr : Int) (r : WorkRule) (w : World) (hS : Sl w 3 A n c (xs.flatMap Duty.row)) (hn : n ≤ 13) (hG : allD xs) (hr : goodW r = true) :
    Calls Try.prog 70 #[.slice A n c, .int .i64 cr, .agg #[.int .i64 r.work, .int .i64 r.rest, .int .i64 r.span, .int .i64 r.most]] w fun e w' => ∃ A' n' c', e = .returned (.slice A' n' c') ∧ Own w.heap.size w'.heap.size w' 9 1 A' n' c' (strs (brokenL xs cr r)) ∧ Below w.heap.size w w' := by
  have hrb := goodW_bd hr
  have hps := hid (stints_bd (cr := cr) hG)
  have hsl := stints_len xs cr n
  have hlx := hS.xs_len Duty.row_len (by omega)
  rw [← hlx, List.take_length] at hsl
  go_enter Try.func70, Try.ntmps70
  go_wp2_with (go_at_call 52; refine (stintsI _ _ _ xs cr _ (hS.bel (by (repeat' (first | (with_reducible exact bel_refl _) | (with_reducible assumption) | (with_reducible refine bel_drew ?_) | (with_reducible refine bel_drewN ?_) | (with_reducible refine bel_alloc ?_) | (with_reducible refine bel_set ?_ ?_) | (with_reducible refine bel_trans ?_ (by with_reducible assumption)) | omega | (simp; done) | (simp; omega))))) hn hG).mono ?_; rintro _ w1 ⟨A1, n1, c1, V1, rfl, hO1, hB1⟩; obtain ⟨hC1, hF1⟩ := bcell hB1)
  have hnl : Hid ((stintsP xs cr).length = n1) := ss_nil_len hO1
  have hn1 : n1 ≤ 13 := by have := hnl.out; omega
  clear hsl hlx
  have hSS := hO1.ss
  have k0 : w1.cell? ⟨w.heap.size, 0, none⟩ = some (.int .i64 r.work) := (hC1 _ _ (by simp; omega)).trans (by simp [go_sem])
  have k1 : w1.cell? ⟨w.heap.size, 1, none⟩ = some (.int .i64 r.rest) := (hC1 _ _ (by simp; omega)).trans (by simp [go_sem])
  have k2 : w1.cell? ⟨w.heap.size, 2, none⟩ = some (.int .i64 r.span) := (hC1 _ _ (by simp; omega)).trans (by simp [go_sem])
  have k3 : w1.cell? ⟨w.heap.size, 3, none⟩ = some (.int .i64 r.most) := (hC1 _ _ (by simp; omega)).trans (by simp [go_sem])
  have hlt1 : w.heap.size < w1.heap.size := by have := hB1.size; simp at this; omega
  have hOe : w1.ownsRow w.heap.size 9 1 (.slice (some ⟨w.heap.size + 1, 0, none⟩) 0 0) 0 [] := own_bel (by have h0 := own_empty (w := w.alloc (.cells #[.int .i64 r.work, .int .i64 r.rest, .int .i64 r.span, .int .i64 r.most] 53)) (base := w.heap.size) (size := 1) (e := 9) (by simp); simpa using h0) hB1
  have hBw : Below w.heap.size w w1 := bel_trans (bel_alloc (bel_alloc (bel_refl w))) hB1
  clear hC1 hF1
  go_loopw [9, 10, 21] (fun a b v wr => ∃ i : Nat, i ≤ n1 ∧ v = .int .i64 i ∧ a = .bool (overU (stintsP xs cr) r.work i) ∧ b = .bool (nearU (stintsP xs cr) r.rest i) ∧ Below w1.heap.size w1 wr) (fun _ _ v _ => n1 - (intOf v).toNat)
  case atStart => exact ⟨0, by omega, rfl, rfl, rfl, by (repeat' (first | (with_reducible exact bel_refl _) | (with_reducible assumption) | (with_reducible refine bel_drew ?_) | (with_reducible refine bel_drewN ?_) | (with_reducible refine bel_alloc ?_) | (with_reducible refine bel_set ?_ ?_) | (with_reducible refine bel_trans ?_ (by with_reducible assumption)) | omega | (simp; done) | (simp; omega)))⟩
  case round =>
    obtain ⟨i, hi', rfl, rfl, rfl, hB⟩ := hrel
    by_cases hlt : i < n1
    · obtain ⟨p, hp⟩ : ∃ p, (stintsP xs cr)[i]? = some p := get_of_lt (by rw [hnl.out]; exact hlt)
      have hpb := hps.out p (List.mem_of_getElem? hp)
      obtain ⟨b, o, g, q, d, rfl, hb, hg, d0, d1, d2⟩ := (hSS.bel hB).pair hp
      have hP := hid hp
      clear hp
      have hi0 : (0 : Int) ≤ (i : Int) := by omega
      have hi1 : (i : Int) < (n1 : Int) := by omega
      have hB2 := bel_refl wr
      have hlt2 : w.heap.size < wr.heap.size := by have := hB.size; omega
      have e0 := ((bcell hB).1 _ 0 hlt1).trans k0
      have e1 := ((bcell hB).1 _ 1 hlt1).trans k1
      rcases i with _ | j
      · simp only [Nat.add_zero] at d0
        rcases ho : overU (stintsP xs cr) r.work 0 with _ | _
        rotate_left
        · cases ho
        rcases hr2 : nearU (stintsP xs cr) r.rest 0 with _ | _
        rotate_left
        · cases hr2
        go_wp2_with fail
        (refine wp_region_bel (by kernel_rfl) (by kernel_rfl) ?_; have hD := bel_cells hB2; (repeat (go_big_quiet_step ((fail)))); refine wpQuiet_nil ?_; intro w1 hB1; replace hB2 := bel_trans hB2 hB1; obtain ⟨hC1, hF1⟩ := bcell hB2; clear hD; replace hB1 := hB1)
        go_wp2_with fail
        (refine wp_region_bel (by kernel_rfl) (by kernel_rfl) ?_; have hD := bel_cells hB2; (repeat (go_big_quiet_step ((fail)))); refine wpQuiet_nil ?_; intro w1 hB1; replace hB2 := bel_trans hB2 hB1; obtain ⟨hC1, hF1⟩ := bcell hB2; clear hD; replace hB1 := hB1)
        go_wp2
        go_roundw
        case rel => exact ⟨1, by omega, by go_num, by rw [over_step hP.out]; simp [overU], by simp [nearU], by (repeat' (first | (with_reducible exact bel_refl _) | (with_reducible assumption) | (with_reducible refine bel_drew ?_) | (with_reducible refine bel_drewN ?_) | (with_reducible refine bel_alloc ?_) | (with_reducible refine bel_set ?_ ?_) | (with_reducible refine bel_trans ?_ (by with_reducible assumption)) | omega | (simp; done) | (simp; omega)))⟩
        case measure => simp [intOf]; omega
      · obtain ⟨p', hp'⟩ : ∃ p', (stintsP xs cr)[j]? = some p' := get_of_lt (by rw [hnl.out]; omega)
        have hpb' := hps.out p' (List.mem_of_getElem? hp')
        obtain ⟨b', o', g', q', d', hbo, _, hg', f0, f1, f2⟩ := (hSS.bel hB).pair hp'
        simp only [Option.some.injEq, Addr.mk.injEq, and_true] at hbo
        obtain ⟨rfl, rfl⟩ := hbo
        have hP' := hid hp'
        clear hp'
        have hp0 : ((j + 1 : Nat) : Int) = (j : Int) + 1 := by omega
        rw [hp0] at hi0 hi1 ⊢
        clear hp0
        have hj0 : (0 : Int) ≤ (j : Int) := by omega
        have hj1 : (j : Int) < (n1 : Int) := by omega
        have hjp : (0 : Int) < (j : Int) + 1 := by omega
        rcases ho : overU (stintsP xs cr) r.work (j + 1) with _ | _ <;> rcases hr2 : nearU (stintsP xs cr) r.rest (j + 1) with _ | _
        all_goals (
          go_wp2_with fail
          (refine wp_region_bel (by kernel_rfl) (by kernel_rfl) ?_; have hD := bel_cells hB2; (repeat (go_big_quiet_step ((fail)))); refine wpQuiet_nil ?_; intro w1 hB1; replace hB2 := bel_trans hB2 hB1; obtain ⟨hC1, hF1⟩ := bcell hB2; clear hD; replace hB1 := hB1)
          go_wp2_with fail
          (refine wp_region_bel (by kernel_rfl) (by kernel_rfl) ?_; have hD := bel_cells hB2; (repeat (go_big_quiet_step ((fail)))); refine wpQuiet_nil ?_; intro w1 hB1; replace hB2 := bel_trans hB2 hB1; obtain ⟨hC1, hF1⟩ := bcell hB2; clear hD; replace hB1 := hB1)
          go_wp2
          go_roundw
          case rel => exact ⟨j + 1 + 1, by omega, by go_num, by rw [over_step hP.out, ho]; simp, by rw [near_step hP'.out hP.out, hr2]; simp, by (repeat' (first | (with_reducible exact bel_refl _) | (with_reducible assumption) | (with_reducible refine bel_drew ?_) | (with_reducible refine bel_drewN ?_) | (with_reducible refine bel_alloc ?_) | (with_reducible refine bel_set ?_ ?_) | (with_reducible refine bel_trans ?_ (by with_reducible assumption)) | omega | (simp; done) | (simp; omega)))⟩
          case measure => simp [intOf]; omega)
    · have e : i = n1 := by omega
      subst e
      have hlt2 : w.heap.size < wr.heap.size := by have := hB.size; omega
      have e2 := ((bcell hB).1 _ 2 hlt1).trans k2
      have e3 := ((bcell hB).1 _ 3 hlt1).trans k3
      go_wp2_with fail
      have hB2 := bel_refl wr
      (refine wp_region_freeB [(false, 0), (false, 1), (false, 2), (false, 3), (false, 4), (false, 5), (false, 6), (false, 7), (false, 9), (false, 10), (false, 15), (true, 8), (true, 11), (true, 12), (true, 13), (true, 14)] (by kernel_rfl) (by kernel_rfl) ?_; have hD := bel_cells hB2; simp only [opsAtF, List.map_cons, List.map_nil, List.getElem?_cons_zero, List.getElem?_cons_succ, Option.getD_some])
      (iterate 11 (refine head_step rfl (by rintro w' ⟨d, rfl⟩; obtain ⟨hDc, hDf⟩ := hD d; (go_simp; first | done | rfl)) ?_; (try simp only [Act.put, List.setIfInBounds_toArray, List.set_cons_zero, List.set_cons_succ])))
      refine tail_call rfl (by (go_simp; first | exact ⟨rfl, rfl⟩ | rfl)) ?_
      have hBr : Below w.heap.size w wr := bel_trans hBw hB
      refine (mostI _ _ _ xs cr r.span _ (hS.bel (bel_drew hBr)) hn hG (by omega)).mono ?_
      rintro _ w2 ⟨rfl, hB3⟩
      have hB4 : Below wr.heap.size wr w2 := bel_trans (bel_drew (bel_refl wr)) hB3
      refine ⟨_, rfl, ⟨⟨w2, hB4⟩, rfl⟩, ?_⟩
      (try simp only [Act.put, List.setIfInBounds_toArray, List.set_cons_zero, List.set_cons_succ])
      refine tail_step (w' := w2) rfl (by (go_simp; first | done | rfl | exact ⟨rfl, rfl⟩)) ⟨⟨w2, hB4⟩, rfl⟩ ?_
      (try simp only [Act.put, List.setIfInBounds_toArray, List.set_cons_zero, List.set_cons_succ])
      refine tail_step (w' := w2) rfl (by (go_simp; first | done | rfl | exact ⟨rfl, rfl⟩)) ⟨⟨w2, hB4⟩, rfl⟩ ?_
      (try simp only [Act.put, List.setIfInBounds_toArray, List.set_cons_zero, List.set_cons_succ])
      refine tail_step rfl (by (go_simp; first | done | rfl | exact ⟨rfl, rfl⟩)) ⟨⟨_, bel_alloc hB4⟩, rfl⟩ ?_
      (try simp only [Act.put, List.setIfInBounds_toArray, List.set_cons_zero, List.set_cons_succ])
      refine tail_step rfl (by (go_simp; first | done | rfl | exact ⟨rfl, rfl⟩)) ⟨⟨_, bel_alloc hB4⟩, rfl⟩ ?_
      refine go_end ?_
      (try simp only [Act.put, List.setIfInBounds_toArray, List.set_cons_zero, List.set_cons_succ])
      go_wp2_with fail
      have hlen : (stintsP xs cr).length = i := hnl.out
      have hF := World.ownsRow_lit (base := w.heap.size) (e := 101) (size := 2) w2 #[.string { data := #[119, 111, 114, 107] }, .bool (overU (stintsP xs cr) r.work i), .string { data := #[114, 101, 115, 116] }, .bool (nearU (stintsP xs cr) r.rest i), .string { data := #[115, 112, 97, 110] }, .bool (decide (r.most < mostN xs cr r.span))] 3 (by have := hBr.size; have := hB4.size; omega) (by simp [maxLen]) rfl
      obtain ⟨fl, hfl⟩ : ∃ fl, fl = flagL xs cr r := ⟨_, rfl⟩
      have hrow : #[Value.string { data := #[119, 111, 114, 107] }, .bool (overU (stintsP xs cr) r.work i), .string { data := #[114, 101, 115, 116] }, .bool (nearU (stintsP xs cr) r.rest i), .string { data := #[115, 112, 97, 110] }, .bool (decide (r.most < mostN xs cr r.span))] = (fl.flatMap flRow).toArray := by rw [hfl, flagL, hlen]; rfl
      have hfl3 : fl.length = 3 := by rw [hfl]; rfl
      have hR : Hid (brokenL xs cr r = wordsL fl) := by show _ = _; rw [hfl]; rfl
      have hOw := own_bel (own_bel hOe hB) hB4
      rw [hrow] at hF ⊢
      have hBz : Below w.heap.size w (w2.alloc (.cells (fl.flatMap flRow).toArray 101)) := bel_alloc (bel_trans hBr hB4)
      obtain ⟨Z, hZ⟩ : ∃ Z, w2.alloc (.cells (fl.flatMap flRow).toArray 101) = Z := ⟨_, rfl⟩
      replace hOw : Z.ownsRow w.heap.size 9 1 (.slice (some ⟨w.heap.size + 1, 0, none⟩) 0 0) 0 [] := by rw [← hZ]; exact own_bel hOw (bel_alloc (bel_refl _))
      obtain ⟨G, hG2⟩ : ∃ G, w2.heap.size = G := ⟨_, rfl⟩
      rw [hZ] at hF hBz ⊢
      rw [hG2] at hF ⊢
      clear hrow hfl hB4 hD e2 e3 k0 k1 k2 k3 hOe hSS hO1
      go_loopw [7, 76] (fun q v wr => ∃ (k : Nat) (A' : Option Addr) (m c' : Nat), k ≤ 3 ∧ v = .int .i64 k ∧ q = .slice A' m c' ∧ wr.ownsRow w.heap.size 9 1 (.slice A' m c') m (strs (wordsL (fl.take k))) ∧ wr.ownsRow w.heap.size 101 2 (.slice (some ⟨G, 0, none⟩) 3 3) 3 (fl.flatMap flRow) ∧ Below w.heap.size w wr) (fun _ v _ => 3 - (intOf v).toNat)
      case atStart => exact ⟨0, _, _, _, by omega, rfl, rfl, hOw, hF, hBz⟩
      case round =>
        obtain ⟨k, A', m, c', hk3, rfl, rfl, hown, hfr, hBq⟩ := hrel
        by_cases hk : k < 3
        · obtain ⟨⟨s, f⟩, hx⟩ : ∃ x, fl[k]? = some x := get_of_lt (by omega)
          have hml : m ≤ 3 := by
            have h1 := hown.1
            have h2 := wordsL_len fl k
            rw [strs_len] at h1
            omega
          have f0 := hfr.cellAt (k * 2) (by omega)
          have f1 := hfr.cellAt (k * 2 + 1) (by omega)
          rw [(show (fl.flatMap flRow)[k * 2]? = some (.string s) from flat_get (row := flRow) (k := 2) (fun _ => rfl) hx 0 _ rfl)] at f0
          rw [(show (fl.flatMap flRow)[k * 2 + 1]? = some (.bool f) from flat_get (row := flRow) (k := 2) (fun _ => rfl) hx 1 _ rfl)] at f1
          have hX := hid hx
          clear hx
          have hk0 : (0 : Int) ≤ (k : Int) := by omega
          have hk1 : (k : Int) < 3 := by omega
          have hsz := hBq.size
          have hGs := (hfr.lt G rfl).2
          rcases f with _ | _
          · go_wp2_with fail
            go_roundw
            case rel => exact ⟨k + 1, A', m, c', by omega, by go_num, rfl, by rw [wordsL_no hX.out]; exact own_bel hown (by (repeat' (first | (with_reducible exact bel_refl _) | (with_reducible assumption) | (with_reducible refine bel_drew ?_) | (with_reducible refine bel_drewN ?_) | (with_reducible refine bel_alloc ?_) | (with_reducible refine bel_set ?_ ?_) | (with_reducible refine bel_trans ?_ (by with_reducible assumption)) | omega | (simp; done) | (simp; omega)))), own_bel hfr (by (repeat' (first | (with_reducible exact bel_refl _) | (with_reducible assumption) | (with_reducible refine bel_drew ?_) | (with_reducible refine bel_drewN ?_) | (with_reducible refine bel_alloc ?_) | (with_reducible refine bel_set ?_ ?_) | (with_reducible refine bel_trans ?_ (by with_reducible assumption)) | omega | (simp; done) | (simp; omega)))), by (repeat' (first | (with_reducible exact bel_refl _) | (with_reducible assumption) | (with_reducible refine bel_drew ?_) | (with_reducible refine bel_drewN ?_) | (with_reducible refine bel_alloc ?_) | (with_reducible refine bel_set ?_ ?_) | (with_reducible refine bel_trans ?_ (by with_reducible assumption)) | omega | (simp; done) | (simp; omega)))⟩
            case measure => simp [intOf]; omega
          · go_wp2_with (at_builtin; refine wpList_push rfl (.tmp 82) (.tmp 85) 58 rfl w.heap.size 9 (.string ⟨#[]⟩) 1 16 Try.underlying58 info_string rfl (by omega) A' m c' _ [.string s] 9 rfl (own_bel hown (by (repeat' (first | (with_reducible exact bel_refl _) | (with_reducible assumption) | (with_reducible refine bel_drew ?_) | (with_reducible refine bel_drewN ?_) | (with_reducible refine bel_alloc ?_) | (with_reducible refine bel_set ?_ ?_) | (with_reducible refine bel_trans ?_ (by with_reducible assumption)) | omega | (simp; done) | (simp; omega))))) (by first | rfl | exact slice_at (by simp)) rfl (by intro u hu; rw [List.mem_singleton.1 hu]; rfl) (by omega) (by omega) (by simp; omega) ?_; intro A'' c'' w3 hown2 hb3 hg3)
            go_roundw
            case rel => exact ⟨k + 1, A'', m + 1, c'', by omega, by go_num, rfl, by rw [← wordsL_yes hX.out, ← strs_snoc]; exact hown2, (own_bel hfr (bel_alloc (bel_refl _))).kept hg3 (Or.inr fun e1 => absurd (own_type hown hfr e1.symm rfl) (by decide)), Below.trans (bel_alloc hBq) hb3⟩
            case measure => simp [intOf]; omega
        · have e : k = 3 := by omega
          subst e
          go_wp2
          go_ret
          rw [List.take_of_length_le (by omega)] at hown
          rw [hR.out]
          exact ⟨_, _, _, rfl, Own.mk_ hown, hBq⟩
set_option maxHeartbeats 4000000 in
set_option maxRecDepth 100000 in
theorem brokenS (A : Option Addr) (n c : Nat) (xs : List Duty) (cr : Int) (r : WorkRule) (w : World) (hS : Sl w 3 A n c (xs.flatMap Duty.row)) (hn : n ≤ 13) (hG : allD xs) (hr : goodW r = true) :
    Calls Try.prog 71 #[.slice A n c, .int .i64 cr, .agg #[.int .i64 r.work, .int .i64 r.rest, .int .i64 r.span, .int .i64 r.most]] w fun e w' => ∃ A' n' c', e = .returned (.slice A' n' c') ∧ Own w.heap.size w'.heap.size w' 9 1 A' n' c' (strs (brokenL xs cr r)) ∧ Below w.heap.size w w' := by
  have hrb := goodW_bd hr
  have hps := hid (stints_bd (cr := cr) hG)
  have hsl := stints_len xs cr n
  have hlx := hS.xs_len Duty.row_len (by omega)
  rw [← hlx, List.take_length] at hsl
  go_enter Try.func71, Try.ntmps71
  go_wp2_with (go_at_call 54; refine (l11StintsS _ _ _ xs cr _ (hS.bel (by (repeat' (first | (with_reducible exact bel_refl _) | (with_reducible assumption) | (with_reducible refine bel_drew ?_) | (with_reducible refine bel_drewN ?_) | (with_reducible refine bel_alloc ?_) | (with_reducible refine bel_set ?_ ?_) | (with_reducible refine bel_trans ?_ (by with_reducible assumption)) | omega | (simp; done) | (simp; omega))))) hn hG).mono ?_; rintro _ w1 ⟨A1, n1, c1, V1, rfl, hO1, hB1⟩; obtain ⟨hC1, hF1⟩ := bcell hB1)
  have hnl : Hid ((stintsP xs cr).length = n1) := ss_nil_len hO1
  have hn1 : n1 ≤ 13 := by have := hnl.out; omega
  clear hsl hlx
  have hSS := hO1.ss
  have k0 : w1.cell? ⟨w.heap.size, 0, none⟩ = some (.int .i64 r.work) := (hC1 _ _ (by simp)).trans (by simp [go_sem])
  have k1 : w1.cell? ⟨w.heap.size, 1, none⟩ = some (.int .i64 r.rest) := (hC1 _ _ (by simp)).trans (by simp [go_sem])
  have k2 : w1.cell? ⟨w.heap.size, 2, none⟩ = some (.int .i64 r.span) := (hC1 _ _ (by simp)).trans (by simp [go_sem])
  have k3 : w1.cell? ⟨w.heap.size, 3, none⟩ = some (.int .i64 r.most) := (hC1 _ _ (by simp)).trans (by simp [go_sem])
  have hlt1 : w.heap.size < w1.heap.size := by have := hB1.size; simp at this; omega
  have hBw : Below w.heap.size w w1 := bel_trans (bel_alloc (bel_refl w)) hB1
  clear hC1 hF1
  go_loopw [7, 8, 10] (fun a b v wr => ∃ i : Nat, i ≤ n1 ∧ v = .int .i64 i ∧ a = .bool (overU (stintsP xs cr) r.work i) ∧ b = .bool (nearU (stintsP xs cr) r.rest i) ∧ Below w1.heap.size w1 wr) (fun _ _ v _ => n1 - (intOf v).toNat)
  case atStart => exact ⟨0, by omega, rfl, rfl, rfl, by (repeat' (first | (with_reducible exact bel_refl _) | (with_reducible assumption) | (with_reducible refine bel_drew ?_) | (with_reducible refine bel_drewN ?_) | (with_reducible refine bel_alloc ?_) | (with_reducible refine bel_set ?_ ?_) | (with_reducible refine bel_trans ?_ (by with_reducible assumption)) | omega | (simp; done) | (simp; omega)))⟩
  case round =>
    obtain ⟨i, hi', rfl, rfl, rfl, hB⟩ := hrel
    by_cases hlt : i < n1
    · obtain ⟨p, hp⟩ : ∃ p, (stintsP xs cr)[i]? = some p := get_of_lt (by rw [hnl.out]; exact hlt)
      have hpb := hps.out p (List.mem_of_getElem? hp)
      obtain ⟨b, o, g, q, d, rfl, hb, hg, d0, d1, d2⟩ := (hSS.bel hB).pair hp
      have hP := hid hp
      clear hp
      have hi0 : (0 : Int) ≤ (i : Int) := by omega
      have hi1 : (i : Int) < (n1 : Int) := by omega
      have hB2 := bel_refl wr
      have hlt2 : w.heap.size < wr.heap.size := by have := hB.size; omega
      have e0 := ((bcell hB).1 _ 0 hlt1).trans k0
      have e1 := ((bcell hB).1 _ 1 hlt1).trans k1
      rcases i with _ | j
      · simp only [Nat.add_zero] at d0
        rcases ho : overU (stintsP xs cr) r.work 0 with _ | _
        rotate_left
        · cases ho
        rcases hr2 : nearU (stintsP xs cr) r.rest 0 with _ | _
        rotate_left
        · cases hr2
        go_wp2_with fail
        (refine wp_region_bel (by kernel_rfl) (by kernel_rfl) ?_; have hD := bel_cells hB2; (repeat (go_big_quiet_step ((fail)))); refine wpQuiet_nil ?_; intro w1 hB1; replace hB2 := bel_trans hB2 hB1; obtain ⟨hC1, hF1⟩ := bcell hB2; clear hD; replace hB1 := hB1)
        go_wp2_with fail
        (refine wp_region_bel (by kernel_rfl) (by kernel_rfl) ?_; have hD := bel_cells hB2; (repeat (go_big_quiet_step ((fail)))); refine wpQuiet_nil ?_; intro w1 hB1; replace hB2 := bel_trans hB2 hB1; obtain ⟨hC1, hF1⟩ := bcell hB2; clear hD; replace hB1 := hB1)
        go_wp2
        go_roundw
        case rel => exact ⟨1, by omega, by go_num, by rw [over_step hP.out]; simp [overU], by simp [nearU], by (repeat' (first | (with_reducible exact bel_refl _) | (with_reducible assumption) | (with_reducible refine bel_drew ?_) | (with_reducible refine bel_drewN ?_) | (with_reducible refine bel_alloc ?_) | (with_reducible refine bel_set ?_ ?_) | (with_reducible refine bel_trans ?_ (by with_reducible assumption)) | omega | (simp; done) | (simp; omega)))⟩
        case measure => simp [intOf]; omega
      · obtain ⟨p', hp'⟩ : ∃ p', (stintsP xs cr)[j]? = some p' := get_of_lt (by rw [hnl.out]; omega)
        have hpb' := hps.out p' (List.mem_of_getElem? hp')
        obtain ⟨b', o', g', q', d', hbo, _, hg', f0, f1, f2⟩ := (hSS.bel hB).pair hp'
        simp only [Option.some.injEq, Addr.mk.injEq, and_true] at hbo
        obtain ⟨rfl, rfl⟩ := hbo
        have hP' := hid hp'
        clear hp'
        have hp0 : ((j + 1 : Nat) : Int) = (j : Int) + 1 := by omega
        rw [hp0] at hi0 hi1 ⊢
        clear hp0
        have hj0 : (0 : Int) ≤ (j : Int) := by omega
        have hj1 : (j : Int) < (n1 : Int) := by omega
        have hjp : (0 : Int) < (j : Int) + 1 := by omega
        rcases ho : overU (stintsP xs cr) r.work (j + 1) with _ | _ <;> rcases hr2 : nearU (stintsP xs cr) r.rest (j + 1) with _ | _
        all_goals (
          go_wp2_with fail
          (refine wp_region_bel (by kernel_rfl) (by kernel_rfl) ?_; have hD := bel_cells hB2; (repeat (go_big_quiet_step ((fail)))); refine wpQuiet_nil ?_; intro w1 hB1; replace hB2 := bel_trans hB2 hB1; obtain ⟨hC1, hF1⟩ := bcell hB2; clear hD; replace hB1 := hB1)
          go_wp2_with fail
          (refine wp_region_bel (by kernel_rfl) (by kernel_rfl) ?_; have hD := bel_cells hB2; (repeat (go_big_quiet_step ((fail)))); refine wpQuiet_nil ?_; intro w1 hB1; replace hB2 := bel_trans hB2 hB1; obtain ⟨hC1, hF1⟩ := bcell hB2; clear hD; replace hB1 := hB1)
          go_wp2
          go_roundw
          case rel => exact ⟨j + 1 + 1, by omega, by go_num, by rw [over_step hP.out, ho]; simp, by rw [near_step hP'.out hP.out, hr2]; simp, by (repeat' (first | (with_reducible exact bel_refl _) | (with_reducible assumption) | (with_reducible refine bel_drew ?_) | (with_reducible refine bel_drewN ?_) | (with_reducible refine bel_alloc ?_) | (with_reducible refine bel_set ?_ ?_) | (with_reducible refine bel_trans ?_ (by with_reducible assumption)) | omega | (simp; done) | (simp; omega)))⟩
          case measure => simp [intOf]; omega)
    · have e : i = n1 := by omega
      subst e
      have hlt2 : w.heap.size < wr.heap.size := by have := hB.size; omega
      have e2 := ((bcell hB).1 _ 2 hlt1).trans k2
      have e3 := ((bcell hB).1 _ 3 hlt1).trans k3
      have hOw := own_empty (w := wr) (base := wr.heap.size) (size := 1) (e := 9) (Nat.le_refl _)
      have hB2 : Below wr.heap.size wr (wr.alloc (.cells #[] 9)) := bel_alloc (bel_refl wr)
      have hSr := hS.bel (bel_trans hBw hB)
      have hlen : (stintsP xs cr).length = i := hnl.out
      have hBr : Below w.heap.size w wr := bel_trans hBw hB
      clear hB k0 k1 k2 k3
      rcases ho : overU (stintsP xs cr) r.work i with _ | _ <;> rcases hr2 : nearU (stintsP xs cr) r.rest i with _ | _ <;> rcases hm : decide (r.most < mostN xs cr r.span) with _ | _
      all_goals (
        have hR := hid (show brokenL xs cr r = _ by rw [brokenL, flagL, hlen, ho, hr2, hm])
        have hm2 := hm
        simp only [decide_eq_false_iff_not, decide_eq_true_eq] at hm2
        go_wp2_with (first | (at_builtin; refine wpList_push rfl (.tmp 66) (.tmp 67) 58 rfl wr.heap.size 9 (.string ⟨#[]⟩) 1 16 Try.underlying58 info_string rfl (by omega) _ _ _ _ [.string wWork] 9 rfl hOw (by first | rfl | exact slice_at (by simp)) rfl (by intro u hu; rw [List.mem_singleton.1 hu]; rfl) (by omega) (by omega) (hB2.size) ?_; intro A'' c'' w3 hOw hb3 hg3; replace hB2 := Below.trans hB2 hb3) | (at_builtin; refine wpList_push rfl (.tmp 70) (.tmp 71) 58 rfl wr.heap.size 9 (.string ⟨#[]⟩) 1 16 Try.underlying58 info_string rfl (by omega) _ _ _ _ [.string wRest] 9 rfl hOw (by first | rfl | exact slice_at (by simp)) rfl (by intro u hu; rw [List.mem_singleton.1 hu]; rfl) (by omega) (by omega) (hB2.size) ?_; intro A'' c'' w3 hOw hb3 hg3; replace hB2 := Below.trans hB2 hb3))
        (refine wp_region_bel (by kernel_rfl) (by kernel_rfl) ?_; have hD := bel_cells hB2; (repeat (go_big_quiet_step (((go_at_call 62; exact calls_bel (mostS _ _ _ xs cr r.span _ (hSr.bel (bel_trans hB2 (Bel.prop _))) hn hG (by omega))))))); refine wpQuiet_nil ?_; intro w1 hB1; replace hB2 := bel_trans hB2 hB1; obtain ⟨hC1, hF1⟩ := bcell hB2; clear hD; replace hB1 := hB1)
        replace hOw := own_bel hOw hB1
        go_wp2_with (at_builtin; refine wpList_push rfl (.tmp 81) (.tmp 82) 58 rfl wr.heap.size 9 (.string ⟨#[]⟩) 1 16 Try.underlying58 info_string rfl (by omega) _ _ _ _ [.string wSpan] 9 rfl hOw (by first | rfl | exact slice_at (by simp)) rfl (by intro u hu; rw [List.mem_singleton.1 hu]; rfl) (by omega) (by omega) (hB2.size) ?_; intro A'' c'' w3 hOw hb3 hg3; replace hB2 := Below.trans hB2 hb3)
        go_ret
        rw [hR.out]
        refine ⟨_, _, _, rfl, (Own.mk_ (own_low hOw hBr.size) : _), bel_trans hBr hB2⟩)
end Go.Proofs.Ytlffolfooiijhaa
