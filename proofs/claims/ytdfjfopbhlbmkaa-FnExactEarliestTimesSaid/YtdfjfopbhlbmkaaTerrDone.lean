/-
  Speeds of phases, and when work is done: of the program and of the reference, walked.
-/
import Derived.Test.YtdfjfopbhlbmkaaTerr
namespace Go.Proofs.Ytdfjfopbhlbmkaa
open Go.RowKit

def speedF (ps : List Phase) (t : Int) : Int := ps.foldl (fun o p => if p.start ≤ t then p.speed else o) 0
theorem speedF_next {ps : List Phase} {t : Int} {i : Nat} {x : Phase} (hx : ps[i]? = some x) : speedF (ps.take (i + 1)) t = if x.start ≤ t then x.speed else speedF (ps.take i) t := by
  rw [List.take_add_one, hx]
  simp [speedF]
theorem phases_parts {ps : List Phase} (h : phasesB ps = true) : (1 ≤ ps.length ∧ ps.length ≤ 6) ∧ (∀ x, ps[0]? = some x → x.start = 0) ∧ ∀ (i : Nat) (x : Phase), ps[i]? = some x → goodP x = true := by
  simp only [phasesB, Bool.and_eq_true, inB_iff] at h
  obtain ⟨⟨h1, h2⟩, h3⟩ := h
  refine ⟨by omega, fun x hx => ?_, fun i x hx => good_of h3 hx⟩
  rw [firstZ, hx] at h2
  simpa using h2
theorem phases_next {ps : List Phase} (h : phasesB ps = true) {i : Nat} {y x : Phase} (hy : ps[i]? = some y) (hx : ps[i + 1]? = some x) : y.start < x.start := by
  simp only [phasesB, Bool.and_eq_true] at h
  have := clash_of h.2 hx hy
  simp only [clashP, decide_eq_false_iff_not] at this
  omega
theorem phases_lt {ps : List Phase} (h : phasesB ps = true) {i j : Nat} {y x : Phase} (hy : ps[i]? = some y) (hx : ps[j]? = some x) (hij : i < j) : y.start < x.start := by
  induction j generalizing x with
  | zero => omega
  | succ j ih =>
    by_cases e : i = j
    · subst e
      exact phases_next h hy hx
    · obtain ⟨z, hz⟩ : ∃ z, ps[j]? = some z := get_of_lt (by have := (List.getElem?_eq_some_iff.1 hx).1; omega)
      have h1 := ih hz (by omega)
      have h2 := phases_next h hz hx
      omega
theorem speedF_stay {t : Int} : ∀ (qs : List Phase) (o : Int), (∀ p ∈ qs, t < p.start) → qs.foldl (fun o p => if p.start ≤ t then p.speed else o) o = o
  | [], _, _ => rfl
  | q :: qs, o, h => by
    rw [List.foldl_cons, if_neg (by have := h q (by simp); omega)]
    exact speedF_stay qs o fun p hp => h p (by simp [hp])
theorem speedF_at {ps : List Phase} {t : Int} (h : phasesB ps = true) {i : Nat} {x : Phase} (hx : ps[i]? = some x) (hxt : x.start ≤ t) (hn : ∀ y, ps[i + 1]? = some y → t < y.start) : speedF ps t = x.speed := by
  have e : speedF ps t = (ps.drop (i + 1)).foldl (fun o p => if p.start ≤ t then p.speed else o) (speedF (ps.take (i + 1)) t) := by
    have h1 := List.take_append_drop (i + 1) ps
    conv => lhs; rw [← h1]
    rw [speedF, List.foldl_append]
    rfl
  rw [e, speedF_next hx, if_pos hxt]
  refine speedF_stay _ _ fun p hp => ?_
  obtain ⟨k, hk⟩ := List.getElem?_of_mem hp
  rw [List.getElem?_drop] at hk
  obtain ⟨y, hy⟩ : ∃ y, ps[i + 1]? = some y := get_of_lt (by have := (List.getElem?_eq_some_iff.1 hk).1; omega)
  have h1 := hn y hy
  rcases Nat.eq_zero_or_pos k with h2 | h2
  · subst h2
    rw [Nat.add_zero, hy] at hk
    simp only [Option.some.injEq] at hk
    rw [← hk]; exact h1
  · have := phases_lt h hy hk (by omega)
    omega
theorem speedF_bd {ps : List Phase} (h : phasesB ps = true) {t : Int} (ht : 0 ≤ t) : 1 ≤ speedF ps t ∧ speedF ps t ≤ 9 := by
  obtain ⟨h1, h2, h3⟩ := phases_parts h
  have key : ∀ i, i < ps.length → 1 ≤ speedF (ps.take (i + 1)) t ∧ speedF (ps.take (i + 1)) t ≤ 9 := fun i => by
    induction i with
    | zero =>
      intro hi
      obtain ⟨x, hx⟩ := get_of_lt hi
      have := h2 x hx
      have := goodP_bd (h3 0 x hx)
      rw [speedF_next hx, if_pos (by omega)]
      omega
    | succ i ih =>
      intro hi
      obtain ⟨x, hx⟩ := get_of_lt hi
      have := goodP_bd (h3 _ x hx)
      rw [speedF_next hx]
      have := ih (by omega)
      split <;> omega
  have := key (ps.length - 1) (by omega)
  rwa [show ps.length - 1 + 1 = ps.length by omega, List.take_length] at this
theorem speed_ok {ps : List Phase} (h : phasesB ps = true) : ∀ t, 0 ≤ t → 1 ≤ speedF ps t := fun _ ht => (speedF_bd h ht).1
set_option maxHeartbeats 1000000 in
theorem speedAt (A : Option Addr) (n c : Nat) (ps : List Phase) (t : Int) (w : World) (hS : Sl w 2 A n c (ps.flatMap Phase.row)) (hn : n ≤ 1048576) :
    Calls Try.prog 115 #[.slice A n c, .int .i64 t] w fun e w' => e = .returned (.int .i64 (speedF ps t)) ∧ Below w.heap.size w w' := by
  have hlh := hid (hS.xs_len Phase.row_len (by omega))
  go_enter Try.func115, Try.ntmps115
  go_wp2
  go_loopw [5, 10] (fun q v wr => ∃ i : Nat, i ≤ n ∧ v = .int .i64 i ∧ q = .int .i64 (speedF (ps.take i) t) ∧ Below w.heap.size w wr) (fun _ v _ => n - (intOf v).toNat)
  case atStart => exact ⟨0, by omega, rfl, rfl, by (repeat' (first | (with_reducible exact bel_refl _) | (with_reducible assumption) | (with_reducible refine bel_drew ?_) | (with_reducible refine bel_drewN ?_) | (with_reducible refine bel_alloc ?_) | (with_reducible refine bel_set ?_ ?_) | (with_reducible refine bel_trans ?_ (by with_reducible assumption)) | omega | (simp; done) | (simp; omega)))⟩
  case round =>
    obtain ⟨i, hi', rfl, rfl, hB⟩ := hrel
    by_cases hlt : i < n
    · obtain ⟨x, hx⟩ : ∃ x, ps[i]? = some x := get_of_lt (by rw [hlh.out]; exact hlt)
      obtain ⟨b, o, rfl, hb, c0, c1⟩ := (hS.bel hB).phase hx
      have hN := hid (speedF_next (t := t) hx)
      clear hx
      by_cases h1 : x.start ≤ t
      · go_wp2
        go_roundw
        case rel => exact ⟨i + 1, by omega, by go_num, by rw [hN.out, if_pos h1], by (repeat' (first | (with_reducible exact bel_refl _) | (with_reducible assumption) | (with_reducible refine bel_drew ?_) | (with_reducible refine bel_drewN ?_) | (with_reducible refine bel_alloc ?_) | (with_reducible refine bel_set ?_ ?_) | (with_reducible refine bel_trans ?_ (by with_reducible assumption)) | omega | (simp; done) | (simp; omega)))⟩
        case measure => simp [intOf]; omega
      · go_wp2
        go_roundw
        case rel => exact ⟨i + 1, by omega, by go_num, by rw [hN.out, if_neg h1], by (repeat' (first | (with_reducible exact bel_refl _) | (with_reducible assumption) | (with_reducible refine bel_drew ?_) | (with_reducible refine bel_drewN ?_) | (with_reducible refine bel_alloc ?_) | (with_reducible refine bel_set ?_ ?_) | (with_reducible refine bel_trans ?_ (by with_reducible assumption)) | omega | (simp; done) | (simp; omega)))⟩
        case measure => simp [intOf]; omega
    · go_wp2
      go_ret
      have e : i = n := by omega
      subst e
      exact ⟨ret_int (by rw [List.take_of_length_le (by rw [hlh.out]; omega)]), by (repeat' (first | (with_reducible exact bel_refl _) | (with_reducible assumption) | (with_reducible refine bel_drew ?_) | (with_reducible refine bel_drewN ?_) | (with_reducible refine bel_alloc ?_) | (with_reducible refine bel_set ?_ ?_) | (with_reducible refine bel_trans ?_ (by with_reducible assumption)) | omega | (simp; done) | (simp; omega)))⟩
set_option maxHeartbeats 1000000 in
theorem l4Speed (A : Option Addr) (n c : Nat) (ps : List Phase) (t : Int) (w : World) (hS : Sl w 2 A n c (ps.flatMap Phase.row)) (hn : n ≤ 1048576) (hp : phasesB ps = true) (ht : 0 ≤ t) :
    Calls Try.prog 108 #[.slice A n c, .int .i64 t] w fun e w' => e = .returned (.int .i64 (speedF ps t)) ∧ w = w' := by
  have hlh := hid (hS.xs_len Phase.row_len (by omega))
  obtain ⟨h1, h2, h3⟩ := phases_parts hp
  have hn0 : 0 < n := by rw [← hlh.out]; omega
  go_enter Try.func108, Try.ntmps108
  go_wp2
  go_loopw [5] (fun v wr => ∃ i : Nat, i < n ∧ v = .int .i64 i ∧ (Hid (∀ x, ps[i]? = some x → x.start ≤ t)) ∧ w = wr) (fun v _ => n - (intOf v).toNat)
  case atStart => exact ⟨0, hn0, rfl, fun x hx => by rw [h2 x hx]; exact ht, rfl⟩
  case round =>
    obtain ⟨i, hi', rfl, hxt, rfl⟩ := hrel
    obtain ⟨x, hx⟩ : ∃ x, ps[i]? = some x := get_of_lt (by rw [hlh.out]; exact hi')
    obtain ⟨b, o, rfl, hb, c0, c1⟩ := hS.phase hx
    have hX := hid hx
    clear hx
    have hi1 : (i : Int) < (n : Int) := by omega
    by_cases hlt : i + 1 < n
    · obtain ⟨y, hy⟩ : ∃ y, ps[i + 1]? = some y := get_of_lt (by rw [hlh.out]; exact hlt)
      obtain ⟨b', o', hbo, _, d0, d1⟩ := hS.phase hy
      simp only [Option.some.injEq, Addr.mk.injEq, and_true] at hbo
      obtain ⟨rfl, rfl⟩ := hbo
      have hY := hid hy
      clear hy
      have hi2 : (i : Int) + 1 < (n : Int) := by omega
      by_cases hle : y.start ≤ t
      · go_wp2
        go_roundw
        case rel => exact ⟨i + 1, hlt, by go_num, fun z hz => by rw [hY.out] at hz; simp only [Option.some.injEq] at hz; rw [← hz]; exact hle, by simp⟩
        case measure => simp [intOf]; omega
      · have hR := hid (speedF_at hp hX.out (hxt.out x hX.out) (fun z hz => by rw [hY.out] at hz; simp only [Option.some.injEq] at hz; rw [← hz]; omega))
        go_wp2
        go_ret
        exact ⟨ret_int hR.out.symm, rfl⟩
    · have hi2 : ¬ (i : Int) + 1 < (n : Int) := by omega
      have hR := hid (speedF_at hp hX.out (hxt.out x hX.out) (fun z hz => by have := (List.getElem?_eq_some_iff.1 hz).1; rw [hlh.out] at this; omega))
      go_wp2
      go_ret
      exact ⟨ret_int hR.out.symm, rfl⟩
theorem min_low {t : Int} (h : t ≤ 9999) : min t 9999 = t := by omega
theorem done_ (A : Option Addr) (n c : Nat) (ps : List Phase) (t v : Int) (w : World) (hS : Sl w 2 A n c (ps.flatMap Phase.row)) (hn : n ≤ 1048576) (hp : phasesB ps = true) (ht : 0 ≤ t ∧ t ≤ 6000) (hv : 0 ≤ v ∧ v ≤ 120) :
    Calls Try.prog 103 #[.slice A n c, .int .i64 t, .int .i64 v] w fun e w' => e = .returned (.int .i64 (doneF (speedF ps) t v)) ∧ Below w.heap.size w w' := by
  obtain ⟨T, hT⟩ : ∃ T, doneF (speedF ps) t v = T := ⟨_, rfl⟩
  rw [hT]
  replace hT := hid hT
  go_enter Try.func103, Try.ntmps103
  go_wp2
  go_loopw [1, 2] (fun a b wr => ∃ (x y : Int), a = .int .i64 x ∧ b = .int .i64 y ∧ 0 ≤ x ∧ x + max y 0 ≤ 6120 ∧ -10 ≤ y ∧ Hid (doneF (speedF ps) x y = T) ∧ Below w.heap.size w wr) (fun _ b _ => (intOf b).toNat)
  case atStart => exact ⟨t, v, rfl, rfl, ht.1, by omega, by omega, hT, by (repeat' (first | (with_reducible exact bel_refl _) | (with_reducible assumption) | (with_reducible refine bel_drew ?_) | (with_reducible refine bel_drewN ?_) | (with_reducible refine bel_alloc ?_) | (with_reducible refine bel_set ?_ ?_) | (with_reducible refine bel_trans ?_ (by with_reducible assumption)) | omega | (simp; done) | (simp; omega)))⟩
  case round =>
    obtain ⟨x, y, rfl, rfl, hx0, hxy, hy0, hd, hB⟩ := hrel
    by_cases hy : 0 < y
    · have hsb := speedF_bd hp hx0
      have hN := hid (doneF_step (speed_ok hp) hx0 hy)
      go_wp2_with (go_at_call 115; rw [min_low (by omega)]; refine (speedAt _ _ _ ps _ _ (hS.bel hB) hn).mono ?_; rintro _ w1 ⟨rfl, hB1⟩; replace hB := bel_trans hB hB1)
      go_roundw
      case rel => exact ⟨x + 1, y - speedF ps x, rfl, rfl, by omega, by omega, by omega, (by show _ = _; rw [← hN.out]; exact hd.out), by (repeat' (first | (with_reducible exact bel_refl _) | (with_reducible assumption) | (with_reducible refine bel_drew ?_) | (with_reducible refine bel_drewN ?_) | (with_reducible refine bel_alloc ?_) | (with_reducible refine bel_set ?_ ?_) | (with_reducible refine bel_trans ?_ (by with_reducible assumption)) | omega | (simp; done) | (simp; omega)))⟩
      case measure => simp [intOf]; omega
    · go_wp2
      go_ret
      have e := hd.out
      rw [doneF_zero (by omega)] at e
      exact ⟨ret_int e, by (repeat' (first | (with_reducible exact bel_refl _) | (with_reducible assumption) | (with_reducible refine bel_drew ?_) | (with_reducible refine bel_drewN ?_) | (with_reducible refine bel_alloc ?_) | (with_reducible refine bel_set ?_ ?_) | (with_reducible refine bel_trans ?_ (by with_reducible assumption)) | omega | (simp; done) | (simp; omega)))⟩

theorem l4Done (A : Option Addr) (n c : Nat) (ps : List Phase) (t v : Int) (w : World) (hS : Sl w 2 A n c (ps.flatMap Phase.row)) (hn : n ≤ 1048576) (hp : phasesB ps = true) (ht : 0 ≤ t ∧ t ≤ 6000) (hv : 0 ≤ v ∧ v ≤ 120) :
    Calls Try.prog 91 #[.slice A n c, .int .i64 t, .int .i64 v] w fun e w' => e = .returned (.int .i64 (doneF (speedF ps) t v)) ∧ Below w.heap.size w w' := by
  obtain ⟨T, hT⟩ : ∃ T, doneF (speedF ps) t v = T := ⟨_, rfl⟩
  rw [hT]
  replace hT := hid hT
  go_enter Try.func91, Try.ntmps91
  go_wp2
  go_loopw [1, 2] (fun a b wr => ∃ (x y : Int), a = .int .i64 x ∧ b = .int .i64 y ∧ 0 ≤ x ∧ x + max y 0 ≤ 6120 ∧ -10 ≤ y ∧ Hid (doneF (speedF ps) x y = T) ∧ Below w.heap.size w wr) (fun _ b _ => (intOf b).toNat)
  case atStart => exact ⟨t, v, rfl, rfl, ht.1, by omega, by omega, hT, by (repeat' (first | (with_reducible exact bel_refl _) | (with_reducible assumption) | (with_reducible refine bel_drew ?_) | (with_reducible refine bel_drewN ?_) | (with_reducible refine bel_alloc ?_) | (with_reducible refine bel_set ?_ ?_) | (with_reducible refine bel_trans ?_ (by with_reducible assumption)) | omega | (simp; done) | (simp; omega)))⟩
  case round =>
    obtain ⟨x, y, rfl, rfl, hx0, hxy, hy0, hd, hB⟩ := hrel
    by_cases hy : 0 < y
    · have hsb := speedF_bd hp hx0
      have hN := hid (doneF_step (speed_ok hp) hx0 hy)
      go_wp2_with (go_at_call 108; refine (l4Speed _ _ _ ps _ _ (hS.bel hB) hn hp (by omega)).mono ?_; rintro _ w1 ⟨rfl, rfl⟩)
      go_roundw
      case rel => exact ⟨x + 1, y - speedF ps x, rfl, rfl, by omega, by omega, by omega, (by show _ = _; rw [← hN.out]; exact hd.out), by (repeat' (first | (with_reducible exact bel_refl _) | (with_reducible assumption) | (with_reducible refine bel_drew ?_) | (with_reducible refine bel_drewN ?_) | (with_reducible refine bel_alloc ?_) | (with_reducible refine bel_set ?_ ?_) | (with_reducible refine bel_trans ?_ (by with_reducible assumption)) | omega | (simp; done) | (simp; omega)))⟩
      case measure => simp [intOf]; omega
    · go_wp2
      go_ret
      have e := hd.out
      rw [doneF_zero (by omega)] at e
      exact ⟨ret_int e, by (repeat' (first | (with_reducible exact bel_refl _) | (with_reducible assumption) | (with_reducible refine bel_drew ?_) | (with_reducible refine bel_drewN ?_) | (with_reducible refine bel_alloc ?_) | (with_reducible refine bel_set ?_ ?_) | (with_reducible refine bel_trans ?_ (by with_reducible assumption)) | omega | (simp; done) | (simp; omega)))⟩

end Go.Proofs.Ytdfjfopbhlbmkaa
