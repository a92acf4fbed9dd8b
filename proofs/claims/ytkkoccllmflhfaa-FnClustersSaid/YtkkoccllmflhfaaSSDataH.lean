/-
  The functions that the laws are made of, on lists of lists of numbers, walked: comparisons, marks.
-/
import Derived.Test.YtkkoccllmflhfaaMemSS
import Derived.Test.YtkkoccllmflhfaaSpotData
namespace Go.Proofs.Ytkkoccllmflhfaa
open Go.RowKit

theorem eqIntSS (A B : Option Addr) (n c d : Nat) (LL : List (List Int)) (w : World) (h : SS w A n c (rows LL)) (h2 : SS w B n d (rows LL)) (hn : n ≤ 1048576) (hm : ∀ l ∈ LL, l.length ≤ 1048576) :
    Calls Try.prog 17 #[.slice A n c, .slice B n d] w fun e w' => e = .returned (.bool true) ∧ Below w.heap.size w w' := by
  have hlh := hid (rows_len LL ▸ h.len)
  go_enter Try.func17, Try.ntmps17
  go_wp2
  go_loopw [5] (fun v wr => ∃ i : Nat, i ≤ n ∧ v = .int .i64 i ∧ Below w.heap.size w wr) (fun v _ => n - (intOf v).toNat)
  case atStart => exact ⟨0, Nat.zero_le _, rfl, by (repeat' (first | (with_reducible exact bel_refl _) | (with_reducible assumption) | (with_reducible refine bel_drew ?_) | (with_reducible refine bel_drewN ?_) | (with_reducible refine bel_alloc ?_) | (with_reducible refine bel_set ?_ ?_) | (with_reducible refine bel_trans ?_ (by with_reducible assumption)) | omega | (simp; done) | (simp; omega)))⟩
  case round =>
    obtain ⟨i, hi', rfl, hB⟩ := hrel
    by_cases hlt : i < n
    · obtain ⟨x, hx⟩ : ∃ x, LL[i]? = some x := get_of_lt (by rw [hlh.out]; exact hlt)
      have hxm := hm x (List.mem_of_getElem? hx)
      obtain ⟨b, o, rfl, hb, a, m, e, c0, hs⟩ := (h.bel hB).at_ (rows_get hx)
      obtain ⟨b', o', rfl, hb', a', m', e', e0, hs'⟩ := (h2.bel hB).at_ (rows_get hx)
      obtain rfl : m = m' := hs.int_len.symm.trans hs'.int_len
      have hml := hs.int_len
      clear hx
      have hB2 := bel_refl wr
      have hc0 : (0 : Int) ≤ (i : Int) := by omega
      have hc1 : (i : Int) < (n : Int) := by omega
      go_wp2_with fail
      (refine wp_region_bel (by kernel_rfl) (by kernel_rfl) ?_; have hD := bel_cells hB2; (repeat (go_big_quiet_step (((go_at_call 10; exact calls_bel (eqIntS _ _ _ _ _ _ _ (hs.bel (Bel.prop _)) (hs'.bel (Bel.prop _)) (by omega))))))); refine wpQuiet_nil ?_; intro w1 hB1; replace hB2 := bel_trans hB2 hB1; obtain ⟨hC1, hF1⟩ := bcell hB2; clear hD; replace hB1 := hB1)
      go_wp2
      go_roundw
      case rel => exact ⟨i + 1, by omega, by go_num, by (repeat' (first | (with_reducible exact bel_refl _) | (with_reducible assumption) | (with_reducible refine bel_drew ?_) | (with_reducible refine bel_drewN ?_) | (with_reducible refine bel_alloc ?_) | (with_reducible refine bel_set ?_ ?_) | (with_reducible refine bel_trans ?_ (by with_reducible assumption)) | omega | (simp; done) | (simp; omega)))⟩
      case measure => simp [intOf]; omega
    · go_wp2
      go_ret
      exact ⟨rfl, by (repeat' (first | (with_reducible exact bel_refl _) | (with_reducible assumption) | (with_reducible refine bel_drew ?_) | (with_reducible refine bel_drewN ?_) | (with_reducible refine bel_alloc ?_) | (with_reducible refine bel_set ?_ ?_) | (with_reducible refine bel_trans ?_ (by with_reducible assumption)) | omega | (simp; done) | (simp; omega)))⟩

theorem heldIntSS (A : Option Addr) (n c : Nat) (k0 : Int) (ms : List Nat) (w : World) (h : SS w A n c (mkRows k0 ms)) (hn : n ≤ 1048576) (hm : ms.sum ≤ 1048576) (h0 : 0 ≤ k0) (h1 : k0 ≤ 1048576) :
    Calls Try.prog 19 #[.slice A n c, .int .i64 k0] w fun e w' => e = .returned (.int .i64 (k0 + ms.sum)) ∧ Below w.heap.size w w' := by
  have hlh := hid (mkRows_len k0 ms ▸ h.len)
  go_enter Try.func19, Try.ntmps19
  go_wp2
  go_loopw [1, 5] (fun q v wr => ∃ i : Nat, i ≤ n ∧ v = .int .i64 i ∧ q = .int .i64 (k0 + (ms.take i).sum) ∧ Below w.heap.size w wr) (fun _ v _ => n - (intOf v).toNat)
  case atStart => exact ⟨0, Nat.zero_le _, rfl, by simp, by (repeat' (first | (with_reducible exact bel_refl _) | (with_reducible assumption) | (with_reducible refine bel_drew ?_) | (with_reducible refine bel_drewN ?_) | (with_reducible refine bel_alloc ?_) | (with_reducible refine bel_set ?_ ?_) | (with_reducible refine bel_trans ?_ (by with_reducible assumption)) | omega | (simp; done) | (simp; omega)))⟩
  case round =>
    obtain ⟨i, hi', rfl, rfl, hB⟩ := hrel
    have hsl := sum_le ms i
    by_cases hlt : i < n
    · obtain ⟨x, hx⟩ : ∃ x, ms[i]? = some x := get_of_lt (by rw [hlh.out]; exact hlt)
      have hsn := sum_next hx
      have hsl2 := sum_le ms (i + 1)
      have hX := hid hsn
      obtain ⟨b, o, rfl, hb, a, m, e, c0, hs⟩ := (h.bel hB).at_ (mkRows_get (k := k0) hx)
      obtain rfl : x = m := by
        have := hs.len
        rw [marks_len] at this
        omega
      replace hs := hid (show Sl wr 1 a x e (marks (k0 + (ms.take i).sum) (x * 1)) from by rw [Nat.mul_one]; exact hs)
      have hxb : x ≤ 1048576 := by omega
      have hneg : ¬ (k0 + ((ms.take i).sum : Int) + (x : Int) < 0) := by omega
      clear hx hsn hsl2
      go_wp2_with (go_at_call 14; refine (heldIntS _ _ _ _ _ (by have := hs.out; rw [Nat.mul_one] at this; exact this) (by omega) (by omega) (by omega)).mono ?_; rintro _ w2 ⟨rfl, hB1⟩)
      go_roundw
      case rel => exact ⟨i + 1, by omega, by go_num, by rw [hX.out]; congr 1; push_cast; omega, by (repeat' (first | (with_reducible exact bel_refl _) | (with_reducible assumption) | (with_reducible refine bel_drew ?_) | (with_reducible refine bel_drewN ?_) | (with_reducible refine bel_alloc ?_) | (with_reducible refine bel_set ?_ ?_) | (with_reducible refine bel_trans ?_ (by with_reducible assumption)) | omega | (simp; done) | (simp; omega)))⟩
      case measure => simp [intOf]; omega
    · go_wp2
      go_ret
      have e : i = n := by omega
      subst e
      exact ⟨ret_int (by rw [List.take_of_length_le (by rw [hlh.out]; omega)]), by (repeat' (first | (with_reducible exact bel_refl _) | (with_reducible assumption) | (with_reducible refine bel_drew ?_) | (with_reducible refine bel_drewN ?_) | (with_reducible refine bel_alloc ?_) | (with_reducible refine bel_set ?_ ?_) | (with_reducible refine bel_trans ?_ (by with_reducible assumption)) | omega | (simp; done) | (simp; omega)))⟩

theorem mix_setL {α : Type} {F Z : List α} {v : α} {p : Nat} (hl : F.length = Z.length) (hv : F[p]? = some v) : (F.take p ++ Z.drop p).set p v = F.take (p + 1) ++ Z.drop (p + 1) := by
  have hp : p < F.length := (List.getElem?_eq_some_iff.1 hv).1
  have hpz : p < Z.length := by omega
  rw [List.take_add_one, hv, List.drop_eq_getElem_cons hpz]
  have hlen : (F.take p).length = p := by rw [List.length_take]; omega
  rw [List.set_append_right _ _ (by omega), hlen, Nat.sub_self, List.set_cons_zero]
  simp
theorem mix_getL {α : Type} {F Z : List α} {p : Nat} (hl : F.length = Z.length) (hp : p < Z.length) : (F.take p ++ Z.drop p)[p]? = Z[p]? := by
  rw [List.getElem?_append_right (by rw [List.length_take]; omega), List.length_take, Nat.min_eq_left (by omega), Nat.sub_self, List.getElem?_drop]
  simp
theorem markIntSS (A : Option Addr) (n c lo hi : Nat) (k0 : Int) (LL : List (List Value)) (Vs : List Value) (w : World) (h : OwnSS lo hi w 24 3 A n c LL Vs) (hn : n ≤ 1048576) (hm : (LL.map List.length).sum ≤ 1048576) (h0 : 0 ≤ k0) (h1 : k0 ≤ 1048576) :
    Calls Try.prog 18 #[.slice A n c, .int .i64 k0] w fun e w' => e = .returned (.int .i64 (k0 + ((LL.map List.length).sum : Nat))) ∧ OwnSS lo hi w' 24 3 A n c (mkRows k0 (LL.map List.length)) Vs ∧ GrownIn lo hi w w' := by
  have hlh := hid h.ss.len
  have hmk := hid (show (mkRows k0 (LL.map List.length)).length = LL.length from by rw [mkRows_len, List.length_map])
  obtain ⟨ms, hms⟩ : ∃ ms, LL.map List.length = ms := ⟨_, rfl⟩
  rw [hms] at hm hmk ⊢
  replace hms := hid hms
  go_enter Try.func18, Try.ntmps18
  go_wp2
  go_loopw [1, 5] (fun q v wr => ∃ i : Nat, i ≤ n ∧ v = .int .i64 i ∧ q = .int .i64 (k0 + (ms.take i).sum) ∧ OwnSS lo hi wr 24 3 A n c ((mkRows k0 ms).take i ++ LL.drop i) Vs ∧ GrownIn lo hi w wr) (fun _ v _ => n - (intOf v).toNat)
  case atStart => exact ⟨0, Nat.zero_le _, rfl, by simp, by simpa using h, GrownIn.refl _ _ _⟩
  case round =>
    obtain ⟨i, hi', rfl, rfl, ho, hg⟩ := hrel
    have hsl := sum_le ms i
    by_cases hlt : i < n
    · obtain ⟨l, hl⟩ : ∃ l, LL[i]? = some l := get_of_lt (by rw [hlh.out]; exact hlt)
      have hmi : ms[i]? = some l.length := by rw [← hms.out]; exact lens_get hl
      have hsn := sum_next hmi
      have hsl2 := sum_le ms (i + 1)
      have hX := hid hsn
      have hcur := (mix_getL hmk.out (by rw [hlh.out]; exact hlt)).trans hl
      obtain ⟨a, d, hv, hr⟩ := ho.row i l hcur
      obtain ⟨b, o, rfl, hb, hc⟩ := ho.out.sl.at_ (by omega)
      have c0 := hc i _ hv
      have hmg := hid (mkRows_get (k := k0) hmi)
      have hcv := hid hv
      have hcc := hid hcur
      have hrr := hid hr
      have hlb : l.length ≤ 1048576 := by omega
      clear hc hv hcur hr hl hmi hsn
      go_wp2_with (go_at_call 13; refine (markIntS _ _ _ _ _ _ _ _ hrr.out (by omega) (by omega) (by omega)).mono ?_; rintro _ w2 ⟨rfl, hr2, hg2⟩)
      go_roundw
      case rel =>
        refine ⟨i + 1, by omega, by go_num, by rw [hX.out]; congr 1; push_cast; omega, ?_, hg.trans (GrownIn.of hg2 hrr.out.ob)⟩
        rw [← mix_setL hmk.out hmg.out]
        exact ho.set_row (by decide) hcc.out hcv.out (marks_len _ _) hr2 hg2
      case measure => simp [intOf]; omega
    · go_wp2
      go_ret
      have e : i = n := by omega
      subst e
      have e1 : ms.take i = ms := List.take_of_length_le (by rw [← hms.out, List.length_map, hlh.out]; omega)
      rw [List.take_of_length_le (by rw [hmk.out, hlh.out]; omega), List.drop_of_length_le (by rw [hlh.out]; omega), List.append_nil] at ho
      exact ⟨ret_int (by rw [e1]), ho, hg⟩
end Go.Proofs.Ytkkoccllmflhfaa
