/-
  A number read back, the reference's way, walked.
-/
import Derived.Test.YtkkoccllmflhfaaGreatDoorParseS
import Derived.Deep.DeepCutAuto
namespace Go.Proofs.YtkkoccllmflhfaaGreatDoor
open Go.RowKit

theorem numB_dig {n : Int} (h : 0 ≤ n) {i : Nat} (hi : i < (numB n).size) : 48 ≤ ((numB n)[i]).toNat ∧ ((numB n)[i]).toNat ≤ 57 := by
  refine dec_byte n.toNat _ ?_
  rw [← numB_data n h]
  have e : (numB n)[i] = (numB n).data.toList[i]'(by rw [Array.length_toList]; exact hi) := rfl
  rw [e]
  exact List.getElem_mem _
theorem numB_pos (n : Int) (h : 0 ≤ n) : 1 ≤ (numB n).size := by
  have e : (numB n).size = (Lib.decDigits n.toNat).length := by rw [numB, bytesOf_size, itoa_nat n h]
  rw [e]
  exact List.length_pos_iff.2 (dec_ne _)
set_option maxHeartbeats 4000000 in
theorem l1Read (s : ByteArray) (w : World) (hs : s.size ≤ 1048576) :
    Calls Tryz.prog 34 #[.string s] w fun e w' => (∃ v k, e = .returned (.tuple #[.int .i64 v, .bool k]) ∧ ∀ n : Int, 0 ≤ n → n ≤ 999999 → s = numB n → v = n) ∧ Below w.heap.size w w' := by
  go_enter Tryz.func34, Tryz.ntmps34
  go_upto_region 2 with fail
  go_cut [15] (fun p wx => (∃ b : Bool, p = .bool b ∧ Hid (b = true → 1 < s.size ∧ ∀ n : Int, 0 ≤ n → s ≠ numB n)) ∧ wx = w)
  case first =>
    by_cases h1 : 1 < s.size
    · have h1i : (1 : Int) < (s.size : Int) := by omega
      have h0i : (0 : Int) < (s.size : Int) := by omega
      rcases hm : (((s[0]'(by omega)).toNat : Int) == 45) with _ | _
      · go_wp2_with fail
        go_meet
        exact ⟨⟨false, rfl, hid (fun h => by cases h)⟩, rfl⟩
      · have hne : Hid (∀ n : Int, 0 ≤ n → s ≠ numB n) := fun n h0 e => by
          subst e
          have := numB_dig h0 (i := 0) (by omega)
          have := beq_iff_eq.1 hm
          omega
        go_wp2_with fail
        go_meet
        exact ⟨⟨true, rfl, hid (fun _ => ⟨h1, hne.out⟩)⟩, rfl⟩
    · have h1i : ¬ (1 : Int) < (s.size : Int) := by omega
      go_wp2_with fail
      go_meet
      exact ⟨⟨false, rfl, hid (fun h => by cases h)⟩, rfl⟩
  case rest =>
    obtain ⟨⟨b, rfl, hb⟩, rfl⟩ := hcut
    go_upto_if 15 with fail
    go_cut [4] (fun t wx => (∃ T : ByteArray, t = .string T ∧ T.size ≤ s.size ∧ Hid (∀ n : Int, 0 ≤ n → n ≤ 999999 → s = numB n → T = s)) ∧ wx = wc)
    case first =>
      rcases b with _ | _
      · go_wp2_with fail
        go_meet
        exact ⟨⟨s, rfl, Nat.le_refl _, hid (fun _ _ _ _ => rfl)⟩, rfl⟩
      · obtain ⟨h1, h2⟩ := hb.out rfl
        have h1i : (1 : Int) ≤ (s.size : Int) := by omega
        replace h2 := hid h2
        clear hb
        go_wp2_with fail
        go_meet
        exact ⟨⟨s.extract 1 s.size, rfl, by simp, hid (fun n h0 _ e => absurd e (h2.out n h0))⟩, rfl⟩
    case rest =>
      clear hb
      obtain ⟨⟨T, rfl, hTs, hT⟩, rfl⟩ := hcut
      obtain ⟨w0, rfl⟩ : ∃ w0, w0 = wc := ⟨_, rfl⟩
      rcases hin : inB (T.size : Int) 1 6 with _ | _
      · go_wp2_with (go_at_call 43; refine (l1In _ _ _ _).mono ?_; rintro _ w1 ⟨rfl, rfl⟩)
        go_ret2
        refine ⟨⟨0, false, rfl, fun n h0 h1 e => ?_⟩, bel_refl _⟩
        have e2 := hT.out n h0 h1 e
        rw [e2, e] at hin
        have h3 := numB_pos n h0
        have h4 := numB_len h0 (k := 6) (by omega) (by omega)
        have := inB_iff.2 (show (1 : Int) ≤ ((numB n).size : Int) ∧ ((numB n).size : Int) ≤ 6 by omega)
        rw [hin] at this
        cases this
      · have hib := inB_iff.1 hin
        have h16 : 1 ≤ T.size ∧ T.size ≤ 6 := by omega
        clear hib
        go_wp2_with (go_at_call 43; refine (l1In _ _ _ _).mono ?_; rintro _ w1 ⟨rfl, rfl⟩)
        obtain ⟨L, hL⟩ : ∃ L, T.data.toList = L := ⟨_, rfl⟩
        have hLl : Hid (L.length = T.size) := by show _ = _; rw [← hL]; exact Array.length_toList
        replace hL := hid hL
        clear hin
        go_loopw [5, 6] (fun u v wr => ∃ i a : Nat, i ≤ T.size ∧ v = .int .i64 i ∧ u = .int .i64 a ∧ a < 10 ^ i ∧ Hid (Lib.decFrom 0 (L.take i) = some a) ∧ w0 = wr) (fun _ v _ => T.size - (intOf v).toNat)
        case atStart => exact ⟨0, 0, by omega, rfl, rfl, by decide, hid rfl, rfl⟩
        case round =>
          obtain ⟨i, a, hi, rfl, rfl, ha, hd, rfl⟩ := hrel
          have ha6 : a ≤ 999999 := by
            have := Nat.pow_le_pow_right (show 0 < 10 by omega) (show i ≤ 6 by omega)
            omega
          by_cases hlt : i < T.size
          · have hi0 : (0 : Int) ≤ (i : Int) := by omega
            have hi1 : (i : Int) < (T.size : Int) := by omega
            have hat : L[i]? = some T[i] := by
              rw [← hL.out]
              rw [List.getElem?_eq_getElem (by rw [Array.length_toList]; exact hlt)]
              rfl
            have hbad : Hid (¬ (48 ≤ (T[i]).toNat ∧ (T[i]).toNat ≤ 57) → ∀ n : Int, 0 ≤ n → n ≤ 999999 → s ≠ numB n) := fun h n h0 h1 e => by
              have e2 := (hT.out n h0 h1 e).trans e
              subst e2
              exact h (numB_dig h0 hlt)
            replace hat := hid hat
            by_cases hd1 : ((T[i]).toNat : Int) < 48
            · have hno := hid (hbad.out (by omega))
              go_wp2_with fail
              go_ret2
              first | exact ⟨⟨0, false, rfl, fun n h0 h1 e => absurd e (hno.out n h0 h1)⟩, bel_refl _⟩ | exact ⟨⟨0, ⟨false, rfl⟩, fun n h0 h1 e => absurd e (hno.out n h0 h1)⟩, bel_refl _⟩
            · replace hd1 : (48 : Int) ≤ ((T[i]).toNat : Int) := by omega
              by_cases hd2 : (57 : Int) < ((T[i]).toNat : Int)
              · have hno := hid (hbad.out (by omega))
                go_wp2_with fail
                go_ret2
                first | exact ⟨⟨0, false, rfl, fun n h0 h1 e => absurd e (hno.out n h0 h1)⟩, bel_refl _⟩ | exact ⟨⟨0, ⟨false, rfl⟩, fun n h0 h1 e => absurd e (hno.out n h0 h1)⟩, bel_refl _⟩
              · obtain ⟨d, hdd⟩ : ∃ d : Nat, (T[i]).toNat = 48 + d := ⟨(T[i]).toNat - 48, by omega⟩
                have hd9 : d ≤ 9 := by omega
                have hpow : 10 * a + d < 10 ^ (i + 1) := by rw [Nat.pow_succ]; omega
                have hN : Hid (Lib.decFrom 0 (L.take (i + 1)) = some (10 * a + d)) := by
                  show _ = _
                  rw [List.take_add_one, hat.out]
                  have hv : Lib.digitVal T[i] = some d := by
                    unfold Lib.digitVal
                    rw [if_pos (by omega)]
                    congr 1
                    omega
                  have := decFrom_append 0 (L.take i) T[i] d a hd.out hv
                  rw [show (some T[i]).toList = [T[i]] from rfl, this]
                  congr 1
                  omega
                have hbd : ((T[i]).toNat : Int) = 48 + (d : Int) := by omega
                replace hdd := hid hdd
                clear hd1 hd2
                go_wp2_with fail
                refine ⟨⟨i + 1, 10 * a + d, hlt, by go_num, by (congr 1; push_cast; omega), hpow, hN, trivial⟩, ?_⟩
                exact measP hlt
          · have hi1 : (T.size : Int) ≤ (i : Int) := by omega
            have hie : i = T.size := by omega
            have hfin : Hid (∀ n : Int, 0 ≤ n → n ≤ 999999 → s = numB n → (a : Int) = n) := fun n h0 h1 e => by
              have e2 := (hT.out n h0 h1 e).trans e
              have h3 := hd.out
              rw [List.take_of_length_le (by rw [hLl.out]; omega), ← hL.out, e2, numB_data n h0, dec_read] at h3
              have := Option.some.inj h3
              omega
            by_cases hls : T.size < s.size
            · have hlsi : (T.size : Int) < (s.size : Int) := by omega
              have hno : Hid (∀ n : Int, 0 ≤ n → n ≤ 999999 → s ≠ numB n) := fun n h0 h1 e => by
                have e2 := hT.out n h0 h1 e
                rw [e2] at hls
                omega
              clear hls
              go_wp2_with fail
              refine (l1NumZ _ _ (by omega) (by omega)).mono ?_
              rintro _ w1 ⟨⟨N, rfl, -⟩, hb⟩
              by_cases hN : N = s
              · subst hN
                go_wp2_with fail
                go_ret2
                first
                  | exact ⟨⟨-(a : Int), true, rfl, fun n h0 h1 e => absurd e (hno.out n h0 h1)⟩, hb⟩
                  | exact ⟨⟨-(a : Int), ⟨true, rfl⟩, fun n h0 h1 e => absurd e (hno.out n h0 h1)⟩, hb⟩
              · have hne : (N.toList == s.toList) = false := by rw [bl_beq]; exact decide_eq_false hN
                clear hN
                go_wp2_with fail
                go_ret2
                first
                  | exact ⟨⟨0, false, rfl, fun n h0 h1 e => absurd e (hno.out n h0 h1)⟩, hb⟩
                  | exact ⟨⟨0, ⟨false, rfl⟩, fun n h0 h1 e => absurd e (hno.out n h0 h1)⟩, hb⟩
            · have hlsi : (s.size : Int) ≤ (T.size : Int) := by omega
              clear hls
              go_wp2_with fail
              refine (l1NumZ _ _ (by omega) (by omega)).mono ?_
              rintro _ w1 ⟨⟨N, rfl, hNn⟩, hb⟩
              have hNa := hid (hNn (by omega))
              clear hNn
              by_cases hN : N = s
              · subst hN
                go_wp2_with fail
                go_ret2
                first
                  | exact ⟨⟨(a : Int), true, rfl, fun n h0 h1 e => hfin.out n h0 h1 e⟩, hb⟩
                  | exact ⟨⟨(a : Int), ⟨true, rfl⟩, fun n h0 h1 e => hfin.out n h0 h1 e⟩, hb⟩
              · have hne : (N.toList == s.toList) = false := by rw [bl_beq]; exact decide_eq_false hN
                have hno : Hid (∀ n : Int, 0 ≤ n → n ≤ 999999 → s ≠ numB n) := fun n h0 h1 e => by
                  have e2 := hfin.out n h0 h1 e
                  rw [e2] at hNa
                  exact hN (hNa.out.trans e.symm)
                clear hN
                go_wp2_with fail
                go_ret2
                first
                  | exact ⟨⟨0, false, rfl, fun n h0 h1 e => absurd e (hno.out n h0 h1)⟩, hb⟩
                  | exact ⟨⟨0, ⟨false, rfl⟩, fun n h0 h1 e => absurd e (hno.out n h0 h1)⟩, hb⟩
end Go.Proofs.YtkkoccllmflhfaaGreatDoor
