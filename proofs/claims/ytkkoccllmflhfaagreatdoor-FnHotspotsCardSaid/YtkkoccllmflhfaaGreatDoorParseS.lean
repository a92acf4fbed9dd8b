/-
  Words and numbers read back, the reference's way, walked.
-/
import Derived.Test.YtkkoccllmflhfaaGreatDoorParseI2
import Derived.Laws.IdiomStrings
namespace Go.Proofs.YtkkoccllmflhfaaGreatDoor
open Go.RowKit

theorem info_string : (Tryz.prog.info? 9).map (fun i => (i.zero, i.size, i.bytes)) = some (some (.string ⟨#[]⟩), 1, 16) := by kernel_rfl
theorem ext_data (s : ByteArray) (a b : Nat) : (s.extract a b).data.toList = (s.data.toList.drop a).take (b - a) := by
  rw [ByteArray.data_extract, Array.toList_extract, List.extract_eq_take_drop]
theorem slice_atP {g g' n : Nat} (h : g = g') : Value.slice (some ⟨g, 0, none⟩) n n = .slice (some ⟨g', 0, none⟩) n n := by rw [h]
set_option maxHeartbeats 2000000 in
theorem l1Split (s : ByteArray) (c : UInt8) (w : World) (hs : s.size ≤ 1048576) :
    Calls Tryz.prog 33 #[.string s, .int .u8 (c.toNat : Int)] w fun e w' => ∃ A' n' c' ws, e = .returned (.slice A' n' c') ∧ Own w.heap.size w'.heap.size w' 9 1 A' n' c' (strs ws) ∧ ws.map (fun b => b.data.toList) = splitA c [] s.data.toList ∧ n' ≤ s.size + 1 ∧ Below w.heap.size w w' := by
  have hE0 := own_empty (w := w) (base := w.heap.size) (size := 1) (e := 9) (Nat.le_refl _)
  have hb0 := bel_alloc (o := .cells #[] 9) (bel_refl w)
  obtain ⟨L, hL⟩ : ∃ L, s.data.toList = L := ⟨_, rfl⟩
  have hLl : Hid (L.length = s.size) := by show _ = _; rw [← hL]; exact Array.length_toList
  go_enter Tryz.func33, Tryz.ntmps33
  go_wp2_with fail
  go_loopw [5, 6, 7] (fun q u v wr => ∃ i fr : Nat, i ≤ s.size ∧ fr ≤ i ∧ v = .int .i64 i ∧ u = .int .i64 fr ∧ (∃ A' m c' ws, q = .slice A' m c' ∧ m ≤ i ∧ wr.ownsRow w.heap.size 9 1 (.slice A' m c') m (strs ws) ∧ Hid (ws.map (fun b => b.data.toList) ++ splitA c ((L.drop fr).take (i - fr)) (L.drop i) = splitA c [] L)) ∧ Below w.heap.size w wr) (fun _ _ v _ => s.size - (intOf v).toNat)
  case atStart => exact ⟨0, 0, by omega, by omega, rfl, rfl, ⟨_, _, _, [], rfl, by omega, hE0, hid (by simp)⟩, hb0⟩
  case round =>
    clear hE0 hb0
    obtain ⟨i, fr, hi, hfr, rfl, rfl, ⟨A', m, c', ws, rfl, hmi, hO, hW⟩, hB⟩ := hrel
    by_cases hlt : i < s.size
    · have hi0 : (0 : Int) ≤ (i : Int) := by omega
      have hi1 : (i : Int) < (s.size : Int) := by omega
      have hdr : L.drop i = s[i] :: L.drop (i + 1) := by
        subst hL
        rw [List.drop_eq_getElem_cons (by rw [Array.length_toList]; exact hlt)]
        rfl
      by_cases hbc : s[i] = c
      · have hq : (((s[i]).toNat : Int) == (c.toNat : Int)) = true := by rw [hbc]; exact beq_self_eq_true _
        replace hbc := hid hbc
        replace hdr := hid hdr
        go_wp2_with (at_builtin; refine wpList_push rfl (.tmp 20) (.tmp 25) 47 rfl w.heap.size 9 (.string ⟨#[]⟩) 1 16 Tryz.underlying47 info_string rfl (by omega) A' m c' _ [.string (s.extract fr i)] 9 rfl hO (by first | rfl | exact slice_atP (by simp)) rfl (by intro u hu; rw [List.mem_singleton.1 hu]; rfl) (by omega) (by omega) hB.size ?_; intro A5 c5 w5 hO5 hb5 hg5)
        have hW5 : Hid ((ws ++ [s.extract fr i]).map (fun b => b.data.toList) ++ splitA c ((L.drop (i + 1)).take (i + 1 - (i + 1))) (L.drop (i + 1)) = splitA c [] L) := by
          show _ = _
          rw [← hW.out, hdr.out, hbc.out, splitA, if_pos rfl, List.map_append, List.append_assoc, Nat.sub_self, List.take_zero]
          simp only [List.map_cons, List.map_nil, List.singleton_append]
          rw [ext_data, hL]
        have eI : strs ws ++ [.string (s.extract fr i)] = strs (ws ++ [s.extract fr i]) := by simp [strs]
        rw [eI] at hO5
        refine ⟨⟨i + 1, i + 1, hlt, Nat.le_refl _, by go_num, by go_num, ⟨_, _, _, _, rfl, by omega, hO5, hW5⟩, hB.trans hb5⟩, ?_⟩
        exact measP hlt
      · have hq : (((s[i]).toNat : Int) == (c.toNat : Int)) = false := by
          rw [beq_eq_false_iff_ne]
          intro e
          exact hbc (UInt8.toNat_inj.1 (by omega))
        replace hbc := hid hbc
        replace hdr := hid hdr
        go_wp2_with fail
        have hW5 : Hid (ws.map (fun b => b.data.toList) ++ splitA c ((L.drop fr).take (i + 1 - fr)) (L.drop (i + 1)) = splitA c [] L) := by
          show _ = _
          have e : (L.drop fr).take (i + 1 - fr) = (L.drop fr).take (i - fr) ++ [s[i]] := by
            rw [show i + 1 - fr = (i - fr) + 1 by omega, List.take_add_one, List.getElem?_drop, show fr + (i - fr) = i by omega]
            have h1 : L[i]? = some s[i] := by
              have h2 := congrArg (fun l => l[0]?) hdr.out
              simpa using h2
            rw [h1]
            rfl
          rw [← hW.out, hdr.out, splitA, if_neg hbc.out, e]
        refine ⟨⟨i + 1, fr, hlt, by omega, by go_num, rfl, ⟨_, _, _, _, rfl, by omega, hO, hW5⟩, hB⟩, ?_⟩
        exact measP hlt
    · have hi1 : ¬ (i : Int) < (s.size : Int) := by omega
      have e : i = s.size := by omega
      have hfr1 : (fr : Int) ≤ (s.size : Int) := by omega
      have hfr0 : (0 : Int) ≤ (fr : Int) := by omega
      go_wp2_with (at_builtin; refine wpList_push rfl (.tmp 29) (.tmp 33) 47 rfl w.heap.size 9 (.string ⟨#[]⟩) 1 16 Tryz.underlying47 info_string rfl (by omega) A' m c' _ [.string (s.extract fr s.size)] 9 rfl hO (by first | rfl | exact slice_atP (by simp)) rfl (by intro u hu; rw [List.mem_singleton.1 hu]; rfl) (by omega) (by omega) hB.size ?_; intro A5 c5 w5 hO5 hb5 hg5)
      go_ret
      refine ⟨A5, m + 1, c5, rfl, ws ++ [s.extract fr s.size], ?_, ?_, by omega, hB.trans hb5⟩
      · have eI : strs ws ++ [.string (s.extract fr s.size)] = strs (ws ++ [s.extract fr s.size]) := by simp [strs]
        rw [eI] at hO5
        exact Own.mk_ hO5
      · have h1 := hW.out
        have h2 : L.drop i = [] := List.drop_eq_nil_of_le (by rw [hLl.out]; omega)
        rw [h2, splitA] at h1
        rw [← h1, List.map_append, e]
        simp only [List.map_cons, List.map_nil]
        rw [ext_data, hL]
theorem l1NumZ (n : Int) (w : World) (h0 : -1000000 ≤ n) (h1 : n ≤ 1000000) :
    Calls Tryz.prog 46 #[.int .i64 n] w fun e w' => (∃ N, e = .returned (.string N) ∧ (0 ≤ n → N = numB n)) ∧ Below w.heap.size w w' := by
  by_cases h : 0 ≤ n
  · obtain ⟨m, rfl⟩ := Int.eq_ofNat_of_zero_le h
    refine (l1Num m w (by omega)).mono ?_
    rintro _ w' ⟨rfl, hb⟩
    exact ⟨⟨_, rfl, fun _ => rfl⟩, hb⟩
  · have hn : n < 0 := by omega
    obtain ⟨m, hm⟩ : ∃ m : Nat, -n = m := ⟨(-n).toNat, by omega⟩
    have hc := fun w => l1Num m w (by omega)
    rw [← hm] at hc
    have hsz : ¬ ((ByteArray.mk #[45]).size + (numB (-n)).size > 9223372036854775807) := by
      have := numB_size (-n) (by omega)
      have e : (ByteArray.mk #[45]).size = 1 := rfl
      omega
    clear hm
    go_enter Tryz.func46, Tryz.ntmps46
    go_wp2_with (go_at_call 46; refine (hc _).mono ?_; rintro _ w1 ⟨rfl, hb⟩)
    go_ret
    exact ⟨⟨_, rfl, fun h2 => by omega⟩, hb⟩
end Go.Proofs.YtkkoccllmflhfaaGreatDoor
