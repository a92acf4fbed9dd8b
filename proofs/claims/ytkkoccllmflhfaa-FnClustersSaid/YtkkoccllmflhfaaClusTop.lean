/-
  The exported clusters of hot spots, the program's way, walked.
-/
import Derived.Test.YtkkoccllmflhfaaClusIW
namespace Go.Proofs.Ytkkoccllmflhfaa
open Go.RowKit

def idsH (xs : List Hotspot) (l : List Nat) : List Int := (pickH xs l).map Hotspot.id
noncomputable def clusR (xs : List Hotspot) : List (List Int) × Bool := if listH xs then ((clusL xs).map (idsH xs), true) else ([], false)
theorem OwnSS.other {w w' : World} {base k' n' n c lo hi : Nat} {t e t' : TypeId} {A : Option Addr} {LL : List (List Value)} {Vs : List Value} {u : Value} {L' : List Value} (h : OwnSS lo hi w t e A n c LL Vs) (hx : w.ownsRow base t' k' u n' L') (h1 : t' ≠ t) (h2 : t' ≠ e) (hg : w.grownBy w' u.ownBlock) : OwnSS lo hi w' t e A n c LL Vs :=
  ⟨h.out.other hx h1 hg, h.len, fun i l hl => by
    obtain ⟨a, d, hv, ho⟩ := h.row i l hl
    exact ⟨a, d, hv, ho.other hx h2 hg⟩, h.apart⟩
theorem info_intsT : (Try.prog.info? 24).map (fun i => (i.zero, i.size, i.bytes)) = some (some (.slice none 0 0), 1, 24) := by kernel_rfl
theorem hrows_at {xs : List Hotspot} {LL : List (List Nat)} {i : Nat} {l : List Nat} (h : LL[i]? = some l) : (hrows xs LL)[i]? = some ((pickH xs l).flatMap Hotspot.row) := by simp [hrows, h]
theorem clusL_len {xs : List Hotspot} {l : List Nat} (h : l ∈ clusL xs) : l.length ≤ xs.length := by
  simp only [clusL, clusU, List.mem_map] at h
  obtain ⟨i, _, rfl⟩ := h
  exact comp_len xs i
set_option maxHeartbeats 4000000 in
theorem clustersOfI (A : Option Addr) (n c : Nat) (xs : List Hotspot) (w : World) (hS : Sl w 6 A n c (xs.flatMap Hotspot.row)) (hn : n ≤ 1048576) :
    Calls Try.prog 16 #[.slice A n c] w fun e w' => ∃ A' n' c' Vs, e = .returned (.tuple #[.slice A' n' c', .bool (clusR xs).2]) ∧ OwnSS w.heap.size w'.heap.size w' 24 3 A' n' c' (rows (clusR xs).1) Vs ∧ Below w.heap.size w w' := by
  have hlh := hid (hS.xs_len Hotspot.row_len (by omega))
  have hB2 := bel_refl w
  rcases hg : listH xs with _ | _
  · have hR : Hid (clusR xs = ([], false)) := by show _ = _; simp [clusR, hg]
    go_enter Try.func16, Try.ntmps16
    go_wp2_with (go_at_call 23; refine (areHotspotsI _ _ _ _ _ hS hn).mono ?_; rintro _ w1 ⟨rfl, hB1⟩; (first | (with_reducible replace hB2 := bel_trans hB2 hB1) | (with_reducible replace hB2 := bel_trans (bel_alloc hB2) hB1)); obtain ⟨hC1, hF1⟩ := bcell hB2; replace hB1 := hB1)
    go_ret2
    exact ⟨none, 0, 0, [], by rw [hR.out]; rfl, by rw [hR.out]; exact own_nil (Own.mk_ (World.ownsRow_nil _ _ _ _)), by (repeat' (first | (with_reducible exact bel_refl _) | (with_reducible assumption) | (with_reducible refine bel_drew ?_) | (with_reducible refine bel_drewN ?_) | (with_reducible refine bel_alloc ?_) | (with_reducible refine bel_set ?_ ?_) | (with_reducible refine bel_trans ?_ (by with_reducible assumption)) | omega | (simp; done) | (simp; omega)))⟩
  · have ha := hid (listH_all hg)
    have hn10 : n ≤ 10 := by rw [← hlh.out]; exact listH_len hg
    have hR : Hid (clusR xs = ((clusL xs).map (idsH xs), true)) := by show _ = _; simp [clusR, hg]
    go_enter Try.func16, Try.ntmps16
    go_wp2_with (first | (go_at_call 23; refine (areHotspotsI _ _ _ _ _ hS hn).mono ?_; rintro _ w1 ⟨rfl, hB1⟩; (first | (with_reducible replace hB2 := bel_trans hB2 hB1) | (with_reducible replace hB2 := bel_trans (bel_alloc hB2) hB1)); obtain ⟨hC1, hF1⟩ := bcell hB2; replace hB1 := hB1) | (go_at_call 38; refine (clustersI _ _ _ xs _ (hS.bel (by (repeat' (first | (with_reducible exact bel_refl _) | (with_reducible assumption) | (with_reducible refine bel_drew ?_) | (with_reducible refine bel_drewN ?_) | (with_reducible refine bel_alloc ?_) | (with_reducible refine bel_set ?_ ?_) | (with_reducible refine bel_trans ?_ (by with_reducible assumption)) | omega | (simp; done) | (simp; omega))))) hn10 ha.out).mono ?_; rintro _ w2 ⟨A1, n1, c1, Vs1, rfl, hO, hB1⟩; replace hB1 := hB1))
    clear hg
    have hlw : w.heap.size ≤ (w1.alloc (.cells #[] 24)).heap.size := by have := hB2.size; simp; omega
    have hO2 := hO.low hlw
    have hn1 : (clusL xs).length = n1 := by have := hO.rr.len; simpa [hrows] using this
    have hn11 : n1 ≤ 10 := by have := clusU_len xs xs.length; rw [← hn1]; exact Nat.le_trans this (by rw [hlh.out]; exact hn10)
    have hE := (own_nil (t := 24) (e := 3) ((Own.mk_ (own_empty (w := w1) (base := w.heap.size) (size := 1) (e := 24) hB2.size)).bel hB1)).high (hi' := w2.heap.size) hB1.size
    have hb2 : Below w.heap.size w w2 := bel_trans (bel_alloc hB2) hB1
    clear hO hlw
    go_loopw [4, 17] (fun q v wr => ∃ i : Nat, i ≤ n1 ∧ v = .int .i64 i ∧ (∃ A' c' Vs, q = .slice A' i c' ∧ OwnSS w.heap.size wr.heap.size wr 24 3 A' i c' (rows (((clusL xs).map (idsH xs)).take i)) Vs) ∧ OwnR 6 w.heap.size wr.heap.size wr 27 49 A1 n1 c1 (hrows xs (clusL xs)) Vs1 ∧ Below w.heap.size w wr) (fun _ v _ => n1 - (intOf v).toNat)
    case atStart => exact ⟨0, by omega, rfl, ⟨_, _, _, rfl, hE⟩, hO2, hb2⟩
    case round =>
      clear hE hO2 hb2 hB1 hB2
      obtain ⟨i, hi', rfl, ⟨A', c', Vs, rfl, hQ⟩, hO, hBw⟩ := hrel
      obtain ⟨wo, rfl⟩ : ∃ wo, wo = wr := ⟨_, rfl⟩
      by_cases hlt : i < n1
      · obtain ⟨l, hl⟩ : ∃ l, (clusL xs)[i]? = some l := get_of_lt (by omega)
        have hi1 : (i : Int) < (n1 : Int) := by omega
        have hi0 : (0 : Int) ≤ (i : Int) := by omega
        obtain ⟨b, o, rfl, hb, a, m, d, hc, hr⟩ := hO.rr.at_ (hrows_at hl)
        have hm := hr.xs_len Hotspot.row_len (by omega)
        have hm10 : m ≤ 10 := by rw [← hm]; exact Nat.le_trans (List.length_filterMap_le _ _) (Nat.le_trans (clusL_len (List.mem_of_getElem? hl)) (by rw [hlh.out]; exact hn10))
        replace hl := hid hl
        replace hm := hid hm
        go_wp2_with fail
        have hI0 := own_empty (w := wo) (base := wo.heap.size) (size := 1) (e := 3) (Nat.le_refl _)
        have hbI := bel_alloc (o := .cells #[] 3) (bel_refl wo)
        go_loopw [7, 24] (fun q v wk => ∃ j : Nat, j ≤ m ∧ v = .int .i64 j ∧ (∃ A4 c4, q = .slice A4 j c4 ∧ wk.ownsRow wo.heap.size 3 1 (.slice A4 j c4) j (ints ((idsH xs l).take j))) ∧ Below wo.heap.size wo wk) (fun _ v _ => m - (intOf v).toNat)
        case atStart => exact ⟨0, by omega, rfl, ⟨_, _, rfl, by simpa [ints] using hI0⟩, hbI⟩
        case round =>
          clear hI0 hbI
          obtain ⟨j, hj, rfl, ⟨A4, c4, rfl, hI⟩, hBk⟩ := hrel
          by_cases hlj : j < m
          · have hj1 : (j : Int) < (m : Int) := by omega
            have hj0 : (0 : Int) ≤ (j : Int) := by omega
            obtain ⟨z, hz⟩ : ∃ z, (pickH xs l)[j]? = some z := get_of_lt (by rw [hm.out]; exact hlj)
            have hzi : Hid (ints ((idsH xs l).take j) ++ [.int .i64 z.id] = ints ((idsH xs l).take (j + 1))) := by
              show _ = _
              rw [List.take_add_one]
              simp [idsH, hz, ints]
            obtain ⟨bl, p, rfl, hbl, z0, z1, z2, z3, z4, z5⟩ := (hr.bel hBk).hotspot hz
            have hI1 := own_bel hI (bel_alloc (o := .cells #[.int .i64 z.id, .int .i64 z.x, .int .i64 z.y, .int .i64 z.err, .int .i64 z.tick, .int .i64 z.heat] 49) (bel_refl _))
            have hBk1 := bel_alloc (o := .cells #[.int .i64 z.id, .int .i64 z.x, .int .i64 z.y, .int .i64 z.err, .int .i64 z.tick, .int .i64 z.heat] 49) hBk
            clear hz hI hc hb
            go_wp2_with (at_builtin; refine wpList_push rfl (.tmp 28) (.tmp 31) 24 rfl wo.heap.size 3 (.int .i64 0) 1 8 Try.underlying24 info_int rfl (by omega) A4 j c4 _ [.int .i64 z.id] 3 rfl hI1 (by first | rfl | exact slice_at (by simp)) rfl (by intro u hu; rw [List.mem_singleton.1 hu]; rfl) (by omega) (by omega) hBk1.size ?_; intro A5 c5 w5 hI5 hb5 hg5)
            rw [hzi.out] at hI5
            have hBk5 := hBk1.grown hg5 hBk1.size fun q hq => (hI1.lt q hq).1
            go_roundw
            case rel => exact ⟨j + 1, hlj, by go_num, ⟨_, _, rfl, hI5⟩, hBk5⟩
            case measure => exact meas hlj
          · have hj1 : ¬ (j : Int) < (m : Int) := by omega
            obtain rfl : j = m := by omega
            have hil : (idsH xs l).length = j := by rw [idsH, List.length_map]; exact hm.out
            rw [List.take_of_length_le (Nat.le_of_eq hil)] at hI
            have hQ1 := hQ.bel hBk
            have hO1 := (hO.bel hBk).high hBk.size
            have hBw1 := bel_trans hBw hBk
            clear hc hb hQ hO
            go_wp2_with (at_builtin; refine wpList_push rfl (.tmp 34) (.tmp 36) 34 rfl w.heap.size 24 (.slice none 0 0) 1 24 Try.underlying34 info_intsT rfl (by omega) A' i c' _ [.slice A4 j c4] 24 rfl hQ1.out.own (by first | rfl | exact slice_at (by simp)) rfl (by intro u hu; rw [List.mem_singleton.1 hu]; rfl) (by omega) (by omega) hBw1.size ?_; intro A6 c6 w6 hO6 hb6 hg6)
            have hHo : Own wo.heap.size w6.heap.size wr 3 1 A4 (ints (idsH xs l)).length c4 (ints (idsH xs l)) := by rw [ints_len, hil]; exact (Own.mk_ hI).high hg6.size
            have hO7 := hQ1.push (l := ints (idsH xs l)) (Nat.le_trans hBk.size hg6.size) (by decide) hHo (by rw [ints_len, hil]; exact Own.mk_ hO6) hg6 hBw.size
            rw [rows_snoc, ints_len, hil] at hO7
            have hO8 := (hO1.other hQ1.out.own (by decide) (by decide) hg6).high hg6.size
            have hBw7 := hBw1.grown hg6 hBw1.size fun q hq => (hQ1.out.own.lt q hq).1
            have hLi : ((clusL xs).map (idsH xs)).take i ++ [idsH xs l] = ((clusL xs).map (idsH xs)).take (i + 1) := by
              rw [List.take_add_one]
              simp [hl.out]
            rw [hLi] at hO7
            refine ⟨⟨i + 1, hlt, by go_num, ⟨_, _, _, rfl, hO7⟩, hO8, hBw7⟩, ?_⟩
            exact meas hlt
      · have hi1 : ¬ (i : Int) < (n1 : Int) := by omega
        obtain rfl : i = n1 := by omega
        go_wp2_with fail
        go_ret2
        refine ⟨_, _, _, by rw [hR.out]; rfl, ⟨Vs, ?_⟩, hBw⟩
        rw [hR.out]
        rwa [List.take_of_length_le (by simp [hn1])] at hQ
end Go.Proofs.Ytkkoccllmflhfaa
