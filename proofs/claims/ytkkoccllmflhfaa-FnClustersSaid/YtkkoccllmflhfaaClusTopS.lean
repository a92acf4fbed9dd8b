/-
  The exported clusters of hot spots, the reference's way, walked.
-/
import Derived.Test.YtkkoccllmflhfaaClusTop
import Derived.Test.YtkkoccllmflhfaaClusSW
namespace Go.Proofs.Ytkkoccllmflhfaa
open Go.RowKit

/-- The append of one value, with the block in which the slice then lies. -/
theorem wpList_pushAt {P : Program} {w : World} {ops : Array Oper} {rest : List Oper} {o : Oper} {a : Act} {Q : Exit → Act → World → Prop} (hgd : o.guard = none) (s x : Operand) (t : TypeId)
    (ho : o.op = .call { callee := .builtin .append, args := #[s, x], argTypes := #[t, t] })
    (base : Nat) (e : TypeId) (z : Value) (size bytes : Nat) (ht : P.underlying t = some (.slice e)) (hi : (P.info? e).map (fun i => (i.zero, i.size, i.bytes)) = some (some z, size, bytes)) (hzs : z.cells.size = size) (hsz : 0 < size)
    (A : Option Addr) (n c : Nat) (L news : List Value) (t2 : TypeId) (hs : a.eval s = .slice A n c) (hown : w.ownsRow base e size (.slice A n c) n L)
    (hx : a.eval x = .slice (some ⟨w.heap.size, 0, none⟩) 1 1) (hl : news.length = size) (h1 : ∀ u ∈ news, u.oneCell' = true)
    (hn : n ≤ 1073741824) (hby : bytes ≤ 1024) (hbase : base ≤ w.heap.size)
    (h : ∀ A' c' w', w'.ownsRow base e size (.slice A' (n + 1) c') (n + 1) (L ++ news) → w.grownBy w' (Value.slice A n c).ownBlock → (∀ q, (Value.slice A' (n + 1) c').ownBlock = some q → (Value.slice A n c).ownBlock = some q ∨ w.heap.size ≤ q) → wpList P ops Q rest (a.put o.dst (.slice A' (n + 1) c')) w') :
    wpList P ops Q (o :: rest) a (w.alloc (.cells news.toArray t2)) := by
  obtain ⟨i0, hi0, hz0, hz1, hz2⟩ := info_parts hi
  have hnb : (n + 1) * bytes ≤ 140737488355328 := Nat.le_trans (Nat.mul_le_mul (show n + 1 ≤ 1073741825 by omega) hby) (by omega)
  refine wpList_append_own_at _ hgd s x t ho base e i0 z size bytes ht hi0 hz0 hz1 hz2 hzs hsz _ n L hs (hown.alloc _) ⟨w.heap.size, 0, none⟩ 1 1 news hx (by rw [hl, Nat.one_mul]) (new_cells w news t2) h1 (by simp only [maxLen]; omega) hnb (by simp; omega) ?_
  intro v' w' hown' hg' _ hat
  obtain ⟨A', c', rfl⟩ := own_slice hown'
  have hg2 : w.grownBy w' (Value.slice A n c).ownBlock :=
    ⟨hg'.os, hg'.tape, hg'.output, Nat.le_trans (by simp) hg'.size, fun k hk hne => (hg'.block k (by simp; omega) hne).trans (Below.heap_alloc w _ k hk)⟩
  refine h A' c' w' hown' hg2 fun q hq => ?_
  rcases hat with h1 | h1
  · exact Or.inl (by rw [← h1]; exact hq)
  · rw [hq] at h1
    simp only [Option.some.injEq] at h1
    subst h1
    exact Or.inr (by simp)
theorem cellsN_at {LL : List (List Nat)} {i : Nat} {l : List Nat} (h : LL[i]? = some l) : (cellsN LL)[i]? = some (ints (nats l)) := by simp [cellsN, h]
theorem clusL_mem {xs : List Hotspot} {l : List Nat} (h : l ∈ clusL xs) : ∀ k ∈ l, k < xs.length := by
  simp only [clusL, clusU, List.mem_map] at h
  obtain ⟨i, _, rfl⟩ := h
  exact fun k hk => (mem_comp.1 hk).1
set_option maxHeartbeats 4000000 in
theorem clustersOfS (A : Option Addr) (n c : Nat) (xs : List Hotspot) (w : World) (hS : Sl w 6 A n c (xs.flatMap Hotspot.row)) (hn : n ≤ 1048576) :
    Calls Try.prog 15 #[.slice A n c] w fun e w' => ∃ A' n' c' Vs, e = .returned (.tuple #[.slice A' n' c', .bool (clusR xs).2]) ∧ OwnSS w.heap.size w'.heap.size w' 24 3 A' n' c' (rows (clusR xs).1) Vs ∧ Below w.heap.size w w' := by
  have hlh := hid (hS.xs_len Hotspot.row_len (by omega))
  have hB2 := bel_refl w
  rcases hg : listH xs with _ | _
  · have hR : Hid (clusR xs = ([], false)) := by show _ = _; simp [clusR, hg]
    go_enter Try.func15, Try.ntmps15
    go_wp2_with (go_at_call 32; refine (l7Good _ _ _ _ _ (hS.bel (by (repeat' (first | (with_reducible exact bel_refl _) | (with_reducible assumption) | (with_reducible refine bel_drew ?_) | (with_reducible refine bel_drewN ?_) | (with_reducible refine bel_alloc ?_) | (with_reducible refine bel_set ?_ ?_) | (with_reducible refine bel_trans ?_ (by with_reducible assumption)) | omega | (simp; done) | (simp; omega))))) hn).mono ?_; rintro _ w1 ⟨rfl, hB1⟩; (first | (with_reducible replace hB2 := bel_trans hB2 hB1) | (with_reducible replace hB2 := bel_trans (bel_alloc hB2) hB1)); obtain ⟨hC1, hF1⟩ := bcell hB2; replace hB1 := hB1)
    go_ret2
    exact ⟨some ⟨w.heap.size, 0, none⟩, 0, 0, [], by rw [hR.out]; rfl, by rw [hR.out]; exact (own_nil ((Own.mk_ (own_empty (w := w) (Nat.le_refl _))).bel hB1)).high hB1.size, hB2⟩
  · have ha := hid (listH_all hg)
    have hn10 : n ≤ 10 := by rw [← hlh.out]; exact listH_len hg
    have hR : Hid (clusR xs = ((clusL xs).map (idsH xs), true)) := by show _ = _; simp [clusR, hg]
    go_enter Try.func15, Try.ntmps15
    go_wp2_with (first | (go_at_call 32; refine (l7Good _ _ _ _ _ (hS.bel (by (repeat' (first | (with_reducible exact bel_refl _) | (with_reducible assumption) | (with_reducible refine bel_drew ?_) | (with_reducible refine bel_drewN ?_) | (with_reducible refine bel_alloc ?_) | (with_reducible refine bel_set ?_ ?_) | (with_reducible refine bel_trans ?_ (by with_reducible assumption)) | omega | (simp; done) | (simp; omega))))) hn).mono ?_; rintro _ w1 ⟨rfl, hB1⟩; (first | (with_reducible replace hB2 := bel_trans hB2 hB1) | (with_reducible replace hB2 := bel_trans (bel_alloc hB2) hB1)); obtain ⟨hC1, hF1⟩ := bcell hB2; replace hB1 := hB1) | (go_at_call 34; refine (l7ClustersS _ _ _ xs _ (hS.bel (by (repeat' (first | (with_reducible exact bel_refl _) | (with_reducible assumption) | (with_reducible refine bel_drew ?_) | (with_reducible refine bel_drewN ?_) | (with_reducible refine bel_alloc ?_) | (with_reducible refine bel_set ?_ ?_) | (with_reducible refine bel_trans ?_ (by with_reducible assumption)) | omega | (simp; done) | (simp; omega))))) hn10 ha.out).mono ?_; rintro _ w2 ⟨A1, n1, c1, Vs1, rfl, hO, hB9⟩; replace hB9 := hB9))
    clear hg
    have hn1 : (clusL xs).length = n1 := by have := hO.rr.len; simpa [cellsN] using this
    have hn11 : n1 ≤ 10 := by have := clusU_len xs xs.length; rw [← hn1]; exact Nat.le_trans this (by rw [hlh.out]; exact hn10)
    have hlt0 : w.heap.size < w1.heap.size := by have := hB1.size; simp at this; omega
    have hE := (own_nil (t := 24) (e := 3) (((Own.mk_ (own_empty (w := w) (base := w.heap.size) (size := 1) (e := 24) (Nat.le_refl _))).bel hB1).high (hi' := w1.heap.size) hB1.size |>.bel hB9)).high (hi' := w2.heap.size) hB9.size
    have hb2 : Below w.heap.size w w2 := bel_trans hB2 hB9
    obtain ⟨lo1, hlo⟩ : ∃ q, w1.heap.size = q := ⟨_, rfl⟩
    obtain ⟨hi1, hhi⟩ : ∃ q, w2.heap.size = q := ⟨_, rfl⟩
    have hO2 : OwnR 1 lo1 hi1 w2 24 3 A1 n1 c1 (cellsN (clusL xs)) Vs1 := by rw [← hlo, ← hhi]; exact hO
    rw [hlo] at hlt0
    have hhw : hi1 ≤ w2.heap.size := by omega
    clear hO
    go_loopw [4, 6] (fun q v wr => ∃ i : Nat, i ≤ n1 ∧ v = .int .i64 i ∧ (∃ A' c' Vs, q = .slice A' i c' ∧ OwnSS w.heap.size wr.heap.size wr 24 3 A' i c' (rows (((clusL xs).map (idsH xs)).take i)) Vs ∧ Hid (∀ g, (Value.slice A' i c').ownBlock = some g → g < lo1 ∨ hi1 ≤ g)) ∧ OwnR 1 lo1 hi1 wr 24 3 A1 n1 c1 (cellsN (clusL xs)) Vs1 ∧ hi1 ≤ wr.heap.size ∧ Below w.heap.size w wr) (fun _ v _ => n1 - (intOf v).toNat)
    case atStart => exact ⟨0, by omega, rfl, ⟨_, _, _, rfl, hE, hid (fun g hg => by cases hg; exact Or.inl hlt0)⟩, hO2, hhw, hb2⟩
    case round =>
      clear hE hO2 hb2 hhw hB2 hB1 hB9
      obtain ⟨i, hi', rfl, ⟨A', c', Vs, rfl, hQ, hA⟩, hO, hhw, hBw⟩ := hrel
      obtain ⟨wo, rfl⟩ : ∃ wo, wo = wr := ⟨_, rfl⟩
      by_cases hlt : i < n1
      · obtain ⟨l, hl⟩ : ∃ l, (clusL xs)[i]? = some l := get_of_lt (by omega)
        have hil1 : (i : Int) < (n1 : Int) := by omega
        have hi0 : (0 : Int) ≤ (i : Int) := by omega
        have hlm := hid (clusL_mem (List.mem_of_getElem? hl))
        have hm10 : l.length ≤ 10 := Nat.le_trans (clusL_len (List.mem_of_getElem? hl)) (by rw [hlh.out]; exact hn10)
        replace hl := hid hl
        go_wp2_with fail
        have hI0 := own_empty (w := wo) (base := wo.heap.size) (size := 1) (e := 3) (Nat.le_refl _)
        have hbI := bel_alloc (o := .cells #[] 3) (bel_refl wo)
        go_loopw [7, 8] (fun q v wk => ∃ j : Nat, j ≤ l.length ∧ v = .int .i64 j ∧ (∃ A4 c4, q = .slice A4 j c4 ∧ wk.ownsRow wo.heap.size 3 1 (.slice A4 j c4) j (ints (idsH xs (l.take j)))) ∧ Below wo.heap.size wo wk) (fun _ v _ => l.length - (intOf v).toNat)
        case atStart => exact ⟨0, by omega, rfl, ⟨_, _, rfl, by simpa [idsH, pickH, ints] using hI0⟩, hbI⟩
        case round =>
          clear hI0 hbI
          obtain ⟨j, hj, rfl, ⟨A4, c4, rfl, hI⟩, hBk⟩ := hrel
          obtain ⟨b, o, rfl, hb, a, m, d, hc, hr⟩ := (hO.bel hBk).rr.at_ (cellsN_at hl.out)
          obtain rfl : l.length = m := by have := hr.int_len; simpa [nats] using this
          by_cases hlj : j < l.length
          · have hj1 : (j : Int) < (l.length : Int) := by omega
            have hj0 : (0 : Int) ≤ (j : Int) := by omega
            obtain ⟨y, hy⟩ : ∃ y, l[j]? = some y := get_of_lt hlj
            have hyx := hlm.out y (List.mem_of_getElem? hy)
            obtain ⟨z, hz⟩ : ∃ z, xs[y]? = some z := get_of_lt hyx
            have hN := hid (pick_next hy hz)
            obtain ⟨bi, oi, rfl, hbi, d0⟩ := hr.int_at (nats_get hy)
            have hy0 : (0 : Int) ≤ (y : Int) := by omega
            have hy1 : (y : Int) < (n : Int) := by have := hlh.out; omega
            obtain ⟨bl, p, rfl, hbl, z0, z1, z2, z3, z4, z5⟩ := (hS.bel (bel_trans hBw hBk)).hotspot hz
            have hzi : Hid (ints (idsH xs (l.take j)) ++ [.int .i64 z.id] = ints (idsH xs (l.take (j + 1)))) := by
              show _ = _
              rw [idsH, idsH, hN.out]
              simp [ints]
            clear hz hy hlm hN
            go_wp2_with (at_builtin; refine wpList_push rfl (.tmp 32) (.tmp 44) 24 rfl wo.heap.size 3 (.int .i64 0) 1 8 Try.underlying24 info_int rfl (by omega) A4 j c4 _ [.int .i64 z.id] 3 rfl hI (by first | rfl | exact slice_at (by simp)) rfl (by intro u hu; rw [List.mem_singleton.1 hu]; rfl) (by omega) (by omega) hBk.size ?_; intro A5 c5 w5 hI5 hb5 hg5)
            rw [hzi.out] at hI5
            have hBk5 := hBk.grown hg5 hBk.size fun q hq => (hI.lt q hq).1
            refine ⟨⟨j + 1, hlj, by go_num, ⟨_, _, rfl, hI5⟩, hBk5⟩, ?_⟩
            exact meas hlj
          · have hj1 : ¬ (j : Int) < (l.length : Int) := by omega
            have hje : j = l.length := by omega
            have hil : (idsH xs l).length = j := by rw [idsH, List.length_map, pick_all hlm.out, hje]
            rw [List.take_of_length_le (by omega)] at hI
            have hj10 : j ≤ 10 := by omega
            have hQ1 := hQ.bel hBk
            have hO1 := hO.bel hBk
            have hBw1 := bel_trans hBw hBk
            have hksz := hBk.size
            have hwsz := hBw.size
            clear hQ hO hlm hje
            go_wp2_with (at_builtin; refine wpList_pushAt rfl (.tmp 46) (.tmp 48) 34 rfl w.heap.size 24 (.slice none 0 0) 1 24 Try.underlying34 info_intsS rfl (by omega) A' i c' _ [.slice A4 j c4] 24 rfl hQ1.out.own (by first | rfl | exact slice_at (by simp)) rfl (by intro u hu; rw [List.mem_singleton.1 hu]; rfl) (by omega) (by omega) hBw1.size ?_; intro A6 c6 w6 hO6 hg6 hat6)
            have hHo : Own wo.heap.size w6.heap.size wr 3 1 A4 (ints (idsH xs l)).length c4 (ints (idsH xs l)) := by rw [ints_len, hil]; exact (Own.mk_ hI).high hg6.size
            have hO7 := hQ1.push (l := ints (idsH xs l)) (Nat.le_trans hBk.size hg6.size) (by decide) hHo (by rw [ints_len, hil]; exact Own.mk_ hO6) hg6 hBw.size
            rw [rows_snoc, ints_len, hil] at hO7
            have hO8 := hO1.apart hg6 fun q hq => hA.out q hq
            have hA8 : Hid (∀ g, (Value.slice A6 (i + 1) c6).ownBlock = some g → g < lo1 ∨ hi1 ≤ g) := hid (fun g hg => by
              rcases hat6 g hg with h1 | h1
              · exact hA.out g h1
              · exact Or.inr (by omega))
            have hBw7 := hBw1.grown hg6 hBw1.size fun q hq => (hQ1.out.own.lt q hq).1
            have hLi : ((clusL xs).map (idsH xs)).take i ++ [idsH xs l] = ((clusL xs).map (idsH xs)).take (i + 1) := by
              rw [List.take_add_one]
              simp [hl.out]
            rw [hLi] at hO7
            refine ⟨⟨i + 1, hlt, by go_num, ⟨_, _, _, rfl, hO7, hA8⟩, hO8, Nat.le_trans hhw (Nat.le_trans hksz hg6.size), hBw7⟩, ?_⟩
            exact meas hlt
      · have hil1 : ¬ (i : Int) < (n1 : Int) := by omega
        obtain rfl : i = n1 := by omega
        go_wp2_with fail
        go_ret2
        refine ⟨_, _, _, by rw [hR.out]; rfl, ⟨Vs, ?_⟩, hBw⟩
        rw [hR.out]
        rwa [List.take_of_length_le (by simp [hn1])] at hQ
end Go.Proofs.Ytkkoccllmflhfaa
