/-
  The latest hot spot of each cluster, the program's way, walked.
-/
import Derived.Test.YtkkoccllmflhfaaSpotLastM
namespace Go.Proofs.Ytkkoccllmflhfaa
open Go.RowKit

theorem oneCell_hot (x : Hotspot) : ∀ u ∈ x.row, u.oneCell' = true := by
  intro u hu
  simp only [Hotspot.row, List.mem_cons, List.not_mem_nil, or_false] at hu
  rcases hu with rfl | rfl | rfl | rfl | rfl | rfl <;> rfl
theorem own_one {w : World} {base size : Nat} {e : TypeId} (L : List Value) (hl : L.length = size) (hb : base ≤ w.heap.size) : (w.alloc (.cells L.toArray e)).ownsRow base e size (.slice (some ⟨w.heap.size, 0, none⟩) 1 1) 1 L :=
  ⟨by simp [hl], .inr ⟨w.heap.size, 1, L.toArray, rfl, hb, heap_alloc_new w _, Nat.le_refl _, by simp [maxLen], by simp [hl], by simp [← hl]⟩⟩
theorem own_put6 {w : World} {base g : Nat} {e : TypeId} {B x : Hotspot} (h : w.ownsRow base e 6 (.slice (some ⟨g, 0, none⟩) 1 1) 1 B.row) :
    ((((((w.setCell ⟨g, 0, none⟩ (.int .i64 x.id)).setCell ⟨g, 1, none⟩ (.int .i64 x.x)).setCell ⟨g, 2, none⟩ (.int .i64 x.y)).setCell ⟨g, 3, none⟩ (.int .i64 x.err)).setCell ⟨g, 4, none⟩ (.int .i64 x.tick)).setCell ⟨g, 5, none⟩ (.int .i64 x.heat)).ownsRow base e 6 (.slice (some ⟨g, 0, none⟩) 1 1) 1 x.row :=
  own_store6 (F := x.row) (Z := B.row) (p := 0) h rfl rfl rfl rfl rfl rfl rfl
theorem pick_pos {ys : List Hotspot} {i : Nat} {l : List Nat} (h : (clusL ys)[i]? = some l) : 0 < (pickH ys l).length := by
  have hm := List.mem_of_getElem? h
  simp only [clusL, clusU, List.mem_map, List.mem_filter, List.mem_range] at hm
  obtain ⟨k, ⟨hk, _⟩, rfl⟩ := hm
  rw [pick_all fun j hj => (mem_comp.1 hj).1]
  exact List.length_pos_of_mem (comp_pos hk)
theorem bests_snoc {ys : List Hotspot} {i : Nat} {l : List Nat} (h : (clusL ys)[i]? = some l) : (bests ys).take (i + 1) = (bests ys).take i ++ [bestId (pickH ys l)] := by
  rw [List.take_add_one]
  simp [bests, h]
theorem cloT (x : Hotspot) (k : Int) (cb : Nat) (w : World) (hc : w.cell? ⟨cb, 0, none⟩ = some (.int .i64 k)) (hb : cb < w.heap.size) :
    Calls Try.prog 40 #[.agg #[.int .i64 x.id, .int .i64 x.x, .int .i64 x.y, .int .i64 x.err, .int .i64 x.tick, .int .i64 x.heat], .pointer (some ⟨cb, 0, none⟩)] w fun e w' => e = .returned (.bool (decide (x.tick ≤ k))) ∧ Below w.heap.size w w' := by
  go_enter Try.func40, Try.ntmps40
  go_wp2
  go_ret
  exact ⟨rfl, by (repeat' (first | (with_reducible exact bel_refl _) | (with_reducible assumption) | (with_reducible refine bel_drew ?_) | (with_reducible refine bel_drewN ?_) | (with_reducible refine bel_alloc ?_) | (with_reducible refine bel_set ?_ ?_) | (with_reducible refine bel_trans ?_ (by with_reducible assumption)) | omega | (simp; done) | (simp; omega)))⟩
set_option maxHeartbeats 1000000 in
theorem filterT (A : Option Addr) (n c : Nat) (xs : List Hotspot) (t : Int) (cb : Nat) (w : World) (hS : Sl w 6 A n c (xs.flatMap Hotspot.row)) (hn : n ≤ 10) (hc : w.cell? ⟨cb, 0, none⟩ = some (.int .i64 t)) (hp : cb < w.heap.size) :
    Calls Try.prog 39 #[.slice A n c, .func (.func 40) #[] #[.pointer (some ⟨cb, 0, none⟩)]] w fun e w' => ∃ A' n' c', e = .returned (.slice A' n' c') ∧ Own w.heap.size w'.heap.size w' 49 6 A' n' c' ((freshH t xs).flatMap Hotspot.row) ∧ Below w.heap.size w w' := by
  have hlh := hid (hS.xs_len Hotspot.row_len (by omega))
  go_enter Try.func39, Try.ntmps39
  go_wp2_with fail
  go_loopw [5, 11] (fun q v wr => ∃ i : Nat, i ≤ n ∧ v = .int .i64 i ∧ (∃ A' k c', q = .slice A' k c' ∧ wr.ownsRow w.heap.size 49 6 (.slice A' k c') k ((freshH t (xs.take i)).flatMap Hotspot.row)) ∧ Below w.heap.size w wr) (fun _ v _ => n - (intOf v).toNat)
  case atStart => exact ⟨0, by omega, rfl, ⟨_, _, _, rfl, own_empty (w := w) (size := 6) (e := 49) (Nat.le_refl _)⟩, by (repeat' (first | (with_reducible exact bel_refl _) | (with_reducible assumption) | (with_reducible refine bel_drew ?_) | (with_reducible refine bel_drewN ?_) | (with_reducible refine bel_alloc ?_) | (with_reducible refine bel_set ?_ ?_) | (with_reducible refine bel_trans ?_ (by with_reducible assumption)) | omega | (simp; done) | (simp; omega)))⟩
  case round =>
    obtain ⟨i, hi', rfl, ⟨A', k, c', rfl, hown⟩, hB2⟩ := hrel
    by_cases hlt : i < n
    · obtain ⟨x, hx⟩ : ∃ x, xs[i]? = some x := get_of_lt (by rw [hlh.out]; exact hlt)
      obtain ⟨b, o, rfl, hb, c0, c1, c2, c3, c4, c5⟩ := (hS.bel hB2).hotspot hx
      have hX := hid hx
      clear hx
      have hcr := (hB2.cell (p := ⟨cb, 0, none⟩) hp).trans hc
      have hps : cb < wr.heap.size := Nat.lt_of_lt_of_le hp hB2.size
      have hk : k ≤ i := by
        have h2 := hown.1
        rw [flat_len Hotspot.row_len] at h2
        have h3 := freshH_len (xs.take i) t
        have h4 := List.length_take_le i xs
        omega
      by_cases hw : x.tick ≤ t
      · go_wp2_with (first | (go_at_call 40; refine (cloT x t cb _ (by first | exact hcr | (rw [World.cell?_alloc_past _ _ _ hps]; exact hcr)) (by simp; omega)).mono ?_; rintro _ w2 ⟨rfl, hB1⟩; (first | (with_reducible replace hB2 := bel_trans hB2 hB1) | (with_reducible replace hB2 := bel_trans (bel_alloc hB2) hB1)); (first | (with_reducible replace hown := own_bel hown hB1) | (with_reducible replace hown := own_bel (hown.alloc _) hB1)); obtain ⟨hC1, hF1⟩ := bcell hB1) | (at_builtin; refine wpList_push rfl (.tmp 18) (.tmp 20) 27 rfl w.heap.size 49 (.agg #[.int .i64 0, .int .i64 0, .int .i64 0, .int .i64 0, .int .i64 0, .int .i64 0]) 6 48 Try.underlying27 info_Hotspot rfl (by omega) A' k c' _ [.int .i64 x.id, .int .i64 x.x, .int .i64 x.y, .int .i64 x.err, .int .i64 x.tick, .int .i64 x.heat] 49 rfl hown rfl rfl (oneCell_hot x) (by omega) (by omega) hB2.size ?_; intro A'' c'' w3 hown2 hb3 hg3))
        refine ⟨⟨i + 1, hlt, by go_num, ⟨_, _, _, rfl, by rw [← fresh_yes hX.out hw]; exact hown2⟩, hB2.trans hb3⟩, ?_⟩
        exact meas hlt
      · go_wp2_with (go_at_call 40; refine (cloT x t cb _ (by first | exact hcr | (rw [World.cell?_alloc_past _ _ _ hps]; exact hcr)) (by simp; omega)).mono ?_; rintro _ w2 ⟨rfl, hB1⟩; (first | (with_reducible replace hB2 := bel_trans hB2 hB1) | (with_reducible replace hB2 := bel_trans (bel_alloc hB2) hB1)); (first | (with_reducible replace hown := own_bel hown hB1) | (with_reducible replace hown := own_bel (hown.alloc _) hB1)); obtain ⟨hC1, hF1⟩ := bcell hB1)
        refine ⟨⟨i + 1, hlt, by go_num, ⟨_, _, _, rfl, by rw [← fresh_no hX.out (by omega)]; exact hown⟩, hB2⟩, ?_⟩
        exact meas hlt
    · go_wp2
      go_ret
      have e : i = n := by omega
      subst e
      rw [List.take_of_length_le (by rw [hlh.out]; omega)] at hown
      exact ⟨A', k, c', rfl, Own.mk_ hown, hB2⟩
set_option maxHeartbeats 4000000 in
theorem latestI (A : Option Addr) (n c : Nat) (xs : List Hotspot) (t : Int) (w : World) (hS : Sl w 6 A n c (xs.flatMap Hotspot.row)) (hn : n ≤ 1048576) :
    Calls Try.prog 9 #[.slice A n c, .int .i64 t] w fun e w' => ∃ A' n' c', e = .returned (.tuple #[.slice A' n' c', .bool (latR xs t).2]) ∧ Own w.heap.size w'.heap.size w' 3 1 A' n' c' (ints (latR xs t).1) ∧ Below w.heap.size w w' := by
  have hlh := hid (hS.xs_len Hotspot.row_len (by omega))
  have hB2 := bel_refl w
  have hc0 : (w.alloc (.cells #[.int .i64 t] 3)).cell? ⟨w.heap.size, 0, none⟩ = some (.int .i64 t) := by simp
  rcases hg : listH xs with _ | _
  · have hR := hid (latR_no (xs := xs) (t := t) (by rw [hg]; rfl))
    go_enter Try.func9, Try.ntmps9
    go_wp2_with (first | (go_at_call 23; refine (areHotspotsI _ _ _ _ _ (hS.bel (by (repeat' (first | (with_reducible exact bel_refl _) | (with_reducible assumption) | (with_reducible refine bel_drew ?_) | (with_reducible refine bel_drewN ?_) | (with_reducible refine bel_alloc ?_) | (with_reducible refine bel_set ?_ ?_) | (with_reducible refine bel_trans ?_ (by with_reducible assumption)) | omega | (simp; done) | (simp; omega))))) hn).mono ?_; rintro _ w1 ⟨rfl, hB1⟩; replace hB2 := bel_trans (bel_alloc (o := .cells #[.int .i64 t] 3) hB2) hB1; have hcb := (hB1.cell (p := ⟨w.heap.size, 0, none⟩) (by simp)).trans hc0) | (go_at_call 37; refine (isTick _ _).mono ?_; rintro _ w1 ⟨rfl, rfl⟩))
    go_ret2
    exact ⟨none, 0, 0, by rw [hR.out]; rfl, by rw [hR.out]; exact Own.mk_ (World.ownsRow_nil _ _ _ _), by (repeat' (first | (with_reducible exact bel_refl _) | (with_reducible assumption) | (with_reducible refine bel_drew ?_) | (with_reducible refine bel_drewN ?_) | (with_reducible refine bel_alloc ?_) | (with_reducible refine bel_set ?_ ?_) | (with_reducible refine bel_trans ?_ (by with_reducible assumption)) | omega | (simp; done) | (simp; omega)))⟩
  · rcases hg2 : inB t 0 9999 with _ | _
    · have hR := hid (latR_no (xs := xs) (t := t) (by rw [hg2, Bool.and_false]))
      go_enter Try.func9, Try.ntmps9
      go_wp2_with (first | (go_at_call 23; refine (areHotspotsI _ _ _ _ _ (hS.bel (by (repeat' (first | (with_reducible exact bel_refl _) | (with_reducible assumption) | (with_reducible refine bel_drew ?_) | (with_reducible refine bel_drewN ?_) | (with_reducible refine bel_alloc ?_) | (with_reducible refine bel_set ?_ ?_) | (with_reducible refine bel_trans ?_ (by with_reducible assumption)) | omega | (simp; done) | (simp; omega))))) hn).mono ?_; rintro _ w1 ⟨rfl, hB1⟩; replace hB2 := bel_trans (bel_alloc (o := .cells #[.int .i64 t] 3) hB2) hB1; have hcb := (hB1.cell (p := ⟨w.heap.size, 0, none⟩) (by simp)).trans hc0) | (go_at_call 37; refine (isTick _ _).mono ?_; rintro _ w1 ⟨rfl, rfl⟩))
      go_ret2
      exact ⟨none, 0, 0, by rw [hR.out]; rfl, by rw [hR.out]; exact Own.mk_ (World.ownsRow_nil _ _ _ _), by (repeat' (first | (with_reducible exact bel_refl _) | (with_reducible assumption) | (with_reducible refine bel_drew ?_) | (with_reducible refine bel_drewN ?_) | (with_reducible refine bel_alloc ?_) | (with_reducible refine bel_set ?_ ?_) | (with_reducible refine bel_trans ?_ (by with_reducible assumption)) | omega | (simp; done) | (simp; omega)))⟩
    · have hR := hid (latR_yes (t := t) hg hg2)
      have hn10 : n ≤ 10 := by rw [← hlh.out]; exact listH_len hg
      have ha := hid (freshH_all (t := t) (listH_all hg))
      have hri := hid (bests_nodup (freshH_rise (t := t) hg))
      have hfl := hid (show (freshH t xs).length ≤ 10 from Nat.le_trans (freshH_len _ _) (by rw [hlh.out]; exact hn10))
      have hbl := hid (show (bests (freshH t xs)).length ≤ 10 from Nat.le_trans (bests_len _) hfl.out)
      obtain ⟨ys, hys⟩ : ∃ ys, freshH t xs = ys := ⟨_, rfl⟩
      rw [hys] at ha hri hfl hbl hR
      replace hys := hid hys
      go_enter Try.func9, Try.ntmps9
      go_wp2_with (first | (first | (go_at_call 23; refine (areHotspotsI _ _ _ _ _ (hS.bel (by (repeat' (first | (with_reducible exact bel_refl _) | (with_reducible assumption) | (with_reducible refine bel_drew ?_) | (with_reducible refine bel_drewN ?_) | (with_reducible refine bel_alloc ?_) | (with_reducible refine bel_set ?_ ?_) | (with_reducible refine bel_trans ?_ (by with_reducible assumption)) | omega | (simp; done) | (simp; omega))))) hn).mono ?_; rintro _ w1 ⟨rfl, hB1⟩; replace hB2 := bel_trans (bel_alloc (o := .cells #[.int .i64 t] 3) hB2) hB1; have hcb := (hB1.cell (p := ⟨w.heap.size, 0, none⟩) (by simp)).trans hc0) | (go_at_call 37; refine (isTick _ _).mono ?_; rintro _ w1 ⟨rfl, rfl⟩)) | (go_at_call 39; refine (filterT _ _ _ xs t w.heap.size _ (hS.bel (by (repeat' (first | (with_reducible exact bel_refl _) | (with_reducible assumption) | (with_reducible refine bel_drew ?_) | (with_reducible refine bel_drewN ?_) | (with_reducible refine bel_alloc ?_) | (with_reducible refine bel_set ?_ ?_) | (with_reducible refine bel_trans ?_ (by with_reducible assumption)) | omega | (simp; done) | (simp; omega))))) hn10 (by first | exact hcb | (rw [World.cell?_alloc_past _ _ _ (by have := hB1.size; simp at this; omega)]; exact hcb)) (by have := hB1.size; simp at this; simp; omega)).mono ?_; rintro _ w2 ⟨A2, n2, c2, rfl, hY, hB3⟩; rw [hys.out] at hY; have hlY := hid (hY.sl.xs_len Hotspot.row_len (by omega))) | (go_at_call 38; refine (clustersI _ _ _ ys _ hY.sl (by rw [← hlY.out]; exact hfl.out) ha.out).mono ?_; rintro _ w3 ⟨A1, n1, c1, Vs1, rfl, hO, hB4⟩))
      clear hg hg2
      have hlw : w.heap.size ≤ w2.heap.size := by have := hB2.size; have := hB3.size; simp at this; omega
      have hO2 := hO.low hlw
      have hn1 : (clusL ys).length = n1 := by have := hO.rr.len; simpa [hrows] using this
      have hn11 : n1 ≤ 10 := by rw [← hn1]; exact Nat.le_trans (clusU_len ys ys.length) hfl.out
      have hE := own_bel (own_bel (own_empty (w := w1) (base := w.heap.size) (size := 1) (e := 3) hB2.size) hB3) hB4
      have hb2 : Below w.heap.size w w3 := bel_trans (bel_trans (bel_alloc hB2) hB3) hB4
      clear hO hlw hY hB1 hB3 hB4 hc0 hcb
      go_loopw [6, 26] (fun q v wr => ∃ i : Nat, i ≤ n1 ∧ v = .int .i64 i ∧ (∃ g c', q = .slice (some ⟨g, 0, none⟩) i c' ∧ wr.ownsRow w.heap.size 3 1 (.slice (some ⟨g, 0, none⟩) i c') i (ints ((bests ys).take i))) ∧ OwnR 6 w.heap.size wr.heap.size wr 27 49 A1 n1 c1 (hrows ys (clusL ys)) Vs1 ∧ Below w.heap.size w wr) (fun _ v _ => n1 - (intOf v).toNat)
      case atStart => exact ⟨0, by omega, rfl, ⟨_, _, rfl, by simpa [ints] using hE⟩, hO2, hb2⟩
      case round =>
        clear hE hO2 hb2 hB2
        obtain ⟨i, hi', rfl, ⟨g, c', rfl, hQ⟩, hO, hBw⟩ := hrel
        obtain ⟨wo, rfl⟩ : ∃ wo, wo = wr := ⟨_, rfl⟩
        by_cases hlt : i < n1
        · obtain ⟨l, hl⟩ : ∃ l, (clusL ys)[i]? = some l := get_of_lt (by omega)
          have hi1 : (i : Int) < (n1 : Int) := by omega
          have hi0 : (0 : Int) ≤ (i : Int) := by omega
          obtain ⟨b, o, rfl, hb, a, m, d, hc, hr⟩ := hO.rr.at_ (hrows_at hl)
          have hm := hr.xs_len Hotspot.row_len (by omega)
          have hm10 : m ≤ 10 := by rw [← hm]; exact Nat.le_trans (List.length_filterMap_le _ _) (Nat.le_trans (clusL_len (List.mem_of_getElem? hl)) hfl.out)
          have hm0 : 0 < m := by rw [← hm]; exact pick_pos hl
          have hBi := hid (bests_snoc hl)
          obtain ⟨ps, hps⟩ : ∃ ps, pickH ys l = ps := ⟨_, rfl⟩
          rw [hps] at hr hm hBi
          obtain ⟨z, hz⟩ : ∃ z, ps[0]? = some z := get_of_lt (by omega)
          obtain ⟨ba, oa, rfl, hba, z0, z1, z2, z3, z4, z5⟩ := hr.hotspot hz
          simp only [Nat.zero_mul, Nat.add_zero] at z0 z1 z2 z3 z4 z5
          have hz1 : (0 : Int) < (m : Int) := by omega
          replace hl := hid hl
          replace hm := hid hm
          replace hz := hid hz
          clear hps
          go_wp2_with fail
          have hI0 := own_one (w := wo) (base := wo.heap.size) (size := 6) (e := 49) z.row rfl (Nat.le_refl _)
          have hbI := bel_alloc (o := .cells #[.int .i64 z.id, .int .i64 z.x, .int .i64 z.y, .int .i64 z.err, .int .i64 z.tick, .int .i64 z.heat] 49) (bel_refl wo)
          clear z0 z1 z2 z3 z4 z5 hc hb hba
          go_loopw [35] (fun v wk => ∃ j : Nat, j ≤ m ∧ v = .int .i64 j ∧ wk.ownsRow wo.heap.size 49 6 (.slice (some ⟨wo.heap.size, 0, none⟩) 1 1) 1 (bestF z (ps.take j)).row ∧ Below wo.heap.size wo wk) (fun v _ => m - (intOf v).toNat)
          case atStart => exact ⟨0, by omega, rfl, hI0, hbI⟩
          case round =>
            clear hI0 hbI
            obtain ⟨j, hj, rfl, hI, hBk⟩ := hrel
            obtain ⟨B, hBe⟩ : ∃ B, bestF z (ps.take j) = B := ⟨_, rfl⟩
            rw [hBe] at hI
            have hfz := own_fz hI
            have d0 : wr.cell? ⟨wo.heap.size, 0, none⟩ = some (.int .i64 B.id) := (hI.cellAt 0 (by omega)).trans rfl
            have d1 : wr.cell? ⟨wo.heap.size, 1, none⟩ = some (.int .i64 B.x) := (hI.cellAt 1 (by omega)).trans rfl
            have d2 : wr.cell? ⟨wo.heap.size, 2, none⟩ = some (.int .i64 B.y) := (hI.cellAt 2 (by omega)).trans rfl
            have d3 : wr.cell? ⟨wo.heap.size, 3, none⟩ = some (.int .i64 B.err) := (hI.cellAt 3 (by omega)).trans rfl
            have d4 : wr.cell? ⟨wo.heap.size, 4, none⟩ = some (.int .i64 B.tick) := (hI.cellAt 4 (by omega)).trans rfl
            have d5 : wr.cell? ⟨wo.heap.size, 5, none⟩ = some (.int .i64 B.heat) := (hI.cellAt 5 (by omega)).trans rfl
            have hgl : wo.heap.size < wr.heap.size := (hI.lt _ rfl).2
            replace hBe := hid hBe
            by_cases hlj : j < m
            · have hj1 : (j : Int) < (m : Int) := by omega
              have hj0 : (0 : Int) ≤ (j : Int) := by omega
              obtain ⟨x, hx⟩ : ∃ x, ps[j]? = some x := get_of_lt (by rw [hm.out]; exact hlj)
              obtain ⟨ba', oa', e', hba, z0, z1, z2, z3, z4, z5⟩ := (hr.bel hBk).hotspot hx
              simp only [Option.some.injEq, Addr.mk.injEq, and_true] at e'
              obtain ⟨rfl, rfl⟩ := e'
              have hN : Hid (bestF z (ps.take (j + 1)) = upB B x) := by
                show _ = _
                rw [List.take_add_one, hx, ← hBe.out]
                exact bestF_snoc _ _ _
              clear hx
              by_cases hw : B.tick < x.tick
              · go_wp2_with fail
                refine ⟨⟨j + 1, hlj, by go_num, ?_, ?_⟩, ?_⟩
                · rw [hN.out, upB_yes hw]
                  exact own_bel (own_put6 hI) (bel_alloc (bel_refl _))
                · (repeat' (first | (with_reducible exact bel_refl _) | (with_reducible assumption) | (with_reducible refine bel_drew ?_) | (with_reducible refine bel_drewN ?_) | (with_reducible refine bel_alloc ?_) | (with_reducible refine bel_set ?_ ?_) | (with_reducible refine bel_trans ?_ (by with_reducible assumption)) | omega | (simp; done) | (simp; omega)))
                · exact meas hlj
              · go_wp2_with fail
                refine ⟨⟨j + 1, hlj, by go_num, ?_, ?_⟩, ?_⟩
                · rw [hN.out, upB_no (by omega)]
                  exact own_bel hI (bel_alloc (bel_refl _))
                · (repeat' (first | (with_reducible exact bel_refl _) | (with_reducible assumption) | (with_reducible refine bel_drew ?_) | (with_reducible refine bel_drewN ?_) | (with_reducible refine bel_alloc ?_) | (with_reducible refine bel_set ?_ ?_) | (with_reducible refine bel_trans ?_ (by with_reducible assumption)) | omega | (simp; done) | (simp; omega)))
                · exact meas hlj
            · have hj1 : ¬ (j : Int) < (m : Int) := by omega
              obtain rfl : j = m := by omega
              have hBid : Hid (bestId ps = B.id) := by
                show _ = _
                rw [bestId_of hz.out, ← hBe.out, List.take_of_length_le (Nat.le_of_eq hm.out)]
              have hQ1 := own_bel hQ hBk
              have hO1 := (hO.bel hBk).high hBk.size
              have hBw1 := bel_trans hBw hBk
              clear hQ hO
              go_wp2_with (at_builtin; refine wpList_push rfl (.tmp 46) (.tmp 49) 24 rfl w.heap.size 3 (.int .i64 0) 1 8 Try.underlying24 info_int rfl (by omega) _ i c' _ [.int .i64 B.id] 3 rfl hQ1 (by first | rfl | exact slice_at (by simp)) rfl (by intro u hu; rw [List.mem_singleton.1 hu]; rfl) (by omega) (by omega) hBw1.size ?_; intro A6 c6 w6 hQ6 hb6 hg6)
              obtain ⟨g6, rfl, _, _⟩ := own_form hQ6 (by omega)
              have hO8 := (hO1.other hQ1 (by decide) (by decide) hg6).high hg6.size
              have hBw7 := hBw1.grown hg6 hBw1.size fun q hq => (hQ1.lt q hq).1
              have eI : ints ((bests ys).take i) ++ [.int .i64 B.id] = ints ((bests ys).take (i + 1)) := by
                rw [hBi.out, hBid.out]
                simp [ints]
              rw [eI] at hQ6
              refine ⟨⟨i + 1, hlt, by go_num, ⟨_, _, rfl, hQ6⟩, hO8, hBw7⟩, ?_⟩
              exact meas hlt
        · have hi1 : ¬ (i : Int) < (n1 : Int) := by omega
          obtain rfl : i = n1 := by omega
          have hbn : (bests ys).length = i := by rw [bests, List.length_map]; exact hn1
          rw [List.take_of_length_le (Nat.le_of_eq hbn)] at hQ
          go_wp2_with fail
          refine (sortInts g i c' w.heap.size (bests ys) _ hQ (by omega)).mono ?_
          rintro _ w4 ⟨⟨v, rfl⟩, ⟨zs, hp, hu, hM1⟩, hg1⟩
          have hz := rise_sortD (sorted_rise hp hu (by rw [hp.length_eq]; exact hbn) hri.out)
          have hBw1 := hBw.grown hg1 hBw.size fun q hq => by cases hq; exact (hQ.lt g rfl).1
          go_wp2_with fail
          go_ret2
          refine ⟨_, _, _, by rw [hR.out]; rfl, ?_, hBw1⟩
          rw [hR.out, ← hz]
          exact Own.mk_ hM1
end Go.Proofs.Ytkkoccllmflhfaa
