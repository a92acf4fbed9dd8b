/-
  Rosters: the stints of a crew, of the reference, walked.
-/
import Derived.Test.YtlffolfooiijhaaRostStints
namespace Go.Proofs.Ytlffolfooiijhaa
open Go.RowKit

theorem Own_fin {lo : Nat} {t e : TypeId} {n c : Nat} {A : Option Addr} {LL : List (List Value)} {Vs : List Value} {w1 : World} {cs : Array Value} {q : Addr} {v : Value} {t2 : TypeId} (h : OwnSS lo (w1.heap.size + 1) ((w1.alloc (.cells cs t2)).setCell q v) t e A n c LL Vs) :
    OwnSS lo ((w1.alloc (.cells cs t2)).setCell q v).drew.heap.size ((w1.alloc (.cells cs t2)).setCell q v).drew t e A n c LL Vs :=
  (h.high (by show _ ≤ ((w1.alloc (.cells cs t2)).setCell q v).heap.size; simp [World.setCell])).drew
theorem OwnSS.set_out {lo hi hi' : Nat} {w : World} {t e : TypeId} {n c g0 i d : Nat} {a : Option Addr} {LL : List (List Value)} {l : List Value} {Vs : List Value} (h : OwnSS lo hi w t e (some ⟨g0, 0, none⟩) n c LL Vs) (hh : hi ≤ hi') (hlo : lo ≤ hi) (hte : t ≠ e) (hi0 : i < Vs.length) (ho : Own hi hi' w e 1 a l.length d l) :
    OwnSS lo hi' (w.setCell ⟨g0, i, none⟩ (.slice a l.length d)) t e (some ⟨g0, 0, none⟩) n c (LL.set i l) (Vs.set i (.slice a l.length d)) := by
  have hst := h.out.own.stored i (.slice a l.length d)
  have keep : ∀ {b : Option Addr} {m k : Nat} {L : List Value} {lo1 hi1 : Nat}, Own lo1 hi1 w e 1 b m k L → Own lo1 hi1 (w.setCell ⟨g0, i, none⟩ (.slice a l.length d)) e 1 b m k L := fun {b m k L lo1 hi1} h1 => ⟨h1.own.kept hst.2 (by
    rcases hb : (Value.slice b m k).ownBlock with _ | g
    · exact Or.inl rfl
    · exact Or.inr fun e1 => hte (own_type h.out.own h1.own (g := g) (by rw [Option.some.inj e1]; rfl) hb)), h1.up⟩
  have hLi : i < LL.length := by rw [← h.len]; exact hi0
  refine ⟨⟨hst.1, (h.out.high hh).up⟩, by simp [h.len], fun j l' hl' => ?_, fun j k u v g hu hv hgu hgv => ?_⟩
  · rw [List.getElem?_set] at hl' ⊢
    split at hl'
    · rename_i e1
      subst e1
      simp only [hi0, if_true, Option.some.injEq] at hl' ⊢
      subst hl'
      exact ⟨a, d, rfl, (keep ho).low hlo⟩
    · rename_i hne
      rw [if_neg hne]
      obtain ⟨a1, d1, hv1, ho1⟩ := h.row j l' hl'
      exact ⟨a1, d1, hv1, (keep ho1).high hh⟩
  · have old : ∀ (j : Nat) (u : Value), Vs[j]? = some u → u.ownBlock = some g → g < hi := fun j u hu hgu => by
      have hj1 : j < LL.length := by rw [← h.len]; exact (List.getElem?_eq_some_iff.1 hu).1
      obtain ⟨a1, d1, hv1, ho1⟩ := h.row j _ (List.getElem?_eq_getElem hj1)
      rw [hu] at hv1
      simp only [Option.some.injEq] at hv1
      subst hv1
      exact (ho1.ob g hgu).2
    rw [List.getElem?_set] at hu hv
    split at hu
    · rename_i e1
      split at hv
      · omega
      · simp only [Option.some.injEq] at hu
        subst hu
        have h1 := (ho.ob g hgu).1
        have h2 := old k v hv hgv
        omega
    · split at hv
      · simp only [Option.some.injEq] at hv
        subst hv
        have h1 := (ho.ob g hgv).1
        have h2 := old j u hu hgu
        omega
      · exact h.apart j k u v g hu hv hgu hgv
theorem stints_new {lo : Nat} {wr w1 : World} {m c g' : Nat} {ps : List (Int × Int)} {p : Int × Int} {u : Int} {Vs : List Value} (h : OwnSS lo wr.heap.size wr 45 3 (some ⟨g', 0, none⟩) (m + 1) c (rows (pairs ps)) Vs) (hb : Below wr.heap.size wr w1) (hp : ps.getLast? = some p) (hn : ps.length = m + 1) (hlo : lo ≤ wr.heap.size) :
    OwnSS lo (w1.heap.size + 1) ((w1.alloc (.cells #[.int .i64 p.1, .int .i64 u] 3)).setCell ⟨g', m, none⟩ (.slice (some ⟨w1.heap.size, 0, none⟩) 2 2)) 45 3 (some ⟨g', 0, none⟩) (m + 1) c (rows (pairs (ps.dropLast ++ [(p.1, u)]))) (Vs.set m (.slice (some ⟨w1.heap.size, 0, none⟩) 2 2)) := by
  rw [← set_last (q := (p.1, u)) hp hn]
  have hsz := hb.size
  have hlit := World.ownsRow_lit (base := wr.heap.size) (e := 3) (size := 1) w1 #[.int .i64 p.1, .int .i64 u] 2 hsz (by simp [maxLen]) rfl
  exact (h.bel (bel_alloc hb)).set_out (l := ints [p.1, u]) (by omega) hlo (by decide) (by rw [h.len, rows_len, pairs_len]; omega) ⟨hlit, fun b hb' => by have := (hlit.lt b hb').2; simpa using this⟩
set_option maxHeartbeats 2000000 in
theorem l11StintsS (A : Option Addr) (n c : Nat) (xs : List Duty) (cr : Int) (w : World) (hS : Sl w 3 A n c (xs.flatMap Duty.row)) (hn : n ≤ 13) (hG : allD xs) :
    Calls Try.prog 54 #[.slice A n c, .int .i64 cr] w fun e w' => ∃ A' n' c' Vs, e = .returned (.slice A' n' c') ∧ OwnSS w.heap.size w'.heap.size w' 45 3 A' n' c' (rows (pairs (stintsP xs cr))) Vs ∧ Below w.heap.size w w' := by
  have hlh := hid (hS.xs_len Duty.row_len (by omega))
  go_enter Try.func54, Try.ntmps54
  go_wp2_with fail
  go_loopw [5, 6] (fun q v wr => ∃ i : Nat, i ≤ n ∧ v = .int .i64 i ∧ (∃ A' k c' Vs, q = .slice A' k c' ∧ OwnSS w.heap.size wr.heap.size wr 45 3 A' k c' (rows (pairs (stintsP (xs.take i) cr))) Vs) ∧ Below w.heap.size w wr) (fun _ v _ => n - (intOf v).toNat)
  case atStart => exact ⟨0, by omega, rfl, ⟨_, _, _, [], rfl, own_nil (Own.mk_ (own_empty (w := w) (size := 1) (e := 45) (Nat.le_refl _)))⟩, by (repeat' (first | (with_reducible exact bel_refl _) | (with_reducible assumption) | (with_reducible refine bel_drew ?_) | (with_reducible refine bel_drewN ?_) | (with_reducible refine bel_alloc ?_) | (with_reducible refine bel_set ?_ ?_) | (with_reducible refine bel_trans ?_ (by with_reducible assumption)) | omega | (simp; done) | (simp; omega)))⟩
  case round =>
    obtain ⟨i, hi', rfl, ⟨A', k, c', Vs, rfl, hO⟩, hB⟩ := hrel
    by_cases hlt : i < n
    · obtain ⟨x, hx⟩ : ∃ x, xs[i]? = some x := get_of_lt (by rw [hlh.out]; exact hlt)
      obtain ⟨b, o, rfl, hb, c0, c1, c2⟩ := (hS.bel hB).duty hx
      have hX := hid hx
      have hgb := goodD_bd (hG i x hx)
      have hkl : k ≤ 13 := by
        have h1 := ss_nil_len hO
        have h2 := stints_len xs cr i
        omega
      have hN := hid (stints_next (cr := cr) hx)
      clear hx
      have hB2 := bel_refl (wr.alloc (.cells #[.int .i64 x.crew, .int .i64 x.fr, .int .i64 x.til] 30))
      by_cases hc : x.crew = cr
      · have hq : (x.crew == cr) = true := by simpa using hc
        have hC := hid hc
        rcases k with _ | m
        · have hps : stintsP (xs.take i) cr = [] := List.eq_nil_of_length_eq_zero (ss_nil_len hO)
          have hst : Hid (stintsP (xs.take (i + 1)) cr = stintsP (xs.take i) cr ++ [(x.fr, x.til)]) := by show _ = _; rw [hN.out, hps]; simp [stepP, hc]
          clear hc
          go_wp2_with fail
          (refine wp_region_bel (by kernel_rfl) (by kernel_rfl) ?_; have hD := bel_cells hB2; (repeat (go_big_quiet_step ((fail)))); refine wpQuiet_nil ?_; intro w1 hB1; replace hB2 := bel_trans hB2 hB1; obtain ⟨hC1, hF1⟩ := bcell hB2; clear hD; replace hB1 := hB1)
          have hBW : Below wr.heap.size wr w1 := bel_trans (bel_alloc (bel_refl wr)) hB2
          have hIn : Below wr.heap.size wr (w1.alloc (.cells #[.int .i64 x.fr, .int .i64 x.til] 3)) := bel_alloc hBW
          have hown := own_bel hO.out.own hIn
          have hBB := bel_trans hB hIn
          have hlit := World.ownsRow_lit (base := wr.heap.size) (e := 3) (size := 1) w1 #[.int .i64 x.fr, .int .i64 x.til] 2 hBW.size (by simp [maxLen]) rfl
          have hsz := hBW.size
          go_wp2_with (at_builtin; refine wpList_push rfl (.tmp 54) (.tmp 60) 39 rfl w.heap.size 45 (.slice none 0 0) 1 24 Try.underlying39 info_ints rfl (by omega) A' _ c' _ [.slice (some ⟨w1.heap.size, 0, none⟩) 2 2] 45 rfl hown (by first | rfl | exact slice_at (by simp)) rfl (by intro u hu; rw [List.mem_singleton.1 hu]; rfl) (by omega) (by omega) (hBB.size) ?_; intro A'' c'' w3 hown2 hb3 hg3)
          go_roundw
          case rel => exact ⟨i + 1, by omega, by go_num, ⟨_, _, _, _, rfl, by rw [hst.out]; exact stints_push hO hIn hsz hlit hown2 hg3 hB.size⟩, hBB.trans hb3⟩
          case measure => simp [intOf]; omega
        · obtain ⟨p, hp⟩ : ∃ p, (stintsP (xs.take i) cr).getLast? = some p := by
            rcases hl : (stintsP (xs.take i) cr).getLast? with _ | p
            · have h1 := ss_nil_len hO
              rw [List.getLast?_eq_none_iff] at hl
              rw [hl] at h1
              simp at h1
            · exact ⟨p, rfl⟩
          have hrow := last_get hp (ss_nil_len hO)
          obtain ⟨a, d, hv, hr⟩ := hO.row m _ hrow
          obtain ⟨g', rfl, hg'l, hg'h⟩ := own_form hO.out.own (by omega)
          obtain ⟨g, rfl, hgl, hgh⟩ := own_form hr.own (by simp [ints])
          have d0 : wr.cell? ⟨g', m, none⟩ = some (.slice (some ⟨g, 0, none⟩) 2 d) := by
            have := hO.out.sl.at_ (by omega)
            obtain ⟨b', o', e1, _, h2⟩ := this
            simp only [Option.some.injEq, Addr.mk.injEq, and_true] at e1
            obtain ⟨rfl, rfl⟩ := e1
            have := h2 m _ hv
            rwa [Nat.zero_add] at this
          have d1 : wr.cell? ⟨g, 1, none⟩ = some (.int .i64 p.2) := by
            have := hr.sl.at_ (by simp [ints])
            obtain ⟨b', o', e1, _, h2⟩ := this
            simp only [Option.some.injEq, Addr.mk.injEq, and_true] at e1
            obtain ⟨rfl, rfl⟩ := e1
            exact h2 1 _ rfl
          have hvh := hid hv
          have hrh := hid hr
          have hrw := hid hrow
          clear hv hr hrow
          have hm0 : (0 : Int) ≤ (m : Int) := by omega
          have hm1 : (m : Int) < (m : Int) + 1 := by omega
          by_cases hpe : p.2 = x.fr
          · have hpq : (p.2 == x.fr) = true := by simpa using hpe
            have hst : Hid (stintsP (xs.take (i + 1)) cr = (stintsP (xs.take i) cr).dropLast ++ [(p.1, x.til)]) := by show _ = _; rw [hN.out]; simp [stepP, hc, hp, hpe]
            clear hc hpe
            go_wp2_with fail
            (refine wp_region_bel (by kernel_rfl) (by kernel_rfl) ?_; have hD := bel_cells hB2; (repeat (go_big_quiet_step ((fail)))); refine wpQuiet_nil ?_; intro w1 hB1; replace hB2 := bel_trans hB2 hB1; obtain ⟨hC1, hF1⟩ := bcell hB2; clear hD; replace hB1 := hB1)
            have hBW : Below wr.heap.size wr w1 := bel_trans (bel_alloc (bel_refl wr)) hB2
            have f0 := (hC1 g' m (by simp; omega)).trans ((bcell (bel_alloc (o := .cells #[.int .i64 x.crew, .int .i64 x.fr, .int .i64 x.til] 30) (bel_refl wr))).1 g' m hg'h |>.trans d0)
            have f2 : w1.cell? ⟨wr.heap.size, 2, none⟩ = some (.int .i64 x.til) := (hC1 wr.heap.size 2 (by simp)).trans (by rw [cell_of_row _ _ 2 _ _ (0, 0) (heap_alloc_new wr _)]; rfl)
            have f1 := (own_bel hrh.out.own hBW).cellAt 0 (by simp [ints])
            simp only [ints, List.map_cons, List.map_nil, List.getElem?_cons_zero] at f1
            have f3 := own_fz (own_bel hO.out.own hBW) m
            have f4 := own_fz hO.out.own m
            have d2 : wr.cell? ⟨g, 0, none⟩ = some (.int .i64 p.1) := by
              have := hrh.out.own.cellAt 0 (by simp [ints])
              simpa [ints] using this
            have hb1 := hBW.size
            have hIn : Below wr.heap.size wr (w1.alloc (.cells #[.int .i64 p.1, .int .i64 x.til] 3)) := bel_alloc hBW
            have f5 := (hIn.cell (p := ⟨g', m, none⟩) hg'h).trans d0
            have f6 := own_fz (own_bel hO.out.own hIn) m
            have hg1 : g' < w1.heap.size := by omega
            go_wp2_with fail
            go_region
            go_wp2
            have hn2 := (ss_nil_len hO)
            refine ⟨⟨i + 1, by omega, by go_num, ⟨_, _, _, _, rfl, by rw [hst.out, ← World.setCell_alloc_past _ _ _ _ hg1]; exact (Own_fin (stints_new (u := x.til) hO hBW hp hn2 hB.size))⟩, by (repeat' (first | (with_reducible exact bel_refl _) | (with_reducible assumption) | (with_reducible refine bel_drew ?_) | (with_reducible refine bel_drewN ?_) | (with_reducible refine bel_alloc ?_) | (with_reducible refine bel_set ?_ ?_) | (with_reducible refine bel_trans ?_ (by with_reducible assumption)) | omega | (simp; done) | (simp; omega)))⟩, by simp [intOf]; omega⟩
          · have hpq : (p.2 == x.fr) = false := by simpa using hpe
            have hst : Hid (stintsP (xs.take (i + 1)) cr = stintsP (xs.take i) cr ++ [(x.fr, x.til)]) := by show _ = _; rw [hN.out]; simp [stepP, hc, hp, hpe]
            clear hc hpe
            go_wp2_with fail
            (refine wp_region_bel (by kernel_rfl) (by kernel_rfl) ?_; have hD := bel_cells hB2; (repeat (go_big_quiet_step ((fail)))); refine wpQuiet_nil ?_; intro w1 hB1; replace hB2 := bel_trans hB2 hB1; obtain ⟨hC1, hF1⟩ := bcell hB2; clear hD; replace hB1 := hB1)
            have hBW : Below wr.heap.size wr w1 := bel_trans (bel_alloc (bel_refl wr)) hB2
            have hIn : Below wr.heap.size wr (w1.alloc (.cells #[.int .i64 x.fr, .int .i64 x.til] 3)) := bel_alloc hBW
            have hown := own_bel hO.out.own hIn
            have hBB := bel_trans hB hIn
            have hlit := World.ownsRow_lit (base := wr.heap.size) (e := 3) (size := 1) w1 #[.int .i64 x.fr, .int .i64 x.til] 2 hBW.size (by simp [maxLen]) rfl
            have hsz := hBW.size
            go_wp2_with (at_builtin; refine wpList_push rfl (.tmp 54) (.tmp 60) 39 rfl w.heap.size 45 (.slice none 0 0) 1 24 Try.underlying39 info_ints rfl (by omega) (some ⟨g', 0, none⟩) _ c' _ [.slice (some ⟨w1.heap.size, 0, none⟩) 2 2] 45 rfl hown (by first | rfl | exact slice_at (by simp)) rfl (by intro u hu; rw [List.mem_singleton.1 hu]; rfl) (by omega) (by omega) (hBB.size) ?_; intro A'' c'' w3 hown2 hb3 hg3)
            go_roundw
            case rel => exact ⟨i + 1, by omega, by go_num, ⟨_, _, _, _, rfl, by rw [hst.out]; exact stints_push hO hIn hsz hlit hown2 hg3 hB.size⟩, hBB.trans hb3⟩
            case measure => simp [intOf]; omega
      · have hq : (x.crew == cr) = false := by simpa using hc
        have hq2 : (x.crew != cr) = true := by simpa using hc
        have hst : Hid (stintsP (xs.take (i + 1)) cr = stintsP (xs.take i) cr) := by show _ = _; rw [hN.out, stepP, if_neg hc]
        clear hc
        go_wp2
        go_roundw
        case rel => exact ⟨i + 1, by omega, by go_num, ⟨_, _, _, _, rfl, by rw [hst.out]; exact (hO.bel (by (repeat' (first | (with_reducible exact bel_refl _) | (with_reducible assumption) | (with_reducible refine bel_drew ?_) | (with_reducible refine bel_drewN ?_) | (with_reducible refine bel_alloc ?_) | (with_reducible refine bel_set ?_ ?_) | (with_reducible refine bel_trans ?_ (by with_reducible assumption)) | omega | (simp; done) | (simp; omega))))).high (by simp)⟩, by (repeat' (first | (with_reducible exact bel_refl _) | (with_reducible assumption) | (with_reducible refine bel_drew ?_) | (with_reducible refine bel_drewN ?_) | (with_reducible refine bel_alloc ?_) | (with_reducible refine bel_set ?_ ?_) | (with_reducible refine bel_trans ?_ (by with_reducible assumption)) | omega | (simp; done) | (simp; omega)))⟩
        case measure => simp [intOf]; omega
    · go_wp2
      go_ret
      have e : i = n := by omega
      subst e
      rw [List.take_of_length_le (by rw [hlh.out]; omega)] at hO
      exact ⟨A', k, c', Vs, rfl, hO, by (repeat' (first | (with_reducible exact bel_refl _) | (with_reducible assumption) | (with_reducible refine bel_drew ?_) | (with_reducible refine bel_drewN ?_) | (with_reducible refine bel_alloc ?_) | (with_reducible refine bel_set ?_ ?_) | (with_reducible refine bel_trans ?_ (by with_reducible assumption)) | omega | (simp; done) | (simp; omega)))⟩
end Go.Proofs.Ytlffolfooiijhaa
