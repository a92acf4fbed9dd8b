/-
  Rosters: the stints of a crew: of the program and of the reference, walked.
-/
import Derived.Test.YtlffolfooiijhaaRostTop
import Derived.Test.YtlffolfooiijhaaSSData
import Derived.Deep.RegionHeld3
namespace Go.Proofs.Ytlffolfooiijhaa
open Go.RowKit

def stepP (cr : Int) (out : List (Int × Int)) (x : Duty) : List (Int × Int) :=
  if x.crew = cr then
    match out.getLast? with
    | some p => if p.2 = x.fr then out.dropLast ++ [(p.1, x.til)] else out ++ [(x.fr, x.til)]
    | none => [(x.fr, x.til)]
  else out
def stintsP (xs : List Duty) (cr : Int) : List (Int × Int) := xs.foldl (stepP cr) []
def pairs (ps : List (Int × Int)) : List (List Int) := ps.map fun p => [p.1, p.2]
theorem stints_next {xs : List Duty} {cr : Int} {i : Nat} {x : Duty} (hx : xs[i]? = some x) : stintsP (xs.take (i + 1)) cr = stepP cr (stintsP (xs.take i) cr) x := by
  rw [List.take_add_one, hx]
  simp [stintsP]
theorem stepP_len (cr : Int) (out : List (Int × Int)) (x : Duty) : (stepP cr out x).length ≤ out.length + 1 := by
  unfold stepP
  split
  · split
    · split <;> simp
    · simp
  · omega
theorem stints_len (xs : List Duty) (cr : Int) : ∀ i, (stintsP (xs.take i) cr).length ≤ i
  | 0 => by simp [stintsP]
  | i + 1 => by
    have ih := stints_len xs cr i
    rcases hx : xs[i]? with _ | x
    · rw [List.take_add_one, hx]
      simp only [Option.toList_none, List.append_nil]
      omega
    · rw [stints_next hx]
      have := stepP_len cr (stintsP (xs.take i) cr) x
      omega
def stintsR (xs : List Duty) (cr : Int) : List (List Int) × Bool := if rosterB xs && inB cr 1 20 then (pairs (stintsP xs cr), true) else ([], false)

theorem info_ints : (Try.prog.info? 45).map (fun i => (i.zero, i.size, i.bytes)) = some (some (.slice none 0 0), 1, 24) := by kernel_rfl
theorem pairs_len (ps : List (Int × Int)) : (pairs ps).length = ps.length := by simp [pairs]
theorem ss_nil_len {lo hi : Nat} {w : World} {t e : TypeId} {n c : Nat} {A : Option Addr} {ps : List (Int × Int)} {Vs : List Value} (h : OwnSS lo hi w t e A n c (rows (pairs ps)) Vs) : ps.length = n := by
  have := h.ss.len
  rwa [rows_len, pairs_len] at this
theorem stints_push {lo : Nat} {wr w2 w' : World} {n c c' : Nat} {A A' : Option Addr} {ps : List (Int × Int)} {Vs : List Value} {g : Nat} {f u : Int} {d : Nat}
    (h : OwnSS lo wr.heap.size wr 45 3 A n c (rows (pairs ps)) Vs) (hb : Below wr.heap.size wr w2) (_hg : wr.heap.size ≤ g)
    (ho : w2.ownsRow wr.heap.size 3 1 (.slice (some ⟨g, 0, none⟩) 2 d) 2 [.int .i64 f, .int .i64 u])
    (hout : w'.ownsRow lo 45 1 (.slice A' (n + 1) c') (n + 1) (Vs ++ [.slice (some ⟨g, 0, none⟩) 2 d])) (hgr : w2.grownBy w' (Value.slice A n c).ownBlock) (hlo : lo ≤ wr.heap.size) :
    OwnSS lo w'.heap.size w' 45 3 A' (n + 1) c' (rows (pairs (ps ++ [(f, u)]))) (Vs ++ [.slice (some ⟨g, 0, none⟩) 2 d]) := by
  have hsz := hb.size
  have hsz2 := hgr.size
  have e : rows (pairs (ps ++ [(f, u)])) = rows (pairs ps) ++ [ints [f, u]] := by simp [pairs, rows]
  rw [e]
  have hI : Own wr.heap.size w'.heap.size w2 3 1 (some ⟨g, 0, none⟩) 2 d [.int .i64 f, .int .i64 u] := ⟨ho, fun b hb' => Nat.lt_of_lt_of_le (ho.lt b hb').2 hsz2⟩
  exact (h.bel hb).push (l := ints [f, u]) (by omega) (by decide) hI (Own.mk_ hout) hgr hlo

theorem last_get {ps : List (Int × Int)} {p : Int × Int} {n : Nat} (h : ps.getLast? = some p) (hn : ps.length = n + 1) : (rows (pairs ps))[n]? = some (ints [p.1, p.2]) := by
  have : ps[n]? = some p := by rw [List.getLast?_eq_getElem?, hn] at h; simpa using h
  exact rows_get (by simp [pairs, this])
theorem set_last {ps : List (Int × Int)} {p q : Int × Int} {m : Nat} (hp : ps.getLast? = some p) (hn : ps.length = m + 1) : (rows (pairs ps)).set m (ints [q.1, q.2]) = rows (pairs (ps.dropLast ++ [q])) := by
  obtain ⟨ys, rfl⟩ : ∃ ys, ps = ys ++ [p] := by
    rcases List.eq_nil_or_concat ps with h | ⟨ys, z, rfl⟩
    · rw [h] at hp; simp at hp
    · simp at hp
      exact ⟨ys, by rw [hp]; simp⟩
  have hl : ys.length = m := by simpa using hn
  subst hl
  simp [rows, pairs]
theorem stints_set {lo hi : Nat} {w : World} {m c g d : Nat} {A : Option Addr} {ps : List (Int × Int)} {p : Int × Int} {u : Int} {Vs : List Value} (h : OwnSS lo hi w 45 3 A (m + 1) c (rows (pairs ps)) Vs) (hp : ps.getLast? = some p) (hn : ps.length = m + 1)
    (hv : Vs[m]? = some (.slice (some ⟨g, 0, none⟩) 2 d)) (hr : Own lo hi w 3 1 (some ⟨g, 0, none⟩) 2 d (ints [p.1, p.2])) :
    OwnSS lo hi (w.setCell ⟨g, 1, none⟩ (.int .i64 u)) 45 3 A (m + 1) c (rows (pairs (ps.dropLast ++ [(p.1, u)]))) Vs := by
  rw [← set_last (q := (p.1, u)) hp hn]
  exact h.set_row (by decide) (last_get hp hn) hv rfl ⟨(hr.own.stored 1 _).1, hr.up⟩ (hr.own.stored 1 _).2
theorem OwnSS.drew {lo hi : Nat} {w : World} {t e : TypeId} {n c : Nat} {A : Option Addr} {LL : List (List Value)} {Vs : List Value} (h : OwnSS lo hi w t e A n c LL Vs) : OwnSS lo hi w.drew t e A n c LL Vs := h.bel (bel_drew (bel_refl _))
set_option maxHeartbeats 2000000 in
theorem stintsI (A : Option Addr) (n c : Nat) (xs : List Duty) (cr : Int) (w : World) (hS : Sl w 3 A n c (xs.flatMap Duty.row)) (hn : n ≤ 13) (hG : allD xs) :
    Calls Try.prog 52 #[.slice A n c, .int .i64 cr] w fun e w' => ∃ A' n' c' Vs, e = .returned (.slice A' n' c') ∧ OwnSS w.heap.size w'.heap.size w' 45 3 A' n' c' (rows (pairs (stintsP xs cr))) Vs ∧ Below w.heap.size w w' := by
  have hlh := hid (hS.xs_len Duty.row_len (by omega))
  go_enter Try.func52, Try.ntmps52
  go_wp2_with fail
  go_loopw [5, 12] (fun q v wr => ∃ i : Nat, i ≤ n ∧ v = .int .i64 i ∧ (∃ A' k c' Vs, q = .slice A' k c' ∧ OwnSS w.heap.size wr.heap.size wr 45 3 A' k c' (rows (pairs (stintsP (xs.take i) cr))) Vs) ∧ Below w.heap.size w wr) (fun _ v _ => n - (intOf v).toNat)
  case atStart => exact ⟨0, by omega, rfl, ⟨_, _, _, [], rfl, own_nil (Own.mk_ (own_empty (w := w) (size := 1) (e := 45) (Nat.le_refl _)))⟩, by (repeat' (first | (with_reducible exact bel_refl _) | (with_reducible assumption) | (with_reducible refine bel_drew ?_) | (with_reducible refine bel_drewN ?_) | (with_reducible refine bel_alloc ?_) | (with_reducible refine bel_set ?_ ?_) | (with_reducible refine bel_trans ?_ (by with_reducible assumption)) | omega | (simp; done) | (simp; omega)))⟩
  case round =>
    obtain ⟨i, hi', rfl, ⟨A', k, c', Vs, rfl, hO⟩, hB⟩ := hrel
    by_cases hlt : i < n
    · obtain ⟨x, hx⟩ : ∃ x, xs[i]? = some x := get_of_lt (by rw [hlh.out]; exact hlt)
      obtain ⟨b, o, rfl, hb, c0, c1, c2⟩ := (hS.bel hB).duty hx
      have hX := hid hx
      have hgb := goodD_bd (hG i x hx)
      have hkl : k ≤ 13 := by
        have h1 := ss_nil_len hO
        have h2 := stints_len xs cr i
        omega
      have hN := hid (stints_next (cr := cr) hx)
      clear hx
      have hB2 := bel_refl (wr.alloc (.cells #[.int .i64 x.crew, .int .i64 x.fr, .int .i64 x.til] 30))
      by_cases hc : x.crew = cr
      · have hq : (x.crew == cr) = true := by simpa using hc
        have hC := hid hc
        rcases k with _ | m
        · have hps : stintsP (xs.take i) cr = [] := List.eq_nil_of_length_eq_zero (ss_nil_len hO)
          have hst : Hid (stintsP (xs.take (i + 1)) cr = stintsP (xs.take i) cr ++ [(x.fr, x.til)]) := by show _ = _; rw [hN.out, hps]; simp [stepP, hc]
          clear hc
          go_wp2_with fail
          (refine wp_region_bel (by kernel_rfl) (by kernel_rfl) ?_; have hD := bel_cells hB2; (repeat (go_big_quiet_step ((fail)))); refine wpQuiet_nil ?_; intro w1 hB1; replace hB2 := bel_trans hB2 hB1; obtain ⟨hC1, hF1⟩ := bcell hB2; clear hD; replace hB1 := hB1)
          have hBW : Below wr.heap.size wr w1 := bel_trans (bel_alloc (bel_refl wr)) hB2
          have hIn : Below wr.heap.size wr (w1.alloc (.cells #[.int .i64 x.fr, .int .i64 x.til] 3)) := bel_alloc hBW
          have hown := own_bel hO.out.own hIn
          have hBB := bel_trans hB hIn
          have hlit := World.ownsRow_lit (base := wr.heap.size) (e := 3) (size := 1) w1 #[.int .i64 x.fr, .int .i64 x.til] 2 hBW.size (by simp [maxLen]) rfl
          have hsz := hBW.size
          go_wp2_with (at_builtin; refine wpList_push rfl (.tmp 43) (.tmp 49) 39 rfl w.heap.size 45 (.slice none 0 0) 1 24 Try.underlying39 info_ints rfl (by omega) A' _ c' _ [.slice (some ⟨w1.heap.size, 0, none⟩) 2 2] 45 rfl hown (by first | rfl | exact slice_at (by simp)) rfl (by intro u hu; rw [List.mem_singleton.1 hu]; rfl) (by omega) (by omega) (hBB.size) ?_; intro A'' c'' w3 hown2 hb3 hg3)
          go_roundw
          case rel => exact ⟨i + 1, by omega, by go_num, ⟨_, _, _, _, rfl, by rw [hst.out]; exact stints_push hO hIn hsz hlit hown2 hg3 hB.size⟩, hBB.trans hb3⟩
          case measure => simp [intOf]; omega
        · obtain ⟨p, hp⟩ : ∃ p, (stintsP (xs.take i) cr).getLast? = some p := by
            rcases hl : (stintsP (xs.take i) cr).getLast? with _ | p
            · have h1 := ss_nil_len hO
              rw [List.getLast?_eq_none_iff] at hl
              rw [hl] at h1
              simp at h1
            · exact ⟨p, rfl⟩
          have hrow := last_get hp (ss_nil_len hO)
          obtain ⟨a, d, hv, hr⟩ := hO.row m _ hrow
          obtain ⟨g', rfl, hg'l, hg'h⟩ := own_form hO.out.own (by omega)
          obtain ⟨g, rfl, hgl, hgh⟩ := own_form hr.own (by simp [ints])
          have d0 : wr.cell? ⟨g', m, none⟩ = some (.slice (some ⟨g, 0, none⟩) 2 d) := by
            have := hO.out.sl.at_ (by omega)
            obtain ⟨b', o', e1, _, h2⟩ := this
            simp only [Option.some.injEq, Addr.mk.injEq, and_true] at e1
            obtain ⟨rfl, rfl⟩ := e1
            have := h2 m _ hv
            rwa [Nat.zero_add] at this
          have d1 : wr.cell? ⟨g, 1, none⟩ = some (.int .i64 p.2) := by
            have := hr.sl.at_ (by simp [ints])
            obtain ⟨b', o', e1, _, h2⟩ := this
            simp only [Option.some.injEq, Addr.mk.injEq, and_true] at e1
            obtain ⟨rfl, rfl⟩ := e1
            exact h2 1 _ rfl
          have hvh := hid hv
          have hrh := hid hr
          have hrw := hid hrow
          clear hv hr hrow
          have hm0 : (0 : Int) ≤ (m : Int) := by omega
          have hm1 : (m : Int) < (m : Int) + 1 := by omega
          by_cases hpe : p.2 = x.fr
          · have hpq : (p.2 == x.fr) = true := by simpa using hpe
            have hst : Hid (stintsP (xs.take (i + 1)) cr = (stintsP (xs.take i) cr).dropLast ++ [(p.1, x.til)]) := by show _ = _; rw [hN.out]; simp [stepP, hc, hp, hpe]
            clear hc hpe
            go_wp2_with fail
            (refine wp_region_bel (by kernel_rfl) (by kernel_rfl) ?_; have hD := bel_cells hB2; (repeat (go_big_quiet_step ((fail)))); refine wpQuiet_nil ?_; intro w1 hB1; replace hB2 := bel_trans hB2 hB1; obtain ⟨hC1, hF1⟩ := bcell hB2; clear hD; replace hB1 := hB1)
            have hBW : Below wr.heap.size wr w1 := bel_trans (bel_alloc (bel_refl wr)) hB2
            have f0 := (hC1 g' m (by simp; omega)).trans ((bcell (bel_alloc (o := .cells #[.int .i64 x.crew, .int .i64 x.fr, .int .i64 x.til] 30) (bel_refl wr))).1 g' m hg'h |>.trans d0)
            have f2 : w1.cell? ⟨wr.heap.size, 2, none⟩ = some (.int .i64 x.til) := (hC1 wr.heap.size 2 (by simp)).trans (by rw [cell_of_row _ _ 2 _ _ (0, 0) (heap_alloc_new wr _)]; rfl)
            have f1 := (own_bel hrh.out.own hBW).cellAt 1 (by simp [ints])
            have f3 := own_fz (own_bel hrh.out.own hBW) 1
            have f4 := own_fz hrh.out.own 1
            simp only [ints, List.map_cons, List.map_nil, List.getElem?_cons_succ, List.getElem?_cons_zero] at f1
            have hne1 : ¬ g' = g := fun e1 => by have := own_type hO.out.own hrh.out.own (g := g) (by rw [e1]; rfl) rfl; revert this; decide
            have hne2 : ¬ wr.heap.size = g := by omega
            have hne3 : ¬ g = g' := fun e1 => hne1 e1.symm
            have hne4 : ¬ g = wr.heap.size := by omega
            go_wp2_with fail
            go_region
            go_wp2
            have hn2 := (ss_nil_len hO)
            refine ⟨⟨i + 1, by omega, by go_num, ⟨_, _, _, _, rfl, by rw [hst.out]; exact ((stints_set (hO.bel hBW) hp hn2 hvh.out (hrh.out.bel hBW)).high (by have := hBW.size; simp [World.drew, World.setCell]; omega)).drew⟩, by (repeat' (first | (with_reducible exact bel_refl _) | (with_reducible assumption) | (with_reducible refine bel_drew ?_) | (with_reducible refine bel_drewN ?_) | (with_reducible refine bel_alloc ?_) | (with_reducible refine bel_set ?_ ?_) | (with_reducible refine bel_trans ?_ (by with_reducible assumption)) | omega | (simp; done) | (simp; omega)))⟩, by simp [intOf]; omega⟩
          · have hpq : (p.2 == x.fr) = false := by simpa using hpe
            have hst : Hid (stintsP (xs.take (i + 1)) cr = stintsP (xs.take i) cr ++ [(x.fr, x.til)]) := by show _ = _; rw [hN.out]; simp [stepP, hc, hp, hpe]
            clear hc hpe
            go_wp2_with fail
            (refine wp_region_bel (by kernel_rfl) (by kernel_rfl) ?_; have hD := bel_cells hB2; (repeat (go_big_quiet_step ((fail)))); refine wpQuiet_nil ?_; intro w1 hB1; replace hB2 := bel_trans hB2 hB1; obtain ⟨hC1, hF1⟩ := bcell hB2; clear hD; replace hB1 := hB1)
            have hBW : Below wr.heap.size wr w1 := bel_trans (bel_alloc (bel_refl wr)) hB2
            have hIn : Below wr.heap.size wr (w1.alloc (.cells #[.int .i64 x.fr, .int .i64 x.til] 3)) := bel_alloc hBW
            have hown := own_bel hO.out.own hIn
            have hBB := bel_trans hB hIn
            have hlit := World.ownsRow_lit (base := wr.heap.size) (e := 3) (size := 1) w1 #[.int .i64 x.fr, .int .i64 x.til] 2 hBW.size (by simp [maxLen]) rfl
            have hsz := hBW.size
            go_wp2_with (at_builtin; refine wpList_push rfl (.tmp 43) (.tmp 49) 39 rfl w.heap.size 45 (.slice none 0 0) 1 24 Try.underlying39 info_ints rfl (by omega) (some ⟨g', 0, none⟩) _ c' _ [.slice (some ⟨w1.heap.size, 0, none⟩) 2 2] 45 rfl hown (by first | rfl | exact slice_at (by simp)) rfl (by intro u hu; rw [List.mem_singleton.1 hu]; rfl) (by omega) (by omega) (hBB.size) ?_; intro A'' c'' w3 hown2 hb3 hg3)
            go_roundw
            case rel => exact ⟨i + 1, by omega, by go_num, ⟨_, _, _, _, rfl, by rw [hst.out]; exact stints_push hO hIn hsz hlit hown2 hg3 hB.size⟩, hBB.trans hb3⟩
            case measure => simp [intOf]; omega
      · have hq : (x.crew == cr) = false := by simpa using hc
        have hq2 : (x.crew != cr) = true := by simpa using hc
        have hst : Hid (stintsP (xs.take (i + 1)) cr = stintsP (xs.take i) cr) := by show _ = _; rw [hN.out, stepP, if_neg hc]
        clear hc
        go_wp2
        go_roundw
        case rel => exact ⟨i + 1, by omega, by go_num, ⟨_, _, _, _, rfl, by rw [hst.out]; exact (hO.bel (by (repeat' (first | (with_reducible exact bel_refl _) | (with_reducible assumption) | (with_reducible refine bel_drew ?_) | (with_reducible refine bel_drewN ?_) | (with_reducible refine bel_alloc ?_) | (with_reducible refine bel_set ?_ ?_) | (with_reducible refine bel_trans ?_ (by with_reducible assumption)) | omega | (simp; done) | (simp; omega))))).high (by simp)⟩, by (repeat' (first | (with_reducible exact bel_refl _) | (with_reducible assumption) | (with_reducible refine bel_drew ?_) | (with_reducible refine bel_drewN ?_) | (with_reducible refine bel_alloc ?_) | (with_reducible refine bel_set ?_ ?_) | (with_reducible refine bel_trans ?_ (by with_reducible assumption)) | omega | (simp; done) | (simp; omega)))⟩
        case measure => simp [intOf]; omega
    · go_wp2
      go_ret
      have e : i = n := by omega
      subst e
      rw [List.take_of_length_le (by rw [hlh.out]; omega)] at hO
      exact ⟨A', k, c', Vs, rfl, hO, by (repeat' (first | (with_reducible exact bel_refl _) | (with_reducible assumption) | (with_reducible refine bel_drew ?_) | (with_reducible refine bel_drewN ?_) | (with_reducible refine bel_alloc ?_) | (with_reducible refine bel_set ?_ ?_) | (with_reducible refine bel_trans ?_ (by with_reducible assumption)) | omega | (simp; done) | (simp; omega)))⟩
end Go.Proofs.Ytlffolfooiijhaa
