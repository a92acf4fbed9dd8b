/-
  Arrivals, the reference's way: passes over all cells until nothing changes; the walk.
-/
import Derived.Test.YtdfjfopbhlbmkaaArrIWalk
namespace Go.Proofs.Ytdfjfopbhlbmkaa
open Go.RowKit

/-- The state in memory: the slice of ticks, and all below the call as it was. -/
structure S1 (W : World) (g P c : Nat) (s : List Int) (w : World) : Prop where
  own : w.ownsRow W.heap.size 3 1 (.slice (some ⟨g, 0, none⟩) P c) P (ints s)
  bel : Below W.heap.size W w
section
variable {W w w' : World} {g P c : Nat} {s : List Int}
theorem S1.keep (h : S1 W g P c s w) (hb : Below w.heap.size w w') : S1 W g P c s w' := ⟨own_bel h.own hb, bel_trans h.bel hb⟩
theorem S1.set (h : S1 W g P c s w) (i : Nat) (v : Int) : S1 W g P c (s.set i v) (w.setCell ⟨g, i, none⟩ (.int .i64 v)) :=
  ⟨by have := (h.own.stored i (.int .i64 v)).1; rwa [ints_set] at this, h.bel.setCell (p := ⟨g, i, none⟩) (h.own.lt g rfl).1 _⟩
theorem S1.len (h : S1 W g P c s w) : s.length = P := by have := h.own.1; rw [ints_len] at this; omega
theorem S1.at_ (h : S1 W g P c s w) {v : Nat} (hv : v < P) : w.cell? ⟨g, v, none⟩ = some (.int .i64 (gI s v)) :=
  (h.own.cellAt v (by omega)).trans (ints_get (gI_some (by rw [h.len]; exact hv)))
theorem S1.own_ (h : S1 W g P c s w) {lo hi k : Nat} {e : TypeId} {A : Option Addr} {m d : Nat} {L : List Value} (ho : Own lo hi w e k A m d L) (hl : g < lo) (i : Nat) (v : Int) : Own lo hi (w.setCell ⟨g, i, none⟩ (.int .i64 v)) e k A m d L :=
  ho.grown (h.own.stored i (.int .i64 v)).2 fun g' hg => by simp at hg; omega
end
theorem sum_map_le {f h : Nat → Nat} : ∀ {l : List Nat}, (∀ v ∈ l, f v ≤ h v) → (l.map f).sum ≤ (l.map h).sum
  | [], _ => Nat.le_refl _
  | x :: l, hl => by
    have h1 := hl x (by simp)
    have h2 := sum_map_le (l := l) (fun v hv => hl v (by simp [hv]))
    simp only [List.map_cons, List.sum_cons]
    omega
theorem sum_map_lt {f h : Nat → Nat} {v0 : Nat} : ∀ {l : List Nat}, (∀ v ∈ l, f v ≤ h v) → v0 ∈ l → f v0 < h v0 → (l.map f).sum < (l.map h).sum
  | [], _, hm, _ => by simp at hm
  | x :: l, hl, hm, hlt => by
    have h1 := hl x (by simp)
    have h2 := sum_map_le (l := l) (fun v hv => hl v (by simp [hv]))
    simp only [List.map_cons, List.sum_cons]
    rcases List.mem_cons.1 hm with e | e
    · subst e; omega
    · have := sum_map_lt (l := l) (fun v hv => hl v (by simp [hv])) e hlt
      omega
def flagN : Value → Nat
  | .bool true => 1
  | _ => 0
def totT (P : Nat) (s : List Int) : Nat := ((List.range P).map (stF s)).sum
def msrT (g P : Nat) (w : World) : Nat := ((List.range P).map fun v => valT (intOf ((w.cell? ⟨g, v, none⟩).getD (.int .i64 0)))).sum
theorem msrT_eq {W w : World} {g P c : Nat} {s : List Int} (h : S1 W g P c s w) : msrT g P w = totT P s := by
  unfold msrT totT
  congr 1
  refine List.map_congr_left fun v hv => ?_
  rw [h.at_ (List.mem_range.1 hv)]
  rfl
theorem tot_set {P : Nat} {s : List Int} {c : Nat} {x : Int} (hl : s.length = P) (hc : c < P) (hx : 0 ≤ x ∧ x < 100000) (h : gI s c = -1 ∨ x < gI s c) : totT P (s.set c x) < totT P s := by
  unfold totT
  have hv : valT x < valT (gI s c) := by
    unfold valT
    rw [if_neg (by omega)]
    split <;> omega
  refine sum_map_lt (v0 := c) (fun v _ => ?_) (List.mem_range.2 hc) ?_
  · unfold stF
    rw [gI_set (by omega)]
    split
    · rename_i e; rw [e]; omega
    · exact Nat.le_refl _
  · unfold stF
    rw [gI_set (by omega), if_pos rfl]
    exact hv
/-- How many are reached. -/
def rch (s : List Int) : Nat := s.countP fun x => decide (x ≠ -1)
theorem rch_le (s : List Int) : rch s ≤ s.length := List.countP_le_length
theorem rch_set : ∀ {s : List Int} {c : Nat} {x : Int}, c < s.length → x ≠ -1 → rch (s.set c x) = rch s + (if gI s c = -1 then 1 else 0)
  | [], _, _, h, _ => by simp at h
  | y :: ys, 0, x, _, hx => by
    simp only [rch, List.set_cons_zero, List.countP_cons, gI, List.getD_cons_zero]
    by_cases e : y = -1
    · simp [e, hx]
    · simp [e, hx]
  | y :: ys, c + 1, x, hc, hx => by
    have ih := rch_set (s := ys) (c := c) (x := x) (by simpa using hc) hx
    simp only [rch, List.set_cons_succ, List.countP_cons, gI, List.getD_cons_succ] at ih ⊢
    rw [ih]
    simp
    omega
def BdR (st : Int) (n : Nat) (s : List Int) : Prop := BdS n s (st + 120 * (rch s : Int))
theorem BdR.store {st : Int} {n : Nat} {s : List Int} {c : Nat} {x : Int} (h : BdR st n s) (hl : s.length = n) (hc : c < n) (hx : 0 ≤ x ∧ x ≤ st + 120 * (rch s : Int) + 120) (hz : gI s c = -1 ∨ x < gI s c) : BdR st n (s.set c x) := fun v hv => by
  have h1 := h v hv
  have h2 := h c hc
  rw [gI_set (by omega), rch_set (by omega) (by omega)]
  by_cases e : v = c
  · rw [if_pos e]
    split <;> omega
  · rw [if_neg e]
    split <;> omega
/-- All edges of the cells before a are kept. -/
def FixTo (t : Terr) (ps : List Phase) (s : List Int) (a : Nat) : Prop := ∀ a' b, a' < a → b < t.n → edgeF t a' b = true → stF s a' < 100000 → stF s b ≤ costF t ps a' b (stF s a')
def FixAt (t : Terr) (ps : List Phase) (s : List Int) (a : Nat) (L : List Int) : Prop := ∀ b, b < t.n → edgeF t a b = true → (L.any fun x => x == (b : Int)) = true → stF s b ≤ costF t ps a b (stF s a)
def FlagS (t : Terr) (ps : List Phase) (ag : Value) (s s0 : List Int) (a : Nat) (Q : Prop) : Prop := (ag = .bool true ∧ totT t.n s < totT t.n s0) ∨ (ag = .bool false ∧ s = s0 ∧ FixTo t ps s0 a ∧ Q)
theorem FixTo.next {t : Terr} {ps : List Phase} {s : List Int} {a : Nat} (h : FixTo t ps s a) (ha : ∀ b, b < t.n → edgeF t a b = true → stF s a < 100000 → stF s b ≤ costF t ps a b (stF s a)) : FixTo t ps s (a + 1) := fun a' b h1 h2 h3 h4 => by
  by_cases e : a' = a
  · subst e; exact ha b h2 h3 h4
  · exact h a' b (by omega) h2 h3 h4
/-- The ticks at the start. -/
def initL (t : Terr) (so : List Int) (st : Int) (i : Nat) : List Int := (List.range i).map fun v => if srcF t so v then st else -1
theorem initL_next (t : Terr) (so : List Int) (st : Int) (i : Nat) : initL t so st (i + 1) = initL t so st i ++ [if srcF t so i then st else -1] := by
  simp [initL, List.range_succ]
theorem initL_get {t : Terr} {so : List Int} {st : Int} {i v : Nat} (hv : v < i) : gI (initL t so st i) v = if srcF t so v then st else -1 := by
  refine gI_get ?_
  rw [initL, List.getElem?_map, List.getElem?_range hv]
  rfl
theorem TOk.atA {w : World} {t : Terr} {g0 o0 : Nat} (h : TOk w t) (hA : t.A = some ⟨g0, o0, none⟩) (hg : goodT t = true) {a : Nat} (ha : a < t.n) : ∃ x, g0 < w.heap.size ∧ burnAt t (a : Int) = x ∧ 0 ≤ x ∧ x ≤ 20 ∧ w.cell? ⟨g0, o0 + a, none⟩ = some (.int .i64 x) := by
  obtain ⟨b, o, x, h1, h2, h3, h4, h5, h6⟩ := h.at_ hg (a := (a : Int)) (by omega)
  rw [hA] at h1
  simp only [Option.some.injEq, Addr.mk.injEq, and_true] at h1
  obtain ⟨rfl, rfl⟩ := h1
  exact ⟨x, h2, burnAt_get h3, h4, h5, by simpa using h6⟩
theorem l4WorkX {t : Terr} {g0 o0 : Nat} {a b X : Int} {w : World} (hA : t.A = some ⟨g0, o0, none⟩) (hX : workF t a b = X) (hT : TOk w t) (hg : goodT t = true) (ha : 0 ≤ a ∧ a < t.n) (hb : 0 ≤ b ∧ b < t.n) :
    Calls Try.prog 92 #[.agg #[.int .i64 t.W, .int .i64 t.H, .slice (some ⟨g0, o0, none⟩) t.n t.c], .int .i64 a, .int .i64 b] w fun e w' => e = .returned (.int .i64 X) ∧ Below w.heap.size w w' := by
  rw [← hX, ← hA]; exact l4Work t a b w hT hg ha hb
theorem l4DoneX {A : Option Addr} {n c : Nat} {ps : List Phase} {t v X : Int} {w : World} (hX : doneF (speedF ps) t v = X) (hS : Sl w 2 A n c (ps.flatMap Phase.row)) (hn : n ≤ 1048576) (hp : phasesB ps = true) (ht : 0 ≤ t ∧ t ≤ 6000) (hv : 0 ≤ v ∧ v ≤ 120) :
    Calls Try.prog 91 #[.slice A n c, .int .i64 t, .int .i64 v] w fun e w' => e = .returned (.int .i64 X) ∧ Below w.heap.size w w' := hX ▸ l4Done A n c ps t v w hS hn hp ht hv
theorem l2NearA {t : Terr} {g0 o0 : Nat} {a : Int} {w : World} (hA : t.A = some ⟨g0, o0, none⟩) (hg : goodT t = true) (ha : 0 ≤ a ∧ a < t.n) :
    Calls Try.prog 90 #[.agg #[.int .i64 t.W, .int .i64 t.H, .slice (some ⟨g0, o0, none⟩) t.n t.c], .int .i64 a] w fun e w' => ∃ A' m c', e = .returned (.slice A' m c') ∧ Own w.heap.size w'.heap.size w' 3 1 A' m c' (ints (nearL t a)) ∧ Below w.heap.size w w' := by
  rw [← hA]; exact l2Near t a w hg ha
theorem box_atA {t : Terr} {g0 o0 : Nat} {w w' : World} (hb : Below ((w.alloc (.cells #[.int .i64 t.W, .int .i64 t.H, .slice (some ⟨g0, o0, none⟩) t.n t.c] 30))).heap.size ((w.alloc (.cells #[.int .i64 t.W, .int .i64 t.H, .slice (some ⟨g0, o0, none⟩) t.n t.c] 30))) w') : w'.cell? ⟨w.heap.size, 0, none⟩ = some (.int .i64 t.W) ∧ w'.cell? ⟨w.heap.size, 1, none⟩ = some (.int .i64 t.H) ∧ w'.cell? ⟨w.heap.size, 2, none⟩ = some (.slice (some ⟨g0, o0, none⟩) t.n t.c) :=
  ⟨((bcell hb).1 _ _ (by simp)).trans (by simp [go_sem]), ((bcell hb).1 _ _ (by simp)).trans (by simp [go_sem]), ((bcell hb).1 _ _ (by simp)).trans (by simp [go_sem])⟩
theorem loose_congr {n B t0 : Nat} {edge : Nat → Nat → Bool} {f : Nat → Nat → Nat → Nat} {S : Nat → Bool} {s s' : Nat → Nat} (h : Loose n B t0 edge f S s) (hs : ∀ v, v < n → s' v = s v) : Loose n B t0 edge f S s' := by
  refine ⟨fun v hv => ?_, fun v hv h1 => ?_, fun v hv h1 => ?_⟩
  · rw [hs v hv]; exact h.le v hv
  · rw [hs v hv]; exact h.from_ v hv h1
  · rw [hs v hv] at h1 ⊢
    rcases h.why v hv h1 with h2 | ⟨a, ha, h2, h3, h4⟩
    · exact Or.inl h2
    · exact Or.inr ⟨a, ha, h2, by rw [hs a ha]; exact h3, by rw [hs a ha]; exact h4⟩
set_option maxHeartbeats 8000000 in
set_option maxRecDepth 100000 in
theorem arrS_go (t : Terr) (g0 o0 : Nat) (A : Option Addr) (n c : Nat) (ps : List Phase) (B : Option Addr) (m d : Nat) (so : List Int) (st : Int) (w : World) (hA : Hid (t.A = some ⟨g0, o0, none⟩)) (hT : TOk w t) (hg : goodT t = true) (hS : Sl w 2 A n c (ps.flatMap Phase.row)) (hn : n ≤ 1048576) (hp : phasesB ps = true) (hM : Sl w 1 B m d (ints so)) (hm : m ≤ 1048576) (hst : 0 ≤ st ∧ st ≤ 1000) :
    Calls Try.prog 74 #[.agg #[.int .i64 t.W, .int .i64 t.H, .slice (some ⟨g0, o0, none⟩) t.n t.c], .slice A n c, .slice B m d, .int .i64 st] w fun e w' => ∃ A' c' s, e = .returned (.slice A' t.n c') ∧ ArrOk t ps so st s ∧ Own w.heap.size w'.heap.size w' 3 1 A' t.n c' (ints s) ∧ Below w.heap.size w w' := by
  obtain ⟨hW, -, -, hn1, hn25, -⟩ := goodT_bd hg
  replace hm := hid hm
  replace hn := hid hn
  have hnb : (t.n : Int) ≤ 25 := by omega
  have hTz := (hT.bel (bel_alloc (o := .cells #[.int .i64 t.W, .int .i64 t.H, .slice (some ⟨g0, o0, none⟩) t.n t.c] 30) (bel_refl w)))
  have hMz := (hM.bel (bel_alloc (o := .cells #[.int .i64 t.W, .int .i64 t.H, .slice (some ⟨g0, o0, none⟩) t.n t.c] 30) (bel_refl w)))
  have hSz := (hS.bel (bel_alloc (o := .cells #[.int .i64 t.W, .int .i64 t.H, .slice (some ⟨g0, o0, none⟩) t.n t.c] 30) (bel_refl w)))
  go_enter Try.func74, Try.ntmps74
  go_wp2_with fail
  go_loopw [9, 10] (fun q v wr => ∃ i : Nat, i ≤ t.n ∧ v = .int .i64 i ∧ (∃ A' c', q = .slice A' i c' ∧ wr.ownsRow ((w.alloc (.cells #[.int .i64 t.W, .int .i64 t.H, .slice (some ⟨g0, o0, none⟩) t.n t.c] 30))).heap.size 3 1 (.slice A' i c') i (ints (initL t so st i))) ∧ Below ((w.alloc (.cells #[.int .i64 t.W, .int .i64 t.H, .slice (some ⟨g0, o0, none⟩) t.n t.c] 30))).heap.size ((w.alloc (.cells #[.int .i64 t.W, .int .i64 t.H, .slice (some ⟨g0, o0, none⟩) t.n t.c] 30))) wr) (fun _ v _ => t.n - (intOf v).toNat)
  case atStart => exact ⟨0, by omega, rfl, ⟨_, _, rfl, by simpa [initL, ints] using own_empty (w := (w.alloc (.cells #[.int .i64 t.W, .int .i64 t.H, .slice (some ⟨g0, o0, none⟩) t.n t.c] 30))) (size := 1) (e := 3) (Nat.le_refl _)⟩, bel_alloc (bel_refl _)⟩
  case round =>
    obtain ⟨i, hi', rfl, ⟨A', c', rfl, hown⟩, hB2⟩ := hrel
    obtain ⟨k0, k1, k2⟩ := box_atA hB2
    by_cases hlt : i < t.n
    · have hi0 : (0 : Int) ≤ (i : Int) := by omega
      have hi1 : (i : Int) < (t.n : Int) := by omega
      obtain ⟨x, hgz, hx, hx0, hx1, c0⟩ := (hTz.bel hB2).atA hA.out hg hlt
      have hN := hid (initL_next t so st i)
      have hbx : burnsB t (i : Int) = decide (0 < x) := by rw [burnsB, hx]
      by_cases hxp : 0 < x
      · rcases hq : (so.any fun y => y == (i : Int)) with _ | _
        · have hs : srcF t so i = false := by unfold srcF; rw [hq, Bool.and_false]
          rw [hs] at hN
          clear hbx hx
          go_wp2_with (first | (go_at_call 60; refine (l1Has B m d so (i : Int) _ (hMz.bel hB2) hm.out).mono ?_; rw [hq]; rintro _ w1 ⟨rfl, rfl⟩) | (at_builtin; refine wpList_push rfl (.tmp 40) (.tmp 41) 22 rfl ((w.alloc (.cells #[.int .i64 t.W, .int .i64 t.H, .slice (some ⟨g0, o0, none⟩) t.n t.c] 30))).heap.size 3 (.int .i64 0) 1 8 Try.underlying22 info_int' rfl (by omega) A' i c' _ [.int .i64 (-1)] 3 rfl hown (by first | rfl | exact slice_at (by simp)) rfl (oneCell_int _) (by omega) (by omega) hB2.size ?_; intro A'' c'' w3 hown2 hb3 hg3))
          go_roundw
          case rel => exact ⟨i + 1, by omega, by go_num, ⟨_, _, rfl, by rw [hN.out, if_neg (by simp), ← ints_snoc]; exact hown2⟩, hB2.trans hb3⟩
          case measure => simp [intOf]; omega
        · have hs : srcF t so i = true := by unfold srcF; rw [hq, hbx]; simpa using hxp
          rw [hs] at hN
          clear hbx hx
          go_wp2_with (first | (go_at_call 60; refine (l1Has B m d so (i : Int) _ (hMz.bel hB2) hm.out).mono ?_; rw [hq]; rintro _ w1 ⟨rfl, rfl⟩) | (at_builtin; refine wpList_push rfl (.tmp 36) (.tmp 38) 22 rfl ((w.alloc (.cells #[.int .i64 t.W, .int .i64 t.H, .slice (some ⟨g0, o0, none⟩) t.n t.c] 30))).heap.size 3 (.int .i64 0) 1 8 Try.underlying22 info_int' rfl (by omega) A' i c' _ [.int .i64 st] 3 rfl hown (by first | rfl | exact slice_at (by simp)) rfl (oneCell_int _) (by omega) (by omega) hB2.size ?_; intro A'' c'' w3 hown2 hb3 hg3))
          go_roundw
          case rel => exact ⟨i + 1, by omega, by go_num, ⟨_, _, rfl, by rw [hN.out, if_pos (by simp), ← ints_snoc]; exact hown2⟩, hB2.trans hb3⟩
          case measure => simp [intOf]; omega
      · have hs : srcF t so i = false := by unfold srcF; rw [hbx]; simp [hxp]
        rw [hs] at hN
        clear hbx hx
        go_wp2_with (at_builtin; refine wpList_push rfl (.tmp 40) (.tmp 41) 22 rfl ((w.alloc (.cells #[.int .i64 t.W, .int .i64 t.H, .slice (some ⟨g0, o0, none⟩) t.n t.c] 30))).heap.size 3 (.int .i64 0) 1 8 Try.underlying22 info_int' rfl (by omega) A' i c' _ [.int .i64 (-1)] 3 rfl hown (by first | rfl | exact slice_at (by simp)) rfl (oneCell_int _) (by omega) (by omega) hB2.size ?_; intro A'' c'' w3 hown2 hb3 hg3)
        go_roundw
        case rel => exact ⟨i + 1, by omega, by go_num, ⟨_, _, rfl, by rw [hN.out, if_neg (by simp), ← ints_snoc]; exact hown2⟩, hB2.trans hb3⟩
        case measure => simp [intOf]; omega
    · have e : i = t.n := by omega
      subst e
      obtain ⟨g, rfl, hgl, hgh⟩ := own_form hown (by omega)
      have hi1 : ¬ (t.n : Int) < (t.n : Int) := by omega
      go_wp2_with fail
      have hs1 : S1 ((w.alloc (.cells #[.int .i64 t.W, .int .i64 t.H, .slice (some ⟨g0, o0, none⟩) t.n t.c] 30))) g t.n c' (initL t so st t.n) wr := ⟨hown, hB2⟩
      have hini : Hid (∀ v, v < t.n → gI (initL t so st t.n) v = if srcF t so v then st else -1) := fun v hv => initL_get hv
      have hL0 : Hid (Loose t.n 100000 st.toNat (edgeF t) (costF t ps) (srcF t so) (stF (initL t so st t.n))) := loose_congr (loose_start (by omega)) (st_start hst hini.out)
      have hbd0 : Hid (BdR st t.n (initL t so st t.n)) := fun v hv => by
        rw [hini.out v hv]
        split <;> omega
      obtain ⟨s0, hs0⟩ : ∃ s0, initL t so st t.n = s0 := ⟨_, rfl⟩
      rw [hs0] at hs1 hL0 hbd0
      clear hs0 hini hown hB2 hi1 hi' hlt hgl hgh k0 k1 k2
      go_loopw [11] (fun ag wr => ∃ s, S1 ((w.alloc (.cells #[.int .i64 t.W, .int .i64 t.H, .slice (some ⟨g0, o0, none⟩) t.n t.c] 30))) g t.n c' s wr ∧ Hid (Loose t.n 100000 st.toNat (edgeF t) (costF t ps) (srcF t so) (stF s)) ∧ Hid (BdR st t.n s) ∧ (ag = .bool true ∨ (ag = .bool false ∧ FixTo t ps s t.n))) (fun ag wr => msrT g t.n wr + flagN ag)
      case atStart => exact ⟨s0, hs1, hL0, hbd0, Or.inl rfl⟩
      case round =>
        clear hs1 hL0 hbd0
        obtain ⟨sK, hsK, hlo, hbd, hag⟩ := hrel
        rcases hag with rfl | ⟨rfl, hfix⟩
        · have hMs := hid (msrT_eq hsK)
          obtain ⟨wo, rfl⟩ : ∃ wo : World, wo = wr := ⟨_, rfl⟩
          go_wp2_with fail
          go_loopw [11, 12] (fun ag v wr => ∃ (a : Nat) (s : List Int), a ≤ t.n ∧ v = .int .i64 a ∧ S1 ((w.alloc (.cells #[.int .i64 t.W, .int .i64 t.H, .slice (some ⟨g0, o0, none⟩) t.n t.c] 30))) g t.n c' s wr ∧ Hid (Loose t.n 100000 st.toNat (edgeF t) (costF t ps) (srcF t so) (stF s)) ∧ Hid (BdR st t.n s) ∧ FlagS t ps ag s sK a True) (fun _ v _ => t.n - (intOf v).toNat)
          case atStart => exact ⟨0, sK, by omega, rfl, hsK, hlo, hbd, Or.inr ⟨rfl, rfl, (fun a' b h => absurd h (by omega)), trivial⟩⟩
          case round =>
            clear hsK hlo hbd
            obtain ⟨a, s, ha', rfl, hsa, hlo, hbd, hfl⟩ := hrel
            by_cases hlt : a < t.n
            · have ha0 : (0 : Int) ≤ (a : Int) := by omega
              have ha1 : (a : Int) < (t.n : Int) := by omega
              have c0 := hsa.at_ hlt
              have hba := hbd.out a hlt
              obtain ⟨k0, k1, k2⟩ := box_atA hsa.bel
              by_cases hun : gI s a = -1
              · rw [hun] at c0
                have hdead : ¬ stF s a < 100000 := by unfold stF valT; rw [hun]; simp
                have hnx : Hid (∀ ag, FlagS t ps ag s sK a True → FlagS t ps ag s sK (a + 1) True) := fun ag h => by
                  rcases h with ⟨h1, h2⟩ | ⟨h1, h2, h3, _⟩
                  · exact Or.inl ⟨h1, h2⟩
                  · exact Or.inr ⟨h1, h2, h3.next (fun b _ _ h => absurd h (by rw [← h2]; exact hdead)), trivial⟩
                go_wp2_with fail
                go_roundw
                case rel => exact ⟨a + 1, s, by omega, by go_num, hsa, hlo, hbd, hnx.out _ hfl⟩
                case measure => simp [intOf]; omega
              · have hgl := (hsa.own.lt g rfl).2
                have hy0 : Hid (0 ≤ gI s a) := by show _ ≤ _; omega
                obtain ⟨y, hy⟩ : ∃ y, gI s a = y := ⟨_, rfl⟩
                rw [hy] at hun c0
                clear hy hba
                go_wp2_with (go_at_call 90; refine (l2NearA hA.out hg ⟨ha0, ha1⟩).mono ?_; rintro _ w1 ⟨A2, k3, c2, rfl, hO, hB1⟩)
                replace hsa := hsa.keep hB1
                clear k0 k1 k2 c0 hun
                obtain ⟨L, hL⟩ : ∃ L, nearL t a = L := ⟨_, rfl⟩
                have hLm : Hid (∀ x ∈ L, ∃ i : Nat, x = i ∧ i < t.n ∧ nearB t a i = true) := by
                  show ∀ x ∈ L, _
                  rw [← hL]
                  exact fun x hx => cellsL_mem.1 hx
                have hLa : Hid (∀ b, b < t.n → edgeF t a b = true → (L.any fun x => x == (b : Int)) = true) := by
                  show ∀ b, _
                  rw [← hL]
                  intro b hb he
                  simp only [edgeF, Bool.and_eq_true] at he
                  exact List.any_eq_true.2 ⟨b, cellsL_mem.2 ⟨b, rfl, hb, he.1⟩, by simp⟩
                have hLl : L.length ≤ 25 := by
                  rw [← hL]
                  have := cellsL_len t.n (nearB t a)
                  unfold nearL
                  omega
                rw [hL] at hO
                clear hL
                obtain ⟨L0, hL0⟩ : ∃ L0, wr.heap.size = L0 := ⟨_, rfl⟩
                obtain ⟨H0, hH0⟩ : ∃ H0, w1.heap.size = H0 := ⟨_, rfl⟩
                rw [hL0] at hgl
                rw [hL0, hH0] at hO
                clear hL0 hH0 hB1
                go_loopw [11, 14] (fun ag v wr => ∃ (q : Nat) (s : List Int), q ≤ k3 ∧ v = .int .i64 q ∧ S1 ((w.alloc (.cells #[.int .i64 t.W, .int .i64 t.H, .slice (some ⟨g0, o0, none⟩) t.n t.c] 30))) g t.n c' s wr ∧ Hid (Loose t.n 100000 st.toNat (edgeF t) (costF t ps) (srcF t so) (stF s)) ∧ Hid (BdR st t.n s) ∧ Hid (0 ≤ gI s a) ∧ Own L0 H0 wr 3 1 A2 k3 c2 (ints L) ∧ FlagS t ps ag s sK a (FixAt t ps sK a (L.take q))) (fun _ v _ => k3 - (intOf v).toNat)
                case atStart => exact ⟨0, s, by omega, rfl, hsa, hlo, hbd, hy0, hO, hfl.elim Or.inl (fun h => Or.inr ⟨h.1, h.2.1, h.2.2.1, fun b _ _ h => by simp at h⟩)⟩
                case round =>
                  clear hsa hlo hbd hy0 hfl hO
                  obtain ⟨q, s, hq', rfl, hsa, hlo, hbd, hy0, hO, hfl⟩ := hrel
                  have hlk : L.length = k3 := by have := hO.own.1; rw [ints_len] at this; omega
                  by_cases hlt2 : q < k3
                  · obtain ⟨x, hx⟩ : ∃ x, L[q]? = some x := get_of_lt (by omega)
                    obtain ⟨b, o, rfl, hb, c0⟩ := hO.sl.int_at hx
                    obtain ⟨cn, rfl, hcn, hnr⟩ := hLm.out x (List.mem_of_getElem? hx)
                    have hP := hid (fun b => take_any hx (b := b))
                    clear hx
                    have hi0 : (0 : Int) ≤ (q : Int) := by omega
                    have hi1 : (q : Int) < (k3 : Int) := by omega
                    have hc0 : (0 : Int) ≤ (cn : Int) := by omega
                    have hc1 : (cn : Int) < (t.n : Int) := by omega
                    obtain ⟨k0, k1, k2⟩ := box_atA hsa.bel
                    obtain ⟨bx, hgz, hbx, hb0, hb1, cb⟩ := (hTz.bel hsa.bel).atA hA.out hg hcn
                    have hbb : burnsB t (cn : Int) = decide (0 < bx) := by rw [burnsB, hbx]
                    have keep : Hid (∀ ag, (edgeF t a cn = true → stF s cn ≤ costF t ps a cn (stF s a)) → FlagS t ps ag s sK a (FixAt t ps sK a (L.take q)) → FlagS t ps ag s sK a (FixAt t ps sK a (L.take (q + 1)))) := fun ag hc h => by
                      rcases h with h | ⟨h1, h2, h3, h4⟩
                      · exact Or.inl h
                      · refine Or.inr ⟨h1, h2, h3, fun b hb he h => ?_⟩
                        rcases hP.out b h with h5 | h5
                        · exact h4 b hb he h5
                        · rw [h5] at he ⊢
                          rw [← h2]; exact hc he
                    by_cases hbz : bx = 0
                    · subst hbz
                      have hk2 := hid (fun ag => keep.out ag (fun he => by simp [edgeF, hbb] at he))
                      clear keep hbb hbx
                      go_wp2_with fail
                      go_roundw
                      case rel => exact ⟨q + 1, s, by omega, by go_num, hsa, hlo, hbd, hy0, hO, hk2.out _ hfl⟩
                      case measure => simp [intOf]; omega
                    · have hed : edgeF t a cn = true := by
                        simp only [edgeF, hnr, hbb, Bool.true_and, decide_eq_true_eq]; omega
                      have hbc := hbd.out cn hcn
                      have hbu := hbd.out a hlt
                      obtain ⟨y, hy⟩ : ∃ y, gI s a = y := ⟨_, rfl⟩
                      obtain ⟨z, hz⟩ : ∃ z, gI s cn = z := ⟨_, rfl⟩
                      obtain ⟨Wk, hWk⟩ : ∃ Wk, workF t (a : Int) (cn : Int) = Wk := ⟨_, rfl⟩
                      obtain ⟨X, hX⟩ : ∃ X, doneF (speedF ps) y Wk = X := ⟨_, rfl⟩
                      have hy1 := hy0.out
                      have hr9 := rch_le s
                      rw [hsa.len] at hr9
                      rw [hy] at hy1 hbu
                      rw [hz] at hbc
                      have hwb := work_bd hg (a : Int) (cn : Int)
                      rw [hWk] at hwb
                      have hXb := cost_bd hg hp hy1 (a : Int) (cn : Int)
                      rw [hWk, hX] at hXb
                      have hy6 : y ≤ 6000 := by omega
                      have hsy : stF s a = y.toNat := by
                        unfold stF valT
                        rw [hy, if_neg (by omega)]
                      have hcs : costF t ps a cn (stF s a) = X.toNat := by
                        unfold costF
                        rw [hsy, show ((y.toNat : Nat) : Int) = y by omega, hWk, hX]
                      have hup : Hid (z = -1 ∨ X < z → Loose t.n 100000 st.toNat (edgeF t) (costF t ps) (srcF t so) (stF (s.set cn X)) ∧ BdR st t.n (s.set cn X) ∧ 0 ≤ gI (s.set cn X) a ∧ totT t.n (s.set cn X) < totT t.n s) := fun h => by
                        have e : s.set cn X = relD s cn X := by unfold relD; rw [hz, if_pos h]
                        refine ⟨?_, hbd.out.store hsa.len hcn (by omega) (by rw [hz]; exact h), ?_, tot_set hsa.len hcn (by omega) (by rw [hz]; exact h)⟩
                        · rw [e, relD_st (by rw [hsa.len]; exact hcn) (by omega) (by rw [hz]; exact hbc.1), ← hcs]
                          exact hlo.out.relax (edges_ok hg hp) hlt hcn hed (by rw [hsy]; omega)
                        · rw [gI_set (by rw [hsa.len]; exact hcn)]
                          split
                          · omega
                          · rw [hy]; exact hy1
                      have hst2 : Hid (¬ (z = -1 ∨ X < z) → stF s cn ≤ costF t ps a cn (stF s a)) := fun h => by
                        rw [hcs]
                        unfold stF valT
                        rw [hz, if_neg (by omega)]
                        omega
                      have hflt : Hid (∀ ag, totT t.n (s.set cn X) < totT t.n s → FlagS t ps ag s sK a (FixAt t ps sK a (L.take q)) → FlagS t ps (.bool true) (s.set cn X) sK a (FixAt t ps sK a (L.take (q + 1)))) := fun ag h1 h => by
                        rcases h with ⟨_, h⟩ | ⟨_, h, _⟩
                        · exact Or.inl ⟨rfl, by omega⟩
                        · exact Or.inl ⟨rfl, by rw [← h]; exact h1⟩
                      have e0 := hsa.at_ hlt
                      rw [hy] at e0
                      have hgl2 := (hsa.own.lt g rfl).2
                      have hB2 := bel_refl wr
                      have hTw := hTz.bel hsa.bel
                      have hSw := hSz.bel hsa.bel
                      have hgw : w.heap.size < wr.heap.size := by have := hsa.bel.size; simp at this; omega
                      clear hsy hcs hbb hbx hed hr9 hbu
                      replace hX := hid hX
                      replace hWk := hid hWk
                      replace hy := hid hy
                      replace hz := hid hz
                      go_wp2_with fail
                      (refine wp_region_bel (by kernel_rfl) (by kernel_rfl) ?_; have hD := bel_cells hB2; (repeat (go_big_quiet_step (((first | (go_at_call 91; exact calls_bel (l4DoneX hX.out (hSw.bel (Bel.prop _)) hn.out hp ⟨hy1, hy6⟩ hwb)) | (go_at_call 92; exact calls_bel (l4WorkX hA.out hWk.out (hTw.bel (Bel.prop _)) hg ⟨ha0, ha1⟩ ⟨hc0, hc1⟩))))))); refine wpQuiet_nil ?_; intro w1 hB1; replace hB2 := bel_trans hB2 hB1; obtain ⟨hC1, hF1⟩ := bcell hB2; clear hD; replace hB1 := hB1)
                      replace hsa := hsa.keep hB2
                      replace hO := hO.bel hB2
                      have f0 := hsa.at_ hcn
                      rw [hz.out] at f0
                      have hfz := own_fz hsa.own cn
                      clear hC1 hF1 e0 hTw hSw hB1 hB2 k0 k1 k2 cb c0
                      by_cases hz1 : z = -1
                      · obtain ⟨u1, u2, u3, u4⟩ := hup.out (Or.inl hz1)
                        replace u1 := hid u1
                        replace u2 := hid u2
                        replace u3 := hid u3
                        replace u4 := hid u4
                        subst hz1
                        go_wp2_with fail
                        go_roundw
                        case rel => exact ⟨q + 1, _, by omega, by go_num, hsa.set cn X, u1, u2, u3, hsa.own_ hO hgl cn X, hflt.out _ u4.out hfl⟩
                        case measure => simp [intOf]; omega
                      · by_cases hxz : X < z
                        · obtain ⟨u1, u2, u3, u4⟩ := hup.out (Or.inr hxz)
                          replace u1 := hid u1
                          replace u2 := hid u2
                          replace u3 := hid u3
                          replace u4 := hid u4
                          go_wp2_with fail
                          go_roundw
                          case rel => exact ⟨q + 1, _, by omega, by go_num, hsa.set cn X, u1, u2, u3, hsa.own_ hO hgl cn X, hflt.out _ u4.out hfl⟩
                          case measure => simp [intOf]; omega
                        · have hr := hid (hst2.out (by omega))
                          go_wp2_with fail
                          go_roundw
                          case rel => exact ⟨q + 1, s, by omega, by go_num, hsa, hlo, hbd, hy0, hO, keep.out _ (fun _ => hr.out) hfl⟩
                          case measure => simp [intOf]; omega
                  · have hi1 : ¬ (q : Int) < (k3 : Int) := by omega
                    have hend : Hid (∀ ag, FlagS t ps ag s sK a (FixAt t ps sK a (L.take q)) → FlagS t ps ag s sK (a + 1) True) := fun ag h => by
                      rcases h with h | ⟨h1, h2, h3, h4⟩
                      · exact Or.inl h
                      · rw [List.take_of_length_le (by omega)] at h4
                        exact Or.inr ⟨h1, h2, h3.next (fun b hb he _ => h4 b hb he (hLa.out b hb he)), trivial⟩
                    go_wp2_with fail
                    go_roundw
                    case rel => exact ⟨a + 1, s, by omega, by go_num, hsa, hlo, hbd, hend.out _ hfl⟩
                    case measure => simp [intOf]; omega
            · have hi1 : ¬ (a : Int) < (t.n : Int) := by omega
              have e : a = t.n := by omega
              subst e
              go_wp2_with fail
              go_roundw
              case rel => exact ⟨s, hsa, hlo, hbd, hfl.elim (fun h => Or.inl h.1) (fun h => Or.inr ⟨h.1, by rw [h.2.1]; exact h.2.2.1⟩)⟩
              case measure =>
                rw [hMs.out, msrT_eq hsa]
                rcases hfl with ⟨rfl, h⟩ | ⟨rfl, h, _⟩
                · simp only [flagN]; omega
                · rw [h]; simp [flagN]
        · go_wp2_with fail
          go_ret
          have hr9 := rch_le sK
          rw [hsK.len] at hr9
          refine ⟨_, _, sK, rfl, ⟨hsK.len, fun v hv => ?_, hlo.out.cert fun a b ha hb he h => hfix a b ha hb he h⟩, Own.mk_ (own_low hsK.own (by simp)), (bel_alloc (bel_refl w)).trans (hsK.bel.mono (by simp))⟩
          have := hbd.out v hv
          omega
end Go.Proofs.Ytdfjfopbhlbmkaa
