/-
  Marks on terrains and scenarios: what they write stays in the blocks of the copy; walked.
-/
import Derived.Test.YtdfjfopbhlbmkaaBlzData
import Derived.Test.YtdfjfopbhlbmkaaMemSS
namespace Go.Proofs.Ytdfjfopbhlbmkaa
open Go.RowKit

theorem grown_bel_in {lo hi : Nat} {w w' : World} (hb : Below w.heap.size w w') : GrownIn lo hi w w' := ⟨hb.os, hb.tape, hb.output, hb.size, fun k hk _ => hb.block k hk⟩
theorem markTerrain (W H : Int) (A : Option Addr) (n c lo hi : Nat) (k0 : Int) (L : List Value) (w : World) (h : Own lo hi w 3 1 A n c L) (hn : n ≤ 1048576) (h0 : 0 ≤ k0) (h1 : k0 ≤ 1073741824) :
    Calls Try.prog 27 #[.agg #[.int .i64 W, .int .i64 H, .slice A n c], .int .i64 k0] w fun e w' => e = .returned (.int .i64 (k0 + n)) ∧ GrownIn lo hi w w' := by
  have hg0 : GrownIn lo hi w (w.alloc (.cells #[.int .i64 W, .int .i64 H, .slice A n c] 30)) := grown_bel_in (bel_alloc (bel_refl w))
  go_enter Try.func27, Try.ntmps27
  go_wp2_with (go_at_call 29; refine (markIntS A n c lo hi k0 L _ (h.bel (bel_alloc (bel_refl w))) hn h0 h1).mono ?_; rintro _ w1 ⟨rfl, hO, hg⟩)
  go_ret
  exact ⟨rfl, hg0.trans (GrownIn.of hg h.ob)⟩
/-- Rows with the headers of xs, whatever they hold. -/
structure Rows1 (lo hi : Nat) (w : World) (A : Option Addr) (n c : Nat) (xs : List Scen) : Prop where
  out : ∃ zs : List Scen, Own lo hi w 57 2 A n c (zs.flatMap Scen.row) ∧ ∀ (i : Nat) (x : Scen), xs[i]? = some x → ∃ z : Scen, zs[i]? = some z ∧ z.A = x.A ∧ z.n = x.n ∧ z.c = x.c
  row : ∀ (i : Nat) (x : Scen), xs[i]? = some x → ∃ L, Own lo hi w 88 2 x.A x.n x.c L
  apart : ∀ (i j : Nat) (x y : Scen) (g : Nat), xs[i]? = some x → xs[j]? = some y → (Value.slice x.A x.n x.c).ownBlock = some g → (Value.slice y.A y.n y.c).ownBlock = some g → i = j
theorem OwnSc.rows {lo hi : Nat} {w : World} {A : Option Addr} {n c : Nat} {xs : List Scen} (h : OwnSc lo hi w A n c xs) : Rows1 lo hi w A n c xs :=
  ⟨⟨xs, h.out, fun _ x hx => ⟨x, hx, rfl, rfl, rfl⟩⟩, fun i x hx => ⟨_, h.row i x hx⟩, h.apart⟩
theorem scen_phase : (57 : TypeId) ≠ 88 := by decide
theorem Rows1.mark {lo hi : Nat} {w w' : World} {A : Option Addr} {n c : Nat} {xs : List Scen} (h : Rows1 lo hi w A n c xs) {i : Nat} {x : Scen} (hx : xs[i]? = some x) {L : List Value} (ho : Own lo hi w' 88 2 x.A x.n x.c L) (hg : w.grownBy w' (Value.slice x.A x.n x.c).ownBlock) : Rows1 lo hi w' A n c xs := by
  obtain ⟨zs, hz, hh⟩ := h.out
  refine ⟨⟨zs, ⟨hz.own.kept hg ?_, hz.up⟩, hh⟩, fun j y hy => ?_, h.apart⟩
  · rcases hb : (Value.slice A n c).ownBlock with _ | g
    · exact Or.inl rfl
    · obtain ⟨L0, h0⟩ := h.row i x hx
      exact Or.inr fun e1 => scen_phase (own_type hz.own h0.own hb e1.symm)
  · by_cases e : j = i
    · subst e
      rw [hx] at hy
      simp only [Option.some.injEq] at hy
      subst hy
      exact ⟨L, ho⟩
    · obtain ⟨L1, h1⟩ := h.row j y hy
      refine ⟨L1, h1.own.kept hg ?_, h1.up⟩
      rcases hb : (Value.slice y.A y.n y.c).ownBlock with _ | g
      · exact Or.inl rfl
      · exact Or.inr fun e1 => e (h.apart j i y x g hy hx hb e1.symm)
/-! ### the sum of all sizes -/
def szN (xs : List Scen) (i : Nat) : Nat := ((xs.take i).map Scen.n).sum
theorem szN_next {xs : List Scen} {i : Nat} {x : Scen} (hx : xs[i]? = some x) : szN xs (i + 1) = szN xs i + x.n := by
  unfold szN
  rw [List.take_add_one, hx]
  simp
theorem szN_le (xs : List Scen) : ∀ {i : Nat} (j : Nat), szN xs i ≤ szN xs (i + j)
  | _, 0 => Nat.le_refl _
  | i, j + 1 => by
    have ih := szN_le xs (i := i) j
    rcases hx : xs[i + j]? with _ | x
    · have e : szN xs (i + j + 1) = szN xs (i + j) := by unfold szN; rw [List.take_add_one, hx]; simp
      rw [← Nat.add_assoc, e]; exact ih
    · rw [← Nat.add_assoc, szN_next hx]; omega
theorem szN_at {xs : List Scen} {i n : Nat} {x : Scen} (hx : xs[i]? = some x) (hn : i < n) : x.n ≤ szN xs n := by
  have h1 := szN_next hx
  have h2 := szN_le xs (i := i + 1) (n - (i + 1))
  rw [show i + 1 + (n - (i + 1)) = n by omega] at h2
  omega
set_option maxHeartbeats 1000000 in
theorem szScenarioSS (A : Option Addr) (n c : Nat) (xs : List Scen) (l0 : Int) (w : World) (h00 : 0 ≤ l0) (h01 : l0 ≤ 1048576) (hS : Sl w 2 A n c (xs.flatMap Scen.row)) (hO : ScOk w xs) :
    Calls Try.prog 12 #[.slice A n c, .int .i64 l0] w fun e w' => ∃ r : Int, e = .returned (.int .i64 r) ∧ (r < 0 ∨ n + szN xs n ≤ 1048576) ∧ Below w.heap.size w w' := by
  have hlh := hid (hS.xs_len Scen.row_len (by omega))
  have hmx := Nat.le_trans hS.cap hS.max
  unfold maxLen at hmx
  have hB2 := bel_refl w
  by_cases hnl : (n : Int) ≤ l0
  · have hn : n ≤ 1048576 := by omega
    go_enter Try.func12, Try.ntmps12
    go_wp2_with fail
    go_loopw [1, 5] (fun l v wr => ∃ i : Nat, i ≤ n ∧ v = .int .i64 i ∧ (∃ q : Int, l = .int .i64 q ∧ 0 ≤ q ∧ q ≤ 1048576 ∧ Hid (q = l0 - n - (szN xs i : Int))) ∧ Below w.heap.size w wr) (fun _ v _ => n - (intOf v).toNat)
    case atStart => exact ⟨0, by omega, rfl, ⟨l0 - n, by go_num, by omega, by omega, by show _ = _; simp [szN]⟩, by (repeat' (first | (with_reducible exact bel_refl _) | (with_reducible assumption) | (with_reducible refine bel_drew ?_) | (with_reducible refine bel_drewN ?_) | (with_reducible refine bel_alloc ?_) | (with_reducible refine bel_set ?_ ?_) | (with_reducible refine bel_trans ?_ (by with_reducible assumption)) | omega | (simp; done) | (simp; omega)))⟩
    case round =>
      obtain ⟨i, hi', rfl, ⟨q, rfl, hq0, hq1, hqe⟩, hB⟩ := hrel
      by_cases hlt : i < n
      · obtain ⟨x, hx⟩ : ∃ x, xs[i]? = some x := get_of_lt (by rw [hlh.out]; exact hlt)
        obtain ⟨b, o, rfl, hb', c0, c1⟩ := (hS.bel hB).scen hx
        have hX := hid (szN_next hx)
        have hcm := Nat.le_trans (hO i x hx).cap (hO i x hx).max
        clear hx
        have hi0 : (0 : Int) ≤ (i : Int) := by omega
        have hi1 : (i : Int) < (n : Int) := by omega
        go_wp2_with (go_at_call 40; refine (szScenario x _ _ hq0 hq1 hcm).mono ?_; rintro _ w1 ⟨r, rfl, hr, hB1⟩)
        · go_ret
          exact ⟨-1, rfl, Or.inl (by omega), by (repeat' (first | (with_reducible exact bel_refl _) | (with_reducible assumption) | (with_reducible refine bel_drew ?_) | (with_reducible refine bel_drewN ?_) | (with_reducible refine bel_alloc ?_) | (with_reducible refine bel_set ?_ ?_) | (with_reducible refine bel_trans ?_ (by with_reducible assumption)) | omega | (simp; done) | (simp; omega)))⟩
        · have hr1 : r = q - x.n ∧ (x.n : Int) ≤ q := by omega
          go_roundw
          case rel => exact ⟨i + 1, by omega, by go_num, ⟨_, rfl, by omega, by omega, by show _ = _; rw [hX.out]; have := hqe.out; push_cast; omega⟩, by (repeat' (first | (with_reducible exact bel_refl _) | (with_reducible assumption) | (with_reducible refine bel_drew ?_) | (with_reducible refine bel_drewN ?_) | (with_reducible refine bel_alloc ?_) | (with_reducible refine bel_set ?_ ?_) | (with_reducible refine bel_trans ?_ (by with_reducible assumption)) | omega | (simp; done) | (simp; omega)))⟩
          case measure => simp [intOf]; omega
      · have e : i = n := by omega
        go_wp2
        go_ret
        exact ⟨_, rfl, Or.inr (by have := hqe.out; rw [e] at this; omega), by (repeat' (first | (with_reducible exact bel_refl _) | (with_reducible assumption) | (with_reducible refine bel_drew ?_) | (with_reducible refine bel_drewN ?_) | (with_reducible refine bel_alloc ?_) | (with_reducible refine bel_set ?_ ?_) | (with_reducible refine bel_trans ?_ (by with_reducible assumption)) | omega | (simp; done) | (simp; omega)))⟩
  · go_enter Try.func12, Try.ntmps12
    go_wp2
    go_ret
    exact ⟨-1, rfl, Or.inl (by omega), by (repeat' (first | (with_reducible exact bel_refl _) | (with_reducible assumption) | (with_reducible refine bel_drew ?_) | (with_reducible refine bel_drewN ?_) | (with_reducible refine bel_alloc ?_) | (with_reducible refine bel_set ?_ ?_) | (with_reducible refine bel_trans ?_ (by with_reducible assumption)) | omega | (simp; done) | (simp; omega)))⟩
/-! ### marks on scenarios -/
theorem flat_setW : ∀ {zs : List Scen} {i : Nat} {z : Scen} (v : Int), zs[i]? = some z → (zs.flatMap Scen.row).set (i * 2 + 1) (.int .i64 v) = (zs.set i ⟨z.A, z.n, z.c, z.ps, v⟩).flatMap Scen.row
  | [], i, z, v, h => by simp at h
  | y :: ys, 0, z, v, h => by
    simp only [List.getElem?_cons_zero, Option.some.injEq] at h
    subst h
    simp [Scen.row]
  | y :: ys, i + 1, z, v, h => by
    have ih := flat_setW (zs := ys) (i := i) v (by simpa using h)
    have hl : (Scen.row y).length = 2 := rfl
    rw [List.flatMap_cons, List.set_append_right _ _ (by omega), List.set_cons_succ, List.flatMap_cons, ← ih, hl, show (i + 1) * 2 + 1 - 2 = i * 2 + 1 by omega]
theorem Rows1.weight {lo hi : Nat} {w : World} {g n c : Nat} {xs : List Scen} (h : Rows1 lo hi w (some ⟨g, 0, none⟩) n c xs) {i : Nat} {x : Scen} (hx : xs[i]? = some x) (v : Int) : Rows1 lo hi (w.setCell ⟨g, i * 2 + 1, none⟩ (.int .i64 v)) (some ⟨g, 0, none⟩) n c xs := by
  obtain ⟨zs, hz, hh⟩ := h.out
  obtain ⟨z, hz1, hz2, hz3, hz4⟩ := hh i x hx
  have hs := hz.own.stored (i * 2 + 1) (.int .i64 v)
  rw [flat_setW v hz1] at hs
  refine ⟨⟨_, ⟨hs.1, hz.up⟩, fun j y hy => ?_⟩, fun j y hy => ?_, h.apart⟩
  · obtain ⟨u, hu1, hu2⟩ := hh j y hy
    by_cases e : i = j
    · subst e
      rw [hx] at hy
      simp only [Option.some.injEq] at hy
      subst hy
      exact ⟨⟨z.A, z.n, z.c, z.ps, v⟩, List.getElem?_set_self (List.getElem?_eq_some_iff.1 hz1).1, hz2, hz3, hz4⟩
    · exact ⟨u, by rw [List.getElem?_set_ne e]; exact hu1, hu2⟩
  · obtain ⟨L1, h1⟩ := h.row j y hy
    refine ⟨L1, h1.own.kept hs.2 ?_, h1.up⟩
    rcases hb : (Value.slice y.A y.n y.c).ownBlock with _ | g'
    · exact Or.inl rfl
    · exact Or.inr fun e1 => scen_phase (own_type hz.own h1.own (g := g) rfl (by rw [hb, e1]))
set_option maxHeartbeats 2000000 in
theorem markScenarioS (A : Option Addr) (n c lo hi : Nat) (k0 : Int) (xs : List Scen) (w : World) (h : Rows1 lo hi w A n c xs) (hn : n + szN xs n ≤ 1048576) (hl : xs.length = n) (h0 : 0 ≤ k0) (h1 : k0 ≤ 268435456) :
    Calls Try.prog 28 #[.slice A n c, .int .i64 k0] w fun e w' => e = .returned (.int .i64 (k0 + 2 * (szN xs n : Int) + n)) ∧ GrownIn lo hi w w' := by
  have hlh := hid hl
  replace hl := hid hl
  go_enter Try.func28, Try.ntmps28
  go_wp2
  go_loopw [1, 5] (fun q v wr => ∃ i : Nat, i ≤ n ∧ v = .int .i64 i ∧ q = .int .i64 (k0 + 2 * (szN xs i : Int) + i) ∧ Rows1 lo hi wr A n c xs ∧ GrownIn lo hi w wr) (fun _ v _ => n - (intOf v).toNat)
  case atStart => exact ⟨0, Nat.zero_le _, rfl, by simp [szN], h, GrownIn.refl _ _ _⟩
  case round =>
    clear h
    obtain ⟨i, hi', rfl, rfl, h, hg⟩ := hrel
    have hsi := szN_le xs (i := i) (n - i)
    rw [show i + (n - i) = n by omega] at hsi
    by_cases hlt : i < n
    · obtain ⟨x, hx⟩ : ∃ x, xs[i]? = some x := get_of_lt (by rw [hlh.out]; exact hlt)
      have hxn := szN_at hx hlt
      have hX := hid (szN_next hx)
      obtain ⟨zs, hz, hh⟩ := h.out
      obtain ⟨z, hz1, hz2, hz3, hz4⟩ := hh i x hx
      obtain ⟨g, rfl, hgl, hgh⟩ := own_form hz.own (by omega)
      obtain ⟨b, o, hbo, hb, c0, c1⟩ := hz.sl.scen hz1
      simp only [Option.some.injEq, Addr.mk.injEq, and_true] at hbo
      obtain ⟨rfl, rfl⟩ := hbo
      rw [Nat.zero_add] at c0 c1
      rw [hz2, hz3, hz4] at c0
      have hfz := own_fz hz.own (i * 2 + 1)
      obtain ⟨L, hL⟩ := h.row i x hx
      obtain ⟨S, hS⟩ : ∃ S, szN xs i = S := ⟨_, rfl⟩
      rw [hS] at hX hsi ⊢
      have hi0 : (0 : Int) ≤ (i : Int) := by omega
      have hi1 : (i : Int) < (n : Int) := by omega
      have hX2 := hid hx
      clear hx hz1 hh
      have hsh := hid h
      clear h
      go_wp2_with (go_at_call 57; refine (markPhaseS x.A x.n x.c lo hi _ L _ hL (by omega) (by omega) (by omega)).mono ?_; rintro _ w2 ⟨rfl, hO2, hg2⟩; have h2 := hsh.out.mark hX2.out hO2 hg2; have hgi := GrownIn.of hg2 hL.ob; obtain ⟨zs2, hz9, -⟩ := h2.out; have hfz2 := own_fz hz9.own (i * 2 + 1); obtain ⟨u9, d9⟩ := own_at hz9.own (j := i * 2 + 1) (by omega))
      go_roundw
      case rel => exact ⟨i + 1, by omega, by go_num, by rw [hX.out]; congr 1; push_cast; omega, h2.weight hX2.out _, (hg.trans hgi).trans (GrownIn.of (grown_set (World.grownBy.refl _ _) _) (fun q hq => by simp only [Option.some.injEq] at hq; have := hz.ob g rfl; omega))⟩
      case measure => simp [intOf]; omega
    · go_wp2
      go_ret
      have e : i = n := by omega
      exact ⟨by rw [e]; rfl, hg⟩
end Go.Proofs.Ytdfjfopbhlbmkaa
