/-
  The greatest number of disjoint ways (the program's), walked.
-/
import Derived.Test.YtcdgkiiokplidaaNetMath
import Derived.Test.YtcdgkiiokplidaaNetI
import Derived.Test.YtcdgkiiokplidaaFlowI
namespace Go.Proofs.Ytcdgkiiokplidaa
open Go.RowKit

theorem Mat.grown {lo hi gA N c : Nat} {w w' : World} {LL : List (List Int)} {Vs : List Value} (h : Mat lo hi w gA N c LL Vs) {q : Nat} (hg : w.grownBy w' (some q)) (hq : q < lo ∨ hi ≤ q) : Mat lo hi w' gA N c LL Vs :=
  ⟨h.own.grown hg (fun g e => by simp only [Option.some.injEq] at e; omega), h.len, h.row⟩
theorem burnsP (t : Terr) (a : Int) (b : Bool) (w : World) (h : burnsB t a = b) (hT : TOk w t) (hg : goodT t = true) (ha : 0 ≤ a ∧ a < t.n) :
    Calls Try.prog 31 #[.agg #[.int .i64 t.W, .int .i64 t.H, .slice t.A t.n t.c], .int .i64 a] w fun e w' => e = .returned (.bool b) ∧ Below w.heap.size w w' := by
  rw [← h]; exact burns t a w hT hg ha
theorem hasP (A : Option Addr) (n c : Nat) (xs : List Int) (v : Int) (b : Bool) (w : World) (h : hasB xs v = b) (hS : Sl w 1 A n c (ints xs)) (hn : n ≤ 1048576) :
    Calls Try.prog 29 #[.slice A n c, .int .i64 v] w fun e w' => e = .returned (.bool b) ∧ w = w' := by
  rw [← h]; exact hasI A n c xs v w hS hn
theorem arcI_no {t : Terr} {so ass : List Int} {c x : Int} (h : burnsB t x = false) : arcI t so ass c x = [] := by
  unfold arcI
  rw [h, if_neg (by simp)]
theorem arcI_free {t : Terr} {so ass : List Int} {c x : Int} (h : burnsB t x = true) (h1 : freeB t so ass x = true) : arcI t so ass c x = [(t.n + c.toNat, x.toNat)] := by
  unfold arcI
  rw [if_pos h, if_pos h1]
theorem arcI_so {t : Terr} {so ass : List Int} {c x : Int} (h : burnsB t x = true) (h1 : freeB t so ass x = false) (h2 : hasB so x = true) : arcI t so ass c x = [(2 * t.n, c.toNat)] := by
  unfold arcI
  rw [if_pos h, h1, if_neg (by simp), if_pos h2]
theorem arcI_ass {t : Terr} {so ass : List Int} {c x : Int} (h : burnsB t x = true) (h1 : freeB t so ass x = false) (h2 : hasB so x = false) (h3 : hasB ass x = true) : arcI t so ass c x = [(t.n + c.toNat, 2 * t.n + 1)] := by
  unfold arcI
  rw [if_pos h, h1, if_neg (by simp), h2, if_neg (by simp), if_pos h3]
theorem arcI_none {t : Terr} {so ass : List Int} {c x : Int} (h1 : freeB t so ass x = false) (h2 : hasB so x = false) (h3 : hasB ass x = false) : arcI t so ass c x = [] := by
  unfold arcI
  rw [h1, h2, h3]
  simp
/-- The net is put into its variable. -/
theorem net_put {lo hi lo2 hi2 g8 gA N cN m1 c1 : Nat} {W wy : World} {LL : List (List Int)} {Vs L : List Value} {A1 : Option Addr} {v z : Value} (hM : Mat lo hi wy gA N cN LL Vs) (hO : Own lo2 hi2 wy 3 1 A1 m1 c1 L) (hb : Below W.heap.size W wy) (hz : wy.cell? ⟨g8, 0, none⟩ = some z) (hW : W.heap.size ≤ g8) (h1 : g8 < lo ∨ hi ≤ g8) (h2 : g8 < lo2 ∨ hi2 ≤ g8) (h3 : hi ≤ lo2) (h4 : hi2 ≤ wy.heap.size) :
    (wy.setCell ⟨g8, 0, none⟩ v).cell? ⟨g8, 0, none⟩ = some v ∧ Mat lo hi (wy.setCell ⟨g8, 0, none⟩ v) gA N cN LL Vs ∧ Own hi (wy.setCell ⟨g8, 0, none⟩ v).heap.size (wy.setCell ⟨g8, 0, none⟩ v) 3 1 A1 m1 c1 L ∧ Below W.heap.size W (wy.setCell ⟨g8, 0, none⟩ v) := by
  have hg := gro_cell wy g8 0 v
  exact ⟨World.cell?_setCell_same (v := v) (h := hz), hM.grown hg h1, ((hO.grown hg (fun q hq => by simp only [Option.some.injEq] at hq; omega)).low h3).high (by simpa using h4), bel_set hb hW⟩
def WaysR (es : List (Nat × Nat)) (n : Nat) (w : World) (e : Ending) (w' : World) : Prop := ∃ K : Int, e = .returned (.int .i64 K) ∧ Cert (2 * n + 2) (2 * n) (2 * n + 1) (ones es) K ∧ Below w.heap.size w w'
set_option maxHeartbeats 16000000 in
set_option maxRecDepth 100000 in
theorem waysI (t : Terr) (A B : Option Addr) (n c m d : Nat) (so ass : List Int) (w : World) (hT : TOk w t) (hg : goodT t = true) (hS : Sl w 1 A n c (ints so)) (hn : n ≤ 1048576) (hM : Sl w 1 B m d (ints ass)) (hm : m ≤ 1048576) :
    Calls Try.prog 20 #[.agg #[.int .i64 t.W, .int .i64 t.H, .slice t.A t.n t.c], .slice A n c, .slice B m d] w (WaysR (netI t so ass) t.n w) := by
  obtain ⟨hWb, -, -, htn1, htn, -⟩ := goodT_bd hg
  obtain ⟨W, hW⟩ : ∃ W, w.alloc (.cells #[.int .i64 t.W, .int .i64 t.H, .slice t.A t.n t.c] 28) = W := ⟨_, rfl⟩
  have hbW : Below w.heap.size w W := by rw [← hW]; exact bel_alloc (bel_refl w)
  have k0 : W.cell? ⟨w.heap.size, 0, none⟩ = some (.int .i64 t.W) := by rw [← hW]; simp [go_sem]
  have k1 : W.cell? ⟨w.heap.size, 1, none⟩ = some (.int .i64 t.H) := by rw [← hW]; simp [go_sem]
  have k2 : W.cell? ⟨w.heap.size, 2, none⟩ = some (.slice t.A t.n t.c) := by rw [← hW]; simp [go_sem]
  have hwW : w.heap.size < W.heap.size := by rw [← hW]; simp
  replace hT := hT.bel hbW
  replace hS := hS.bel hbW
  replace hM := hM.bel hbW
  obtain ⟨s2, hs2⟩ : ∃ s2 : Nat, s2 = 2 * t.n := ⟨_, rfl⟩
  obtain ⟨t2, ht2⟩ : ∃ t2 : Nat, t2 = 2 * t.n + 1 := ⟨_, rfl⟩
  obtain ⟨N, hNe⟩ : ∃ N : Nat, N = 2 * t.n + 2 := ⟨_, rfl⟩
  have hs2i : 2 * (t.n : Int) = (s2 : Int) := by omega
  have ht2i : (s2 : Int) + 1 = (t2 : Int) := by omega
  have hNi : (s2 : Int) + 2 = (N : Int) := by omega
  have hN52 : N ≤ 52 := by omega
  have hN52i : (N : Int) ≤ 52 := by omega
  have hs2b : (s2 : Int) ≤ 50 := by omega
  have hs20 : (0 : Int) ≤ (s2 : Int) := by omega
  have ht20 : (0 : Int) ≤ (t2 : Int) := by omega
  have hs2N : (s2 : Int) < (N : Int) := by omega
  have ht2N : (t2 : Int) < (N : Int) := by omega
  have htni : (t.n : Int) ≤ 25 := by omega
  have htn0 : (0 : Int) ≤ (t.n : Int) := by omega
  replace hs2 := hid hs2
  replace ht2 := hid ht2
  replace hNe := hid hNe
  go_enter Try.func20, Try.ntmps20
  go_upto_region 1 with fail
  (try rw [hW])
  clear hW
  go_upto_region 2 with fail
  go_cut [8, 9] (fun u v wx => ∃ (lo hi g8 gA cN : Nat) (Vs : List Value) (A1 : Option Addr) (m1 c1 : Nat), u = .pointer (some ⟨g8, 0, none⟩) ∧ v = .slice A1 m1 c1 ∧ wx.cell? ⟨g8, 0, none⟩ = some (.slice (some ⟨gA, 0, none⟩) N cN) ∧ Mat lo hi wx gA N cN (List.replicate N (List.replicate N 0)) Vs ∧ W.heap.size ≤ lo ∧ hi ≤ wx.heap.size ∧ (g8 < lo ∨ hi ≤ g8) ∧ Own hi wx.heap.size wx 3 1 A1 m1 c1 (ints (freeL t so ass)) ∧ Below W.heap.size W wx)
  case first =>
    have hB2 := bel_refl W
    have hw1 : IntKind.i64.wrap (s2 : Int) = (s2 : Int) := by rw [IntKind.wrap_i64]; omega
    have hw2 : IntKind.i64.wrap (N : Int) = (N : Int) := by rw [IntKind.wrap_i64]; omega
    (refine wp_region_planB (.free 0 (.free 1 (.free 2 (.free 4 (.free 5 (.free 6 (.two 3 (.two 7 (.one 8 (.one 9 (.free 10 (.stop)))) 8 (.one 7 (.one 9 (.free 10 (.stop))))) 8 (.one 3 (.one 7 (.one 9 (.free 10 (.stop)))))))))))) (by kernel_rfl) (by kernel_rfl) ?_; have hD := bel_cells hB2; simp only [Plan.ops, List.getElem?_cons_zero, List.getElem?_cons_succ, Option.getD_some])
    (iterate 6 (refine p_free rfl (by rintro w' ⟨d, rfl⟩; obtain ⟨hDc, hDf⟩ := hD d; (go_simp; first | done | rfl)) ?_; (try simp only [Act.put, List.setIfInBounds_toArray, List.set_cons_zero, List.set_cons_succ])))
    refine p_two ?_ ?_
    · refine p_call rfl (by (go_simp; first | done | exact ⟨rfl, rfl⟩ | rfl)) ?_
      refine (newNetwork N _ (by omega) hN52).mono ?_
      rintro _ w1 ⟨gA, cN, Vs, rfl, hMt, hb1⟩
      have hbA : Below W.heap.size W w1 := bel_trans (bel_drew (bel_refl W)) hb1
      have hsA : W.heap.size ≤ w1.heap.size := hbA.size
      refine ⟨_, rfl, ⟨⟨_, hbA⟩, rfl⟩, ?_⟩; (try simp only [Act.put, List.setIfInBounds_toArray, List.set_cons_zero, List.set_cons_succ])
      refine p_two ?_ ?_
      · refine p_call rfl (by (go_simp; first | done | exact ⟨rfl, rfl⟩ | rfl)) ?_
        refine (freeI t A B n c m d so ass _ (hT.bel hbA) hg (hS.bel hbA) hn (hM.bel hbA) hm).mono ?_
        rintro _ w3 ⟨A1, m1, c1, rfl, hOm, hb3⟩
        have hbB := bel_trans hbA hb3
        have hs3 := hb3.size
        have hMt3 := hMt.bel hb3
        refine ⟨_, rfl, ⟨⟨_, hbB⟩, rfl⟩, ?_⟩; (try simp only [Act.put, List.setIfInBounds_toArray, List.set_cons_zero, List.set_cons_succ])
        refine p_val rfl (by (go_simp; first | done | rfl | exact ⟨rfl, rfl⟩)) ⟨⟨_, bel_alloc hbB⟩, rfl⟩ ?_
        (try simp only [Act.put, List.setIfInBounds_toArray, List.set_cons_zero, List.set_cons_succ])
        refine p_store rfl (by (go_simp; first | done | rfl)) ⟨⟨_, bel_alloc hbB⟩, rfl⟩ ?_
        (try simp only [Act.put])
        (iterate 1 (refine p_free rfl (by rintro w' ⟨d, rfl⟩; obtain ⟨hDc, hDf⟩ := hD d; (go_simp; first | done | rfl)) ?_; (try simp only [Act.put, List.setIfInBounds_toArray, List.set_cons_zero, List.set_cons_succ])))
        refine p_stop ?_
        (try simp only [Act.put, List.setIfInBounds_toArray, List.set_cons_zero, List.set_cons_succ])
        have z0 : (w3.alloc (.cells #[.slice (some ⟨gA, 0, none⟩) N cN] 50)).cell? ⟨w3.heap.size, 0, none⟩ = some (.slice (some ⟨gA, 0, none⟩) N cN) := by simp [go_sem]
        replace z0 := hid z0
        go_wp2_with fail
        go_meet
        exact ⟨_, _, w3.heap.size, gA, cN, Vs, A1, m1, c1, rfl, rfl, z0.out, hMt3.bel (bel_alloc (bel_refl w3)), Nat.le_refl _, by simpa using Nat.le_succ_of_le hs3, .inr hs3, (hOm.bel (bel_alloc (bel_refl w3))).high (by simp), bel_alloc hbB⟩
      · refine p_val rfl (by (go_simp; first | done | rfl | exact ⟨rfl, rfl⟩)) ⟨⟨_, bel_alloc hbA⟩, rfl⟩ ?_
        (try simp only [Act.put, List.setIfInBounds_toArray, List.set_cons_zero, List.set_cons_succ])
        refine p_call rfl (by (go_simp; first | done | exact ⟨rfl, rfl⟩ | rfl)) ?_
        have hbC := bel_alloc (o := .cells #[.slice none 0 0] 50) hbA
        refine (freeI t A B n c m d so ass _ (hT.bel hbC) hg (hS.bel hbC) hn (hM.bel hbC) hm).mono ?_
        rintro _ w3 ⟨A1, m1, c1, rfl, hOm, hb3⟩
        have hbB := bel_trans hbC hb3
        have hs3 : w1.heap.size + 1 ≤ w3.heap.size := by simpa using hb3.size
        have hMt3 := (hMt.bel (bel_alloc (o := .cells #[.slice none 0 0] 50) (bel_refl w1))).bel hb3
        have hz : w3.cell? ⟨w1.heap.size, 0, none⟩ = some (.slice none 0 0) := ((bcell hb3).1 _ 0 (by simp)).trans (by simp [go_sem])
        have hzf : w3.frozen? ⟨w1.heap.size, 0, none⟩ = false := ((bcell hb3).2 _ 0 (by simp)).trans (World.frozen?_alloc_new w1 _ _ _)
        refine ⟨_, rfl, ⟨⟨_, hbB⟩, rfl⟩, ?_⟩; (try simp only [Act.put, List.setIfInBounds_toArray, List.set_cons_zero, List.set_cons_succ])
        refine p_store rfl (by (go_simp; first | done | rfl)) ⟨⟨_, bel_set hbB hsA⟩, rfl⟩ ?_
        (try simp only [Act.put])
        (iterate 1 (refine p_free rfl (by rintro w' ⟨d, rfl⟩; obtain ⟨hDc, hDf⟩ := hD d; (go_simp; first | done | rfl)) ?_; (try simp only [Act.put, List.setIfInBounds_toArray, List.set_cons_zero, List.set_cons_succ])))
        refine p_stop ?_
        (try simp only [Act.put, List.setIfInBounds_toArray, List.set_cons_zero, List.set_cons_succ])
        have hzz := hid (net_put (W := W) (v := .slice (some ⟨gA, 0, none⟩) N cN) hMt3 hOm hbB hz hsA (.inr (Nat.le_refl _)) (.inl (by simp)) (by simp) (Nat.le_refl _))
        go_wp2_with fail
        go_meet
        obtain ⟨z0, z1, z2, z3⟩ := hzz.out
        exact ⟨_, _, w1.heap.size, gA, cN, Vs, A1, m1, c1, rfl, rfl, z0, z1, Nat.le_refl _, by simp; omega, .inr (Nat.le_refl _), z2, z3⟩
    · refine p_val rfl (by (go_simp; first | done | rfl | exact ⟨rfl, rfl⟩)) ⟨⟨_, bel_alloc (bel_drew (bel_refl W))⟩, rfl⟩ ?_
      (try simp only [Act.put, List.setIfInBounds_toArray, List.set_cons_zero, List.set_cons_succ])
      refine p_call rfl (by (go_simp; first | done | exact ⟨rfl, rfl⟩ | rfl)) ?_
      refine (newNetwork N _ (by omega) hN52).mono ?_
      rintro _ w1 ⟨gA, cN, Vs, rfl, hMt, hb1⟩
      have hbA : Below W.heap.size W w1 := bel_trans (bel_alloc (bel_drew (bel_refl W))) hb1
      have hsA : W.heap.size + 1 ≤ w1.heap.size := by simpa using hb1.size
      have hz1 : w1.cell? ⟨W.heap.size, 0, none⟩ = some (.slice none 0 0) := ((bcell hb1).1 _ 0 (by simp)).trans (by simp [go_sem])
      have hzf1 : w1.frozen? ⟨W.heap.size, 0, none⟩ = false := ((bcell hb1).2 _ 0 (by simp)).trans (World.frozen?_alloc_new W.drew _ _ _)
      refine ⟨_, rfl, ⟨⟨_, hbA⟩, rfl⟩, ?_⟩; (try simp only [Act.put, List.setIfInBounds_toArray, List.set_cons_zero, List.set_cons_succ])
      refine p_call rfl (by (go_simp; first | done | exact ⟨rfl, rfl⟩ | rfl)) ?_
      refine (freeI t A B n c m d so ass _ (hT.bel hbA) hg (hS.bel hbA) hn (hM.bel hbA) hm).mono ?_
      rintro _ w3 ⟨A1, m1, c1, rfl, hOm, hb3⟩
      have hbB := bel_trans hbA hb3
      have hs3 := hb3.size
      have hMt3 := hMt.bel hb3
      have hz : w3.cell? ⟨W.heap.size, 0, none⟩ = some (.slice none 0 0) := ((bcell hb3).1 _ 0 (by omega)).trans hz1
      have hzf : w3.frozen? ⟨W.heap.size, 0, none⟩ = false := ((bcell hb3).2 _ 0 (by omega)).trans hzf1
      refine ⟨_, rfl, ⟨⟨_, hbB⟩, rfl⟩, ?_⟩; (try simp only [Act.put, List.setIfInBounds_toArray, List.set_cons_zero, List.set_cons_succ])
      refine p_store rfl (by (go_simp; first | done | rfl)) ⟨⟨_, bel_set hbB (Nat.le_refl _)⟩, rfl⟩ ?_
      (try simp only [Act.put])
      (iterate 1 (refine p_free rfl (by rintro w' ⟨d, rfl⟩; obtain ⟨hDc, hDf⟩ := hD d; (go_simp; first | done | rfl)) ?_; (try simp only [Act.put, List.setIfInBounds_toArray, List.set_cons_zero, List.set_cons_succ])))
      refine p_stop ?_
      (try simp only [Act.put, List.setIfInBounds_toArray, List.set_cons_zero, List.set_cons_succ])
      have hzz := hid (net_put (W := W) (v := .slice (some ⟨gA, 0, none⟩) N cN) hMt3 hOm hbB hz (Nat.le_refl _) (.inl (by simp)) (.inl (by omega)) (Nat.le_refl _) (Nat.le_refl _))
      go_wp2_with fail
      go_meet
      obtain ⟨z0, z1, z2, z3⟩ := hzz.out
      exact ⟨_, _, W.heap.size, gA, cN, Vs, A1, m1, c1, rfl, rfl, z0, z1, by simp, by simpa using hs3, .inl (by simp), z2, z3⟩
  case rest =>
    obtain ⟨lo, hi, g8, gA, cN, Vs, A1, m1, c1, rfl, rfl, x0, hMt, hlo, hhi, hg8, hOm, hbx⟩ := hcut
    obtain ⟨fl, hfl⟩ : ∃ fl, freeL t so ass = fl := ⟨_, rfl⟩
    have hz0 := matF_zero N
    rw [hfl] at hOm
    have hlh := hid hOm.sl.int_len
    have hfx := hid (show ∀ x ∈ fl, ∃ c : Nat, x = c ∧ c < t.n from fun x hx => by
      rw [← hfl] at hx
      obtain ⟨c, h1, h2, -⟩ := free_in hx
      exact ⟨c, h1, h2⟩)
    have hml := hid (show fl.length ≤ 25 by rw [← hfl]; exact Nat.le_trans (cellsL_len _ _) htn)
    replace hfl := hid hfl
    replace hz0 := hid hz0
    go_wp2_with fail
    go_loopw [27] (fun v wr => ∃ (i : Nat) (LL : List (List Int)), i ≤ m1 ∧ v = .int .i64 i ∧ Mat lo hi wr gA N cN LL Vs ∧ Hid (matF LL = ones ((fl.take i).flatMap (arcsI t so ass))) ∧ GrownIn lo hi wc wr) (fun v _ => m1 - (intOf v).toNat)
    case atStart => exact ⟨0, _, by omega, rfl, hMt, hz0, GrownIn.refl _ _ _⟩
    case round =>
      clear hMt
      obtain ⟨i, LL, hi', rfl, hMt, hF, hG⟩ := hrel
      have hm1 : m1 ≤ 25 := by rw [← hlh.out]; exact hml.out
      have hBW := hG.bel hbx hlo
      have hwr := hG.size
      have n0 := grownIn_cell hG x0 hg8
      by_cases hlt : i < m1
      · obtain ⟨x, hx⟩ : ∃ x, fl[i]? = some x := get_of_lt (by rw [hlh.out]; exact hlt)
        obtain ⟨q, rfl, hcn⟩ := hfx.out x (List.mem_of_getElem? hx)
        obtain ⟨b, o, rfl, hb, c0⟩ := (hOm.grownIn hG (.inr (Nat.le_refl _))).sl.int_at hx
        have hX := hid hx
        obtain ⟨on, hon⟩ : ∃ on : Nat, on = t.n + q := ⟨_, rfl⟩
        have honi : (t.n : Int) + (q : Int) = (on : Int) := by omega
        have hqN : q < N := by have := hNe.out; omega
        have honN : on < N := by have := hNe.out; omega
        obtain ⟨hA1, hA2, hA3, ga, d1, hV, hne1, hga1, hga2, hga3, e0, e1, hfz⟩ := hMt.at_ hqN
        have e2 := e1 on honN
        have hq0 : (0 : Int) ≤ (q : Int) := by omega
        have hq1 : (q : Int) < (N : Int) := by omega
        have hq2 : (q : Int) < (t.n : Int) := by omega
        have hon0 : (0 : Int) ≤ (on : Int) := by omega
        have hon1 : (on : Int) < (N : Int) := by omega
        have hi0 : (0 : Int) ≤ (i : Int) := by omega
        have hi1 : (i : Int) < (m1 : Int) := by omega
        replace hon := hid hon
        replace hV := hid hV
        clear hx e1
        go_upto_region 7 with fail
        have hM1 := hMt.put (y := on) hqN hV.out 1
        have hF1 := hid (put_one hMt hF.out hqN honN)
        have hG1 := grownIn_set (o := on) (v := .int .i64 1) hG hga1 hga2
        obtain ⟨w1, hw1⟩ : ∃ w1, wr.setCell ⟨ga, on, none⟩ (.int .i64 1) = w1 := ⟨_, rfl⟩
        obtain ⟨LL1, hLL1⟩ : ∃ LL1, putM LL q on 1 = LL1 := ⟨_, rfl⟩
        obtain ⟨es, hes⟩ : ∃ es, (fl.take i).flatMap (arcsI t so ass) ++ [(q, on)] = es := ⟨_, rfl⟩
        rw [hw1, hLL1] at hM1
        rw [hLL1, hes] at hF1
        rw [hw1] at hG1 ⊢
        replace hes := hid hes
        clear hw1 hLL1 hMt hF hG hBW hwr n0 c0 hA1 hA2 hA3 hV hne1 hga1 hga2 hga3 e0 e2 hfz
        have hBW := hG1.bel hbx hlo
        have hwr := hG1.size
        have k0r := ((bcell hBW).1 _ 0 hwW).trans k0
        have k1r := ((bcell hBW).1 _ 1 hwW).trans k1
        have k2r := ((bcell hBW).1 _ 2 hwW).trans k2
        go_wp2_with fail
        refine (neighbors t (q : Int) _ hg ⟨hq0, hq2⟩).mono ?_
        rintro _ w2 ⟨A2, m2, c2, rfl, hO2, hb2⟩
        obtain ⟨xs, hxs⟩ : ∃ xs, nearL t (q : Int) = xs := ⟨_, rfl⟩
        rw [hxs] at hO2
        have hlh2 := hid hO2.sl.int_len
        have hfx2 := hid (show ∀ x ∈ xs, ∃ k : Nat, x = k ∧ k < t.n from fun x hx => by
          rw [← hxs] at hx
          obtain ⟨k, h1, h2, -⟩ := cellsL_mem.1 hx
          exact ⟨k, h1, h2⟩)
        have hml2 := hid (show xs.length ≤ 25 by rw [← hxs]; exact Nat.le_trans (cellsL_len _ _) htn)
        replace hxs := hid hxs
        have hM2 := hM1.bel hb2
        have hG2 := hG1.trans (grownIn_bel lo hi hb2)
        have hhi2 : hi ≤ w1.heap.size := by omega
        replace hF1 := hid (show matF LL1 = ones (es ++ (xs.take 0).flatMap (arcI t so ass (q : Int))) from by rw [hF1.out]; simp)
        clear k0r k1r k2r hM1 hG1 hBW hwr
        go_wp2_with fail
        go_loopw [44] (fun v wm => ∃ (j : Nat) (LL : List (List Int)), j ≤ m2 ∧ v = .int .i64 j ∧ Mat lo hi wm gA N cN LL Vs ∧ Hid (matF LL = ones (es ++ (xs.take j).flatMap (arcI t so ass (q : Int)))) ∧ GrownIn lo hi w2 wm) (fun v _ => m2 - (intOf v).toNat)
        case atStart => exact ⟨0, _, by omega, rfl, hM2, hF1, GrownIn.refl _ _ _⟩
        case round =>
          clear hM2 hF1
          obtain ⟨j, LL, hj', rfl, hMt, hF, hG⟩ := hrel
          have hm2 : m2 ≤ 25 := by rw [← hlh2.out]; exact hml2.out
          have hGx := hG2.trans hG
          have hBW := hGx.bel hbx hlo
          by_cases hlj : j < m2
          · obtain ⟨x, hx⟩ : ∃ x, xs[j]? = some x := get_of_lt (by rw [hlh2.out]; exact hlj)
            obtain ⟨k, rfl, hkn⟩ := hfx2.out x (List.mem_of_getElem? hx)
            obtain ⟨b3, o3, rfl, hb3', d0⟩ := (hO2.grownIn hG (.inr hhi2)).sl.int_at hx
            have hY := hid hx
            have hj0 : (0 : Int) ≤ (j : Int) := by omega
            have hj1 : (j : Int) < (m2 : Int) := by omega
            have hk0 : (0 : Int) ≤ (k : Int) := by omega
            have hkn1 : (k : Int) < (t.n : Int) := by omega
            have hkN : k < N := by have := hNe.out; omega
            have hkN1 : (k : Int) < (N : Int) := by omega
            have k0r := ((bcell hBW).1 _ 0 hwW).trans k0
            have k1r := ((bcell hBW).1 _ 1 hwW).trans k1
            have k2r := ((bcell hBW).1 _ 2 hwW).trans k2
            clear hx
            rcases hbk : burnsB t (k : Int) with _ | _
            · go_wp2_with fail
              refine (burnsP t (k : Int) false _ hbk (hT.bel hBW) hg ⟨hk0, hkn1⟩).mono ?_
              rintro _ w3 ⟨rfl, hb3⟩
              go_wp2_with fail
              go_roundw
              case rel => exact ⟨j + 1, LL, by omega, by go_num, hMt.bel hb3, hid (none_next hF.out hY.out (arcI_no hbk)), hG.trans (grownIn_bel lo hi hb3)⟩
              case measure => simp [intOf]; omega
            · go_wp2_with fail
              refine (burnsP t (k : Int) true _ hbk (hT.bel hBW) hg ⟨hk0, hkn1⟩).mono ?_
              rintro _ w3 ⟨rfl, hb3⟩
              have hM3 := hMt.bel hb3
              have hG3 := hG.trans (grownIn_bel lo hi hb3)
              replace hGx := hG2.trans hG3
              have hBx := hGx.bel hbx hlo
              have n0 := grownIn_cell hGx x0 hg8
              have hH0 : hasB fl (k : Int) = freeB t so ass (k : Int) := by rw [← hfl.out]; exact has_free ⟨hk0, hkn1⟩
              clear k0r k1r k2r d0 hBW hMt hG hb3
              have hs2N' : s2 < N := by omega
              have ht2N' : t2 < N := by omega
              rcases hH1 : freeB t so ass (k : Int) with _ | _
              · rw [hH1] at hH0
                rcases hH2 : hasB so (k : Int) with _ | _
                · rcases hH3 : hasB ass (k : Int) with _ | _
                  · have hN := hid (none_next hF.out hY.out (arcI_none (c := (q : Int)) hH1 hH2 hH3))
                    clear hH1
                    go_wp2_with fail
                    refine (hasP _ _ _ fl _ _ _ hH0 (hOm.grownIn hGx (.inr (Nat.le_refl _))).sl (by omega)).mono ?_; rintro _ _ ⟨rfl, rfl⟩; go_wp2_with fail
                    refine (hasP _ _ _ so _ _ _ hH2 (hS.bel hBx) hn).mono ?_; rintro _ _ ⟨rfl, rfl⟩; go_wp2_with fail
                    refine (hasP _ _ _ ass _ _ _ hH3 (hM.bel hBx) hm).mono ?_; rintro _ _ ⟨rfl, rfl⟩; go_wp2_with fail
                    go_roundw
                    case rel => exact ⟨j + 1, LL, by omega, by go_num, hM3, hN, hG3⟩
                    case measure => simp [intOf]; omega
                  · have hN := hid (put_next hM3 hF.out hY.out (by rw [arcI_ass (c := (q : Int)) hbk hH1 hH2 hH3, Int.toNat_natCast, ← hon.out, ← ht2.out]) honN ht2N')
                    have hRN := honN
                    have hCN := ht2N'
                    obtain ⟨hA1, hA2, hA3, gb, d2, hV2, hne2, hgb1, hgb2, hgb3, f0, f1, hfz2⟩ := hM3.at_ hRN; have f2 := f1 _ hCN; clear f1; replace hV2 := hid hV2
                    clear hH1
                    go_wp2_with fail
                    refine (hasP _ _ _ fl _ _ _ hH0 (hOm.grownIn hGx (.inr (Nat.le_refl _))).sl (by omega)).mono ?_; rintro _ _ ⟨rfl, rfl⟩; go_wp2_with fail
                    refine (hasP _ _ _ so _ _ _ hH2 (hS.bel hBx) hn).mono ?_; rintro _ _ ⟨rfl, rfl⟩; go_wp2_with fail
                    refine (hasP _ _ _ ass _ _ _ hH3 (hM.bel hBx) hm).mono ?_; rintro _ _ ⟨rfl, rfl⟩; go_wp2_with fail
                    go_roundw
                    case rel => exact ⟨j + 1, _, by omega, by go_num, hM3.put (y := t2) honN hV2.out 1, hN, grownIn_set (o := t2) (v := .int .i64 1) hG3 hgb1 hgb2⟩
                    case measure => simp [intOf]; omega
                · have hN := hid (put_next hM3 hF.out hY.out (by rw [arcI_so (c := (q : Int)) hbk hH1 hH2, Int.toNat_natCast, ← hs2.out]) hs2N' hqN)
                  have hRN := hs2N'
                  have hCN := hqN
                  obtain ⟨hA1, hA2, hA3, gb, d2, hV2, hne2, hgb1, hgb2, hgb3, f0, f1, hfz2⟩ := hM3.at_ hRN; have f2 := f1 _ hCN; clear f1; replace hV2 := hid hV2
                  clear hH1
                  go_wp2_with fail
                  refine (hasP _ _ _ fl _ _ _ hH0 (hOm.grownIn hGx (.inr (Nat.le_refl _))).sl (by omega)).mono ?_; rintro _ _ ⟨rfl, rfl⟩; go_wp2_with fail
                  refine (hasP _ _ _ so _ _ _ hH2 (hS.bel hBx) hn).mono ?_; rintro _ _ ⟨rfl, rfl⟩; go_wp2_with fail
                  go_roundw
                  case rel => exact ⟨j + 1, _, by omega, by go_num, hM3.put (y := q) hs2N' hV2.out 1, hN, grownIn_set (o := q) (v := .int .i64 1) hG3 hgb1 hgb2⟩
                  case measure => simp [intOf]; omega
              · rw [hH1] at hH0
                have hN := hid (put_next hM3 hF.out hY.out (by rw [arcI_free (c := (q : Int)) hbk hH1, Int.toNat_natCast, Int.toNat_natCast, ← hon.out]) honN hkN)
                have hRN := honN
                have hCN := hkN
                obtain ⟨hA1, hA2, hA3, gb, d2, hV2, hne2, hgb1, hgb2, hgb3, f0, f1, hfz2⟩ := hM3.at_ hRN; have f2 := f1 _ hCN; clear f1; replace hV2 := hid hV2
                clear hH1
                go_wp2_with fail
                refine (hasP _ _ _ fl _ _ _ hH0 (hOm.grownIn hGx (.inr (Nat.le_refl _))).sl (by omega)).mono ?_; rintro _ _ ⟨rfl, rfl⟩; go_wp2_with fail
                go_roundw
                case rel => exact ⟨j + 1, _, by omega, by go_num, hM3.put (y := k) honN hV2.out 1, hN, grownIn_set (o := k) (v := .int .i64 1) hG3 hgb1 hgb2⟩
                case measure => simp [intOf]; omega
          · have hj1 : ¬ (j : Int) < (m2 : Int) := by omega
            have hend := hid (show matF LL = ones ((fl.take (i + 1)).flatMap (arcsI t so ass)) from by
              rw [hF.out, List.take_of_length_le (by rw [hlh2.out]; omega), flat_next hX.out, ← hes.out, ← hxs.out]
              simp [arcsI, hon.out])
            go_wp2_with fail
            go_roundw
            case rel => exact ⟨i + 1, LL, by omega, by go_num, hMt, hend, hGx⟩
            case measure => simp [intOf]; omega
      · have hi1 : ¬ (i : Int) < (m1 : Int) := by omega
        have hend := hid (show matF LL = ones (netI t so ass) from by rw [hF.out, List.take_of_length_le (by rw [hlh.out]; omega), ← hfl.out]; rfl)
        have hF0 : ∀ u v, 0 ≤ matF LL u v ∧ matF LL u v ≤ 1 := fun u v => by rw [hend.out]; exact ones_bd _ u v
        replace hF0 := hid hF0
        clear hlt
        go_wp2_with fail
        refine (flowI lo hi gA N cN s2 t2 LL Vs _ hMt (by omega) (by omega) (by omega) (by omega) hN52 (fun u v => (hF0.out u v).1) (fun u v => (hF0.out u v).2)).mono ?_
        rintro _ w5 ⟨K, rfl, hK, hG2⟩
        replace hK := hid hK
        go_wp2_with fail
        go_ret
        exact ⟨K, rfl, by have h := hK.out; rw [hend.out, hs2.out, ht2.out, hNe.out] at h; exact h, bel_trans hbW (hG2.bel hBW hlo)⟩
end Go.Proofs.Ytcdgkiiokplidaa
