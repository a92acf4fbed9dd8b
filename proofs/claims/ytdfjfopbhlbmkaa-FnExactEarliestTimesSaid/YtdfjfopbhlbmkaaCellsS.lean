/-
  Cells that burn in at least so many scenarios: the reference's way, walked.
-/
import Derived.Test.YtdfjfopbhlbmkaaPossible
namespace Go.Proofs.Ytdfjfopbhlbmkaa
open Go.RowKit

set_option maxHeartbeats 4000000 in
set_option maxRecDepth 100000 in
theorem l8Cells (t : Terr) (A : Option Addr) (n c : Nat) (xs : List Scen) (B : Option Addr) (m d : Nat) (so : List Int) (st tick least : Int) (w : World) (hT : TOk w t) (hS : Sl w 2 A n c (xs.flatMap Scen.row)) (hO : ScOk w xs) (hN : ∀ (i : Nat) (x : Scen), xs[i]? = some x → x.n ≤ 1048576) (hM : Sl w 1 B m d (ints so)) (hm : m ≤ 1048576) (hask : askB t xs so st = true) :
    Calls Try.prog 64 #[.agg #[.int .i64 t.W, .int .i64 t.H, .slice t.A t.n t.c], .slice A n c, .slice B m d, .int .i64 st, .int .i64 tick, .int .i64 least] w fun e w' => ∃ A' k c', e = .returned (.slice A' k c') ∧ Own w.heap.size w'.heap.size w' 3 1 A' k c' (ints (cellsL t.n fun v => decide (least ≤ gI (cntI t so st tick xs n) v))) ∧ Below w.heap.size w w' := by
  have hlh := hid (hS.xs_len Scen.row_len (by omega))
  have hTz := (hT.bel (bel_alloc (o := .cells #[.int .i64 t.W, .int .i64 t.H, .slice t.A t.n t.c] 30) (bel_refl w)))
  have hMz := (hM.bel (bel_alloc (o := .cells #[.int .i64 t.W, .int .i64 t.H, .slice t.A t.n t.c] 30) (bel_refl w)))
  have hSz := (hS.bel (bel_alloc (o := .cells #[.int .i64 t.W, .int .i64 t.H, .slice t.A t.n t.c] 30) (bel_refl w)))
  have hOz := (hO.bel (bel_alloc (o := .cells #[.int .i64 t.W, .int .i64 t.H, .slice t.A t.n t.c] 30) (bel_refl w)))
  obtain ⟨hg, hens, hso, hst⟩ := askB_parts hask
  obtain ⟨hW, -, -, hn1, hn25, -⟩ := goodT_bd hg
  obtain ⟨hl1, hl4, hgs⟩ := ensB_parts hens
  have hn4 : (n : Int) ≤ 4 := by have := hlh.out; omega
  have hgs := hid hgs
  clear hl1 hl4 hens hask
  obtain ⟨i0, hi, hz0, hz1, hz2⟩ := info_parts info_int'
  obtain ⟨p, hpd⟩ : ∃ p : Nat → Bool, (fun v => decide (least ≤ gI (cntI t so st tick xs n) v)) = p := ⟨_, rfl⟩
  rw [hpd]
  have hpv := hid (fun v => (congrFun hpd v : decide (least ≤ gI (cntI t so st tick xs n) v) = p v))
  clear hpd
  go_enter Try.func64, Try.ntmps64
  go_wp2_with (at_make; refine wpList_make_full _ rfl _ _ 22 rfl ((w.alloc (.cells #[.int .i64 t.W, .int .i64 t.H, .slice t.A t.n t.c] 30))).heap.size 3 i0 _ 1 Try.underlying22 hi hz0 hz1 _ _ _ _ t.n rfl rfl rfl rfl (by rw [hz2]; omega) (by simp [maxLen]; omega) (Nat.le_refl _) ?_; intro w1 hown hg1)
  have hb1 : Below ((w.alloc (.cells #[.int .i64 t.W, .int .i64 t.H, .slice t.A t.n t.c] 30))).heap.size ((w.alloc (.cells #[.int .i64 t.W, .int .i64 t.H, .slice t.A t.n t.c] 30))) w1 := (Below.refl _ _).grown hg1 (Nat.le_refl _) (by simp)
  rw [made_int] at hown
  rw [show Value.slice (some ⟨((w.alloc (.cells #[.int .i64 t.W, .int .i64 t.H, .slice t.A t.n t.c] 30))).heap.size, 0, none⟩) t.n t.n = .slice (some ⟨w.heap.size + 1, 0, none⟩) t.n t.n from slice_at (by simp)] at hown
  have hs1 : S1 ((w.alloc (.cells #[.int .i64 t.W, .int .i64 t.H, .slice t.A t.n t.c] 30))) (w.heap.size + 1) t.n t.n (cntI t so st tick xs 0) w1 := ⟨hown, hb1⟩
  clear hown hb1 hg1
  generalize w.heap.size + 1 = g at hs1 ⊢
  go_loopw [14] (fun v wr => ∃ i : Nat, i ≤ n ∧ v = .int .i64 i ∧ S1 ((w.alloc (.cells #[.int .i64 t.W, .int .i64 t.H, .slice t.A t.n t.c] 30))) g t.n t.n (cntI t so st tick xs i) wr) (fun v _ => n - (intOf v).toNat)
  case atStart => exact ⟨0, by omega, rfl, hs1⟩
  case round =>
    clear hs1
    obtain ⟨i, hi', rfl, hs1⟩ := hrel
    have hBo := hs1.bel
    by_cases hlt : i < n
    · obtain ⟨x, hx⟩ : ∃ x, xs[i]? = some x := get_of_lt (by rw [hlh.out]; exact hlt)
      obtain ⟨b, o, rfl, hb, c0, c1⟩ := (hSz.bel hBo).scen hx
      have hph := hOz i x hx
      have hxn := hid (hN i x hx)
      have hgx := hid (hgs.out i x hx)
      have hN1 := hid (cntI_next (t := t) (so := so) (st := st) (tick := tick) hx)
      clear hx
      have hi0 : (0 : Int) ≤ (i : Int) := by omega
      have hi1 : (i : Int) < (n : Int) := by omega
      obtain ⟨k0, k1, k2⟩ := box_at hBo
      have hsz := hBo.size
      have hgw : w.heap.size < wr.heap.size := by simp at hsz; omega
      clear hsz
      have hbd : Hid (Bd0 (cntI t so st tick xs i) 100) := fun v hv => by
        have := cntI_bd t so st tick xs i v hv
        have h2 : (t.n : Int) * (i : Int) ≤ 25 * 4 := Int.mul_le_mul (by omega) (by omega) (by omega) (by omega)
        omega
      have hsl : Hid ((cntI t so st tick xs i).length = t.n) := cntI_len _ _ _ _ _ _
      obtain ⟨S, hSd⟩ : ∃ S, cntI t so st tick xs i = S := ⟨_, rfl⟩
      rw [hSd] at hs1 hN1 hbd hsl
      clear hSd
      obtain ⟨L, hLd⟩ : ∃ L, burnL t x.ps so st tick = L := ⟨_, rfl⟩
      have hLm : Hid (∀ y ∈ L, 0 ≤ y ∧ y < t.n) := by show ∀ y ∈ L, _; rw [← hLd]; exact burnL_mem
      have hLl : L.length ≤ 25 := by
        have h2 : (burnL t x.ps so st tick).length ≤ t.n := cellsL_len _ _
        rw [hLd] at h2
        omega
      rw [hLd] at hN1
      replace hLd := hid hLd
      have hgl := (hs1.own.lt g rfl).2
      have hB2 := bel_refl wr
      go_wp2_with fail
      (refine wp_region_planB (.free 0 (.free 1 (.free 2 (.free 3 (.free 4 (.free 5 (.free 6 (.free 7 (.one 8 (.free 9 (.stop))))))))))) (by kernel_rfl) (by kernel_rfl) ?_; have hD := bel_cells hB2; simp only [Plan.ops, List.getElem?_cons_zero, List.getElem?_cons_succ, Option.getD_some])
      (iterate 8 (refine p_free rfl (by rintro w' ⟨d, rfl⟩; obtain ⟨hDc, hDf⟩ := hD d; (go_simp; first | done | rfl)) ?_; (try simp only [Act.put, List.setIfInBounds_toArray, List.set_cons_zero, List.set_cons_succ])))
      refine p_call rfl (by (go_simp; first | done | exact ⟨rfl, rfl⟩ | rfl)) ?_
      refine (l8Burned t x B m d so st tick _ ((hTz.bel hBo).bel (bel_drew (bel_refl _))) hg ((hph.bel hBo).bel (bel_drew (bel_refl _))) hxn.out hgx.out ((hMz.bel hBo).bel (bel_drew (bel_refl _))) hm hso hst).mono ?_
      rw [hLd.out]
      rintro _ w2 ⟨A2, k, c3, rfl, hO2, hB3⟩
      refine ⟨_, rfl, ⟨⟨_, bel_trans (bel_drew (bel_refl _)) hB3⟩, rfl⟩, ?_⟩
      replace hs1 := (hs1.keep (bel_drew (bel_refl _))).keep hB3
      replace hO2 := hO2.low (show wr.heap.size ≤ _ by simp)
      (try simp only [Act.put, List.setIfInBounds_toArray, List.set_cons_zero, List.set_cons_succ])
      (iterate 1 (refine p_free rfl (by rintro w' ⟨d, rfl⟩; obtain ⟨hDc, hDf⟩ := hD d; (go_simp; first | done | rfl)) ?_; (try simp only [Act.put, List.setIfInBounds_toArray, List.set_cons_zero, List.set_cons_succ])))
      refine p_stop ?_
      (try simp only [Act.put, List.setIfInBounds_toArray, List.set_cons_zero, List.set_cons_succ])
      clear hD hB2
      go_wp2_with fail
      obtain ⟨L0, hL0⟩ : ∃ L0, wr.heap.size = L0 := ⟨_, rfl⟩
      obtain ⟨H0, hH0⟩ : ∃ H0, w2.heap.size = H0 := ⟨_, rfl⟩
      rw [hL0] at hgl
      rw [hL0, hH0] at hO2
      clear hL0 hH0 hB3 k0 k1 k2 hBo
      go_loopw [16] (fun v wr => ∃ q : Nat, q ≤ k ∧ v = .int .i64 q ∧ S1 ((w.alloc (.cells #[.int .i64 t.W, .int .i64 t.H, .slice t.A t.n t.c] 30))) g t.n t.n (addL S (L.take q)) wr ∧ Own L0 H0 wr 3 1 A2 k c3 (ints L)) (fun v _ => k - (intOf v).toNat)
      case atStart => exact ⟨0, by omega, rfl, by simpa [addL] using hs1, hO2⟩
      case round =>
        clear hs1 hO2
        obtain ⟨q, hq', rfl, hs1, hO2⟩ := hrel
        have hlk : L.length = k := by have := hO2.own.1; rw [ints_len] at this; omega
        by_cases hlt2 : q < k
        · obtain ⟨y, hy⟩ : ∃ y, L[q]? = some y := get_of_lt (by omega)
          obtain ⟨b', o', rfl, hb', d0⟩ := hO2.sl.int_at hy
          have hyb := hLm.out y (List.mem_of_getElem? hy)
          obtain ⟨yn, rfl⟩ := Int.eq_ofNat_of_zero_le hyb.1
          have hN2 := hid (addL_next (s := S) hy)
          clear hy
          have hj0 : (0 : Int) ≤ (q : Int) := by omega
          have hj1 : (q : Int) < (k : Int) := by omega
          have hy0 : (0 : Int) ≤ (yn : Int) := by omega
          have hy1 : (yn : Int) < (t.n : Int) := by omega
          have hvb := addL_bd hbd.out (L.take q) (fun z hz => by rw [hsl.out]; exact hLm.out z (List.mem_of_mem_take hz)) yn (by rw [addL_len, hsl.out]; omega)
          have htl : (L.take q).length ≤ 25 := by rw [List.length_take]; omega
          have e0 := hs1.at_ (v := yn) (by omega)
          have hfz := own_fz hs1.own yn
          obtain ⟨T, hTd⟩ : ∃ T, addL S (L.take q) = T := ⟨_, rfl⟩
          rw [hTd] at hs1 hN2 hvb e0
          clear hTd
          obtain ⟨z, hz⟩ : ∃ z, gI T yn = z := ⟨_, rfl⟩
          have hz2 : 0 ≤ z ∧ z ≤ 200 := by rw [← hz]; omega
          rw [hz] at e0
          replace hz := hid hz
          clear hvb htl hyb
          go_wp2_with fail
          go_roundw
          case rel => exact ⟨q + 1, by omega, by go_num, by rw [hN2.out, Int.toNat_natCast, hz.out]; exact hs1.set yn (z + 1), hs1.own_ hO2 hgl yn (z + 1)⟩
          case measure => simp [intOf]; omega
        · have hj1 : ¬ (q : Int) < (k : Int) := by omega
          rw [List.take_of_length_le (by omega)] at hs1
          go_wp2_with fail
          go_roundw
          case rel => exact ⟨i + 1, by omega, by go_num, by rw [hN1.out]; exact hs1⟩
          case measure => simp [intOf]; omega
    · have hi1 : ¬ (i : Int) < (n : Int) := by omega
      have e : i = n := by omega
      subst e
      clear hBo
      go_wp2_with fail
      obtain ⟨wo, rfl⟩ : ∃ wo : World, wo = wr := ⟨_, rfl⟩
      have hs2 := hs1.keep (bel_alloc (o := .cells #[] 3) (bel_refl _))
      go_loopw [18, 19] (fun q v wq => ∃ j : Nat, j ≤ t.n ∧ v = .int .i64 j ∧ S1 ((w.alloc (.cells #[.int .i64 t.W, .int .i64 t.H, .slice t.A t.n t.c] 30))) g t.n t.n (cntI t so st tick xs i) wq ∧ Below wo.heap.size wo wq ∧ ∃ A' k c', q = .slice A' k c' ∧ Own wo.heap.size wq.heap.size wq 3 1 A' k c' (ints (cellsL j p))) (fun _ v _ => t.n - (intOf v).toNat)
      case atStart => exact ⟨0, by omega, rfl, hs2, bel_alloc (bel_refl _), _, _, _, rfl, Own.mk_ (by simpa [cellsL, ints] using own_empty (w := wo) (size := 1) (e := 3) (Nat.le_refl _))⟩
      case round =>
        have hgl := (hs1.own.lt g rfl).2
        have hwz := hs1.bel.size
        clear hs1 hs2
        obtain ⟨j, hj', rfl, hs1, hBq, A', k, c', rfl, hO⟩ := hrel
        by_cases hlt3 : j < t.n
        · have hj0 : (0 : Int) ≤ (j : Int) := by omega
          have hj1 : (j : Int) < (t.n : Int) := by omega
          have c0 := hs1.at_ hlt3
          have hpj := hpv.out j
          obtain ⟨z, hz⟩ : ∃ z, gI (cntI t so st tick xs i) j = z := ⟨_, rfl⟩
          rw [hz] at c0 hpj
          clear hz
          have hkl : k ≤ 25 := by
            have h1 := hO.own.1
            have h2 := cellsL_len j p
            rw [ints_len] at h1
            omega
          rcases hp : p j with _ | _
          · rw [hp] at hpj
            have hc : ¬ least ≤ z := by simpa using hpj
            go_wp2_with fail
            go_roundw
            case rel => exact ⟨j + 1, by omega, by go_num, hs1, hBq, _, _, _, rfl, by rw [cellsL_no hp]; exact hO⟩
            case measure => simp [intOf]; omega
          · rw [hp] at hpj
            have hc : least ≤ z := by simpa using hpj
            go_wp2_with (at_builtin; refine wpList_push rfl (.tmp 70) (.tmp 72) 22 rfl wo.heap.size 3 (.int .i64 0) 1 8 Try.underlying22 info_int' rfl (by omega) A' k c' _ [.int .i64 j] 3 rfl hO.own (by first | rfl | exact slice_at (by simp)) rfl (oneCell_int _) (by omega) (by omega) hBq.size ?_; intro A'' c'' w3 hown2 hb3 hg3)
            go_roundw
            case rel => exact ⟨j + 1, by omega, by go_num, ⟨hs1.own.kept hg3 (Or.inr fun e1 => by
              have h1 := (hO.own.lt g e1.symm).1
              omega), hs1.bel.trans (hb3.mono (by omega))⟩, Below.trans hBq hb3, _, _, _, rfl, Own.mk_ (by rw [← cellsL_yes hp, ← ints_snoc]; exact hown2)⟩
            case measure => simp [intOf]; omega
        · have hj1 : ¬ (j : Int) < (t.n : Int) := by omega
          have e : j = t.n := by omega
          go_wp2_with fail
          go_ret
          rw [e] at hO
          exact ⟨_, _, _, rfl, hO.low (by simp at hwz; omega), (bel_alloc (bel_refl w)).trans (hs1.bel.mono (by simp))⟩
end Go.Proofs.Ytdfjfopbhlbmkaa
