/-
  The law on crews that are drawn, walked.
-/
import Derived.Test.YthbjgccldoofgaaCrewLaw4M
import Derived.Test.YthbjgccldoofgaaCrewDraw2
import Derived.Test.YthbjgccldoofgaaLawFns
import Derived.Deep.DeepCutAuto
namespace Go.Proofs.Ythbjgccldoofgaa
open Go.RowKit

set_option maxHeartbeats 8000000 in
set_option maxRecDepth 100000 in
theorem lawCrews (A : Option Addr) (n c : Nat) (cs : List Int) (w : World) (hS : Sl w 1 A n c (cs.map (Value.int .u8))) (hb0 : ∀ (i : Nat) (x : Int), cs[i]? = some x → 0 ≤ x ∧ x ≤ 255) :
    Calls Try.prog 3 #[.slice A n c] w fun e w' => e = .returned (.bool true) ∧ Below w.heap.size w w' := by
  have hmx := Nat.le_trans hS.cap hS.max
  rcases Nat.lt_or_ge 65536 n with hn | hn
  · go_enter Try.func3, Try.ntmps3
    go_wp2_with fail
    refine (rBig A n c w hmx).mono ?_
    rw [decide_eq_true hn]
    rintro _ _ ⟨rfl, rfl⟩
    go_wp2_with fail
    go_ret
    exact ⟨rfl, bel_refl w⟩
  have hC : Code w A n c cs := ⟨hS, hb0, hn⟩
  go_enter Try.func3, Try.ntmps3
  go_wp2_with fail
  refine (rBig A n c w hmx).mono ?_
  rw [decide_eq_false (show ¬ 65536 < n by omega)]
  rintro _ _ ⟨rfl, rfl⟩
  clear hmx hS
  go_wp2_with fail
  refine (drawBuilt A n c cs w hC).mono ?_
  rintro _ w1 ⟨x, h, rfl, hh, hb⟩
  have hBw := bel_trans hb (bel_alloc (o := .cells #[.int .i64 x.id, .int .i64 x.rate, .int .i64 x.tires, .int .i64 x.shift, .int .i64 x.start] 25) (bel_refl w1))
  clear hb
  have hq := heap_alloc_new w1 (.cells #[.int .i64 x.id, .int .i64 x.rate, .int .i64 x.tires, .int .i64 x.shift, .int .i64 x.start] 25)
  go_wp2_with fail
  obtain ⟨W0, hW0⟩ : ∃ W0, w1.alloc (.cells #[.int .i64 x.id, .int .i64 x.rate, .int .i64 x.tires, .int .i64 x.shift, .int .i64 x.start] 25) = W0 := ⟨_, rfl⟩
  rw [hW0] at hBw hq ⊢
  obtain ⟨q, hqd⟩ : ∃ q, w1.heap.size = q := ⟨_, rfl⟩
  rw [hqd] at hq ⊢
  clear hW0 hqd
  have hql := lt_of_block hq
  obtain ⟨⟨d0, d1, d2, d3, d4⟩, dz⟩ := cells5 hq
  clear hq
  have hB2 := bel_refl W0
  obtain ⟨b, hbd⟩ : ∃ b, (builtR x h).1 = b := ⟨_, rfl⟩
  obtain ⟨ok, hok⟩ : ∃ ok, (builtR x h).2 = ok := ⟨_, rfl⟩
  refine (builtByI x h _).mono ?_
  rw [hbd, hok]
  rintro _ w2 ⟨rfl, hb⟩
  replace hB2 := bel_trans hB2 hb; obtain ⟨hC1, hF1⟩ := bcell hB2
  go_wp2_with fail
  refine (builtByS x h _).mono ?_
  rw [hbd, hok]
  rintro _ w3 ⟨rfl, hb⟩
  replace hB2 := bel_trans hB2 hb; obtain ⟨hC1, hF1⟩ := bcell hB2
  replace hbd := hid hbd
  replace hok := hid hok
  go_wp2_with fail
  refine (metresI x _).mono ?_
  rintro _ w4 ⟨A1, m1, c1, rfl, hO1, hb⟩
  replace hB2 := bel_trans hB2 hb; obtain ⟨hC1, hF1⟩ := bcell hB2
  go_wp2_with fail
  refine (metresS x _).mono ?_
  rintro _ w5 ⟨A2, m2, c2, rfl, hO2, hb⟩
  replace hB2 := bel_trans hB2 hb; obtain ⟨hC1, hF1⟩ := bcell hB2
  replace hO1 := hO1.bel hb
  have hl1 := hO1.sl.int_len
  have hl2 := hO2.sl.int_len
  obtain rfl : m2 = m1 := hl2.symm.trans hl1
  have hm24 := metres_len2 x
  have hm1 : m2 ≤ 1000 := by omega
  clear hl1 hl2 hm24
  rw [metres_ok]
  go_wp2_with fail
  refine (rInts _ _ _ _ _ _ _ hO1.sl hO2.sl (by omega)).mono ?_
  rintro _ w6 ⟨rfl, hb⟩
  replace hB2 := bel_trans hB2 hb; obtain ⟨hC1, hF1⟩ := bcell hB2
  replace hO1 := hO1.bel hb
  clear hO2
  go_wp2_with fail
  refine (isCrewI x _).mono ?_
  rintro _ w7 ⟨rfl, hb⟩
  replace hB2 := bel_trans hB2 hb; obtain ⟨hC1, hF1⟩ := bcell hB2
  replace hO1 := hO1.bel hb
  go_upto_region 12 with fail
  go_cut [100] (fun s wx => s = .bool false ∧ Hid (Below W0.heap.size W0 wx))
  case first =>
    rcases ok with _ | _
    · go_wp2_with fail
      go_meet
      exact ⟨rfl, hB2⟩
    · by_cases h24 : h % 24 = 0
      · obtain ⟨hgx, hh0, hh1⟩ := built_h hok.out
        have hR := built_days hok.out h24
        have hsb := sum_bd (metres_bd x)
        have hml := hO1.sl.int_len
        rw [hbd.out] at hR
        obtain ⟨S, hS⟩ : ∃ S, (metresR x).1.sum = S := ⟨_, rfl⟩
        rw [hS] at hR hsb
        replace hS := hid hS
        have hmb : 0 ≤ h / 24 * S ∧ h / 24 * S ≤ 10 * 200000 := ⟨Int.mul_nonneg (by omega) (by omega), Int.mul_le_mul (by omega) (by omega) (by omega) (by omega)⟩
        have hw : IntKind.i64.wrap (h / 24 * S) = h / 24 * S := IntWalk.i64_in _ (by omega)
        have hne : (b != h / 24 * S) = false := by rw [hR]; simp
        have h24b : (h % 24 == 0) = true := by simpa using h24
        clear hR hsb hml h24 hmb hgx
        go_wp2_with fail
        refine (rSum _ _ _ _ _ hO1.sl (by omega) (fun z hz => by have := metres_bd x z hz; omega)).mono ?_
        rw [hS.out]
        rintro _ _ ⟨rfl, rfl⟩
        go_wp2_with fail
        go_meet
        exact ⟨rfl, hB2⟩
      · have h24b : (h % 24 == 0) = false := by simpa using h24
        have hh0 := (built_h hok.out).2.1
        clear h24
        go_wp2_with fail
        go_meet
        exact ⟨rfl, hB2⟩
  case rest =>
    obtain ⟨rfl, hBx⟩ := hcut
    replace hBw := bel_trans hBw hBx.out
    clear hB2 hC1 hF1 hBx d0 d1 d2 d3 d4 dz hql hO1 hbd hok hm1 hh
    go_wp2_with fail
    refine (drawFor A n c cs _ (hC.bel hBw)).mono ?_
    rintro _ w11 ⟨y, m, rfl, hm, hb⟩
    replace hBw := bel_trans (bel_trans hBw hb) (bel_alloc (o := .cells #[.int .i64 y.id, .int .i64 y.rate, .int .i64 y.tires, .int .i64 y.shift, .int .i64 y.start] 25) (bel_refl w11))
    clear hb
    have hq := heap_alloc_new w11 (.cells #[.int .i64 y.id, .int .i64 y.rate, .int .i64 y.tires, .int .i64 y.shift, .int .i64 y.start] 25)
    go_wp2_with fail
    obtain ⟨W1, hW1⟩ : ∃ W1, w11.alloc (.cells #[.int .i64 y.id, .int .i64 y.rate, .int .i64 y.tires, .int .i64 y.shift, .int .i64 y.start] 25) = W1 := ⟨_, rfl⟩
    rw [hW1] at hBw hq ⊢
    obtain ⟨q1, hqd⟩ : ∃ q1, w11.heap.size = q1 := ⟨_, rfl⟩
    rw [hqd] at hq ⊢
    clear hW1 hqd
    have hql := lt_of_block hq
    obtain ⟨⟨d0, d1, d2, d3, d4⟩, dz⟩ := cells5 hq
    clear hq
    have hB2 := bel_refl W1
    obtain ⟨l, hld⟩ : ∃ l, (hoursForR y m).1 = l := ⟨_, rfl⟩
    obtain ⟨told, htd⟩ : ∃ told, (hoursForR y m).2 = told := ⟨_, rfl⟩
    refine (hoursForTI y m _).mono ?_
    rw [hld, htd]
    rintro _ w12 ⟨rfl, hb⟩
    replace hB2 := bel_trans hB2 hb; obtain ⟨hC1, hF1⟩ := bcell hB2
    go_wp2_with fail
    refine (hoursForS y m _).mono ?_
    rw [hld, htd]
    rintro _ w13 ⟨rfl, hb⟩
    replace hB2 := bel_trans hB2 hb; obtain ⟨hC1, hF1⟩ := bcell hB2
    replace hld := hid hld
    replace htd := hid htd
    go_upto_if 126 with fail
    go_cut [] (fun wx => Hid (Below W1.heap.size W1 wx))
    case first =>
      rcases told with _ | _
      · go_wp2_with fail
        go_meet
        exact hB2
      · obtain ⟨he1, he2, he3, he4, he5⟩ := for_enough htd.out
        rw [hld.out] at he1 he2 he3 he4 he5
        obtain ⟨e1, hed⟩ : ∃ e1, (builtR y l).1 = e1 := ⟨_, rfl⟩
        rw [hed] at he2
        obtain ⟨e2, hfd⟩ : ∃ e2, (builtR y (l - 1)).1 = e2 := ⟨_, rfl⟩
        obtain ⟨two, htw⟩ : ∃ two, (builtR y (l - 1)).2 = two := ⟨_, rfl⟩
        rw [hfd, htw] at he5
        have hno : ¬ e1 < m := by omega
        replace he1 := hid he1
        replace he5 := hid he5
        replace hed := hid hed
        replace hfd := hid hfd
        replace htw := hid htw
        clear he2
        go_wp2_with fail
        refine (builtByI y l _).mono ?_
        rw [hed.out, he1.out]
        rintro _ w14 ⟨rfl, hb⟩
        replace hB2 := bel_trans hB2 hb; obtain ⟨hC1, hF1⟩ := bcell hB2
        go_wp2_with fail
        refine (builtByI y (l - 1) _).mono ?_
        rw [hfd.out, htw.out]
        rintro _ w15 ⟨rfl, hb⟩
        replace hB2 := bel_trans hB2 hb; obtain ⟨hC1, hF1⟩ := bcell hB2
        rcases two with _ | _
        · go_wp2_with fail
          go_meet
          exact hB2
        · have hno2 : ¬ m ≤ e2 := by have := he5.out rfl; omega
          go_wp2_with fail
          go_meet
          exact hB2
    case rest =>
      replace hBw := bel_trans hBw hcut.out
      clear hB2 hC1 hF1 hcut d0 d1 d2 d3 d4 dz hql hld htd hm
      go_wp2_with fail
      refine (drawIdle A n c cs _ (hC.bel hBw)).mono ?_
      rintro _ W2 ⟨A3, k, c3, xs, v, rfl, hO, hk, hv, hb⟩
      replace hBw := bel_trans hBw hb
      clear hb
      have hB2 := bel_refl W2
      have hlh := hid (hO.sl.xs_len Crew.row_len (by omega))
      obtain ⟨known, hkd⟩ : ∃ known, (idleR xs v).2 = known := ⟨_, rfl⟩
      obtain ⟨L, hLd⟩ : ∃ L, (idleR xs v).1 = L := ⟨_, rfl⟩
      go_wp2_with fail
      refine (idleI _ _ _ xs v _ hO.sl (by omega)).mono ?_
      rw [hkd, hLd]
      rintro _ w22 ⟨A4, m4, c4, rfl, hO4, hb⟩
      replace hB2 := bel_trans hB2 hb; obtain ⟨hC1, hF1⟩ := bcell hB2
      go_wp2_with fail
      refine (idleS _ _ _ xs v _ (hO.sl.bel hB2) (by omega)).mono ?_
      rw [hkd, hLd]
      rintro _ w23 ⟨A5, m5, c5, rfl, hO5, hb⟩
      replace hB2 := bel_trans hB2 hb; obtain ⟨hC1, hF1⟩ := bcell hB2
      replace hO4 := hO4.bel hb
      have hl1 := hO4.sl.int_len
      have hl2 := hO5.sl.int_len
      obtain rfl : m5 = m4 := hl2.symm.trans hl1
      have hLl : Hid (m5 ≤ 1048576) := by show _; rw [← hl1, ← hLd]; exact idleR_len xs v
      replace hkd := hid hkd
      replace hLd := hid hLd
      clear hl1 hl2
      go_wp2_with fail
      refine (rInts _ _ _ _ _ _ _ hO4.sl hO5.sl hLl.out).mono ?_
      rintro _ w24 ⟨rfl, hb⟩
      replace hB2 := bel_trans hB2 hb; obtain ⟨hC1, hF1⟩ := bcell hB2
      replace hO4 := hO4.bel hb
      clear hO5
      go_wp2_with fail
      go_loopw [29] (fun u wr => ∃ i : Nat, i ≤ k ∧ u = .int .i64 i ∧ Below w24.heap.size w24 wr) (fun u _ => k - (intOf u).toNat)
      case atStart => exact ⟨0, by omega, rfl, bel_refl _⟩
      case round =>
        obtain ⟨i, hi', rfl, hBr⟩ := hrel
        replace hB2 := bel_trans hB2 hBr
        by_cases hlt : i < k
        · have hi1 : (i : Int) < (k : Int) := by omega
          rcases known with _ | _
          · go_wp2_with fail
            go_ret
            exact ⟨rfl, bel_trans hBw hB2⟩
          · by_cases hw : v < 240
            · obtain ⟨x, hx⟩ : ∃ x, xs[i]? = some x := get_of_lt (by rw [hlh.out]; exact hlt)
              obtain ⟨bl, o, rfl, hbl, c0, c1', c2, c3', c4'⟩ := (hO.sl.bel hB2).crew hx
              obtain ⟨hl, hv0, hv1, hLe⟩ := idle_ok hkd.out
              have hgx := listC_all hl i x hx
              have hsame := hid (idle_same hkd.out hx)
              have hb1 := hid (built_ok hgx hv0 (show v ≤ 240 by omega))
              have hb2 := hid (built_ok hgx (show 0 ≤ v + 1 by omega) (show v + 1 ≤ 240 by omega))
              obtain ⟨a1, ha1⟩ : ∃ a1, builtN x v.toNat = a1 := ⟨_, rfl⟩
              obtain ⟨a2, ha2⟩ : ∃ a2, builtN x (v + 1).toNat = a2 := ⟨_, rfl⟩
              rw [ha1] at hb1 hsame
              rw [ha2] at hb2 hsame
              rw [hLd.out] at hsame
              clear ha1 ha2 hl hLe hgx hx hv1
              have hi0 : (0 : Int) ≤ (i : Int) := by omega
              obtain ⟨W3, hW3⟩ : ∃ W3, wr = W3 := ⟨_, rfl⟩
              rw [hW3] at hB2 hBr c0 c1' c2 c3' c4' hbl ⊢
              clear hW3
              have hO4r := hO4.bel hBr
              have hBq := hB2
              replace hB2 := bel_refl W3
              go_wp2_with fail
              refine (builtByI x v _).mono ?_
              rw [hb1.out]
              rintro _ w31 ⟨rfl, hb⟩
              replace hB2 := bel_trans hB2 hb; obtain ⟨hC1, hF1⟩ := bcell hB2
              go_wp2_with fail
              refine (builtByI x (v + 1) _).mono ?_
              rw [hb2.out]
              rintro _ w32 ⟨rfl, hb⟩
              replace hB2 := bel_trans hB2 hb; obtain ⟨hC1, hF1⟩ := bcell hB2
              rcases hr : (L.any fun z => z == x.id) with _ | _
              · go_wp2_with fail
                refine (rHas _ _ _ L x.id _ (hO4r.bel hB2).sl hLl.out).mono ?_
                rw [hr]
                rintro _ _ ⟨rfl, rfl⟩
                go_wp2_with fail
                go_roundw
                case rel => exact ⟨i + 1, by omega, by go_num, bel_trans hBr hB2⟩
                case measure => simp [intOf]; omega
              · obtain rfl := hsame.out hr
                go_wp2_with fail
                refine (rHas _ _ _ L x.id _ (hO4r.bel hB2).sl hLl.out).mono ?_
                rw [hr]
                rintro _ _ ⟨rfl, rfl⟩
                go_wp2_with fail
                go_roundw
                case rel => exact ⟨i + 1, by omega, by go_num, bel_trans hBr hB2⟩
                case measure => simp [intOf]; omega
            · go_wp2_with fail
              go_ret
              exact ⟨rfl, bel_trans hBw hB2⟩
        · have hi1 : ¬ (i : Int) < (k : Int) := by omega
          go_wp2_with fail
          go_ret
          exact ⟨rfl, bel_trans hBw hB2⟩
end Go.Proofs.Ythbjgccldoofgaa
