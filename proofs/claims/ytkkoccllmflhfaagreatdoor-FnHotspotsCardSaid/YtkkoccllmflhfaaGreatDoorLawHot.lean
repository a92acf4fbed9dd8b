/-
  The law on hot spots and their texts, walked.
-/
import Derived.Test.YtkkoccllmflhfaaGreatDoorSpotDraw4
import Derived.Test.YtkkoccllmflhfaaGreatDoorSpotMay
import Derived.Test.YtkkoccllmflhfaaGreatDoorLawFns
import Derived.Deep.DeepCutAuto
namespace Go.Proofs.YtkkoccllmflhfaaGreatDoor
open Go.RowKit

theorem textR_snd (x : Hotspot) : (textR x).2 = goodH x := by
  unfold textR
  cases goodH x <;> rfl
theorem mayR_fst (a b : Hotspot) : (mayR a b).1 = (goodH a && goodH b && sameB a b) := by
  unfold mayR
  cases goodH a <;> cases goodH b <;> rfl
theorem mayR_snd (a b : Hotspot) : (mayR a b).2 = (goodH a && goodH b) := by
  unfold mayR
  cases goodH a <;> cases goodH b <;> rfl
theorem placeR_snd (a b : Hotspot) : (placeR a b).2 = (goodH a && goodH b && sameB a b) := by
  unfold placeR
  cases (goodH a && goodH b && sameB a b) <;> rfl
theorem spreadR_snd (a b : Hotspot) : (spreadR a b).2.2 = (goodH a && goodH b) := by
  unfold spreadR
  cases (goodH a && goodH b) <;> rfl
theorem spread_law {a b : Hotspot} (h : (goodH a && goodH b) = true) : (goodH a && goodH b && sameB a b) = decide ((spreadR a b).1 = 0) ∧ (spreadR a b).1 ≤ (spreadR a b).2.1 := by
  rw [Bool.and_eq_true] at h
  have h1 := goodH_bd h.1
  have h2 := goodH_bd h.2
  have e : spreadR a b = (max 0 (max (farI a.x b.x) (farI a.y b.y) - a.err - b.err), max (farI a.x b.x) (farI a.y b.y) + a.err + b.err, true) := by simp [spreadR, h.1, h.2]
  have f1 := farI_bd (a := a.x) (b := b.x) (by omega)
  have f2 := farI_bd (a := a.y) (b := b.y) (by omega)
  rw [e, h.1, h.2]
  refine ⟨?_, ?_⟩
  · rw [Bool.true_and, Bool.true_and, sameB, Bool.eq_iff_iff, decide_eq_true_eq, decide_eq_true_eq]
    simp only
    omega
  · simp only
    omega
theorem place_law {a b : Hotspot} (h : (goodH a && goodH b && sameB a b) = true) : (placeR a b).1 = (bothQ a b).list ∧ (bothQ a b).a ≤ (bothQ a b).b ∧ (bothQ a b).c ≤ (bothQ a b).d ∧ a.x - a.err ≤ (bothQ a b).a ∧ (bothQ a b).d ≤ b.y + b.err ∧ goodH a = true ∧ goodH b = true := by
  have e : placeR a b = ((bothQ a b).list, true) := by unfold placeR; rw [if_pos h]
  rw [Bool.and_eq_true, Bool.and_eq_true] at h
  have hs := h.2
  rw [same_both h.1.1 h.1.2, Bool.and_eq_true, decide_eq_true_eq, decide_eq_true_eq] at hs
  refine ⟨by rw [e], hs.1, hs.2, ?_, ?_, h.1.1, h.1.2⟩
  · simp only [bothQ]; omega
  · simp only [bothQ]; omega
set_option maxHeartbeats 8000000 in
set_option maxRecDepth 100000 in
theorem lawHotspots (A : Option Addr) (n c : Nat) (cs : List Int) (w : World) (hS : Sl w 1 A n c (cs.map (Value.int .u8))) (hb0 : ∀ (i : Nat) (x : Int), cs[i]? = some x → 0 ≤ x ∧ x ≤ 255) (hE : Env w) :
    Calls Tryz.prog 3 #[.slice A n c] w fun e w' => e = .returned (.bool true) ∧ Below w.heap.size w w' := by
  have hmx := Nat.le_trans hS.cap hS.max
  rcases Nat.lt_or_ge 65536 n with hn | hn
  · go_enter Tryz.func3, Tryz.ntmps3
    go_wp2_with fail
    refine (rBig A n c w hmx).mono ?_
    rw [decide_eq_true hn]
    rintro _ _ ⟨rfl, rfl⟩
    go_wp2_with fail
    go_ret
    exact ⟨rfl, bel_refl w⟩
  have hC : Code w A n c cs := ⟨hS, hb0, hn⟩
  go_enter Tryz.func3, Tryz.ntmps3
  go_wp2_with fail
  refine (rBig A n c w hmx).mono ?_
  rw [decide_eq_false (show ¬ 65536 < n by omega)]
  rintro _ _ ⟨rfl, rfl⟩
  clear hmx hS
  go_wp2_with fail
  refine (drawSpot A n c cs w hC).mono ?_
  rintro _ w1 ⟨x, rfl, hb⟩
  have hl := bel_alloc (o := .cells #[.int .i64 x.id, .int .i64 x.x, .int .i64 x.y, .int .i64 x.err, .int .i64 x.tick, .int .i64 x.heat] 25) (bel_refl w1)
  have hq := heap_alloc_new w1 (.cells #[.int .i64 x.id, .int .i64 x.x, .int .i64 x.y, .int .i64 x.err, .int .i64 x.tick, .int .i64 x.heat] 25)
  have hBw := bel_trans hb hl
  replace hE := (hE.bel hb).bel hl
  clear hb hl
  have hTs := textR_size x
  have hI := fun w hT => spotTextI x w hT
  have hT := fun w => spotTextS x w
  have hG := fun w => isHotspotI x w
  have hyes := fun h : goodH x = true => parseR_yes (s := textH x) h rfl
  have htx : goodH x = true → (textR x).1 = textH x := fun h => by simp [textR, h]
  have hsnd := textR_snd x
  obtain ⟨ok, hok⟩ : ∃ ok, goodH x = ok := ⟨_, rfl⟩
  obtain ⟨T, hTe⟩ : ∃ T, (textR x).1 = T := ⟨_, rfl⟩
  rw [hok] at hsnd
  rw [hTe] at hTs hI hT htx
  rw [hsnd] at hI hT
  rw [hok] at hG hyes htx
  have hback : Hid (ok = true → parseR T = (x, true)) := fun h => by rw [htx h]; exact hyes h
  clear hsnd hok hTe hyes htx
  obtain ⟨⟨c0, c1, c2, c3, c4, c5⟩, cz⟩ := cells6 hq
  go_wp2_with fail
  refine (hI _ hE.tab).mono ?_
  rintro _ w2 ⟨rfl, hb⟩
  replace hq := blk_bel hq hb
  replace hBw := bel_trans hBw hb
  replace hE := hE.bel hb
  clear hb hI c0 c1 c2 c3 c4 c5 cz
  obtain ⟨⟨c0, c1, c2, c3, c4, c5⟩, cz⟩ := cells6 hq
  go_wp2_with fail
  refine (hT _).mono ?_
  rintro _ w3 ⟨rfl, hb⟩
  replace hq := blk_bel hq hb
  replace hBw := bel_trans hBw hb
  replace hE := hE.bel hb
  clear hb hT c0 c1 c2 c3 c4 c5 cz
  obtain ⟨⟨c0, c1, c2, c3, c4, c5⟩, cz⟩ := cells6 hq
  go_wp2_with fail
  refine (hG _).mono ?_
  rintro _ w4 ⟨rfl, hb⟩
  replace hq := blk_bel hq hb
  replace hBw := bel_trans hBw hb
  replace hE := hE.bel hb
  clear hb hG c0 c1 c2 c3 c4 c5 cz
  obtain ⟨P, hP⟩ : ∃ P, (parseR T).1 = P := ⟨_, rfl⟩
  obtain ⟨one, hone⟩ : ∃ one, (parseR T).2 = one := ⟨_, rfl⟩
  have hJ := fun w hE => parseSpotI T w (by omega) hE
  rw [hP, hone] at hJ
  have hback2 : Hid (ok = true → one = true ∧ P = x) := fun h => by
    have e := hback.out h
    rw [e] at hP hone
    exact ⟨hone.symm, hP.symm⟩
  clear hP hone hback hTs
  go_wp2_with fail
  refine (hJ _ hE).mono ?_
  rintro _ w5 ⟨rfl, hb⟩
  have hl := bel_alloc (o := .cells #[.int .i64 P.id, .int .i64 P.x, .int .i64 P.y, .int .i64 P.err, .int .i64 P.tick, .int .i64 P.heat] 25) (bel_refl w5)
  have hp := heap_alloc_new w5 (.cells #[.int .i64 P.id, .int .i64 P.x, .int .i64 P.y, .int .i64 P.err, .int .i64 P.tick, .int .i64 P.heat] 25)
  replace hq := blk_bel (blk_bel hq hb) hl
  replace hBw := bel_trans (bel_trans hBw hb) hl
  replace hE := (hE.bel hb).bel hl
  clear hb hl hJ
  go_upto_region 9 with fail
  obtain ⟨q0, hq0⟩ : ∃ q0, w1.heap.size = q0 := ⟨_, rfl⟩
  obtain ⟨p0, hp0⟩ : ∃ p0, w5.heap.size = p0 := ⟨_, rfl⟩
  obtain ⟨w6, hw6⟩ : ∃ w6, w5.alloc (.cells #[.int .i64 P.id, .int .i64 P.x, .int .i64 P.y, .int .i64 P.err, .int .i64 P.tick, .int .i64 P.heat] 25) = w6 := ⟨_, rfl⟩
  rw [hw6] at hq hp hBw hE ⊢
  rw [hq0] at hq ⊢
  rw [hp0] at hp ⊢
  clear hq0 hp0 hw6
  go_cut [73] (fun s wx => s = .bool false ∧ Hid (Below w6.heap.size w6 wx))
  case first =>
    rcases ok with _ | _
    · go_wp2_with fail
      go_meet
      exact ⟨rfl, hid (bel_refl _)⟩
    · obtain ⟨e1, e2⟩ := hback2.out rfl
      obtain ⟨⟨c0, c1, c2, c3, c4, c5⟩, cz⟩ := cells6 hq
      obtain ⟨⟨k0, k1, k2, k3, k4, k5⟩, kz⟩ := cells6 hp
      rw [e2] at k0 k1 k2 k3 k4 k5
      clear hq hp e2 hback2
      go_wp2_with fail
      go_meet
      exact ⟨rfl, hid (bel_refl _)⟩
  case rest =>
    obtain ⟨rfl, hBx⟩ := hcut
    replace hBw := bel_trans hBw hBx.out
    replace hE := hE.bel hBx.out
    clear hBx hq hp hback2
    go_wp2_with fail
    refine (drawParse A n c cs _ (hC.bel hBw)).mono ?_
    rintro _ w11 ⟨t, rfl, hts, hb⟩
    replace hBw := bel_trans hBw hb
    replace hE := hE.bel hb
    clear hb
    obtain ⟨R, hR⟩ : ∃ R, (parseR t).1 = R := ⟨_, rfl⟩
    obtain ⟨fine, hfine⟩ : ∃ fine, (parseR t).2 = fine := ⟨_, rfl⟩
    have hJ := fun w hE => parseSpotI t w (by omega) hE
    have hJ2 := fun w => parseSpotS t w (by omega)
    rw [hR, hfine] at hJ hJ2
    clear hR hfine hts
    go_wp2_with fail
    refine (hJ _ hE).mono ?_
    rintro _ w12 ⟨rfl, hb⟩
    have hl := bel_alloc (o := .cells #[.int .i64 R.id, .int .i64 R.x, .int .i64 R.y, .int .i64 R.err, .int .i64 R.tick, .int .i64 R.heat] 25) (bel_refl w12)
    have hq := heap_alloc_new w12 (.cells #[.int .i64 R.id, .int .i64 R.x, .int .i64 R.y, .int .i64 R.err, .int .i64 R.tick, .int .i64 R.heat] 25)
    replace hBw := bel_trans (bel_trans hBw hb) hl
    replace hE := (hE.bel hb).bel hl
    clear hb hl hJ
    go_wp2_with fail
    refine (hJ2 _).mono ?_
    rintro _ w13 ⟨rfl, hb⟩
    have hl := bel_alloc (o := .cells #[.int .i64 R.id, .int .i64 R.x, .int .i64 R.y, .int .i64 R.err, .int .i64 R.tick, .int .i64 R.heat] 25) (bel_refl w13)
    have hp := heap_alloc_new w13 (.cells #[.int .i64 R.id, .int .i64 R.x, .int .i64 R.y, .int .i64 R.err, .int .i64 R.tick, .int .i64 R.heat] 25)
    replace hq := blk_bel (blk_bel hq hb) hl
    replace hBw := bel_trans (bel_trans hBw hb) hl
    replace hE := (hE.bel hb).bel hl
    clear hb hl hJ2
    obtain ⟨⟨c0, c1, c2, c3, c4, c5⟩, cz⟩ := cells6 hq
    obtain ⟨⟨k0, k1, k2, k3, k4, k5⟩, kz⟩ := cells6 hp
    clear hq hp
    go_wp2_with fail
    refine (drawMay A n c cs _ (hC.bel hBw)).mono ?_
    rintro _ w14 ⟨a, b, rfl, hb⟩
    replace hBw := bel_trans hBw hb
    clear hb hE c0 c1 c2 c3 c4 c5 cz k0 k1 k2 k3 k4 k5 kz
    go_upto_region 17 with fail
    have hl1 := bel_alloc (o := .cells #[.int .i64 a.id, .int .i64 a.x, .int .i64 a.y, .int .i64 a.err, .int .i64 a.tick, .int .i64 a.heat] 25) (bel_refl w14)
    have hq := heap_alloc_new w14 (.cells #[.int .i64 a.id, .int .i64 a.x, .int .i64 a.y, .int .i64 a.err, .int .i64 a.tick, .int .i64 a.heat] 25)
    have hl2 := bel_alloc (o := .cells #[.int .i64 b.id, .int .i64 b.x, .int .i64 b.y, .int .i64 b.err, .int .i64 b.tick, .int .i64 b.heat] 25) (bel_refl (w14.alloc (.cells #[.int .i64 a.id, .int .i64 a.x, .int .i64 a.y, .int .i64 a.err, .int .i64 a.tick, .int .i64 a.heat] 25)))
    have hp := heap_alloc_new (w14.alloc (.cells #[.int .i64 a.id, .int .i64 a.x, .int .i64 a.y, .int .i64 a.err, .int .i64 a.tick, .int .i64 a.heat] 25)) (.cells #[.int .i64 b.id, .int .i64 b.x, .int .i64 b.y, .int .i64 b.err, .int .i64 b.tick, .int .i64 b.heat] 25)
    rw [show (w14.alloc (.cells #[.int .i64 a.id, .int .i64 a.x, .int .i64 a.y, .int .i64 a.err, .int .i64 a.tick, .int .i64 a.heat] 25)).heap.size = w14.heap.size + 1 by simp] at hp
    replace hq := blk_bel hq hl2
    replace hBw := bel_trans (bel_trans hBw hl1) hl2
    obtain ⟨q1, hq1⟩ : ∃ q1, w14.heap.size = q1 := ⟨_, rfl⟩
    obtain ⟨p1, hp1⟩ : ∃ p1, w14.heap.size + 1 = p1 := ⟨_, rfl⟩
    obtain ⟨w15, hw15⟩ : ∃ w15, (w14.alloc (.cells #[.int .i64 a.id, .int .i64 a.x, .int .i64 a.y, .int .i64 a.err, .int .i64 a.tick, .int .i64 a.heat] 25)).alloc (.cells #[.int .i64 b.id, .int .i64 b.x, .int .i64 b.y, .int .i64 b.err, .int .i64 b.tick, .int .i64 b.heat] 25) = w15 := ⟨_, rfl⟩
    rw [hw15] at hq hp hBw ⊢
    rw [hp1] at hp ⊢
    rw [hq1] at hq ⊢
    clear hq1 hp1 hw15 hl1 hl2
    have hM1 := fun w => mayI a b w
    have hM2 := fun w => mayS a b w
    have hP1 := fun w => placeI a b w
    have hP2 := fun w => placeS a b w
    have hD1 := fun w => spreadI a b w
    have hD2 := fun w => spreadS a b w
    have hsl := spread_law (a := a) (b := b)
    have hpl := place_law (a := a) (b := b)
    have hLl := placeR_len a b
    rw [mayR_fst, mayR_snd] at hM1 hM2
    rw [placeR_snd] at hP1 hP2
    rw [spreadR_snd] at hD1 hD2
    obtain ⟨mb, hmb⟩ : ∃ mb, (goodH a && goodH b && sameB a b) = mb := ⟨_, rfl⟩
    rw [hmb] at hM1 hM2 hP1 hP2 hsl hpl
    obtain ⟨G, hG⟩ : ∃ G, (goodH a && goodH b) = G := ⟨_, rfl⟩
    rw [hG] at hM1 hM2 hD1 hD2 hsl
    obtain ⟨L, hL⟩ : ∃ L, (placeR a b).1 = L := ⟨_, rfl⟩
    rw [hL] at hP1 hP2 hpl hLl
    obtain ⟨l, hl⟩ : ∃ l, (spreadR a b).1 = l := ⟨_, rfl⟩
    obtain ⟨m, hm⟩ : ∃ m, (spreadR a b).2.1 = m := ⟨_, rfl⟩
    rw [hl, hm] at hD1 hD2 hsl
    replace hsl := hid hsl
    replace hpl := hid hpl
    clear hmb hG hL hl hm
    obtain ⟨⟨c0, c1, c2, c3, c4, c5⟩, cz⟩ := cells6 hq; obtain ⟨⟨k0, k1, k2, k3, k4, k5⟩, kz⟩ := cells6 hp; go_wp2_with fail
    refine (hM1 _).mono ?_
    rintro _ w21 ⟨rfl, hb⟩
    clear c0 c1 c2 c3 c4 c5 cz k0 k1 k2 k3 k4 k5 kz; replace hq := blk_bel hq hb; replace hp := blk_bel hp hb; replace hBw := bel_trans hBw hb
    clear hb hM1
    obtain ⟨⟨c0, c1, c2, c3, c4, c5⟩, cz⟩ := cells6 hq; obtain ⟨⟨k0, k1, k2, k3, k4, k5⟩, kz⟩ := cells6 hp; go_wp2_with fail
    refine (hM2 _).mono ?_
    rintro _ w22 ⟨rfl, hb⟩
    clear c0 c1 c2 c3 c4 c5 cz k0 k1 k2 k3 k4 k5 kz; replace hq := blk_bel hq hb; replace hp := blk_bel hp hb; replace hBw := bel_trans hBw hb
    clear hb hM2
    obtain ⟨⟨c0, c1, c2, c3, c4, c5⟩, cz⟩ := cells6 hq; obtain ⟨⟨k0, k1, k2, k3, k4, k5⟩, kz⟩ := cells6 hp; go_wp2_with fail
    refine (hP1 _).mono ?_
    rintro _ w23 ⟨A5, n5, c5', rfl, hO5, hb⟩
    clear c0 c1 c2 c3 c4 c5 cz k0 k1 k2 k3 k4 k5 kz; replace hq := blk_bel hq hb; replace hp := blk_bel hp hb; replace hBw := bel_trans hBw hb
    clear hb hP1
    obtain ⟨⟨c0, c1, c2, c3, c4, c5⟩, cz⟩ := cells6 hq; obtain ⟨⟨k0, k1, k2, k3, k4, k5⟩, kz⟩ := cells6 hp; go_wp2_with fail
    refine (hP2 _).mono ?_
    rintro _ w24 ⟨A6, n6, c6', rfl, hO6, hb⟩
    clear c0 c1 c2 c3 c4 c5 cz k0 k1 k2 k3 k4 k5 kz; replace hq := blk_bel hq hb; replace hp := blk_bel hp hb; replace hBw := bel_trans hBw hb
    have hS5 := hO5.sl.bel hb
    have hl5 := hid hS5.int_len
    obtain rfl : n6 = n5 := hO6.sl.int_len.symm.trans hl5.out
    have hn5 : n6 ≤ 1048576 := by have := hl5.out; omega
    clear hb hP2 hO5
    go_wp2_with fail
    refine (rInts _ _ _ _ _ L _ hS5 hO6.sl hn5).mono ?_
    rintro _ w25 ⟨rfl, hb⟩
    replace hq := blk_bel hq hb
    replace hp := blk_bel hp hb
    replace hBw := bel_trans hBw hb
    replace hS5 := hS5.bel hb
    clear hb hO6
    go_upto_region 25 with fail
    go_cut [185] (fun s wx => s = .bool false ∧ Hid (Below w25.heap.size w25 wx))
    case first =>
      have hB2 := bel_refl w25
      rcases mb with _ | _
      · clear hq hp hS5
        go_wp2_with fail
        (refine wp_region_bel (by kernel_rfl) (by kernel_rfl) ?_; have hD := bel_cells hB2; (repeat (go_big_quiet_step ((fail)))); refine wpQuiet_nil ?_; intro w1 hB1; replace hB2 := bel_trans hB2 hB1; obtain ⟨hC1, hF1⟩ := bcell hB2; clear hD; replace hB1 := hB1)
        go_wp2_with fail
        go_meet
        exact ⟨rfl, hid hB2⟩
      · obtain ⟨hLe, r1, r2, r3, r4, ga, gb⟩ := hpl.out rfl
        have hab := goodH_bd ga
        have hbb := goodH_bd gb
        obtain ⟨Q, hQ⟩ : ∃ Q, bothQ a b = Q := ⟨_, rfl⟩
        rw [hQ] at hLe r1 r2 r3 r4
        rw [hLe] at hS5
        have hn4 : n6 = 4 := by have := hS5.int_len; simpa [Box.list] using this.symm
        obtain ⟨b6, o6, rfl, hb6, hc6⟩ := hS5.at_ (by omega)
        have f0 : w25.cell? ⟨b6, o6, none⟩ = some (.int .i64 Q.a) := hc6 0 _ rfl
        have f1 : w25.cell? ⟨b6, o6 + 1, none⟩ = some (.int .i64 Q.b) := hc6 1 _ rfl
        have f2 : w25.cell? ⟨b6, o6 + 2, none⟩ = some (.int .i64 Q.c) := hc6 2 _ rfl
        have f3 : w25.cell? ⟨b6, o6 + 3, none⟩ = some (.int .i64 Q.d) := hc6 3 _ rfl
        have g0 : (0 : Int) < (n6 : Int) := by omega
        have g1 : (1 : Int) < (n6 : Int) := by omega
        have g2 : (2 : Int) < (n6 : Int) := by omega
        have g3 : (3 : Int) < (n6 : Int) := by omega
        have v1 : IntKind.i64.wrap (a.x - a.err) = a.x - a.err := IntWalk.i64_in _ (by omega)
        have v2 : IntKind.i64.wrap (b.y + b.err) = b.y + b.err := IntWalk.i64_in _ (by omega)
        have k1' : decide (Q.b < Q.a) = false := decide_eq_false (by omega)
        have k2' : decide (Q.d < Q.c) = false := decide_eq_false (by omega)
        have k3' : decide (Q.a < a.x - a.err) = false := decide_eq_false (by omega)
        have k4' : decide (b.y + b.err < Q.d) = false := decide_eq_false (by omega)
        have hbq : q1 < w25.heap.size := lt_of_block hq
        have hbp : p1 < w25.heap.size := lt_of_block hp
        obtain ⟨⟨c0, c1, c2, c3, c4, c5⟩, cz⟩ := cells6 hq
        obtain ⟨⟨k0, k1, k2, k3, k4, k5⟩, kz⟩ := cells6 hp
        clear hn4 hc6 r1 r2 r3 r4 hQ hLe ga gb hab hbb hq hp hS5
        go_wp2_with fail
        (refine wp_region_bel (by kernel_rfl) (by kernel_rfl) ?_; have hD := bel_cells hB2; (repeat (go_big_quiet_step ((fail)))); refine wpQuiet_nil ?_; intro w1 hB1; replace hB2 := bel_trans hB2 hB1; obtain ⟨hC1, hF1⟩ := bcell hB2; clear hD; replace hB1 := hB1)
        go_wp2_with fail
        go_meet
        exact ⟨rfl, hid hB2⟩
    case rest =>
      obtain ⟨rfl, hBx⟩ := hcut
      replace hq := blk_bel hq hBx.out
      replace hp := blk_bel hp hBx.out
      replace hBw := bel_trans hBw hBx.out
      clear hBx hS5 hpl hl5 hLl
      obtain ⟨⟨c0, c1, c2, c3, c4, c5⟩, cz⟩ := cells6 hq; obtain ⟨⟨k0, k1, k2, k3, k4, k5⟩, kz⟩ := cells6 hp; go_wp2_with fail
      refine (hD1 _).mono ?_
      rintro _ w31 ⟨rfl, hb⟩
      clear c0 c1 c2 c3 c4 c5 cz k0 k1 k2 k3 k4 k5 kz; replace hq := blk_bel hq hb; replace hp := blk_bel hp hb; replace hBw := bel_trans hBw hb
      clear hb hD1
      obtain ⟨⟨c0, c1, c2, c3, c4, c5⟩, cz⟩ := cells6 hq; obtain ⟨⟨k0, k1, k2, k3, k4, k5⟩, kz⟩ := cells6 hp; go_wp2_with fail
      refine (hD2 _).mono ?_
      rintro _ w32 ⟨rfl, hb⟩
      clear c0 c1 c2 c3 c4 c5 cz k0 k1 k2 k3 k4 k5 kz; replace hq := blk_bel hq hb; replace hp := blk_bel hp hb; replace hBw := bel_trans hBw hb
      clear hb hD2 hq hp
      rcases G with _ | _
      · go_wp2_with fail
        go_ret
        exact ⟨ret_bool (by simp), hBw⟩
      · obtain ⟨e1, e2⟩ := hsl.out rfl
        by_cases hl0 : l = 0
        · have e3 : mb = true := by rw [e1]; exact decide_eq_true hl0
          subst e3
          subst hl0
          clear e1 hsl
          go_wp2_with fail
          go_ret
          exact ⟨ret_bool (by simp), hBw⟩
        · have e3 : mb = false := by rw [e1]; exact decide_eq_false hl0
          have e4 : (l == 0) = false := by simpa using hl0
          subst e3
          clear e1 hsl hl0
          go_wp2_with fail
          go_ret
          exact ⟨ret_bool (by simp), hBw⟩
end Go.Proofs.YtkkoccllmflhfaaGreatDoor
