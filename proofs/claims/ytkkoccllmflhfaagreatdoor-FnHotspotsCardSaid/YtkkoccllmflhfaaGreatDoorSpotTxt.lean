/-
  The text of a hot spot: of the program and of the reference, walked.
-/
import Derived.Test.YtkkoccllmflhfaaGreatDoorSpotWalks
import Derived.Test.YtkkoccllmflhfaaGreatDoorNumD
namespace Go.Proofs.YtkkoccllmflhfaaGreatDoor
open Go.RowKit

theorem tab_bel {w w' : World} (h : Tab w) (hb : Below w.heap.size w w') : Tab w' := by
  unfold Tab Lib.TabIs World.var? at h ⊢
  rcases hg : Tryz.prog.globalNamed "internal/strconv.uint64pow10" with _ | g
  · rw [hg] at h
    cases h
  · rw [hg] at h
    simp only [Option.bind_some] at h ⊢
    have hlt : g < w.heap.size := by
      rcases Nat.lt_or_ge g w.heap.size with h' | h'
      · exact h'
      · rw [Array.getElem?_eq_none h'] at h; cases h
    rw [hb.block g hlt]
    exact h
theorem numB_size (n : Int) (h : 0 ≤ n ∧ n ≤ 1000000) : (numB n).size ≤ 21 := by
  rw [numB, bytesOf_size]
  exact Lib.itoa_length_le n (by omega) (by omega)
theorem sz_add {a b : ByteArray} {k l : Nat} (ha : a.size ≤ k) (hb : b.size ≤ l) (h : k + l ≤ 1000) : ¬ (a.size + b.size > 9223372036854775807) ∧ (a ++ b).size ≤ k + l := by
  refine ⟨by omega, ?_⟩
  rw [ByteArray.size_append]
  omega
def txt (a b c d e f : ByteArray) : ByteArray := (ByteArray.mk #[115, 112, 111, 116, 32]) ++ a ++ (ByteArray.mk #[32, 97, 116, 32]) ++ b ++ (ByteArray.mk #[44]) ++ c ++ (ByteArray.mk #[32, 119, 105, 116, 104, 105, 110, 32]) ++ d ++ (ByteArray.mk #[32, 104, 101, 97, 116, 32]) ++ e ++ (ByteArray.mk #[32, 115, 101, 101, 110, 32]) ++ f
def textH (x : Hotspot) : ByteArray := txt (numB x.id) (numB x.x) (numB x.y) (numB x.err) (numB x.heat) (numB x.tick)
def textR (x : Hotspot) : ByteArray × Bool := if goodH x then (textH x, true) else (⟨#[]⟩, false)
theorem l1NumP (n : Int) (N : ByteArray) (w : World) (h : 0 ≤ n ∧ n ≤ 1000000) (he : numB n = N) :
    Calls Tryz.prog 46 #[.int .i64 n] w fun e w' => e = .returned (.string N) ∧ Below w.heap.size w w' := by
  obtain ⟨m, rfl⟩ := Int.eq_ofNat_of_zero_le h.1
  subst he
  exact l1Num m w (by omega)
theorem itoaP (n : Int) (N : ByteArray) (w : World) (h : 0 ≤ n ∧ n ≤ 1000000) (hT : Tab w) (he : numB n = N) :
    Calls Tryz.prog 21 #[.int .i64 n] w fun e w' => e = .returned (.string N) ∧ Below w.heap.size w w' := by
  subst he
  exact itoaI n w h.1 h.2 hT
set_option maxHeartbeats 2000000 in
set_option maxRecDepth 100000 in
theorem l7Text (x : Hotspot) (w : World) (hg : goodH x = true) :
    Calls Tryz.prog 23 #[.agg #[.int .i64 x.id, .int .i64 x.x, .int .i64 x.y, .int .i64 x.err, .int .i64 x.tick, .int .i64 x.heat]] w fun e w' => e = .returned (.string (textH x)) ∧ Below w.heap.size w w' := by
  have hb := goodH_bd hg
  obtain ⟨N0, h0⟩ : ∃ N, numB x.id = N := ⟨_, rfl⟩
  obtain ⟨N1, h1⟩ : ∃ N, numB x.x = N := ⟨_, rfl⟩
  obtain ⟨N2, h2⟩ : ∃ N, numB x.y = N := ⟨_, rfl⟩
  obtain ⟨N3, h3⟩ : ∃ N, numB x.err = N := ⟨_, rfl⟩
  obtain ⟨N4, h4⟩ : ∃ N, numB x.heat = N := ⟨_, rfl⟩
  obtain ⟨N5, h5⟩ : ∃ N, numB x.tick = N := ⟨_, rfl⟩
  have b0 : 0 ≤ x.id ∧ x.id ≤ 1000000 := by omega
  have b1 : 0 ≤ x.x ∧ x.x ≤ 1000000 := by omega
  have b2 : 0 ≤ x.y ∧ x.y ≤ 1000000 := by omega
  have b3 : 0 ≤ x.err ∧ x.err ≤ 1000000 := by omega
  have b4 : 0 ≤ x.heat ∧ x.heat ≤ 1000000 := by omega
  have b5 : 0 ≤ x.tick ∧ x.tick ≤ 1000000 := by omega
  obtain ⟨g1, k1⟩ := sz_add (a := (ByteArray.mk #[115, 112, 111, 116, 32])) (k := 5) (Nat.le_refl _) (h0 ▸ numB_size x.id b0) (by omega)
  obtain ⟨g2, k2⟩ := sz_add (b := (ByteArray.mk #[32, 97, 116, 32])) (l := 4) k1 (Nat.le_refl _) (by omega)
  obtain ⟨g3, k3⟩ := sz_add k2 (h1 ▸ numB_size x.x b1) (by omega)
  obtain ⟨g4, k4⟩ := sz_add (b := (ByteArray.mk #[44])) (l := 1) k3 (Nat.le_refl _) (by omega)
  obtain ⟨g5, k5⟩ := sz_add k4 (h2 ▸ numB_size x.y b2) (by omega)
  obtain ⟨g6, k6⟩ := sz_add (b := (ByteArray.mk #[32, 119, 105, 116, 104, 105, 110, 32])) (l := 8) k5 (Nat.le_refl _) (by omega)
  obtain ⟨g7, k7⟩ := sz_add k6 (h3 ▸ numB_size x.err b3) (by omega)
  obtain ⟨g8, k8⟩ := sz_add (b := (ByteArray.mk #[32, 104, 101, 97, 116, 32])) (l := 6) k7 (Nat.le_refl _) (by omega)
  obtain ⟨g9, k9⟩ := sz_add k8 (h4 ▸ numB_size x.heat b4) (by omega)
  obtain ⟨g10, k10⟩ := sz_add (b := (ByteArray.mk #[32, 115, 101, 101, 110, 32])) (l := 6) k9 (Nat.le_refl _) (by omega)
  obtain ⟨g11, -⟩ := sz_add k10 (h5 ▸ numB_size x.tick b5) (by omega)
  have hR : Hid (textH x = txt N0 N1 N2 N3 N4 N5) := by show _ = _; unfold textH; rw [h0, h1, h2, h3, h4, h5]
  have hB2 := bel_refl (w.alloc (.cells #[.int .i64 x.id, .int .i64 x.x, .int .i64 x.y, .int .i64 x.err, .int .i64 x.tick, .int .i64 x.heat] 25))
  replace h0 := hid h0
  replace h1 := hid h1
  replace h2 := hid h2
  replace h3 := hid h3
  replace h4 := hid h4
  replace h5 := hid h5
  replace b0 := hid b0
  replace b1 := hid b1
  replace b2 := hid b2
  replace b3 := hid b3
  replace b4 := hid b4
  replace b5 := hid b5
  clear hb hg k1 k2 k3 k4 k5 k6 k7 k8 k9 k10
  go_enter Tryz.func23, Tryz.ntmps23
  go_wp2_with fail
  (refine wp_region_bel (by kernel_rfl) (by kernel_rfl) ?_; have hD := bel_cells hB2; (repeat (go_big_quiet_step (((first | (go_at_call 46; exact calls_bel (l1NumP _ N0 _ b0.out h0.out)) | (go_at_call 46; exact calls_bel (l1NumP _ N1 _ b1.out h1.out)) | (go_at_call 46; exact calls_bel (l1NumP _ N2 _ b2.out h2.out)) | (go_at_call 46; exact calls_bel (l1NumP _ N3 _ b3.out h3.out)) | (go_at_call 46; exact calls_bel (l1NumP _ N4 _ b4.out h4.out)) | (go_at_call 46; exact calls_bel (l1NumP _ N5 _ b5.out h5.out))))))); refine wpQuiet_nil ?_; intro w1 hB1; replace hB2 := bel_trans hB2 hB1; obtain ⟨hC1, hF1⟩ := bcell hB2; clear hD; replace hB1 := hB1)
  go_wp2_with fail
  go_ret
  refine ⟨?_, by (repeat' (first | (with_reducible exact bel_refl _) | (with_reducible assumption) | (with_reducible refine bel_drew ?_) | (with_reducible refine bel_drewN ?_) | (with_reducible refine bel_alloc ?_) | (with_reducible refine bel_set ?_ ?_) | (with_reducible refine bel_trans ?_ (by with_reducible assumption)) | omega | (simp; done) | (simp; omega)))⟩
  rw [hR.out]
  rfl
set_option maxHeartbeats 1000000 in
theorem spotTextS (x : Hotspot) (w : World) :
    Calls Tryz.prog 7 #[.agg #[.int .i64 x.id, .int .i64 x.x, .int .i64 x.y, .int .i64 x.err, .int .i64 x.tick, .int .i64 x.heat]] w fun e w' => e = .returned (.tuple #[.string (textR x).1, .bool (textR x).2]) ∧ Below w.heap.size w w' := by
  have hB2 := bel_refl (w.alloc (.cells #[.int .i64 x.id, .int .i64 x.x, .int .i64 x.y, .int .i64 x.err, .int .i64 x.tick, .int .i64 x.heat] 25))
  rcases hg : goodH x with _ | _
  · have hR : Hid (textR x = (⟨#[]⟩, false)) := by show _ = _; simp [textR, hg]
    go_enter Tryz.func7, Tryz.ntmps7
    go_wp2_with (go_at_call 22; refine (l7One _ _).mono ?_; rintro _ w1 ⟨rfl, hB1⟩; (first | (with_reducible replace hB2 := bel_trans hB2 hB1) | (with_reducible replace hB2 := bel_trans (bel_alloc hB2) hB1)); obtain ⟨hC1, hF1⟩ := bcell hB2; replace hB1 := hB1)
    go_ret2
    exact ⟨by rw [hR.out]; rfl, by (repeat' (first | (with_reducible exact bel_refl _) | (with_reducible assumption) | (with_reducible refine bel_drew ?_) | (with_reducible refine bel_drewN ?_) | (with_reducible refine bel_alloc ?_) | (with_reducible refine bel_set ?_ ?_) | (with_reducible refine bel_trans ?_ (by with_reducible assumption)) | omega | (simp; done) | (simp; omega)))⟩
  · have hR : Hid (textR x = (textH x, true)) := by show _ = _; simp [textR, hg]
    go_enter Tryz.func7, Tryz.ntmps7
    go_wp2_with (first | (go_at_call 22; refine (l7One _ _).mono ?_; rintro _ w1 ⟨rfl, hB1⟩; (first | (with_reducible replace hB2 := bel_trans hB2 hB1) | (with_reducible replace hB2 := bel_trans (bel_alloc hB2) hB1)); obtain ⟨hC1, hF1⟩ := bcell hB2; replace hB1 := hB1) | (go_at_call 23; refine (l7Text x _ hg).mono ?_; rintro _ w1 ⟨rfl, hB1⟩; (first | (with_reducible replace hB2 := bel_trans hB2 hB1) | (with_reducible replace hB2 := bel_trans (bel_alloc hB2) hB1)); obtain ⟨hC1, hF1⟩ := bcell hB2; replace hB1 := hB1))
    go_ret2
    exact ⟨by rw [hR.out]; rfl, by (repeat' (first | (with_reducible exact bel_refl _) | (with_reducible assumption) | (with_reducible refine bel_drew ?_) | (with_reducible refine bel_drewN ?_) | (with_reducible refine bel_alloc ?_) | (with_reducible refine bel_set ?_ ?_) | (with_reducible refine bel_trans ?_ (by with_reducible assumption)) | omega | (simp; done) | (simp; omega)))⟩
set_option maxHeartbeats 2000000 in
set_option maxRecDepth 100000 in
theorem spotTextI (x : Hotspot) (w : World) (hT : Tab w) :
    Calls Tryz.prog 6 #[.agg #[.int .i64 x.id, .int .i64 x.x, .int .i64 x.y, .int .i64 x.err, .int .i64 x.tick, .int .i64 x.heat]] w fun e w' => e = .returned (.tuple #[.string (textR x).1, .bool (textR x).2]) ∧ Below w.heap.size w w' := by
  have hB2 := bel_refl (w.alloc (.cells #[.int .i64 x.id, .int .i64 x.x, .int .i64 x.y, .int .i64 x.err, .int .i64 x.tick, .int .i64 x.heat] 25))
  rcases hg : goodH x with _ | _
  · have hR : Hid (textR x = (⟨#[]⟩, false)) := by show _ = _; simp [textR, hg]
    go_enter Tryz.func6, Tryz.ntmps6
    go_wp2_with (go_at_call 8; refine (isHotspotI _ _).mono ?_; rintro _ w1 ⟨rfl, hB1⟩; (first | (with_reducible replace hB2 := bel_trans hB2 hB1) | (with_reducible replace hB2 := bel_trans (bel_alloc hB2) hB1)); obtain ⟨hC1, hF1⟩ := bcell hB2; replace hB1 := hB1)
    go_ret2
    exact ⟨by rw [hR.out]; rfl, by (repeat' (first | (with_reducible exact bel_refl _) | (with_reducible assumption) | (with_reducible refine bel_drew ?_) | (with_reducible refine bel_drewN ?_) | (with_reducible refine bel_alloc ?_) | (with_reducible refine bel_set ?_ ?_) | (with_reducible refine bel_trans ?_ (by with_reducible assumption)) | omega | (simp; done) | (simp; omega)))⟩
  · have hR2 : Hid (textR x = (textH x, true)) := by show _ = _; simp [textR, hg]
    have hb := goodH_bd hg
    obtain ⟨N0, h0⟩ : ∃ N, numB x.id = N := ⟨_, rfl⟩
    obtain ⟨N1, h1⟩ : ∃ N, numB x.x = N := ⟨_, rfl⟩
    obtain ⟨N2, h2⟩ : ∃ N, numB x.y = N := ⟨_, rfl⟩
    obtain ⟨N3, h3⟩ : ∃ N, numB x.err = N := ⟨_, rfl⟩
    obtain ⟨N4, h4⟩ : ∃ N, numB x.heat = N := ⟨_, rfl⟩
    obtain ⟨N5, h5⟩ : ∃ N, numB x.tick = N := ⟨_, rfl⟩
    have b0 : 0 ≤ x.id ∧ x.id ≤ 1000000 := by omega
    have b1 : 0 ≤ x.x ∧ x.x ≤ 1000000 := by omega
    have b2 : 0 ≤ x.y ∧ x.y ≤ 1000000 := by omega
    have b3 : 0 ≤ x.err ∧ x.err ≤ 1000000 := by omega
    have b4 : 0 ≤ x.heat ∧ x.heat ≤ 1000000 := by omega
    have b5 : 0 ≤ x.tick ∧ x.tick ≤ 1000000 := by omega
    obtain ⟨a1, j1⟩ := sz_add (b := (ByteArray.mk #[44])) (l := 1) (h1 ▸ numB_size x.x b1) (Nat.le_refl _) (by omega)
    obtain ⟨a2, j2⟩ := sz_add j1 (h2 ▸ numB_size x.y b2) (by omega)
    obtain ⟨a3, j3⟩ := sz_add (b := (ByteArray.mk #[32, 119, 105, 116, 104, 105, 110, 32])) (l := 8) j2 (Nat.le_refl _) (by omega)
    obtain ⟨a4, j4⟩ := sz_add j3 (h3 ▸ numB_size x.err b3) (by omega)
    obtain ⟨g1, k1⟩ := sz_add (a := (ByteArray.mk #[115, 112, 111, 116, 32])) (k := 5) (Nat.le_refl _) (h0 ▸ numB_size x.id b0) (by omega)
    obtain ⟨g2, k2⟩ := sz_add (b := (ByteArray.mk #[32, 97, 116, 32])) (l := 4) k1 (Nat.le_refl _) (by omega)
    obtain ⟨g3, k3⟩ := sz_add k2 j4 (by omega)
    obtain ⟨g4, k4⟩ := sz_add (b := (ByteArray.mk #[32, 104, 101, 97, 116, 32])) (l := 6) k3 (Nat.le_refl _) (by omega)
    obtain ⟨g5, k5⟩ := sz_add k4 (h4 ▸ numB_size x.heat b4) (by omega)
    obtain ⟨g6, k6⟩ := sz_add (b := (ByteArray.mk #[32, 115, 101, 101, 110, 32])) (l := 6) k5 (Nat.le_refl _) (by omega)
    obtain ⟨g7, -⟩ := sz_add k6 (h5 ▸ numB_size x.tick b5) (by omega)
    have hR : Hid (textH x = txt N0 N1 N2 N3 N4 N5) := by show _ = _; unfold textH; rw [h0, h1, h2, h3, h4, h5]
    replace h0 := hid h0
    replace h1 := hid h1
    replace h2 := hid h2
    replace h3 := hid h3
    replace h4 := hid h4
    replace h5 := hid h5
    replace b0 := hid b0
    replace b1 := hid b1
    replace b2 := hid b2
    replace b3 := hid b3
    replace b4 := hid b4
    replace b5 := hid b5
    clear hb k1 k2 k3 k4 k5 k6 j1 j2 j3 j4
    replace hT := tab_bel hT (bel_alloc (o := .cells #[.int .i64 x.id, .int .i64 x.x, .int .i64 x.y, .int .i64 x.err, .int .i64 x.tick, .int .i64 x.heat] 25) (bel_refl w))
    go_enter Tryz.func6, Tryz.ntmps6
    go_wp2_with (go_at_call 8; refine (isHotspotI _ _).mono ?_; rintro _ w1 ⟨rfl, hB1⟩; (first | (with_reducible replace hB2 := bel_trans hB2 hB1) | (with_reducible replace hB2 := bel_trans (bel_alloc hB2) hB1)); obtain ⟨hC1, hF1⟩ := bcell hB2; replace hB1 := hB1)
    replace hT := hid (tab_bel hT hB1)
    (refine wp_region_bel (by kernel_rfl) (by kernel_rfl) ?_; have hD := bel_cells hB2; (repeat (go_big_quiet_step (((first | (go_at_call 21; exact calls_bel (itoaP _ N1 _ b1.out (tab_bel hT.out (Bel.prop _)) h1.out)) | (go_at_call 21; exact calls_bel (itoaP _ N2 _ b2.out (tab_bel hT.out (Bel.prop _)) h2.out)) | (go_at_call 21; exact calls_bel (itoaP _ N3 _ b3.out (tab_bel hT.out (Bel.prop _)) h3.out))))))); refine wpQuiet_nil ?_; intro w1 hB1; replace hB2 := bel_trans hB2 hB1; obtain ⟨hC1, hF1⟩ := bcell hB2; clear hD; replace hB1 := hB1)
    go_wp2_with fail
    replace hT := hid (tab_bel hT.out hB1)
    (refine wp_region_bel (by kernel_rfl) (by kernel_rfl) ?_; have hD := bel_cells hB2; (repeat (go_big_quiet_step (((first | (go_at_call 21; exact calls_bel (itoaP _ N0 _ b0.out (tab_bel hT.out (Bel.prop _)) h0.out)) | (go_at_call 21; exact calls_bel (itoaP _ N4 _ b4.out (tab_bel hT.out (Bel.prop _)) h4.out)) | (go_at_call 21; exact calls_bel (itoaP _ N5 _ b5.out (tab_bel hT.out (Bel.prop _)) h5.out))))))); refine wpQuiet_nil ?_; intro w1 hB1; replace hB2 := bel_trans hB2 hB1; obtain ⟨hC1, hF1⟩ := bcell hB2; clear hD; replace hB1 := hB1)
    go_wp2_with fail
    go_ret2
    refine ⟨?_, by (repeat' (first | (with_reducible exact bel_refl _) | (with_reducible assumption) | (with_reducible refine bel_drew ?_) | (with_reducible refine bel_drewN ?_) | (with_reducible refine bel_alloc ?_) | (with_reducible refine bel_set ?_ ?_) | (with_reducible refine bel_trans ?_ (by with_reducible assumption)) | omega | (simp; done) | (simp; omega)))⟩
    rw [hR2.out, hR.out]
    unfold txt
    simp only [← ByteArray.append_assoc]
    rfl
end Go.Proofs.YtkkoccllmflhfaaGreatDoor
