/-
  The bounds of all places that are possible for hot spots: of the program and of the reference, walked.
-/
import Derived.Test.YtkkoccllmflhfaaSpotMay
import Derived.StillTailTactics
namespace Go.Proofs.Ytkkoccllmflhfaa
open Go.RowKit

def oneQ (x : Hotspot) : Box := ⟨x.x - x.err, x.x + x.err, x.y - x.err, x.y + x.err⟩
def hullStep (q : Box) (x : Hotspot) : Box := ⟨min q.a (x.x - x.err), max q.b (x.x + x.err), min q.c (x.y - x.err), max q.d (x.y + x.err)⟩
def hullQ (xs : List Hotspot) : Box :=
  match xs with
  | [] => ⟨0, 0, 0, 0⟩
  | x :: xs => xs.foldl hullStep (oneQ x)
theorem hull_next {xs : List Hotspot} {i : Nat} {x : Hotspot} (hx : xs[i + 1]? = some x) : hullQ (xs.take (i + 2)) = hullStep (hullQ (xs.take (i + 1))) x := by
  rcases xs with _ | ⟨y, ys⟩
  · simp at hx
  · simp only [List.getElem?_cons_succ] at hx
    simp only [List.take_succ_cons, hullQ]
    rw [List.take_add_one, hx]
    simp
theorem hull_one {xs : List Hotspot} {x : Hotspot} (hx : xs[0]? = some x) : hullQ (xs.take 1) = oneQ x := by
  rcases xs with _ | ⟨y, ys⟩
  · simp at hx
  · simp only [List.getElem?_cons_zero, Option.some.injEq] at hx
    subst hx
    rfl
theorem one_box {x : Hotspot} (hx : goodH x = true) : boxQ [x] = oneQ x := by
  have h1 := goodH_bd hx
  have e : boxQ [x] = ⟨max (-100) (x.x - x.err), min 2000 (x.x + x.err), max (-100) (x.y - x.err), min 2000 (x.y + x.err)⟩ := rfl
  rw [e]
  simp only [oneQ, Box.mk.injEq]
  refine ⟨?_, ?_, ?_, ?_⟩
  · omega
  · omega
  · omega
  · omega
def hullR (xs : List Hotspot) : List Int × Bool := if listH xs && decide (0 < xs.length) then ((hullQ xs).list, true) else ([], false)
theorem hullR_len (xs : List Hotspot) : (hullR xs).1.length ≤ 1048576 := by
  unfold hullR
  split <;> simp [Box.list]

set_option maxHeartbeats 2000000 in
set_option maxRecDepth 100000 in
theorem boxOfI (A : Option Addr) (n c : Nat) (xs : List Hotspot) (w : World) (hS : Sl w 6 A n c (xs.flatMap Hotspot.row)) (hn : n ≤ 1048576) :
    Calls Try.prog 24 #[.slice A n c] w fun e w' => ∃ A' n' c', e = .returned (.tuple #[.slice A' n' c', .bool (hullR xs).2]) ∧ Own w.heap.size w'.heap.size w' 3 1 A' n' c' (ints (hullR xs).1) ∧ Below w.heap.size w w' := by
  have hB2 := bel_refl w
  have hlh := hid (hS.xs_len Hotspot.row_len (by omega))
  rcases hg : listH xs with _ | _
  · have hR : Hid (hullR xs = ([], false)) := by show _ = _; simp [hullR, hg]
    go_enter Try.func24, Try.ntmps24
    go_wp2_with (go_at_call 23; refine (areHotspotsI _ _ _ _ _ hS hn).mono ?_; rintro _ w1 ⟨rfl, hB1⟩; (first | (with_reducible replace hB2 := bel_trans hB2 hB1) | (with_reducible replace hB2 := bel_trans (bel_alloc hB2) hB1)); obtain ⟨hC1, hF1⟩ := bcell hB2; replace hB1 := hB1)
    go_ret2; exact ⟨none, 0, 0, by rw [hR.out]; rfl, by rw [hR.out]; exact Own.mk_ (World.ownsRow_nil _ _ _ _), by (repeat' (first | (with_reducible exact bel_refl _) | (with_reducible assumption) | (with_reducible refine bel_drew ?_) | (with_reducible refine bel_drewN ?_) | (with_reducible refine bel_alloc ?_) | (with_reducible refine bel_set ?_ ?_) | (with_reducible refine bel_trans ?_ (by with_reducible assumption)) | omega | (simp; done) | (simp; omega)))⟩
  · have ha := listH_all hg
    have hn10 : n ≤ 10 := by rw [← hlh.out]; exact listH_len hg
    rcases n with _ | n
    · have hR : Hid (hullR xs = ([], false)) := by show _ = _; simp [hullR, hlh.out]
      go_enter Try.func24, Try.ntmps24
      go_wp2_with (go_at_call 23; refine (areHotspotsI _ _ _ _ _ hS hn).mono ?_; rintro _ w1 ⟨rfl, hB1⟩; (first | (with_reducible replace hB2 := bel_trans hB2 hB1) | (with_reducible replace hB2 := bel_trans (bel_alloc hB2) hB1)); obtain ⟨hC1, hF1⟩ := bcell hB2; replace hB1 := hB1)
      go_ret2; exact ⟨none, 0, 0, by rw [hR.out]; rfl, by rw [hR.out]; exact Own.mk_ (World.ownsRow_nil _ _ _ _), by (repeat' (first | (with_reducible exact bel_refl _) | (with_reducible assumption) | (with_reducible refine bel_drew ?_) | (with_reducible refine bel_drewN ?_) | (with_reducible refine bel_alloc ?_) | (with_reducible refine bel_set ?_ ?_) | (with_reducible refine bel_trans ?_ (by with_reducible assumption)) | omega | (simp; done) | (simp; omega)))⟩
    · have hR : Hid (hullR xs = ((hullQ xs).list, true)) := by show _ = _; simp [hullR, hlh.out, hg]
      obtain ⟨x, hx⟩ : ∃ x, xs[0]? = some x := get_of_lt (by rw [hlh.out]; omega)
      obtain ⟨b, o, rfl, hb, c0, c1, c2, c3, c4, c5⟩ := hS.hotspot hx
      simp only [Nat.zero_mul, Nat.add_zero] at c0 c1 c2 c3 c4 c5
      have hgx := hid (ha 0 x hx)
      have hone := hid (hull_one hx)
      have hn0 : ¬ ((n : Int) + 1 = 0) := by omega
      have hn1 : (0 : Int) < (n : Int) + 1 := by omega
      have hn2 : (1 : Int) ≤ (n : Int) + 1 := by omega
      have hcap := hS.cap
      have hmx := hS.max
      clear hx
      by_cases hc1 : c = 1
      · subst hc1
        go_enter Try.func24, Try.ntmps24
        go_wp2_with (first | (go_at_call 23; refine (areHotspotsI _ _ _ _ _ hS hn).mono ?_; rintro _ w1 ⟨rfl, hB1⟩; (first | (with_reducible replace hB2 := bel_trans hB2 hB1) | (with_reducible replace hB2 := bel_trans (bel_alloc hB2) hB1)); obtain ⟨hC1, hF1⟩ := bcell hB2; replace hB1 := hB1) | (go_at_call 47; refine (boxI _ 1 1 [x] _ (one_slH (by first | rfl | simp)) (by omega) (all_one hgx.out)).mono ?_; rintro _ w9 ⟨g, rfl, hO, hb9⟩))
        rw [one_box hgx.out, ← hone.out] at hO
        have hz1 := hB2.size
        have hB9 : Below w.heap.size w w9 := by (repeat' (first | (with_reducible exact bel_refl _) | (with_reducible assumption) | (with_reducible refine bel_drew ?_) | (with_reducible refine bel_drewN ?_) | (with_reducible refine bel_alloc ?_) | (with_reducible refine bel_set ?_ ?_) | (with_reducible refine bel_trans ?_ (by with_reducible assumption)) | omega | (simp; done) | (simp; omega)))
        clear hB1 hC1 hF1 hb9 c0 c1 c2 c3 c4 c5
        go_loopw [4, 7, 24] (fun q _ v wr => ∃ j : Nat, j ≤ n ∧ v = .int .i64 j ∧ (∃ g', q = .slice (some ⟨g', 0, none⟩) 4 4 ∧ Own w.heap.size wr.heap.size wr 3 1 (some ⟨g', 0, none⟩) 4 4 (ints (hullQ (xs.take (j + 1))).list)) ∧ Below w.heap.size w wr) (fun _ _ v _ => n - (intOf v).toNat)
        case atStart => exact ⟨0, by omega, rfl, ⟨g, rfl, hO.low (by simp at hz1 ⊢; omega)⟩, hB9⟩
        case round =>
          clear hB2 hO hB9
          obtain ⟨j, hj', rfl, ⟨g', rfl, hO⟩, hB⟩ := hrel
          by_cases hlt : j < n
          · exact absurd hlt (by omega)
          · have e : j = n := by omega
            subst e
            go_wp2
            go_ret2
            rw [List.take_of_length_le (by rw [hlh.out]; omega)] at hO
            exact ⟨some ⟨g', 0, none⟩, 4, 4, by rw [hR.out]; rfl, by rw [hR.out]; exact hO, hB⟩
      · go_enter Try.func24, Try.ntmps24
        go_wp2_with (first | (go_at_call 23; refine (areHotspotsI _ _ _ _ _ hS hn).mono ?_; rintro _ w1 ⟨rfl, hB1⟩; (first | (with_reducible replace hB2 := bel_trans hB2 hB1) | (with_reducible replace hB2 := bel_trans (bel_alloc hB2) hB1)); obtain ⟨hC1, hF1⟩ := bcell hB2; replace hB1 := hB1) | (go_at_call 47; refine (boxI _ 1 1 [x] _ (one_slH (by first | rfl | simp)) (by omega) (all_one hgx.out)).mono ?_; rintro _ w9 ⟨g, rfl, hO, hb9⟩))
        rw [one_box hgx.out, ← hone.out] at hO
        have hz1 := hB2.size
        have hB9 : Below w.heap.size w w9 := by (repeat' (first | (with_reducible exact bel_refl _) | (with_reducible assumption) | (with_reducible refine bel_drew ?_) | (with_reducible refine bel_drewN ?_) | (with_reducible refine bel_alloc ?_) | (with_reducible refine bel_set ?_ ?_) | (with_reducible refine bel_trans ?_ (by with_reducible assumption)) | omega | (simp; done) | (simp; omega)))
        clear hB1 hC1 hF1 hb9 c0 c1 c2 c3 c4 c5
        go_loopw [4, 7, 24] (fun q _ v wr => ∃ j : Nat, j ≤ n ∧ v = .int .i64 j ∧ (∃ g', q = .slice (some ⟨g', 0, none⟩) 4 4 ∧ Own w.heap.size wr.heap.size wr 3 1 (some ⟨g', 0, none⟩) 4 4 (ints (hullQ (xs.take (j + 1))).list)) ∧ Below w.heap.size w wr) (fun _ _ v _ => n - (intOf v).toNat)
        case atStart => exact ⟨0, by omega, rfl, ⟨g, rfl, hO.low (by simp at hz1 ⊢; omega)⟩, hB9⟩
        case round =>
          clear hB2 hO hB9
          obtain ⟨j, hj', rfl, ⟨g', rfl, hO⟩, hB⟩ := hrel
          by_cases hlt : j < n
          · obtain ⟨x, hx⟩ : ∃ x, xs[j + 1]? = some x := get_of_lt (by rw [hlh.out]; omega)
            obtain ⟨b', o', hbo, _, c0, c1, c2, c3, c4, c5⟩ := (hS.bel hB).hotspot hx
            simp only [Option.some.injEq, Addr.mk.injEq, and_true] at hbo
            obtain ⟨rfl, rfl⟩ := hbo
            rw [show o + (j + 1) * 6 = o + 6 + j * 6 by omega] at c0 c1 c2 c3 c4 c5
            have hgy := hid (ha (j + 1) x hx)
            have hN := hid (hull_next hx)
            clear hx
            obtain ⟨q, hq⟩ : ∃ q, hullQ (xs.take (j + 1)) = q := ⟨_, rfl⟩
            rw [hq] at hO hN
            clear hq
            have hgl := hO.up g' rfl
            go_wp2_with (go_at_call 47; refine (boxI _ 1 1 [x] _ (one_slH (by first | rfl | simp)) (by omega) (all_one hgy.out)).mono ?_; rintro _ w10 ⟨g2, rfl, hO2, hb10⟩)
            rw [one_box hgy.out] at hO2
            have hBr : Below wr.heap.size wr w10 := by (repeat' (first | (with_reducible exact bel_refl _) | (with_reducible assumption) | (with_reducible refine bel_drew ?_) | (with_reducible refine bel_drewN ?_) | (with_reducible refine bel_alloc ?_) | (with_reducible refine bel_set ?_ ?_) | (with_reducible refine bel_trans ?_ (by with_reducible assumption)) | omega | (simp; done) | (simp; omega)))
            have hO1 := own_bel hO.own hBr
            have f0 := hO1.cellAt 0 (by omega)
            have f1 := hO1.cellAt 1 (by omega)
            have f2 := hO1.cellAt 2 (by omega)
            have f3 := hO1.cellAt 3 (by omega)
            have k0 := hO2.own.cellAt 0 (by omega)
            have k1 := hO2.own.cellAt 1 (by omega)
            have k2 := hO2.own.cellAt 2 (by omega)
            have k3 := hO2.own.cellAt 3 (by omega)
            simp only [Box.list, oneQ, ints, List.map_cons, List.map_nil, List.getElem?_cons_succ, List.getElem?_cons_zero] at f0 f1 f2 f3 k0 k1 k2 k3
            have hBW := bel_trans hB hBr
            have hlit := World.ownsRow_lit (base := w.heap.size) (e := 3) (size := 1) w10 #[.int .i64 (min q.a (x.x - x.err)), .int .i64 (max q.b (x.x + x.err)), .int .i64 (min q.c (x.y - x.err)), .int .i64 (max q.d (x.y + x.err))] 4 hBW.size (by simp [maxLen]) rfl
            clear hO1 hO2 hO hb10 c0 c1 c2 c3 c4 c5
            refine wp_region_still_tail 28 (by kernel_rfl) (by kernel_rfl) ?_
            (simp only [List.take_succ_cons, List.take_zero, List.drop_succ_cons, List.drop_zero])
            (repeat still_step)
            refine wpStill_nil ?_
            change wpList _ _ _ _ _ w10.drew
            go_wp2
            go_roundw
            case rel => exact ⟨j + 1, by omega, by go_num, ⟨_, rfl, by rw [hN.out]; exact (Own.mk_ hlit).bel (bel_drew (bel_refl _))⟩, by (repeat' (first | (with_reducible exact bel_refl _) | (with_reducible assumption) | (with_reducible refine bel_drew ?_) | (with_reducible refine bel_drewN ?_) | (with_reducible refine bel_alloc ?_) | (with_reducible refine bel_set ?_ ?_) | (with_reducible refine bel_trans ?_ (by with_reducible assumption)) | omega | (simp; done) | (simp; omega)))⟩
            case measure => simp [intOf]; omega
          · have e : j = n := by omega
            subst e
            go_wp2
            go_ret2
            rw [List.take_of_length_le (by rw [hlh.out]; omega)] at hO
            exact ⟨some ⟨g', 0, none⟩, 4, 4, by rw [hR.out]; rfl, by rw [hR.out]; exact hO, hB⟩
set_option maxRecDepth 100000 in
set_option maxHeartbeats 4000000 in
theorem boxOfS (A : Option Addr) (n c : Nat) (xs : List Hotspot) (w : World) (hS : Sl w 6 A n c (xs.flatMap Hotspot.row)) (hn : n ≤ 1048576) :
    Calls Try.prog 25 #[.slice A n c] w fun e w' => ∃ A' n' c', e = .returned (.tuple #[.slice A' n' c', .bool (hullR xs).2]) ∧ Own w.heap.size w'.heap.size w' 3 1 A' n' c' (ints (hullR xs).1) ∧ Below w.heap.size w w' := by
  have hB2 := bel_refl w
  have hlh := hid (hS.xs_len Hotspot.row_len (by omega))
  rcases hg : listH xs with _ | _
  · have hR : Hid (hullR xs = ([], false)) := by show _ = _; simp [hullR, hg]
    go_enter Try.func25, Try.ntmps25
    go_wp2_with (go_at_call 32; refine (l7Good _ _ _ _ _ hS hn).mono ?_; rintro _ w1 ⟨rfl, hB1⟩; (first | (with_reducible replace hB2 := bel_trans hB2 hB1) | (with_reducible replace hB2 := bel_trans (bel_alloc hB2) hB1)); obtain ⟨hC1, hF1⟩ := bcell hB2; replace hB1 := hB1)
    go_ret2; exact ⟨some ⟨w1.heap.size, 0, none⟩, 0, 0, by rw [hR.out]; rfl, by rw [hR.out]; exact (Own.mk_ (own_empty (Nat.le_refl _))).low hB2.size, by (repeat' (first | (with_reducible exact bel_refl _) | (with_reducible assumption) | (with_reducible refine bel_drew ?_) | (with_reducible refine bel_drewN ?_) | (with_reducible refine bel_alloc ?_) | (with_reducible refine bel_set ?_ ?_) | (with_reducible refine bel_trans ?_ (by with_reducible assumption)) | omega | (simp; done) | (simp; omega)))⟩
  · have ha := listH_all hg
    have hn10 : n ≤ 10 := by rw [← hlh.out]; exact listH_len hg
    rcases n with _ | n
    · have hR : Hid (hullR xs = ([], false)) := by show _ = _; simp [hullR, hlh.out]
      go_enter Try.func25, Try.ntmps25
      go_wp2_with (go_at_call 32; refine (l7Good _ _ _ _ _ hS hn).mono ?_; rintro _ w1 ⟨rfl, hB1⟩; (first | (with_reducible replace hB2 := bel_trans hB2 hB1) | (with_reducible replace hB2 := bel_trans (bel_alloc hB2) hB1)); obtain ⟨hC1, hF1⟩ := bcell hB2; replace hB1 := hB1)
      go_ret2; exact ⟨some ⟨w1.heap.size, 0, none⟩, 0, 0, by rw [hR.out]; rfl, by rw [hR.out]; exact (Own.mk_ (own_empty (Nat.le_refl _))).low hB2.size, by (repeat' (first | (with_reducible exact bel_refl _) | (with_reducible assumption) | (with_reducible refine bel_drew ?_) | (with_reducible refine bel_drewN ?_) | (with_reducible refine bel_alloc ?_) | (with_reducible refine bel_set ?_ ?_) | (with_reducible refine bel_trans ?_ (by with_reducible assumption)) | omega | (simp; done) | (simp; omega)))⟩
    · have hR : Hid (hullR xs = ((hullQ xs).list, true)) := by show _ = _; simp [hullR, hlh.out, hg]
      obtain ⟨x, hx⟩ : ∃ x, xs[0]? = some x := get_of_lt (by rw [hlh.out]; omega)
      obtain ⟨b, o, rfl, hb, c0, c1, c2, c3, c4, c5⟩ := hS.hotspot hx
      simp only [Nat.zero_mul, Nat.add_zero] at c0 c1 c2 c3 c4 c5
      have hgx := goodH_bd (ha 0 x hx)
      have hone := hid (hull_one hx)
      have hn0 : ¬ ((n : Int) + 1 = 0) := by omega
      have hn1 : (0 : Int) < (n : Int) + 1 := by omega
      clear hx
      go_enter Try.func25, Try.ntmps25
      go_wp2_with (go_at_call 32; refine (l7Good _ _ _ _ _ hS hn).mono ?_; rintro _ w1 ⟨rfl, hB1⟩; (first | (with_reducible replace hB2 := bel_trans hB2 hB1) | (with_reducible replace hB2 := bel_trans (bel_alloc hB2) hB1)); obtain ⟨hC1, hF1⟩ := bcell hB2; replace hB1 := hB1)
      have hz1 := hB2.size
      have hB9 : Below w.heap.size w w1 := hB2
      obtain ⟨hbk, hbke⟩ : ∃ k, w1.heap.size = k := ⟨_, rfl⟩
      have hlit := World.ownsRow_lit (base := w.heap.size) (e := 49) (size := 6) w1 #[.int .i64 x.id, .int .i64 x.x, .int .i64 x.y, .int .i64 x.err, .int .i64 x.tick, .int .i64 x.heat] 1 hz1 (by simp [maxLen]) rfl
      clear hB1 hC1 hF1 hB2
      have hB2 := bel_refl (w1.alloc (.cells #[.int .i64 x.id, .int .i64 x.x, .int .i64 x.y, .int .i64 x.err, .int .i64 x.tick, .int .i64 x.heat] 49))
      (refine wp_region_bel (by kernel_rfl) (by kernel_rfl) ?_; have hD := bel_cells hB2; (repeat (go_big_quiet_step ((fail)))); refine wpQuiet_nil ?_; intro w1 hB1; replace hB2 := bel_trans hB2 hB1; obtain ⟨hC1, hF1⟩ := bcell hB2; clear hD; replace hB1 := hB1)
      go_wp2_with fail
      have hown0 := own_bel hlit hB2
      rw [hbke] at hown0
      have hBs : Below w.heap.size w w1 := by first | exact bel_trans (bel_alloc hB9) hB2 | assumption
      clear hlit hB2 hB9 hbke hC1 hF1 hB1 c0 c1 c2 c3 c4 c5 hz1
      go_loopw [5, 6, 7, 8, 9] (fun qa qb qc qd v wr => ∃ j : Nat, j ≤ n ∧ v = .int .i64 ((j : Int) + 1) ∧ qa = .int .i64 (hullQ (xs.take (j + 1))).a ∧ qb = .int .i64 (hullQ (xs.take (j + 1))).b ∧ qc = .int .i64 (hullQ (xs.take (j + 1))).c ∧ qd = .int .i64 (hullQ (xs.take (j + 1))).d ∧ (∃ y : Hotspot, wr.ownsRow w.heap.size 49 6 (.slice (some ⟨hbk, 0, none⟩) 1 1) 1 y.row) ∧ Below w.heap.size w wr) (fun _ _ _ _ v _ => n + 1 - (intOf v).toNat)
      case atStart => exact ⟨0, by omega, by go_num, by rw [hone.out]; rfl, by rw [hone.out]; rfl, by rw [hone.out]; rfl, by rw [hone.out]; rfl, ⟨x, hown0⟩, hBs⟩
      case round =>
        clear hown0 hBs
        obtain ⟨j, hj', rfl, rfl, rfl, rfl, rfl, ⟨y, hown⟩, hB⟩ := hrel
        by_cases hlt : j < n
        · obtain ⟨x, hx⟩ : ∃ x, xs[j + 1]? = some x := get_of_lt (by rw [hlh.out]; omega)
          obtain ⟨b', o', hbo, _, c0, c1, c2, c3, c4, c5⟩ := (hS.bel hB).hotspot hx
          simp only [Option.some.injEq, Addr.mk.injEq, and_true] at hbo
          obtain ⟨rfl, rfl⟩ := hbo
          have hgy := goodH_bd (ha (j + 1) x hx)
          have hN := hid (hull_next hx)
          clear hx
          obtain ⟨q, hq⟩ : ∃ q, hullQ (xs.take (j + 1)) = q := ⟨_, rfl⟩
          rw [hq] at hN
          rw [hq]
          clear hq
          have hp0 : (((j + 1 : Nat) : Int)) = (j : Int) + 1 := by omega
          have hi0 : (0 : Int) ≤ (j : Int) + 1 := by omega
          have hi1 : (j : Int) + 1 < (n : Int) + 1 := by omega
          have htn : ((j : Int) + 1).toNat = j + 1 := by omega
          have hbl := (hown.lt hbk rfl).2
          have hbw := (hown.lt hbk rfl).1
          have d0 := hown.cellAt 0 (by omega)
          have d1 := hown.cellAt 1 (by omega)
          have d2 := hown.cellAt 2 (by omega)
          have d3 := hown.cellAt 3 (by omega)
          have d4 := hown.cellAt 4 (by omega)
          have d5 := hown.cellAt 5 (by omega)
          simp only [Hotspot.row, List.getElem?_cons_succ, List.getElem?_cons_zero] at d0 d1 d2 d3 d4 d5
          have z0 := own_fz hown 0
          have z1 := own_fz hown 1
          have z2 := own_fz hown 2
          have z3 := own_fz hown 3
          have z4 := own_fz hown 4
          have z5 := own_fz hown 5
          have hownh := hid hown
          clear hown
          go_wp2_with (first | (go_at_call 48; refine (l1Least _ _ _).mono ?_; rintro _ w1 ⟨rfl, rfl⟩) | (go_at_call 49; refine (l1Most _ _ _).mono ?_; rintro _ w1 ⟨rfl, rfl⟩))
          go_roundw
          case rel => exact ⟨j + 1, by omega, congrArg (Value.int .i64) (by omega), by rw [hN.out]; rfl, by rw [hN.out]; rfl, by rw [hN.out]; rfl, by rw [hN.out]; rfl, ⟨x, ((((((hownh.out.stored 0 (.int .i64 x.id)).1.stored 1 (.int .i64 x.x)).1.stored 2 (.int .i64 x.y)).1.stored 3 (.int .i64 x.err)).1.stored 4 (.int .i64 x.tick)).1.stored 5 (.int .i64 x.heat)).1⟩, by (repeat' (first | (with_reducible exact bel_refl _) | (with_reducible assumption) | (with_reducible refine bel_drew ?_) | (with_reducible refine bel_drewN ?_) | (with_reducible refine bel_alloc ?_) | (with_reducible refine bel_set ?_ ?_) | (with_reducible refine bel_trans ?_ (by with_reducible assumption)) | omega | (simp; done) | (simp; omega)))⟩
          case measure => simp [intOf]; omega
        · have e : j = n := by omega
          subst e
          go_wp2
          go_ret2
          rw [List.take_of_length_le (by rw [hlh.out]; omega)]
          have hlit := World.ownsRow_lit (base := w.heap.size) (e := 3) (size := 1) wr #[.int .i64 (hullQ xs).a, .int .i64 (hullQ xs).b, .int .i64 (hullQ xs).c, .int .i64 (hullQ xs).d] 4 hB.size (by simp [maxLen]) rfl
          exact ⟨_, _, _, by rw [hR.out]; rfl, by rw [hR.out]; exact Own.mk_ hlit, by (repeat' (first | (with_reducible exact bel_refl _) | (with_reducible assumption) | (with_reducible refine bel_drew ?_) | (with_reducible refine bel_drewN ?_) | (with_reducible refine bel_alloc ?_) | (with_reducible refine bel_set ?_ ?_) | (with_reducible refine bel_trans ?_ (by with_reducible assumption)) | omega | (simp; done) | (simp; omega)))⟩
end Go.Proofs.Ytkkoccllmflhfaa
