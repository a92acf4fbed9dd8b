/-
  Lists of hot spots that are drawn: walked.
-/
import Derived.Test.YtkkoccllmflhfaaSpotDraw
import Derived.Test.YtkkoccllmflhfaaSpotLast
namespace Go.Proofs.Ytkkoccllmflhfaa
open Go.RowKit

set_option maxHeartbeats 4000000 in
set_option maxRecDepth 100000 in
theorem hotspotsC (W : World) (g : Nat) (A : Option Addr) (n c : Nat) (cs : List Int) (B : Nat) (w : World) (hC : Code W A n c cs) (h : Cur W g A n c B w) (hB : B ≤ 800000) :
    Calls Try.prog 53 #[.pointer (some ⟨g, 0, none⟩)] w fun e w' => ∃ (A' : Option Addr) (m c' : Nat) (xs : List Hotspot), e = .returned (.slice A' m c') ∧ Own w.heap.size w'.heap.size w' 49 6 A' m c' (xs.flatMap Hotspot.row) ∧ m ≤ 12 ∧ Cur W g A n c (B + 220) w' ∧ w.grownBy w' (some g) := by
  have hgl := h.lt
  go_enter Try.func53, Try.ntmps53
  go_wp2_with fail
  refine (pickC W g A n c cs B 8 _ hC (h.kept (bel_alloc (bel_refl _))) (by omega) (by omega)).mono ?_
  rintro _ w1 ⟨r, rfl, ⟨hr0, hr1⟩, hc1, hg1⟩
  obtain ⟨k0, rfl⟩ := Int.eq_ofNat_of_zero_le hr0
  have hk0 : k0 ≤ 7 := by omega
  have hG1 := gro_trans (gro_bel (r := some g) (bel_alloc (o := .cells #[] 49) (bel_refl w))) hg1
  have hown1 := own_gro (own_empty (w := w) (size := 6) (e := 49) (Nat.le_refl _)) hg1 hgl
  clear hr0 hr1 hg1
  go_wp2_with fail
  go_loopw [3, 4, 5] (fun q i v wr => ∃ (k m : Nat) (idv : Int), m + k ≤ 7 ∧ v = .int .i64 k ∧ i = .int .i64 idv ∧ 0 ≤ idv ∧ idv + 3 * k ≤ 21 ∧ (∃ (A' : Option Addr) (c' : Nat) (xs : List Hotspot), q = .slice A' m c' ∧ wr.ownsRow w.heap.size 49 6 (.slice A' m c') m (xs.flatMap Hotspot.row)) ∧ Cur W g A n c (B + 2 + 24 * m) wr ∧ w.grownBy wr (some g)) (fun _ _ v _ => (intOf v).toNat)
  case atStart => exact ⟨k0, 0, 0, by omega, rfl, rfl, by omega, by omega, ⟨_, _, [], rfl, hown1⟩, hc1, hG1⟩
  case round =>
    clear hown1 hc1 hG1
    obtain ⟨k, m, idv, hmk, rfl, rfl, hi0, hi1, ⟨A', c', xs, rfl, hown⟩, hc, hG⟩ := hrel
    by_cases hk : 0 < k
    · have hkI : (0 : Int) < (k : Int) := by omega
      go_wp2_with fail
      refine (pickC W g A n c cs _ 3 _ hC hc (by omega) (by omega)).mono ?_
      rintro _ w2 ⟨a, rfl, ⟨ha0, ha1⟩, hc2, hg2⟩
      have ha2 : a ≤ 2 := by omega
      clear ha1
      go_wp2_with fail
      refine (pickC W g A n c cs _ 80 _ hC hc2 (by omega) (by omega)).mono ?_
      rintro _ w3 ⟨b, rfl, ⟨hb0, hb1⟩, hc3, hg3⟩
      have hb2 : b ≤ 79 := by omega
      have hq0 : 0 ≤ b / 79 ∧ b / 79 ≤ 1 := by omega
      clear hb1
      go_wp2_with fail
      refine (hotspotC W g A n c cs _ _ _ hC hc3 (by omega)).mono ?_
      rintro _ w4 ⟨x, rfl, hc4, hg4⟩
      have hown4 := own_gro (own_gro (own_gro hown hg2 hgl) hg3 hgl) hg4 hgl
      have hG4 := gro_trans (gro_trans (gro_trans hG hg2) hg3) hg4
      clear hown hG hg2 hg3 hg4 hc hc2 hc3
      go_wp2_with (at_builtin; refine wpList_push rfl (.tmp 22) (.tmp 26) 27 rfl w.heap.size 49 (.agg #[.int .i64 0, .int .i64 0, .int .i64 0, .int .i64 0, .int .i64 0, .int .i64 0]) 6 48 Try.underlying27 info_Hotspot rfl (by omega) A' m c' _ [.int .i64 x.id, .int .i64 x.x, .int .i64 x.y, .int .i64 x.err, .int .i64 x.tick, .int .i64 x.heat] 49 rfl hown4 rfl rfl (oneCell_hot x) (by omega) (by omega) hG4.size ?_; intro A'' c'' w5 hown5 hb5 hg5)
      have hc5 := cur_push hc4 hg5 hown4 hgl
      have hG5 := gro_push hG4 hg5 hown4 (Nat.le_refl _)
      go_roundw
      case rel => exact ⟨k - 1, m + 1, _, by omega, by (congr 1; omega), rfl, by omega, by omega, ⟨_, _, xs ++ [x], rfl, by rw [List.flatMap_append]; simpa [Hotspot.row] using hown5⟩, hc5.up (by omega), hG5⟩
      case measure => simp [intOf]; omega
    · have hkI : ¬ (0 : Int) < (k : Int) := by omega
      go_wp2_with fail
      refine (oneC W g A n c cs _ 24 _ hC hc (by omega) (by omega)).mono ?_
      rintro _ w2 ⟨b, rfl, hc2, hg2⟩
      have hown2 := own_gro hown hg2 hgl
      have hG2 := gro_trans hG hg2
      have hm4 : m ≤ 7 := by omega
      have hi2 : idv ≤ 21 := by omega
      clear hown hG hc hg2 hkI hk hmk
      rcases b with _ | _
      · go_wp2_with fail
        go_ret
        exact ⟨A', m, c', xs, rfl, Own.mk_ hown2, by omega, hc2.up (by omega), hG2⟩
      · go_wp2_with fail
        go_loopw [3, 4] (fun q i wr => ∃ (m : Nat) (idv : Int), m ≤ 12 ∧ i = .int .i64 idv ∧ 0 ≤ idv ∧ idv ≤ 21 + m ∧ (∃ (A' : Option Addr) (c' : Nat) (xs : List Hotspot), q = .slice A' m c' ∧ wr.ownsRow w.heap.size 49 6 (.slice A' m c') m (xs.flatMap Hotspot.row)) ∧ Cur W g A n c (B + 2 + 24 * 7 + 2 + 2 * m) wr ∧ w.grownBy wr (some g)) (fun q _ _ => match q with | .slice _ m _ => 12 - m | _ => 0)
        case atStart => exact ⟨m, idv, by omega, rfl, by omega, by omega, ⟨_, _, xs, rfl, hown2⟩, hc2.up (by omega), hG2⟩
        case round =>
          clear hown2 hc2 hG2 hi0 hi1 hi2 hm4
          obtain ⟨m, idv, hm8, rfl, hi0, hi1, ⟨A', c', xs, rfl, hown⟩, hc, hG⟩ := hrel
          go_wp2_with fail
          refine (pickC W g A n c cs _ 2 _ hC hc (by omega) (by omega)).mono ?_
          rintro _ w2 ⟨a, rfl, ⟨ha0, ha1⟩, hc2, hg2⟩
          have ha2 : a ≤ 1 := by omega
          clear ha1
          have hown2 := own_gro hown hg2 hgl
          have hG2 := gro_trans hG hg2
          clear hown hG hc hg2
          by_cases hlt : (m : Int) < 10 + a
          · go_wp2_with (at_builtin; refine wpList_push rfl (.tmp 38) (.tmp 43) 27 rfl w.heap.size 49 (.agg #[.int .i64 0, .int .i64 0, .int .i64 0, .int .i64 0, .int .i64 0, .int .i64 0]) 6 48 Try.underlying27 info_Hotspot rfl (by omega) A' m c' _ [.int .i64 (idv + 1), .int .i64 (3 * (idv + 1)), .int .i64 5, .int .i64 1, .int .i64 0, .int .i64 1] 49 rfl hown2 rfl rfl (oneCell_hot ⟨idv + 1, 3 * (idv + 1), 5, 1, 0, 1⟩) (by omega) (by omega) hG2.size ?_; intro A'' c'' w5 hown5 hb5 hg5)
            have hc5 := cur_push hc2 hg5 hown2 hgl
            have hG5 := gro_push hG2 hg5 hown2 (Nat.le_refl _)
            go_roundw
            case rel => exact ⟨m + 1, idv + 1, by omega, rfl, by omega, by omega, ⟨_, _, xs ++ [⟨idv + 1, 3 * (idv + 1), 5, 1, 0, 1⟩], rfl, by rw [List.flatMap_append]; simpa [Hotspot.row] using hown5⟩, hc5.up (by omega), hG5⟩
            case measure => simp; omega
          · go_wp2_with fail
            go_ret
            exact ⟨A', m, c', xs, rfl, Own.mk_ hown2, by omega, hc2.up (by omega), hG2⟩
theorem Sl.partI {w : World} {b o m c k : Nat} {xs : List Int} (h : Sl w 1 (some ⟨b, o, none⟩) m c (ints xs)) (hk : k ≤ m) : Sl w 1 (some ⟨b, o, none⟩) k c (ints (xs.take k)) := by
  have hl := h.int_len
  have hc := h.cap
  refine ⟨by rw [ints_len, List.length_take]; omega, by omega, h.max, fun hn => ?_⟩
  obtain ⟨b', o', e, hb, hcl⟩ := h.at_ (by omega)
  refine ⟨b', o', e, hb, fun j v hv => hcl j v ?_⟩
  have : ints (xs.take k) = (ints xs).take k := by simp [ints, List.map_take]
  rw [this, List.getElem?_take] at hv
  split at hv
  · exact hv
  · cases hv
theorem code_start {W : World} {A : Option Addr} {n c : Nat} {B : Nat} {w : World} (hb : Below W.heap.size W w) : Cur W w.heap.size A n c B (w.alloc (.cells #[.slice A n c, .int .i64 0, .int .u64 0] 72)) :=
  ⟨bel_alloc hb, hb.size, 0, 0, heap_alloc_new w _, by omega, by omega, by omega⟩
theorem drawAre (A : Option Addr) (n c : Nat) (cs : List Int) (w : World) (hC : Code w A n c cs) :
    Calls Try.prog 43 #[.slice A n c] w fun e w' => ∃ (A' : Option Addr) (m c' : Nat) (xs : List Hotspot), e = .returned (.slice A' m c') ∧ Own w.heap.size w'.heap.size w' 49 6 A' m c' (xs.flatMap Hotspot.row) ∧ m ≤ 12 ∧ Below w.heap.size w w' := by
  go_enter Try.func43, Try.ntmps43
  go_wp2_with fail
  refine (hotspotsC w w.heap.size A n c cs 0 _ hC (code_start (bel_refl w)) (by omega)).mono ?_
  rintro _ w1 ⟨A', m, c', xs, rfl, hO, hm, hc1, hg1⟩
  go_wp2_with fail
  go_ret
  exact ⟨A', m, c', xs, rfl, hO.low (by simp), hm, hc1.bel⟩
theorem drawClusters (A : Option Addr) (n c : Nat) (cs : List Int) (w : World) (hC : Code w A n c cs) :
    Calls Try.prog 21 #[.slice A n c] w fun e w' => ∃ (A' : Option Addr) (m c' : Nat) (xs : List Hotspot), e = .returned (.slice A' m c') ∧ Own w.heap.size w'.heap.size w' 49 6 A' m c' (xs.flatMap Hotspot.row) ∧ m ≤ 12 ∧ Below w.heap.size w w' := by
  go_enter Try.func21, Try.ntmps21
  go_wp2_with fail
  refine (drawAre A n c cs w hC).mono ?_
  rintro _ w1 ⟨A', m, c', xs, rfl, hO, hm, hb⟩
  go_wp2_with fail
  go_ret
  exact ⟨A', m, c', xs, rfl, hO, hm, hb⟩
set_option maxHeartbeats 4000000 in
set_option maxRecDepth 100000 in
theorem drawLatest (A : Option Addr) (n c : Nat) (cs : List Int) (w : World) (hC : Code w A n c cs) :
    Calls Try.prog 31 #[.slice A n c] w fun e w' => ∃ (A' : Option Addr) (m c' : Nat) (xs : List Hotspot) (t : Int), e = .returned (.tuple #[.slice A' m c', .int .i64 t]) ∧ Own w.heap.size w'.heap.size w' 49 6 A' m c' (xs.flatMap Hotspot.row) ∧ m ≤ 12 ∧ Below w.heap.size w w' := by
  go_enter Try.func31, Try.ntmps31
  go_wp2_with fail
  refine (hotspotsC w w.heap.size A n c cs 0 _ hC (code_start (bel_refl w)) (by omega)).mono ?_
  rintro _ w1 ⟨A', m, c', xs, rfl, hO, hm, hc1, hg1⟩
  have hlit := lit_sl (w := w1) (T := 3) (xs := [0, 4, 5, 100, 9999, -1, 10000]) rfl (k := 7) rfl (by simp [maxLen]) rfl
  have hgl := hc1.lt
  have hO2 := (hO.low (show w.heap.size ≤ _ by simp)).bel (bel_alloc (o := .cells (ints [0, 4, 5, 100, 9999, -1, 10000]).toArray 3) (bel_refl _))
  go_wp2_with fail
  refine (pickC w w.heap.size A n c cs _ 24 _ hC (hc1.kept (bel_alloc (bel_refl _))) (by omega) (by omega)).mono ?_
  rintro _ w2 ⟨r, rfl, ⟨hr0, hr1⟩, hc2, hg2⟩
  have hr2 : 0 ≤ r / 11 ∧ r / 11 ≤ 2 := by omega
  replace hlit := hlit.gro hg2 (ne_lit hgl)
  clear hr1
  obtain ⟨k, hk⟩ : ∃ k : Nat, r / 11 = k := ⟨(r / 11).toNat, by omega⟩
  have hk2 : k ≤ 2 := by omega
  have hown2 := own_gro (own_low (own_bel hO.own (bel_alloc (o := .cells #[.int .i64 0, .int .i64 4, .int .i64 5, .int .i64 100, .int .i64 9999, .int .i64 (-1), .int .i64 10000] 3) (bel_refl _))) (show w.heap.size + 1 ≤ _ by simp)) hg2 (by omega)
  clear hg2 hO2
  go_wp2_with fail
  refine (amongC w w.heap.size A n c cs _ _ _ _ _ _ hC hc2 (by omega) (hlit.partI (k := 5 + k) (by omega)) (by omega) (ne_lit hgl)).mono ?_
  rintro _ w3 ⟨x, rfl, hx, hc3, hg3⟩
  go_wp2_with fail
  go_ret2
  exact ⟨A', m, c', xs, x, rfl, Own.mk_ (own_low (own_gro hown2 hg3 (by omega)) (by omega)), hm, hc3.bel⟩
end Go.Proofs.Ytkkoccllmflhfaa
